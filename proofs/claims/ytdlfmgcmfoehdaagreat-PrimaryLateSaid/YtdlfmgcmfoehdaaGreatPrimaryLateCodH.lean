/- PrimaryLate: for every argument the law returns true, and its argument reads behind the call as it read before. No condition of ours. -/
import Derived.Test.YtdlfmgcmfoehdaaGreatPrimaryLateCodG
import Derived.Shelf.Spec.SlicesInsertGrow
import Derived.Test.YtdlfmgcmfoehdaaGreatRows

set_option linter.unusedVariables false
set_option linter.unusedSimpArgs false
namespace Go.Proofs.YtdlfmgcmfoehdaaGreat
open Go.Ab Go.RowKit Go.MapKept
attribute [local irreducible] ACalls AW ADraw Into fltB fnear
set_option maxRecDepth 100000
/-! ## the header that it proposes -/
theorem contains_lend (b : List Int) (hb : few b) (x : Int) (sh : Bool) : ACalls Tryz.prog 80 [.arr 0, .d (.int .i64 x)] [.row 3 1 (nums b) sh] (fun av L => av = .d (.bool (decide (x ∈ b))) ∧ L = [.row 3 1 (nums b) sh]) :=
  acalls_lend (flat_bool _) ⟨_, _, rfl, .inl (.inr (.inl ⟨0, _, _, _, _, rfl, rfl, rfl⟩)), _, _, rfl, .inl (.inl ⟨_, rfl, rfl⟩), rfl⟩ (contains_ok b hb x)
def zHdr : AB := .cells [.d (.int .i64 0), .d (.int .i64 0), .d .nils, .d .nils]
def hL (p : Prim) (bs ps : List Int) : List AB := [.cells (p.cs.map AV.d), zHdr, .cells [.d (.int .i64 p.id), .d (.int .i64 p.round), .arr 3, .arr 4], .row 3 1 (nums bs) false, .row 3 1 (nums ps) false]
set_option maxHeartbeats 4000000 in
theorem head_row (p : Prim) (hf : p.dag.fit) (hr : 1 ≤ p.round ∧ p.round ≤ 1099511627776) (hdl : p.dag.certs.length ≤ 100000) (l : List Int) (hl : few l) :
    ACalls Tryz.prog 60 [p.av, .d (.sl 1 (nums l))] [] (fun av L => av = .agg [.d (.int .i64 p.id), .d (.int .i64 p.round), .arr 0, .arr 1] ∧ L = [.row 3 1 (nums (sortI (batsF l))) false, .row 3 1 (nums (sortI (parsF p))) false]) := by
  have hll := nums_length l
  have hl' := hl
  unfold few at hl'
  have hof := dagOf_ok p.dag hf (p.round - 1) ⟨by omega, by omega⟩
  have hol : (ofR p.dag.certs (p.round - 1)).length ≤ 100000 := Nat.le_trans (List.length_filter_le ..) hdl
  obtain ⟨ol, hoe⟩ : ∃ ol, ofR p.dag.certs (p.round - 1) = ol := ⟨_, rfl⟩
  have hpe : parsF p = ol.map (·.digest) := by unfold parsF; rw [hoe]
  rw [hoe] at hof hol
  have hcl := certsD_length ol
  refine acalls_go ttOk zOk foOk Tryz.func60 rfl Tryz.ntmps60 rfl true rfl ?_
  conv => whnf
  repeat' (first | ((with_reducible apply z_wrap); (focus omega); (conv => whnf)) | ((with_reducible first | apply mt_dec | apply mt_eq | apply mt_ne | apply mt_not | apply mt_any) <;> (intro _; conv => whnf)))
  refine aw_nilrowC [(2, 2, 3, 1), (2, 3, 3, 1)] rfl ?_
  refine loop_go ttOk zOk foOk (σ := Nat) (fun j => ([(2, .ptr 0 0), (4, .ptr 1 0), (5, .ptr 2 0), (15, .d (.sl 1 (nums l))), (16, .d (.int .i64 l.length)), (17, .d (.int .i64 j))], hL p (batsF (l.take j)) [])) (fun j => j ≤ l.length) (fun j => l.length - j) [2, 4, 5, 15, 16, 17] ?_ ?_
  · conv => whnf
    exact ⟨0, by rw [hll]; rfl, rfl, Nat.zero_le _⟩
  · intro j hj
    have hbl := batsF_len (l.take j)
    obtain ⟨bs, hbs⟩ : ∃ bs, batsF (l.take j) = bs := ⟨_, rfl⟩
    rw [hbs] at hbl ⊢
    have hnb := nums_length bs
    conv => whnf
    repeat' (first | ((with_reducible apply z_wrap); (focus omega); (conv => whnf)) | ((with_reducible first | apply mt_dec | apply mt_eq | apply mt_ne | apply mt_not | apply mt_any) <;> (intro _; conv => whnf)))
    · rename_i h
      replace h : (j : Int) < l.length := h
      refine Exists.elim (⟨_, List.getElem?_eq_getElem (by omega)⟩ : ∃ c, l[j]? = some c) fun d hd => ?_
      have hsn : batsF (l.take (j + 1)) = if bs.length < 8 ∧ d ∉ bs then bs ++ [d] else bs := by rw [take_snoc hd, batsF_snoc, hbs]
      refine ⟨by omega, [.int .i64 d], nums_at hd, ?_⟩
      conv => whnf
      repeat' (first | ((with_reducible apply z_wrap); (focus omega); (conv => whnf)) | ((with_reducible first | apply mt_dec | apply mt_eq | apply mt_ne | apply mt_not | apply mt_any) <;> (intro _; conv => whnf)))
      · rename_i h8
        replace h8 : (((nums bs).length : Nat) : Int) < 8 := h8
        (refine Or.inr ?_; (conv => whnf))
        refine (contains_lend bs (by unfold few; omega) d false).mono ?_
        rintro _ _ ⟨rfl, rfl⟩
        by_cases hm : d ∈ bs
        · rw [decide_eq_true hm]
          rw [if_neg (fun h => h.2 hm)] at hsn
          conv => whnf
          repeat' (first | ((with_reducible apply z_wrap); (focus omega); (conv => whnf)) | ((with_reducible first | apply mt_dec | apply mt_eq | apply mt_ne | apply mt_not | apply mt_any) <;> (intro _; conv => whnf)))
          exact ⟨j + 1, rfl, by rw [hsn]; rfl, by omega, by omega⟩
        · rw [decide_eq_false hm]
          rw [if_pos ⟨by omega, hm⟩] at hsn
          conv => whnf
          repeat' (first | ((with_reducible apply z_wrap); (focus omega); (conv => whnf)) | ((with_reducible first | apply mt_dec | apply mt_eq | apply mt_ne | apply mt_not | apply mt_any) <;> (intro _; conv => whnf)))
          refine ⟨by show ((nums bs).length + 1) * 8 ≤ _; omega, ?_⟩
          conv => whnf
          repeat' (first | ((with_reducible apply z_wrap); (focus omega); (conv => whnf)) | ((with_reducible first | apply mt_dec | apply mt_eq | apply mt_ne | apply mt_not | apply mt_any) <;> (intro _; conv => whnf)))
          refine ⟨j + 1, rfl, ?_, by omega, by omega⟩
          rw [hsn, hL, ← nums_apps]
          rfl
      · rename_i h8
        replace h8 : ¬ (((nums bs).length : Nat) : Int) < 8 := h8
        rw [if_neg (fun h => h8 (by omega))] at hsn
        exact ⟨j + 1, rfl, by rw [hsn]; rfl, by omega, by omega⟩
    · rename_i h
      replace h : ¬ (j : Int) < l.length := h
      rw [List.take_of_length_le (by omega)] at hbs
      subst hbs
      (refine Or.inr ?_; (conv => whnf))
      refine (sortI_ok (batsF l) (by omega)).mono ?_
      rintro _ _ ⟨rfl, rfl⟩
      conv => whnf
      repeat' (first | ((with_reducible apply z_wrap); (focus omega); (conv => whnf)) | ((with_reducible first | apply mt_dec | apply mt_eq | apply mt_ne | apply mt_not | apply mt_any) <;> (intro _; conv => whnf)))
      refine ACalls.mono (post := fun av L => av = .d (.sl 6 (certsD ol)) ∧ L = []) hof ?_
      rintro _ _ ⟨rfl, rfl⟩
      conv => whnf
      repeat' (first | ((with_reducible apply z_wrap); (focus omega); (conv => whnf)) | ((with_reducible first | apply mt_dec | apply mt_eq | apply mt_ne | apply mt_not | apply mt_any) <;> (intro _; conv => whnf)))
      refine loop_go ttOk zOk foOk (σ := Nat) (fun j => ([(2, .ptr 0 0), (4, .ptr 1 0), (5, .ptr 2 0), (47, .d (.sl 6 (certsD ol))), (48, .d (.int .i64 ol.length)), (49, .d (.int .i64 j))], hL p (sortI (batsF l)) ((ol.take j).map (·.digest)))) (fun j => j ≤ ol.length) (fun j => ol.length - j) [2, 4, 5, 47, 48, 49] ?_ ?_
      · conv => whnf
        exact ⟨0, by rw [hcl]; rfl, rfl, Nat.zero_le _⟩
      · intro i hi
        conv => whnf
        repeat' (first | ((with_reducible apply z_wrap); (focus omega); (conv => whnf)) | ((with_reducible first | apply mt_dec | apply mt_eq | apply mt_ne | apply mt_not | apply mt_any) <;> (intro _; conv => whnf)))
        · rename_i e
          replace e : (i : Int) < ol.length := e
          refine Exists.elim (⟨_, List.getElem?_eq_getElem (by omega)⟩ : ∃ c, ol[i]? = some c) fun c hc => ?_
          have hnl : (nums ((ol.take i).map (·.digest))).length ≤ 100000 := by rw [nums_length]; simp; omega
          refine ⟨by omega, c.cs, certsD_at hc, ?_⟩
          conv => whnf
          repeat' (first | ((with_reducible apply z_wrap); (focus omega); (conv => whnf)) | ((with_reducible first | apply mt_dec | apply mt_eq | apply mt_ne | apply mt_not | apply mt_any) <;> (intro _; conv => whnf)))
          refine ⟨by show ((nums ((ol.take i).map (·.digest))).length + 1) * 8 ≤ _; omega, ?_⟩
          conv => whnf
          repeat' (first | ((with_reducible apply z_wrap); (focus omega); (conv => whnf)) | ((with_reducible first | apply mt_dec | apply mt_eq | apply mt_ne | apply mt_not | apply mt_any) <;> (intro _; conv => whnf)))
          refine ⟨i + 1, rfl, ?_, by omega, by omega⟩
          rw [take_snoc hc, hL, List.map_append, ← nums_apps]
          rfl
        · rename_i e
          replace e : ¬ (i : Int) < ol.length := e
          rw [List.take_of_length_le (by omega), ← hpe]
          have hpl : (parsF p).length < 4611686018427387904 := by rw [hpe, List.length_map]; omega
          (refine Or.inr ?_; (conv => whnf))
          refine (sortI_ok (parsF p) hpl).mono ?_
          rintro _ _ ⟨rfl, rfl⟩
          conv => whnf
          repeat' (first | ((with_reducible apply z_wrap); (focus omega); (conv => whnf)) | ((with_reducible first | apply mt_dec | apply mt_eq | apply mt_ne | apply mt_not | apply mt_any) <;> (intro _; conv => whnf)))
          exact ⟨rfl, rfl⟩
theorem headP_ok (p : Prim) (hf : p.dag.fit) (hr : 1 ≤ p.round ∧ p.round ≤ 1099511627776) (hdl : p.dag.certs.length ≤ 100000) (l : List Int) (hl : few l) :
    ACalls Tryz.prog 60 [p.av, .d (.sl 1 (nums l))] [] (fun av L => av = (headC p l).hav ∧ L = []) := by
  refine acalls_data (head_row p hf hr hdl l hl) ?_
  rintro _ _ ⟨rfl, rfl⟩
  conv => whnf
  exact ⟨rfl, rfl⟩
end Go.Proofs.YtdlfmgcmfoehdaaGreat

namespace Go.Proofs.YtdlfmgcmfoehdaaGreat
open Go Go.Ab Go.RowKit Go.Lib Go.Proofs Go.Shelf
/-! ## slices.Insert at drover/api.Vote, in plain cells -/
set_option maxRecDepth 100000
end Go.Proofs.YtdlfmgcmfoehdaaGreat

namespace Go.Proofs.YtdlfmgcmfoehdaaGreat
open Go.Ab Go.RowKit Go.MapKept
attribute [local irreducible] ACalls AW ADraw Into fltB fnear
set_option maxRecDepth 100000
/-! ## votes: the first one -/
def Vote.av (v : Vote) : AV := .agg (v.cs.map AV.d)
theorem voteOf_ok (v : Vote) : ACalls Tryz.prog 111 [v.av] [] (fun av L => av = .d (plb v.round v.author) ∧ L = []) := by
  refine acalls_go ttOk zOk foOk Tryz.func111 rfl Tryz.ntmps111 rfl false rfl ?_
  conv => whnf
  repeat' (first | ((with_reducible apply rd_intro); (focus (intro K hK; (conv => whnf); first | exact hK | (intro z hz; rw [wrapI (by omega)] at hz; subst hz; exact hK))); (conv => whnf)) | ((with_reducible apply gd_and); (focus ((conv => whnf) <;> first | rfl | (intro K hK; (conv => whnf); first | exact hK | (intro z hz; rw [wrapI (by omega)] at hz; subst hz; exact hK)))); (conv => whnf)) | ((with_reducible apply z_wrap); (focus omega); (conv => whnf)) | ((with_reducible first | apply mt_dec | apply mt_eq | apply mt_ne | apply mt_not | apply mt_any) <;> (intro _; conv => whnf)))
  refine (placeOf_ok v.round v.author).mono ?_
  rintro _ _ ⟨rfl, rfl⟩
  conv => whnf
  exact ⟨rfl, rfl⟩
theorem bsearchV_nil (p : DV) : ACalls Tryz.prog 178 [.d (.sl 3 []), .d p, .fn 179 []] [] (fun av L => av = .tup [.d (.int .i64 0), .d (.bool false)] ∧ L = []) := by
  refine acalls_go ttOk zOk foOk Tryz.func178 rfl Tryz.ntmps178 rfl false rfl ?_
  conv => whnf
  refine loop_go ttOk zOk foOk (σ := Unit) (fun _ => ([(0, .d (.sl 3 [])), (8, .d (.int .i64 0)), (9, .d (.int .i64 0)), (10, .d (.int .i64 0))], [])) (fun _ => True) (fun _ => 0) [0, 8, 9, 10] ?_ ?_
  · conv => whnf
    exact ⟨(), rfl, rfl, trivial⟩
  · rintro _ -
    conv => whnf
    repeat' (first | ((with_reducible apply rd_intro); (focus (intro K hK; (conv => whnf); first | exact hK | (intro z hz; rw [wrapI (by omega)] at hz; subst hz; exact hK))); (conv => whnf)) | ((with_reducible apply gd_and); (focus ((conv => whnf) <;> first | rfl | (intro K hK; (conv => whnf); first | exact hK | (intro z hz; rw [wrapI (by omega)] at hz; subst hz; exact hK)))); (conv => whnf)) | ((with_reducible apply z_wrap); (focus omega); (conv => whnf)) | ((with_reducible first | apply mt_dec | apply mt_eq | apply mt_ne | apply mt_not | apply mt_any) <;> (intro _; conv => whnf)))
    exact ⟨rfl, rfl⟩
theorem findV_nil (r a : Int) : ACalls Tryz.prog 136 [.d (.sl 3 []), .d (plb r a)] [] (fun av L => av = .tup [.d (.int .i64 0), .d (.bool false)] ∧ L = []) := by
  have h := bsearchV_nil (plb r a)
  refine acalls_go ttOk zOk foOk Tryz.func136 rfl Tryz.ntmps136 rfl false rfl ?_
  conv => whnf
  refine h.mono ?_
  rintro _ _ ⟨rfl, rfl⟩
  conv => whnf
  exact ⟨rfl, rfl⟩
theorem insertV_nil (v : Vote) : ACalls Tryz.prog 137 [.arr 0, .d (.int .i64 0), .d (.sl 3 (votesD [v]))] [.row 65 3 [] false] (fun av L => av = .d (.sl 3 (votesD [v])) ∧ L = [.dead]) := by
  refine acalls_go ttOk zOk foOk Tryz.func137 rfl Tryz.ntmps137 rfl false rfl ?_
  conv => whnf
  repeat' (first | ((with_reducible apply rd_intro); (focus (intro K hK; (conv => whnf); first | exact hK | (intro z hz; rw [wrapI (by omega)] at hz; subst hz; exact hK))); (conv => whnf)) | ((with_reducible apply gd_and); (focus ((conv => whnf) <;> first | rfl | (intro K hK; (conv => whnf); first | exact hK | (intro z hz; rw [wrapI (by omega)] at hz; subst hz; exact hK)))); (conv => whnf)) | ((with_reducible apply z_wrap); (focus omega); (conv => whnf)) | ((with_reducible first | apply mt_dec | apply mt_eq | apply mt_ne | apply mt_not | apply mt_any) <;> (intro _; conv => whnf)))
  refine Or.inl ?_
  conv => whnf
  refine ⟨by decide, by decide, by decide, ?_⟩
  conv => whnf
  repeat' (first | ((with_reducible apply rd_intro); (focus (intro K hK; (conv => whnf); first | exact hK | (intro z hz; rw [wrapI (by omega)] at hz; subst hz; exact hK))); (conv => whnf)) | ((with_reducible apply gd_and); (focus ((conv => whnf) <;> first | rfl | (intro K hK; (conv => whnf); first | exact hK | (intro z hz; rw [wrapI (by omega)] at hz; subst hz; exact hK)))); (conv => whnf)) | ((with_reducible apply z_wrap); (focus omega); (conv => whnf)) | ((with_reducible first | apply mt_dec | apply mt_eq | apply mt_ne | apply mt_not | apply mt_any) <;> (intro _; conv => whnf)))
  refine ⟨by show (0 + 1) * 24 ≤ 140737488355328; decide, ?_⟩
  conv => whnf
  repeat' (first | ((with_reducible apply rd_intro); (focus (intro K hK; (conv => whnf); first | exact hK | (intro z hz; rw [wrapI (by omega)] at hz; subst hz; exact hK))); (conv => whnf)) | ((with_reducible apply gd_and); (focus ((conv => whnf) <;> first | rfl | (intro K hK; (conv => whnf); first | exact hK | (intro z hz; rw [wrapI (by omega)] at hz; subst hz; exact hK)))); (conv => whnf)) | ((with_reducible apply z_wrap); (focus omega); (conv => whnf)) | ((with_reducible first | apply mt_dec | apply mt_eq | apply mt_ne | apply mt_not | apply mt_any) <;> (intro _; conv => whnf)))
  exact ⟨rfl, rfl⟩
theorem votePut_nil (v : Vote) : ACalls Tryz.prog 99 [.d (.sl 3 []), v.av] [] (fun av L => av = .tup [.d (.sl 3 (votesD [v])), .d (.int .i64 0)] ∧ L = []) := by
  have h1 := voteOf_ok v
  have h2 := findV_nil v.round v.author
  have h3 := cloneV_row [] (by simp)
  have h4 := insertV_nil v
  refine acalls_go ttOk zOk foOk Tryz.func99 rfl Tryz.ntmps99 rfl false rfl ?_
  conv => whnf
  repeat' (first | ((with_reducible apply rd_intro); (focus (intro K hK; (conv => whnf); first | exact hK | (intro z hz; rw [wrapI (by omega)] at hz; subst hz; exact hK))); (conv => whnf)) | ((with_reducible apply gd_and); (focus ((conv => whnf) <;> first | rfl | (intro K hK; (conv => whnf); first | exact hK | (intro z hz; rw [wrapI (by omega)] at hz; subst hz; exact hK)))); (conv => whnf)) | ((with_reducible apply z_wrap); (focus omega); (conv => whnf)) | ((with_reducible first | apply mt_dec | apply mt_eq | apply mt_ne | apply mt_not | apply mt_any) <;> (intro _; conv => whnf)))
  refine ACalls.mono (post := fun av L => av = .d (plb v.round v.author) ∧ L = []) h1 ?_
  rintro _ _ ⟨rfl, rfl⟩
  conv => whnf
  repeat' (first | ((with_reducible apply rd_intro); (focus (intro K hK; (conv => whnf); first | exact hK | (intro z hz; rw [wrapI (by omega)] at hz; subst hz; exact hK))); (conv => whnf)) | ((with_reducible apply gd_and); (focus ((conv => whnf) <;> first | rfl | (intro K hK; (conv => whnf); first | exact hK | (intro z hz; rw [wrapI (by omega)] at hz; subst hz; exact hK)))); (conv => whnf)) | ((with_reducible apply z_wrap); (focus omega); (conv => whnf)) | ((with_reducible first | apply mt_dec | apply mt_eq | apply mt_ne | apply mt_not | apply mt_any) <;> (intro _; conv => whnf)))
  refine h2.mono ?_
  rintro _ _ ⟨rfl, rfl⟩
  conv => whnf
  repeat' (first | ((with_reducible apply rd_intro); (focus (intro K hK; (conv => whnf); first | exact hK | (intro z hz; rw [wrapI (by omega)] at hz; subst hz; exact hK))); (conv => whnf)) | ((with_reducible apply gd_and); (focus ((conv => whnf) <;> first | rfl | (intro K hK; (conv => whnf); first | exact hK | (intro z hz; rw [wrapI (by omega)] at hz; subst hz; exact hK)))); (conv => whnf)) | ((with_reducible apply z_wrap); (focus omega); (conv => whnf)) | ((with_reducible first | apply mt_dec | apply mt_eq | apply mt_ne | apply mt_not | apply mt_any) <;> (intro _; conv => whnf)))
  ((with_reducible refine draw_pl ttOk zOk foOk mixedOk pl99x2 ?_ ?_); (focus kernel_rfl); (conv => whnf))
  repeat' (first | ((with_reducible apply rd_intro); (focus (intro K hK; (conv => whnf); first | exact hK | (intro z hz; rw [wrapI (by omega)] at hz; subst hz; exact hK))); (conv => whnf)) | ((with_reducible apply gd_and); (focus ((conv => whnf) <;> first | rfl | (intro K hK; (conv => whnf); first | exact hK | (intro z hz; rw [wrapI (by omega)] at hz; subst hz; exact hK)))); (conv => whnf)) | ((with_reducible apply z_wrap); (focus omega); (conv => whnf)) | ((with_reducible first | apply mt_dec | apply mt_eq | apply mt_ne | apply mt_not | apply mt_any) <;> (intro _; conv => whnf)))
  ((with_reducible refine draw_pl ttOk zOk foOk mixedOk pl99x8 ?_ ?_); (focus kernel_rfl); (conv => whnf))
  repeat' (first | ((with_reducible apply rd_intro); (focus (intro K hK; (conv => whnf); first | exact hK | (intro z hz; rw [wrapI (by omega)] at hz; subst hz; exact hK))); (conv => whnf)) | ((with_reducible apply gd_and); (focus ((conv => whnf) <;> first | rfl | (intro K hK; (conv => whnf); first | exact hK | (intro z hz; rw [wrapI (by omega)] at hz; subst hz; exact hK)))); (conv => whnf)) | ((with_reducible apply z_wrap); (focus omega); (conv => whnf)) | ((with_reducible first | apply mt_dec | apply mt_eq | apply mt_ne | apply mt_not | apply mt_any) <;> (intro _; conv => whnf)))
  refine h3.mono ?_
  rintro _ _ ⟨rfl, rfl⟩
  conv => whnf
  repeat' (first | ((with_reducible apply rd_intro); (focus (intro K hK; (conv => whnf); first | exact hK | (intro z hz; rw [wrapI (by omega)] at hz; subst hz; exact hK))); (conv => whnf)) | ((with_reducible apply gd_and); (focus ((conv => whnf) <;> first | rfl | (intro K hK; (conv => whnf); first | exact hK | (intro z hz; rw [wrapI (by omega)] at hz; subst hz; exact hK)))); (conv => whnf)) | ((with_reducible apply z_wrap); (focus omega); (conv => whnf)) | ((with_reducible first | apply mt_dec | apply mt_eq | apply mt_ne | apply mt_not | apply mt_any) <;> (intro _; conv => whnf)))
  (refine Or.inr ?_; (conv => whnf))
  refine h4.mono ?_
  rintro _ _ ⟨rfl, rfl⟩
  conv => whnf
  repeat' (first | ((with_reducible apply rd_intro); (focus (intro K hK; (conv => whnf); first | exact hK | (intro z hz; rw [wrapI (by omega)] at hz; subst hz; exact hK))); (conv => whnf)) | ((with_reducible apply gd_and); (focus ((conv => whnf) <;> first | rfl | (intro K hK; (conv => whnf); first | exact hK | (intro z hz; rw [wrapI (by omega)] at hz; subst hz; exact hK)))); (conv => whnf)) | ((with_reducible apply z_wrap); (focus omega); (conv => whnf)) | ((with_reducible first | apply mt_dec | apply mt_eq | apply mt_ne | apply mt_not | apply mt_any) <;> (intro _; conv => whnf)))
  exact ⟨rfl, rfl⟩
end Go.Proofs.YtdlfmgcmfoehdaaGreat

namespace Go.Proofs.YtdlfmgcmfoehdaaGreat
open Go.Ab Go.RowKit Go.MapKept
attribute [local irreducible] ACalls AW ADraw Into fltB fnear
set_option maxRecDepth 100000
/-! ## a lone primary -/
def lone : Prim := newP 1 1
def loneH : Cert := ⟨1, 1, [], [], 0, []⟩
theorem lone_bare : BareMay lone := new_bare (by decide) (by decide)
theorem lone_fit : lone.dag.fit := by
  exact ⟨by show (0 : Nat) ≤ _; decide, List.Pairwise.nil, fun c h => (by cases h), fun c h => (by cases h)⟩
theorem lone_head : headC lone [] = loneH := by
  simp only [headC, parsF, lone, newP, loneH, ofR, batsF, List.foldl, List.filter, List.map, sortI]
  simp
theorem make1 : ACalls Tryz.prog 19 [lone.av, .d (.sl 1 [])] [] (fun av L => av = .tup [loneH.hav, .d (.int .i64 0)] ∧ L = []) := by
  have h1 := primMay_true lone lone_bare
  have h2 := containsMk_ok [] few_nil
  have h3 := ready_ok lone lone_fit (by decide) (by decide)
  have h4 := headP_ok lone lone_fit (by decide) (by decide) [] few_nil
  rw [lone_head] at h4
  refine acalls_go ttOk zOk foOk Tryz.func19 rfl Tryz.ntmps19 rfl false rfl ?_
  conv => whnf
  repeat' (first | ((with_reducible apply z_wrap); (focus omega); (conv => whnf)) | ((with_reducible first | apply mt_dec | apply mt_eq | apply mt_ne | apply mt_not | apply mt_any) <;> (intro _; conv => whnf)))
  refine ACalls.mono (post := fun av L => av = .d (.bool true) ∧ L = []) h1 ?_
  rintro _ _ ⟨rfl, rfl⟩
  conv => whnf
  repeat' (first | ((with_reducible apply z_wrap); (focus omega); (conv => whnf)) | ((with_reducible first | apply mt_dec | apply mt_eq | apply mt_ne | apply mt_not | apply mt_any) <;> (intro _; conv => whnf)))
  refine ACalls.mono (post := fun av L => av = .d (.bool false) ∧ L = []) h2 ?_
  rintro _ _ ⟨rfl, rfl⟩
  conv => whnf
  repeat' (first | ((with_reducible apply z_wrap); (focus omega); (conv => whnf)) | ((with_reducible first | apply mt_dec | apply mt_eq | apply mt_ne | apply mt_not | apply mt_any) <;> (intro _; conv => whnf)))
  refine ACalls.mono (post := fun av L => av = .d (.bool true) ∧ L = []) h3 ?_
  rintro _ _ ⟨rfl, rfl⟩
  conv => whnf
  repeat' (first | ((with_reducible apply z_wrap); (focus omega); (conv => whnf)) | ((with_reducible first | apply mt_dec | apply mt_eq | apply mt_ne | apply mt_not | apply mt_any) <;> (intro _; conv => whnf)))
  refine ACalls.mono (post := fun av L => av = loneH.hav ∧ L = []) h4 ?_
  rintro _ _ ⟨rfl, rfl⟩
  conv => whnf
  repeat' (first | ((with_reducible apply z_wrap); (focus omega); (conv => whnf)) | ((with_reducible first | apply mt_dec | apply mt_eq | apply mt_ne | apply mt_not | apply mt_any) <;> (intro _; conv => whnf)))
  exact ⟨rfl, rfl⟩
end Go.Proofs.YtdlfmgcmfoehdaaGreat

namespace Go.Proofs.YtdlfmgcmfoehdaaGreat
open Go.Ab Go.RowKit Go.MapKept
attribute [local irreducible] ACalls AW ADraw Into fltB fnear
set_option maxRecDepth 100000
/-! ## a lone primary proposes -/
def plSay8 : Plan := ⟨[[], [], [], [], [], [], [], [6], [6, 7], [7, 6, 8], [8, 6, 7, 9], [], [11], [], [], [14], [14, 15], [15, 14, 16], [16, 14, 15, 17], [17, 15, 14, 16, 18], [17, 15, 14, 16, 18, 11, 12, 9, 7, 6, 8, 10, 5, 0], [0, 5, 10, 8, 6, 7, 9, 12, 11, 18, 16, 14, 15, 17, 20], [20, 17, 15, 14, 16, 18, 11, 12, 9, 7, 6, 8, 10, 5, 0, 21], [21, 0, 5, 10, 8, 6, 7, 9, 12, 11, 18, 16, 14, 15, 17, 20, 22], [23, 22, 21, 20, 17, 15, 14, 16, 18, 11, 12, 10, 9, 8, 7, 6, 5, 0, 1], [1, 0, 5, 6, 7, 8, 9, 10, 12, 11, 18, 16, 14, 15, 17, 20, 21, 22, 23, 24], [24, 23, 22, 21, 20, 17, 15, 14, 16, 18, 11, 12, 10, 9, 8, 7, 6, 5, 0, 1, 25], [25, 1, 0, 5, 6, 7, 8, 9, 10, 12, 11, 18, 16, 14, 15, 17, 20, 21, 22, 23, 24, 26], [27, 26, 25, 24, 23, 22, 21, 20, 17, 15, 14, 16, 18, 12, 11, 10, 9, 8, 7, 6, 5, 1, 0, 2], [2, 0, 1, 5, 6, 7, 8, 9, 10, 11, 12, 18, 16, 14, 15, 17, 20, 21, 22, 23, 24, 25, 26, 27, 28], [28, 27, 26, 25, 24, 23, 22, 21, 20, 17, 15, 14, 16, 18, 12, 11, 10, 9, 8, 7, 6, 5, 1, 0, 2, 29], [29, 2, 0, 1, 5, 6, 7, 8, 9, 10, 11, 12, 18, 16, 14, 15, 17, 20, 21, 22, 23, 24, 25, 26, 27, 28, 30], [31, 30, 29, 28, 27, 26, 25, 24, 23, 22, 21, 20, 17, 15, 14, 16, 18, 13, 12, 11, 10, 9, 8, 7, 6, 5, 2, 1, 0, 3], [3, 0, 1, 2, 5, 6, 7, 8, 9, 10, 11, 12, 13, 18, 16, 14, 15, 17, 20, 21, 22, 23, 24, 25, 26, 27, 28, 29, 30, 31, 32], [32, 31, 30, 29, 28, 27, 26, 25, 24, 23, 22, 21, 20, 17, 15, 14, 16, 18, 13, 12, 11, 10, 9, 8, 7, 6, 5, 2, 1, 0, 3, 33], [33, 3, 0, 1, 2, 5, 6, 7, 8, 9, 10, 11, 12, 13, 18, 16, 14, 15, 17, 20, 21, 22, 23, 24, 25, 26, 27, 28, 29, 30, 31, 32, 34], [35, 34, 33, 32, 31, 30, 29, 28, 27, 26, 25, 24, 23, 22, 21, 20, 19, 18, 17, 16, 15, 14, 13, 12, 11, 10, 9, 8, 7, 6, 5, 3, 2, 1, 0, 4], [4, 0, 1, 2, 3, 5, 6, 7, 8, 9, 10, 11, 12, 13, 14, 15, 16, 17, 18, 19, 20, 21, 22, 23, 24, 25, 26, 27, 28, 29, 30, 31, 32, 33, 34, 35, 36], [36, 35, 34, 33, 32, 31, 30, 29, 28, 27, 26, 25, 24, 23, 22, 21, 20, 19, 18, 17, 16, 15, 14, 13, 12, 11, 10, 9, 8, 7, 6, 5, 3, 2, 1, 0, 4, 37], [37, 4, 0, 1, 2, 3, 5, 6, 7, 8, 9, 10, 11, 12, 13, 14, 15, 16, 17, 18, 19, 20, 21, 22, 23, 24, 25, 26, 27, 28, 29, 30, 31, 32, 33, 34, 35, 36, 38]], [0, 1, 2, 3, 4, 5, 6, 7, 8, 9, 10, 11, 13, 14, 15, 16, 17, 18, 19], [(12, [20, 21, 22]), (23, [24, 25, 26]), (27, [28, 29, 30]), (31, [32, 33, 34]), (35, [36, 37, 38]), (39, [])]⟩
def lone2 : Prim := { lone with votes := [⟨1, 1, 5⟩], said := 1, mine := loneH, dig := 5, acks := [1] }
def loneC : Cert := ⟨1, 1, [], [], 5, [1]⟩
def lone3 : Prim := ⟨1, 1, 1, 0, 1, cz0, 0, [], [⟨1, 1, 5⟩], ⟨1, 0, [loneC]⟩, []⟩
theorem lone3_eq : certdP lone2 = lone3 := by rfl
def loneM : Msg := ⟨4, 0, 0, 5, 0, 0, [], loneH, cz0, []⟩
theorem tell_none : tellO lone2 loneM [] lone2.nodes.toNat = [] := by rfl
theorem tell_none2 : (if doneP lone2 then tellO (clearP lone2) (certMsg (certP lone2)) [] lone2.nodes.toNat else []) = [] := by rfl
theorem tiny_nil {α : Type} : tiny ([] : List α) := by show 0 ≤ _; decide
theorem tiny_one {α : Type} (x : α) : tiny [x] := by show 1 ≤ _; decide
theorem rise_nil (a b : Int) : riseB [] a b := ⟨List.Pairwise.nil, fun x h => (by cases h)⟩
theorem okH1 : okHead 1 loneH := ⟨by rfl, by decide, by decide, ⟨by decide, rise_nil 1 65536⟩, ⟨by decide, rise_nil 1 65536⟩, fun _ => rfl, fun h => absurd rfl h⟩
theorem okC1 : okCert 1 loneC := ⟨⟨by rfl, by decide, by decide, ⟨by decide, rise_nil 1 65536⟩, ⟨by decide, rise_nil 1 65536⟩, fun _ => rfl, fun h => absurd rfl h⟩, by decide, ⟨List.pairwise_singleton .., fun x h => (by have := List.mem_singleton.1 h; subst this; decide)⟩, by decide⟩
theorem tinyH1 : loneH.tiny := ⟨tiny_nil, tiny_nil, tiny_nil⟩
theorem tinyC1 : loneC.tiny := ⟨tiny_nil, tiny_nil, tiny_one 1⟩
theorem mayH1 : ACalls Tryz.prog 61 [loneH.hav, .d (.int .i64 1)] [] (fun av L => av = .d (.bool true) ∧ L = []) := by
  refine (hMay_ok loneH ⟨few_nil, few_nil, few_nil⟩ 1).mono ?_
  rintro _ _ ⟨rfl, rfl⟩
  exact ⟨by simp [okH1], rfl⟩
set_option maxHeartbeats 2000000 in
theorem say1 : ACalls Tryz.prog 62 [lone.av, loneH.hav, .d (.int .i64 5)] [] (fun av L => av = .tup [lone3.av, .d (.sl 1 []), .d (.sl 18 []), .d (.int .i64 0)] ∧ L = []) := by
  have h1 := ready_ok lone lone_fit (by decide) (by decide)
  have h2 := headP_ok lone lone_fit (by decide) (by decide) [] few_nil
  rw [lone_head] at h2
  have h3 := equal_ok [] [] few_nil
  have h4 := votePut_nil ⟨1, 1, 5⟩
  have h5 := own_ok loneH tinyH1
  have h6 := tell_ok lone2 (by decide) [] (by decide) loneM tinyH1 cz0_tiny [] few_nil
  rw [tell_none] at h6
  have h7 := certified_ok lone2 [] (by decide) (by decide) (fun _ => ⟨okC1, tinyC1, ⟨lone_bare.dag, by decide, fun c h => (by cases h)⟩, by decide, List.Pairwise.nil⟩)
  rw [tell_none2, lone3_eq] at h7
  refine acalls_go ttOk zOk foOk Tryz.func62 rfl Tryz.ntmps62 rfl false rfl ?_
  conv => whnf
  ((with_reducible refine draw_pl ttOk zOk foOk mixedOk pl62x1 ?_ ?_); (focus kernel_rfl); (conv => whnf))
  repeat' (first | ((with_reducible apply rd_intro); (focus (intro K hK; (conv => whnf); first | exact hK | (intro z hz; rw [wrapI (by omega)] at hz; subst hz; exact hK))); (conv => whnf)) | ((with_reducible apply gd_and); (focus ((conv => whnf) <;> first | rfl | (intro K hK; (conv => whnf); first | exact hK | (intro z hz; rw [wrapI (by omega)] at hz; subst hz; exact hK)))); (conv => whnf)) | ((with_reducible apply z_wrap); (focus omega); (conv => whnf)) | ((with_reducible first | apply mt_dec | apply mt_eq | apply mt_ne | apply mt_not | apply mt_any) <;> (intro _; conv => whnf)))
  refine ACalls.mono (post := fun av L => av = .d (.bool true) ∧ L = []) h1 ?_
  rintro _ _ ⟨rfl, rfl⟩
  conv => whnf
  repeat' (first | ((with_reducible apply rd_intro); (focus (intro K hK; (conv => whnf); first | exact hK | (intro z hz; rw [wrapI (by omega)] at hz; subst hz; exact hK))); (conv => whnf)) | ((with_reducible apply gd_and); (focus ((conv => whnf) <;> first | rfl | (intro K hK; (conv => whnf); first | exact hK | (intro z hz; rw [wrapI (by omega)] at hz; subst hz; exact hK)))); (conv => whnf)) | ((with_reducible apply z_wrap); (focus omega); (conv => whnf)) | ((with_reducible first | apply mt_dec | apply mt_eq | apply mt_ne | apply mt_not | apply mt_any) <;> (intro _; conv => whnf)))
  refine ACalls.mono (post := fun av L => av = loneH.hav ∧ L = []) h2 ?_
  rintro _ _ ⟨rfl, rfl⟩
  conv => whnf
  repeat' (first | ((with_reducible apply rd_intro); (focus (intro K hK; (conv => whnf); first | exact hK | (intro z hz; rw [wrapI (by omega)] at hz; subst hz; exact hK))); (conv => whnf)) | ((with_reducible apply gd_and); (focus ((conv => whnf) <;> first | rfl | (intro K hK; (conv => whnf); first | exact hK | (intro z hz; rw [wrapI (by omega)] at hz; subst hz; exact hK)))); (conv => whnf)) | ((with_reducible apply z_wrap); (focus omega); (conv => whnf)) | ((with_reducible first | apply mt_dec | apply mt_eq | apply mt_ne | apply mt_not | apply mt_any) <;> (intro _; conv => whnf)))
  refine ACalls.mono (post := fun av L => av = .d (.bool true) ∧ L = []) h3 ?_
  rintro _ _ ⟨rfl, rfl⟩
  conv => whnf
  repeat' (first | ((with_reducible apply rd_intro); (focus (intro K hK; (conv => whnf); first | exact hK | (intro z hz; rw [wrapI (by omega)] at hz; subst hz; exact hK))); (conv => whnf)) | ((with_reducible apply gd_and); (focus ((conv => whnf) <;> first | rfl | (intro K hK; (conv => whnf); first | exact hK | (intro z hz; rw [wrapI (by omega)] at hz; subst hz; exact hK)))); (conv => whnf)) | ((with_reducible apply z_wrap); (focus omega); (conv => whnf)) | ((with_reducible first | apply mt_dec | apply mt_eq | apply mt_ne | apply mt_not | apply mt_any) <;> (intro _; conv => whnf)))
  refine ACalls.mono (post := fun av L => av = .tup [.d (.sl 3 (votesD [⟨1, 1, 5⟩])), .d (.int .i64 0)] ∧ L = []) h4 ?_
  rintro _ _ ⟨rfl, rfl⟩
  conv => whnf
  repeat' (first | ((with_reducible apply rd_intro); (focus (intro K hK; (conv => whnf); first | exact hK | (intro z hz; rw [wrapI (by omega)] at hz; subst hz; exact hK))); (conv => whnf)) | ((with_reducible apply gd_and); (focus ((conv => whnf) <;> first | rfl | (intro K hK; (conv => whnf); first | exact hK | (intro z hz; rw [wrapI (by omega)] at hz; subst hz; exact hK)))); (conv => whnf)) | ((with_reducible apply z_wrap); (focus omega); (conv => whnf)) | ((with_reducible first | apply mt_dec | apply mt_eq | apply mt_ne | apply mt_not | apply mt_any) <;> (intro _; conv => whnf)))
  refine ACalls.mono (post := fun av L => av = .d (.sl 1 []) ∧ L = []) (cloneI_ok [] (by decide)) ?_
  rintro _ _ ⟨rfl, rfl⟩
  conv => whnf
  repeat' (first | ((with_reducible apply rd_intro); (focus (intro K hK; (conv => whnf); first | exact hK | (intro z hz; rw [wrapI (by omega)] at hz; subst hz; exact hK))); (conv => whnf)) | ((with_reducible apply gd_and); (focus ((conv => whnf) <;> first | rfl | (intro K hK; (conv => whnf); first | exact hK | (intro z hz; rw [wrapI (by omega)] at hz; subst hz; exact hK)))); (conv => whnf)) | ((with_reducible apply z_wrap); (focus omega); (conv => whnf)) | ((with_reducible first | apply mt_dec | apply mt_eq | apply mt_ne | apply mt_not | apply mt_any) <;> (intro _; conv => whnf)))
  (with_reducible refine draw_pl ttOk zOk foOk mixedOk plSay8 ?_ ?_)
  focus kernel_rfl
  conv => whnf
  repeat' (first | ((with_reducible apply rd_intro); (focus (intro K hK; (conv => whnf); first | exact hK | (intro z hz; rw [wrapI (by omega)] at hz; subst hz; exact hK))); (conv => whnf)) | ((with_reducible apply gd_and); (focus ((conv => whnf) <;> first | rfl | (intro K hK; (conv => whnf); first | exact hK | (intro z hz; rw [wrapI (by omega)] at hz; subst hz; exact hK)))); (conv => whnf)) | ((with_reducible apply z_wrap); (focus omega); (conv => whnf)) | ((with_reducible first | apply mt_dec | apply mt_eq | apply mt_ne | apply mt_not | apply mt_any) <;> (intro _; conv => whnf)))
  refine ACalls.mono (post := fun av L => av = loneH.hav ∧ L = []) h5 ?_
  rintro _ _ ⟨rfl, rfl⟩
  conv => whnf
  repeat' (first | ((with_reducible apply rd_intro); (focus (intro K hK; (conv => whnf); first | exact hK | (intro z hz; rw [wrapI (by omega)] at hz; subst hz; exact hK))); (conv => whnf)) | ((with_reducible apply gd_and); (focus ((conv => whnf) <;> first | rfl | (intro K hK; (conv => whnf); first | exact hK | (intro z hz; rw [wrapI (by omega)] at hz; subst hz; exact hK)))); (conv => whnf)) | ((with_reducible apply z_wrap); (focus omega); (conv => whnf)) | ((with_reducible first | apply mt_dec | apply mt_eq | apply mt_ne | apply mt_not | apply mt_any) <;> (intro _; conv => whnf)))
  refine (acalls_nw h6 (.cons (.refl _) (.cons (.agg ?_) (.cons (.refl _) .nil)))).mono ?_
  · repeat (first | exact .nil | refine .cons (.refl _) ?_ | refine .cons (.nils _ (by decide)) ?_)
  rintro _ _ ⟨rfl, j, rfl⟩
  cases j
  all_goals
    conv => whnf
    repeat' (first | ((with_reducible apply rd_intro); (focus (intro K hK; (conv => whnf); first | exact hK | (intro z hz; rw [wrapI (by omega)] at hz; subst hz; exact hK))); (conv => whnf)) | ((with_reducible apply gd_and); (focus ((conv => whnf) <;> first | rfl | (intro K hK; (conv => whnf); first | exact hK | (intro z hz; rw [wrapI (by omega)] at hz; subst hz; exact hK)))); (conv => whnf)) | ((with_reducible apply z_wrap); (focus omega); (conv => whnf)) | ((with_reducible first | apply mt_dec | apply mt_eq | apply mt_ne | apply mt_not | apply mt_any) <;> (intro _; conv => whnf)))
    refine h7.mono ?_
    rintro _ _ ⟨rfl, j, rfl⟩
    cases j
    all_goals
      conv => whnf
      repeat' (first | ((with_reducible apply rd_intro); (focus (intro K hK; (conv => whnf); first | exact hK | (intro z hz; rw [wrapI (by omega)] at hz; subst hz; exact hK))); (conv => whnf)) | ((with_reducible apply gd_and); (focus ((conv => whnf) <;> first | rfl | (intro K hK; (conv => whnf); first | exact hK | (intro z hz; rw [wrapI (by omega)] at hz; subst hz; exact hK)))); (conv => whnf)) | ((with_reducible apply z_wrap); (focus omega); (conv => whnf)) | ((with_reducible first | apply mt_dec | apply mt_eq | apply mt_ne | apply mt_not | apply mt_any) <;> (intro _; conv => whnf)))
      ((with_reducible refine draw_pl ttOk zOk foOk mixedOk pl62x11 ?_ ?_); (focus kernel_rfl); (conv => whnf))
      repeat' (first | ((with_reducible apply rd_intro); (focus (intro K hK; (conv => whnf); first | exact hK | (intro z hz; rw [wrapI (by omega)] at hz; subst hz; exact hK))); (conv => whnf)) | ((with_reducible apply gd_and); (focus ((conv => whnf) <;> first | rfl | (intro K hK; (conv => whnf); first | exact hK | (intro z hz; rw [wrapI (by omega)] at hz; subst hz; exact hK)))); (conv => whnf)) | ((with_reducible apply z_wrap); (focus omega); (conv => whnf)) | ((with_reducible first | apply mt_dec | apply mt_eq | apply mt_ne | apply mt_not | apply mt_any) <;> (intro _; conv => whnf)))
      exact ⟨rfl, rfl⟩
end Go.Proofs.YtdlfmgcmfoehdaaGreat

namespace Go.Proofs.YtdlfmgcmfoehdaaGreat
open Go.Ab Go.RowKit Go.MapKept
attribute [local irreducible] ACalls AW ADraw Into fltB fnear
set_option maxRecDepth 100000
/-! ## .. and is certified at once -/
theorem num20_ok (n : Int) : ACalls Tryz.prog 11 [.d (.int .i64 n)] [] (fun av L => av = .d (.int .i64 n) ∧ L = []) := by
  refine acalls_go ttOk zOk foOk Tryz.func11 rfl Tryz.ntmps11 rfl false rfl ?_
  conv => whnf
  repeat' (first | ((with_reducible apply rd_intro); (focus (intro K hK; (conv => whnf); first | exact hK | (intro z hz; rw [wrapI (by omega)] at hz; subst hz; exact hK))); (conv => whnf)) | ((with_reducible apply gd_and); (focus ((conv => whnf) <;> first | rfl | (intro K hK; (conv => whnf); first | exact hK | (intro z hz; rw [wrapI (by omega)] at hz; subst hz; exact hK)))); (conv => whnf)) | ((with_reducible apply z_wrap); (focus omega); (conv => whnf)) | ((with_reducible first | apply mt_dec | apply mt_eq | apply mt_ne | apply mt_not | apply mt_any) <;> (intro _; conv => whnf)))
  exact ⟨rfl, rfl⟩
theorem lone_tiny : lone.tiny := ⟨⟨tiny_nil, tiny_nil, tiny_nil⟩, by decide, by decide, ⟨tiny_nil, fun c h => (by cases h)⟩, ⟨tiny_nil, fun c h => (by cases h)⟩⟩
theorem proposed1 : ACalls Tryz.prog 20 [lone.av, loneH.hav, .d (.int .i64 5)] [] (fun av L => av = .tup [lone3.av, .d (.sl 1 []), .d (.sl 18 []), .d (.int .i64 0)] ∧ L = []) := by
  have h1 := primMay_true lone lone_bare
  have h2 := mayH1
  have h3 := primOwn_ok lone lone_tiny
  have h4 := say1
  refine acalls_go ttOk zOk foOk Tryz.func20 rfl Tryz.ntmps20 rfl false rfl ?_
  conv => whnf
  repeat' (first | ((with_reducible apply rd_intro); (focus (intro K hK; (conv => whnf); first | exact hK | (intro z hz; rw [wrapI (by omega)] at hz; subst hz; exact hK))); (conv => whnf)) | ((with_reducible apply gd_and); (focus ((conv => whnf) <;> first | rfl | (intro K hK; (conv => whnf); first | exact hK | (intro z hz; rw [wrapI (by omega)] at hz; subst hz; exact hK)))); (conv => whnf)) | ((with_reducible apply z_wrap); (focus omega); (conv => whnf)) | ((with_reducible first | apply mt_dec | apply mt_eq | apply mt_ne | apply mt_not | apply mt_any) <;> (intro _; conv => whnf)))
  refine ACalls.mono (post := fun av L => av = .d (.bool true) ∧ L = []) h1 ?_
  rintro _ _ ⟨rfl, rfl⟩
  conv => whnf
  repeat' (first | ((with_reducible apply rd_intro); (focus (intro K hK; (conv => whnf); first | exact hK | (intro z hz; rw [wrapI (by omega)] at hz; subst hz; exact hK))); (conv => whnf)) | ((with_reducible apply gd_and); (focus ((conv => whnf) <;> first | rfl | (intro K hK; (conv => whnf); first | exact hK | (intro z hz; rw [wrapI (by omega)] at hz; subst hz; exact hK)))); (conv => whnf)) | ((with_reducible apply z_wrap); (focus omega); (conv => whnf)) | ((with_reducible first | apply mt_dec | apply mt_eq | apply mt_ne | apply mt_not | apply mt_any) <;> (intro _; conv => whnf)))
  refine (digest_ok 5).mono ?_
  rintro _ _ ⟨rfl, rfl⟩
  conv => whnf
  repeat' (first | ((with_reducible apply rd_intro); (focus (intro K hK; (conv => whnf); first | exact hK | (intro z hz; rw [wrapI (by omega)] at hz; subst hz; exact hK))); (conv => whnf)) | ((with_reducible apply gd_and); (focus ((conv => whnf) <;> first | rfl | (intro K hK; (conv => whnf); first | exact hK | (intro z hz; rw [wrapI (by omega)] at hz; subst hz; exact hK)))); (conv => whnf)) | ((with_reducible apply z_wrap); (focus omega); (conv => whnf)) | ((with_reducible first | apply mt_dec | apply mt_eq | apply mt_ne | apply mt_not | apply mt_any) <;> (intro _; conv => whnf)))
  refine ACalls.mono (post := fun av L => av = .d (.bool true) ∧ L = []) h2 ?_
  rintro _ _ ⟨rfl, rfl⟩
  conv => whnf
  repeat' (first | ((with_reducible apply rd_intro); (focus (intro K hK; (conv => whnf); first | exact hK | (intro z hz; rw [wrapI (by omega)] at hz; subst hz; exact hK))); (conv => whnf)) | ((with_reducible apply gd_and); (focus ((conv => whnf) <;> first | rfl | (intro K hK; (conv => whnf); first | exact hK | (intro z hz; rw [wrapI (by omega)] at hz; subst hz; exact hK)))); (conv => whnf)) | ((with_reducible apply z_wrap); (focus omega); (conv => whnf)) | ((with_reducible first | apply mt_dec | apply mt_eq | apply mt_ne | apply mt_not | apply mt_any) <;> (intro _; conv => whnf)))
  ((with_reducible refine draw_pl ttOk zOk foOk mixedOk pl20x3 ?_ ?_); (focus kernel_rfl); (conv => whnf))
  repeat' (first | ((with_reducible apply rd_intro); (focus (intro K hK; (conv => whnf); first | exact hK | (intro z hz; rw [wrapI (by omega)] at hz; subst hz; exact hK))); (conv => whnf)) | ((with_reducible apply gd_and); (focus ((conv => whnf) <;> first | rfl | (intro K hK; (conv => whnf); first | exact hK | (intro z hz; rw [wrapI (by omega)] at hz; subst hz; exact hK)))); (conv => whnf)) | ((with_reducible apply z_wrap); (focus omega); (conv => whnf)) | ((with_reducible first | apply mt_dec | apply mt_eq | apply mt_ne | apply mt_not | apply mt_any) <;> (intro _; conv => whnf)))
  refine ACalls.mono (post := fun av L => av = lone.av ∧ L = []) h3 ?_
  rintro _ _ ⟨rfl, rfl⟩
  conv => whnf
  repeat' (first | ((with_reducible apply rd_intro); (focus (intro K hK; (conv => whnf); first | exact hK | (intro z hz; rw [wrapI (by omega)] at hz; subst hz; exact hK))); (conv => whnf)) | ((with_reducible apply gd_and); (focus ((conv => whnf) <;> first | rfl | (intro K hK; (conv => whnf); first | exact hK | (intro z hz; rw [wrapI (by omega)] at hz; subst hz; exact hK)))); (conv => whnf)) | ((with_reducible apply z_wrap); (focus omega); (conv => whnf)) | ((with_reducible first | apply mt_dec | apply mt_eq | apply mt_ne | apply mt_not | apply mt_any) <;> (intro _; conv => whnf)))
  refine ACalls.mono (post := fun av L => av = .tup [lone3.av, .d (.sl 1 []), .d (.sl 18 []), .d (.int .i64 0)] ∧ L = []) h4 ?_
  rintro _ _ ⟨rfl, rfl⟩
  conv => whnf
  repeat' (first | ((with_reducible apply rd_intro); (focus (intro K hK; (conv => whnf); first | exact hK | (intro z hz; rw [wrapI (by omega)] at hz; subst hz; exact hK))); (conv => whnf)) | ((with_reducible apply gd_and); (focus ((conv => whnf) <;> first | rfl | (intro K hK; (conv => whnf); first | exact hK | (intro z hz; rw [wrapI (by omega)] at hz; subst hz; exact hK)))); (conv => whnf)) | ((with_reducible apply z_wrap); (focus omega); (conv => whnf)) | ((with_reducible first | apply mt_dec | apply mt_eq | apply mt_ne | apply mt_not | apply mt_any) <;> (intro _; conv => whnf)))
  exact ⟨rfl, rfl⟩
theorem wakes_ok : ACalls Tryz.prog 15 [] [] (fun av L => av = .d (.bool true) ∧ L = []) := by
  have h1 := new_ok 1 1 (by decide) (by decide)
  have h2 := make1
  have h3 := proposed1
  refine acalls_go ttOk zOk foOk Tryz.func15 rfl Tryz.ntmps15 rfl false rfl ?_
  conv => whnf
  repeat' (first | ((with_reducible apply rd_intro); (focus (intro K hK; (conv => whnf); first | exact hK | (intro z hz; rw [wrapI (by omega)] at hz; subst hz; exact hK))); (conv => whnf)) | ((with_reducible apply gd_and); (focus ((conv => whnf) <;> first | rfl | (intro K hK; (conv => whnf); first | exact hK | (intro z hz; rw [wrapI (by omega)] at hz; subst hz; exact hK)))); (conv => whnf)) | ((with_reducible apply z_wrap); (focus omega); (conv => whnf)) | ((with_reducible first | apply mt_dec | apply mt_eq | apply mt_ne | apply mt_not | apply mt_any) <;> (intro _; conv => whnf)))
  refine ACalls.mono (post := fun av L => av = .tup [lone.av, .d (.int .i64 0)] ∧ L = []) h1 ?_
  rintro _ _ ⟨rfl, rfl⟩
  conv => whnf
  repeat' (first | ((with_reducible apply rd_intro); (focus (intro K hK; (conv => whnf); first | exact hK | (intro z hz; rw [wrapI (by omega)] at hz; subst hz; exact hK))); (conv => whnf)) | ((with_reducible apply gd_and); (focus ((conv => whnf) <;> first | rfl | (intro K hK; (conv => whnf); first | exact hK | (intro z hz; rw [wrapI (by omega)] at hz; subst hz; exact hK)))); (conv => whnf)) | ((with_reducible apply z_wrap); (focus omega); (conv => whnf)) | ((with_reducible first | apply mt_dec | apply mt_eq | apply mt_ne | apply mt_not | apply mt_any) <;> (intro _; conv => whnf)))
  refine ACalls.mono (post := fun av L => av = .tup [loneH.hav, .d (.int .i64 0)] ∧ L = []) h2 ?_
  rintro _ _ ⟨rfl, rfl⟩
  conv => whnf
  repeat' (first | ((with_reducible apply rd_intro); (focus (intro K hK; (conv => whnf); first | exact hK | (intro z hz; rw [wrapI (by omega)] at hz; subst hz; exact hK))); (conv => whnf)) | ((with_reducible apply gd_and); (focus ((conv => whnf) <;> first | rfl | (intro K hK; (conv => whnf); first | exact hK | (intro z hz; rw [wrapI (by omega)] at hz; subst hz; exact hK)))); (conv => whnf)) | ((with_reducible apply z_wrap); (focus omega); (conv => whnf)) | ((with_reducible first | apply mt_dec | apply mt_eq | apply mt_ne | apply mt_not | apply mt_any) <;> (intro _; conv => whnf)))
  refine ACalls.mono (post := fun av L => av = .tup [lone3.av, .d (.sl 1 []), .d (.sl 18 []), .d (.int .i64 0)] ∧ L = []) h3 ?_
  rintro _ _ ⟨rfl, rfl⟩
  conv => whnf
  repeat' (first | ((with_reducible apply rd_intro); (focus (intro K hK; (conv => whnf); first | exact hK | (intro z hz; rw [wrapI (by omega)] at hz; subst hz; exact hK))); (conv => whnf)) | ((with_reducible apply gd_and); (focus ((conv => whnf) <;> first | rfl | (intro K hK; (conv => whnf); first | exact hK | (intro z hz; rw [wrapI (by omega)] at hz; subst hz; exact hK)))); (conv => whnf)) | ((with_reducible apply z_wrap); (focus omega); (conv => whnf)) | ((with_reducible first | apply mt_dec | apply mt_eq | apply mt_ne | apply mt_not | apply mt_any) <;> (intro _; conv => whnf)))
  iterate 3
    refine (num20_ok 0).mono ?_
    rintro _ _ ⟨rfl, rfl⟩
    conv => whnf
    repeat' (first | ((with_reducible apply rd_intro); (focus (intro K hK; (conv => whnf); first | exact hK | (intro z hz; rw [wrapI (by omega)] at hz; subst hz; exact hK))); (conv => whnf)) | ((with_reducible apply gd_and); (focus ((conv => whnf) <;> first | rfl | (intro K hK; (conv => whnf); first | exact hK | (intro z hz; rw [wrapI (by omega)] at hz; subst hz; exact hK)))); (conv => whnf)) | ((with_reducible apply z_wrap); (focus omega); (conv => whnf)) | ((with_reducible first | apply mt_dec | apply mt_eq | apply mt_ne | apply mt_not | apply mt_any) <;> (intro _; conv => whnf)))
  intro z hz
  have hz0 : z = 0 := hz
  subst hz0
  conv => whnf
  repeat' (first | ((with_reducible apply rd_intro); (focus (intro K hK; (conv => whnf); first | exact hK | (intro z hz; rw [wrapI (by omega)] at hz; subst hz; exact hK))); (conv => whnf)) | ((with_reducible apply gd_and); (focus ((conv => whnf) <;> first | rfl | (intro K hK; (conv => whnf); first | exact hK | (intro z hz; rw [wrapI (by omega)] at hz; subst hz; exact hK)))); (conv => whnf)) | ((with_reducible apply z_wrap); (focus omega); (conv => whnf)) | ((with_reducible first | apply mt_dec | apply mt_eq | apply mt_ne | apply mt_not | apply mt_any) <;> (intro _; conv => whnf)))
  exact ⟨rfl, rfl⟩
end Go.Proofs.YtdlfmgcmfoehdaaGreat

namespace Go.Ab
open Go.RowKit
end Go.Ab

namespace Go.Proofs.YtdlfmgcmfoehdaaGreat
open Go.Ab Go.RowKit Go.MapKept
attribute [local irreducible] ACalls AW ADraw Into fltB fnear
set_option maxRecDepth 100000
theorem eqHeader_same (c : Cert) (h : fewL c) : ACalls Tryz.prog 25 [c.hav, c.hav] [] (fun av L => av = .d (.bool true) ∧ L = []) := by
  have h1 := eqNumbers_ok c.bats c.bats h.bats
  have h2 := eqNumbers_ok c.pars c.pars h.pars
  rw [decide_eq_true rfl] at h1 h2
  refine acalls_go ttOk zOk foOk Tryz.func25 rfl Tryz.ntmps25 rfl false rfl ?_
  conv => whnf
  repeat' (first | ((with_reducible apply rd_intro); (focus (intro K hK; (conv => whnf); first | exact hK | (intro z hz; rw [wrapI (by omega)] at hz; subst hz; exact hK))); (conv => whnf)) | ((with_reducible apply gd_and); (focus ((conv => whnf) <;> first | rfl | (intro K hK; (conv => whnf); first | exact hK | (intro z hz; rw [wrapI (by omega)] at hz; subst hz; exact hK)))); (conv => whnf)) | ((with_reducible apply z_wrap); (focus omega); (conv => whnf)) | ((with_reducible first | apply mt_dec | apply mt_eq | apply mt_ne | apply mt_not | apply mt_any) <;> (intro _; conv => whnf)))
  · refine h1.mono ?_
    rintro _ _ ⟨rfl, rfl⟩
    conv => whnf
    repeat' (first | ((with_reducible apply rd_intro); (focus (intro K hK; (conv => whnf); first | exact hK | (intro z hz; rw [wrapI (by omega)] at hz; subst hz; exact hK))); (conv => whnf)) | ((with_reducible apply gd_and); (focus ((conv => whnf) <;> first | rfl | (intro K hK; (conv => whnf); first | exact hK | (intro z hz; rw [wrapI (by omega)] at hz; subst hz; exact hK)))); (conv => whnf)) | ((with_reducible apply z_wrap); (focus omega); (conv => whnf)) | ((with_reducible first | apply mt_dec | apply mt_eq | apply mt_ne | apply mt_not | apply mt_any) <;> (intro _; conv => whnf)))
    refine h2.mono ?_
    rintro _ _ ⟨rfl, rfl⟩
    conv => whnf
    exact ⟨rfl, rfl⟩
  all_goals (rename_i hx; exact absurd rfl hx)
theorem eqCert_same (c : Cert) (h : fewL c) : ACalls Tryz.prog 42 [c.av, c.av] [] (fun av L => av = .d (.bool true) ∧ L = []) := by
  have h1 := eqHeader_same c h
  have h2 := eqNumbers_ok c.sigs c.sigs h.sigs
  rw [decide_eq_true rfl] at h2
  refine acalls_go ttOk zOk foOk Tryz.func42 rfl Tryz.ntmps42 rfl false rfl ?_
  conv => whnf
  refine h1.mono ?_
  rintro _ _ ⟨rfl, rfl⟩
  conv => whnf
  repeat' (first | ((with_reducible apply rd_intro); (focus (intro K hK; (conv => whnf); first | exact hK | (intro z hz; rw [wrapI (by omega)] at hz; subst hz; exact hK))); (conv => whnf)) | ((with_reducible apply gd_and); (focus ((conv => whnf) <;> first | rfl | (intro K hK; (conv => whnf); first | exact hK | (intro z hz; rw [wrapI (by omega)] at hz; subst hz; exact hK)))); (conv => whnf)) | ((with_reducible apply z_wrap); (focus omega); (conv => whnf)) | ((with_reducible first | apply mt_dec | apply mt_eq | apply mt_ne | apply mt_not | apply mt_any) <;> (intro _; conv => whnf)))
  · refine h2.mono ?_
    rintro _ _ ⟨rfl, rfl⟩
    conv => whnf
    exact ⟨rfl, rfl⟩
  all_goals (rename_i hx; exact absurd rfl hx)
theorem eqCerts_same (l : List Cert) (hl : few l) (h : ∀ c ∈ l, fewL c) : ACalls Tryz.prog 14 [.d (.sl 6 (certsD l)), .d (.sl 6 (certsD l))] [] (fun av L => av = .d (.bool true) ∧ L = []) := by
  have hcl := certsD_length l
  unfold few at hl
  refine acalls_go ttOk zOk foOk Tryz.func14 rfl Tryz.ntmps14 rfl false rfl ?_
  conv => whnf
  repeat' (first | ((with_reducible apply rd_intro); (focus (intro K hK; (conv => whnf); first | exact hK | (intro z hz; rw [wrapI (by omega)] at hz; subst hz; exact hK))); (conv => whnf)) | ((with_reducible apply gd_and); (focus ((conv => whnf) <;> first | rfl | (intro K hK; (conv => whnf); first | exact hK | (intro z hz; rw [wrapI (by omega)] at hz; subst hz; exact hK)))); (conv => whnf)) | ((with_reducible apply z_wrap); (focus omega); (conv => whnf)) | ((with_reducible first | apply mt_dec | apply mt_eq | apply mt_ne | apply mt_not | apply mt_any) <;> (intro _; conv => whnf)))
  · rename_i hx; exact absurd rfl hx
  · refine loop_go ttOk zOk foOk (σ := Nat) (fun k => ([(0, .d (.sl 6 (certsD l))), (1, .d (.sl 6 (certsD l))), (5, .d (.int .i64 k))], [])) (fun k => k ≤ l.length) (fun k => l.length - k) [0, 1, 5] ?_ ?_
    · conv => whnf
      exact ⟨0, rfl, rfl, by omega⟩
    · intro k hk
      conv => whnf
      rw [hcl]
      repeat' (first | ((with_reducible apply rd_intro); (focus (intro K hK; (conv => whnf); first | exact hK | (intro z hz; rw [wrapI (by omega)] at hz; subst hz; exact hK))); (conv => whnf)) | ((with_reducible apply gd_and); (focus ((conv => whnf) <;> first | rfl | (intro K hK; (conv => whnf); first | exact hK | (intro z hz; rw [wrapI (by omega)] at hz; subst hz; exact hK)))); (conv => whnf)) | ((with_reducible apply z_wrap); (focus omega); (conv => whnf)) | ((with_reducible first | apply mt_dec | apply mt_eq | apply mt_ne | apply mt_not | apply mt_any) <;> (intro _; conv => whnf)))
      · rename_i hkl
        refine Exists.elim (⟨_, List.getElem?_eq_getElem (by omega)⟩ : ∃ c, l[k]? = some c) fun c hc => ?_
        have h1 := eqCert_same c (h c (List.mem_of_getElem? hc))
        ((with_reducible refine draw_pl ttOk zOk foOk mixedOk pl14x6 ?_ ?_); (focus kernel_rfl); (conv => whnf))
        repeat' (first | ((with_reducible apply rd_intro); (focus (intro K hK; (conv => whnf); first | exact hK | (intro z hz; rw [wrapI (by omega)] at hz; subst hz; exact hK))); (conv => whnf)) | ((with_reducible apply gd_and); (focus ((conv => whnf) <;> first | rfl | (intro K hK; (conv => whnf); first | exact hK | (intro z hz; rw [wrapI (by omega)] at hz; subst hz; exact hK)))); (conv => whnf)) | ((with_reducible apply z_wrap); (focus omega); (conv => whnf)) | ((with_reducible first | apply mt_dec | apply mt_eq | apply mt_ne | apply mt_not | apply mt_any) <;> (intro _; conv => whnf)))
        ((with_reducible apply rd_intro); (focus (intro K hK; (conv => whnf); exact ⟨by omega, c.cs, certsD_at hc, hK⟩)); (conv => whnf))
        repeat' (first | ((with_reducible apply rd_intro); (focus (intro K hK; (conv => whnf); first | exact hK | (intro z hz; rw [wrapI (by omega)] at hz; subst hz; exact hK))); (conv => whnf)) | ((with_reducible apply gd_and); (focus ((conv => whnf) <;> first | rfl | (intro K hK; (conv => whnf); first | exact hK | (intro z hz; rw [wrapI (by omega)] at hz; subst hz; exact hK)))); (conv => whnf)) | ((with_reducible apply z_wrap); (focus omega); (conv => whnf)) | ((with_reducible first | apply mt_dec | apply mt_eq | apply mt_ne | apply mt_not | apply mt_any) <;> (intro _; conv => whnf)))
        ((with_reducible apply rd_intro); (focus (intro K hK; (conv => whnf); exact ⟨by omega, c.cs, certsD_at hc, hK⟩)); (conv => whnf))
        repeat' (first | ((with_reducible apply rd_intro); (focus (intro K hK; (conv => whnf); first | exact hK | (intro z hz; rw [wrapI (by omega)] at hz; subst hz; exact hK))); (conv => whnf)) | ((with_reducible apply gd_and); (focus ((conv => whnf) <;> first | rfl | (intro K hK; (conv => whnf); first | exact hK | (intro z hz; rw [wrapI (by omega)] at hz; subst hz; exact hK)))); (conv => whnf)) | ((with_reducible apply z_wrap); (focus omega); (conv => whnf)) | ((with_reducible first | apply mt_dec | apply mt_eq | apply mt_ne | apply mt_not | apply mt_any) <;> (intro _; conv => whnf)))
        refine h1.mono ?_
        rintro _ _ ⟨rfl, rfl⟩
        conv => whnf
        repeat' (first | ((with_reducible apply rd_intro); (focus (intro K hK; (conv => whnf); first | exact hK | (intro z hz; rw [wrapI (by omega)] at hz; subst hz; exact hK))); (conv => whnf)) | ((with_reducible apply gd_and); (focus ((conv => whnf) <;> first | rfl | (intro K hK; (conv => whnf); first | exact hK | (intro z hz; rw [wrapI (by omega)] at hz; subst hz; exact hK)))); (conv => whnf)) | ((with_reducible apply z_wrap); (focus omega); (conv => whnf)) | ((with_reducible first | apply mt_dec | apply mt_eq | apply mt_ne | apply mt_not | apply mt_any) <;> (intro _; conv => whnf)))
        exact ⟨k + 1, rfl, rfl, by omega, by omega⟩
      · exact ⟨rfl, rfl⟩
end Go.Proofs.YtdlfmgcmfoehdaaGreat

namespace Go.Proofs.YtdlfmgcmfoehdaaGreat
open Go.Ab Go.RowKit Go.MapKept
attribute [local irreducible] ACalls AW ADraw Into fltB fnear
set_option maxRecDepth 100000
/-! ## the loop's plain law -/
structure Fram (n : Int) (p : Prim) : Prop where
  id : p.id = 1
  nodes : p.nodes = n
  round : p.round = 1
  age : p.age = 0
  said : p.said = 0
  mine : p.mine = cz0
  dig : p.dig = 0
  acks : p.acks = []
  votes : p.votes = []
theorem fram_new (n : Int) : Fram n (newP 1 n) := ⟨rfl, rfl, rfl, rfl, rfl, rfl, rfl, rfl, rfl⟩
theorem fram_in {n : Int} {p : Prim} (h : Fram n p) (c : Cert) : Fram n (inP p c) := by
  unfold inP
  split
  · exact ⟨h.id, h.nodes, h.round, h.age, h.said, h.mine, h.dig, h.acks, h.votes⟩
  · split
    · exact ⟨h.id, h.nodes, h.round, h.age, h.said, h.mine, h.dig, h.acks, h.votes⟩
    · exact h
theorem late_take {D : Dag} (hD : Valid D) (hlen : D.certs.length ≤ 30) {p : Prim} (hf : Fram D.nodes p) {done : List Cert} (h : LateI D done p) : TakeOk p := by
  have hnn := of_decide_eq_true hD.nodes
  have hdl := sub_few h.valid h.dsub
  have hll := late_few h.ris h.lsub
  have hi := hf.id
  have hn := hf.nodes
  have hr := hf.round
  have ha := hf.age
  have hs := hf.said
  refine ⟨⟨⟨⟨by rw [hf.mine]; rfl, by rw [hf.mine]; rfl, by rw [hf.mine]; rfl, by rw [hf.mine]; rfl⟩, hf.dig, hf.acks⟩, by rw [hn]; exact hD.nodes, by omega, by omega, by omega, by omega, hf.votes, h.valid, by rw [h.nodes, hn], ⟨by omega, h.ris, fun c hc => ?_⟩⟩, ⟨by rw [hf.mine]; exact cz0_tiny, by rw [hf.acks]; decide, by rw [hf.votes]; decide, ⟨?_, fun c hc => ?_⟩, ⟨?_, fun c hc => ?_⟩⟩, ⟨h.valid, by omega, fun c hc => ?_⟩, by omega⟩
  · rw [hn]
    exact ⟨hD.certs c (h.lsub c hc), certFew_of hD.nodes (hD.certs c (h.lsub c hc))⟩
  · show p.dag.certs.length ≤ _
    omega
  · exact certTiny_of hD.nodes (hD.certs c (h.dsub c hc))
  · show p.late.length ≤ _
    omega
  · exact certTiny_of hD.nodes (hD.certs c (h.lsub c hc))
  · rw [h.nodes]
    exact ⟨hD.certs c (h.lsub c hc), certTiny_of hD.nodes (hD.certs c (h.lsub c hc))⟩
theorem late_new {D : Dag} (hD : Valid D) : LateI D [] (newP 1 D.nodes) := by
  have hnn := of_decide_eq_true hD.nodes
  exact ⟨(new_bare hD.nodes (by omega)).dag, rfl, rfl, fun c h => (by cases h), fun c h => (by cases h), fun c h => (by cases h), fun c h => (by cases h), List.Pairwise.nil⟩
theorem late_goes {D : Dag} (hD : Valid D) (hD0 : D.low = 0) (hlen : D.certs.length ≤ 30) {done : List Cert} {p : Prim} (h : LateI D done p) {c : Cert} (hc : c ∈ D.certs) (ho : (inO p c 2).length = 0) (hg : getI (inP p c).dag.certs c.digest < 0) : p.late.length ≠ 0 := by
  intro hl
  have hl : p.late = [] := List.eq_nil_of_length_eq_zero hl
  have hin := in_r hD hD0 (by omega) h hc
  rcases hin.cov c (List.mem_cons_self ..) with h1 | h1
  · unfold getI at hg
    cases hgc : getC (inP p c).dag.certs c.digest with
    | some i =>
      rw [hgc] at hg
      replace hg : (i : Int) < 0 := hg
      omega
    | none =>
      rw [getC, List.findIdx?_eq_none_iff] at hgc
      have := hgc c h1
      simp at this
  · unfold inP at h1
    by_cases h0 : putE p.dag c = 0
    · rw [if_pos h0, hl] at h1
      cases h1
    · rw [if_neg h0] at h1
      by_cases h7 : putE p.dag c = 7
      · have hne := asked_for hD hD0 h hc h7 hl
        rw [inO, if_pos ⟨h7, by decide⟩, wantO, List.length_map, chunksI_length] at ho
        unfold chn at ho
        exact hne (List.eq_nil_of_length_eq_zero (by omega))
      · rw [if_neg h7, hl] at h1
        cases h1
/-! ## the law -/
def lSt (s : Script) (x : Nat × Prim) : AF × List AB := ([(1, .ptr 0 0), (4, .ptr 1 0), (6, .d (.sl 6 (certsD s.p.dag.certs))), (7, .d (.int .i64 x.1))], [.cells (s.cs.map AV.d), .cells (x.2.cs.map AV.d)])
set_option maxHeartbeats 4000000 in
theorem primaryLate_ok (s : Script) (hok : s.ok) : ACalls Tryz.prog 3 [s.av] [] (fun av L => av = .d (.bool true) ∧ L = []) := by
  have hcl := certsD_length s.p.dag.certs
  have h1 := heavyS_ok s hok
  have h2 := rMayDag_full s.p.dag hok.dag
  refine acalls_go ttOk zOk foOk Tryz.func3 rfl Tryz.ntmps3 rfl false rfl ?_
  conv => whnf
  repeat' (first | ((with_reducible apply z_wrap); (focus omega); (conv => whnf)) | ((with_reducible first | apply mt_dec | apply mt_eq | apply mt_ne | apply mt_not | apply mt_any) <;> (intro _; conv => whnf)))
  refine h1.mono ?_
  rintro _ _ ⟨⟨b, rfl⟩, rfl⟩
  conv => whnf
  cases b
  · conv => whnf
    refine h2.mono ?_
    rintro _ _ ⟨rfl, rfl⟩
    conv => whnf
    by_cases hv : Valid s.p.dag
    · rw [isV_yes hv]
      conv => whnf
      repeat' (first | ((with_reducible apply z_wrap); (focus omega); (conv => whnf)) | ((with_reducible first | apply mt_dec | apply mt_eq | apply mt_ne | apply mt_not | apply mt_any) <;> (intro _; conv => whnf)))
      all_goals first | exact ⟨rfl, rfl⟩ | skip
      rw [hcl]
      repeat' (first | ((with_reducible apply z_wrap); (focus omega); (conv => whnf)) | ((with_reducible first | apply mt_dec | apply mt_eq | apply mt_ne | apply mt_not | apply mt_any) <;> (intro _; conv => whnf)))
      all_goals first | exact ⟨rfl, rfl⟩ | skip
      rename_i hlow hlen hn2
      rw [hcl] at hlen
      have hnn := of_decide_eq_true hv.nodes
      refine ACalls.mono (post := fun av L => av = .tup [(newP 1 s.p.dag.nodes).av, .d (.int .i64 0)] ∧ L = []) (new_ok 1 s.p.dag.nodes hv.nodes (by omega)) ?_
      rintro _ _ ⟨rfl, rfl⟩
      conv => whnf
      repeat' (first | ((with_reducible apply z_wrap); (focus omega); (conv => whnf)) | ((with_reducible first | apply mt_dec | apply mt_eq | apply mt_ne | apply mt_not | apply mt_any) <;> (intro _; conv => whnf)))
      refine (num20_ok 0).mono ?_
      rintro _ _ ⟨rfl, rfl⟩
      conv => whnf
      repeat' (first | ((with_reducible apply z_wrap); (focus omega); (conv => whnf)) | ((with_reducible first | apply mt_dec | apply mt_eq | apply mt_ne | apply mt_not | apply mt_any) <;> (intro _; conv => whnf)))
      refine loop_go ttOk zOk foOk (σ := Nat × Prim) (lSt s) (fun x => x.1 ≤ s.p.dag.certs.length ∧ Fram s.p.dag.nodes x.2 ∧ LateI s.p.dag (s.p.dag.certs.drop (s.p.dag.certs.length - x.1)) x.2) (fun x => s.p.dag.certs.length - x.1) [1, 4, 6, 7] ?_ ?_
      · conv => whnf
        refine ⟨(0, newP 1 s.p.dag.nodes), rfl, rfl, Nat.zero_le _, fram_new _, ?_⟩
        rw [Nat.sub_zero, List.drop_length]
        exact late_new hv
      · rintro ⟨i, p⟩ ⟨hi, hf, hl⟩
        replace hi : i ≤ s.p.dag.certs.length := hi
        replace hf : Fram s.p.dag.nodes p := hf
        replace hl : LateI s.p.dag (s.p.dag.certs.drop (s.p.dag.certs.length - i)) p := hl
        conv => whnf
        rw [hcl]
        repeat' (first | ((with_reducible apply z_wrap); (focus omega); (conv => whnf)) | ((with_reducible first | apply mt_dec | apply mt_eq | apply mt_ne | apply mt_not | apply mt_any) <;> (intro _; conv => whnf)))
        · rename_i hlt
          replace hlt : (i : Int) < s.p.dag.certs.length := hlt
          refine Exists.elim (⟨_, List.getElem?_eq_getElem (by omega)⟩ : ∃ c, s.p.dag.certs[s.p.dag.certs.length - 1 - i]? = some c) fun c hc => ?_
          have hcm := List.mem_of_getElem? hc
          have hok1 := hv.certs c hcm
          have htk := late_take hv (by omega) hf hl
          have hpn := hf.nodes
          have hpi := hf.id
          have htake := take_ok p htk 2 1 c (by rw [hpn]; exact hok1) (by omega) (by decide) hpi.symm
          have hdrop : s.p.dag.certs.drop (s.p.dag.certs.length - (i + 1)) = c :: s.p.dag.certs.drop (s.p.dag.certs.length - i) := by
            rw [show s.p.dag.certs.length - i = (s.p.dag.certs.length - 1 - i) + 1 by omega, show s.p.dag.certs.length - (i + 1) = s.p.dag.certs.length - 1 - i by omega]
            exact List.drop_eq_getElem?_toList_append .. |>.trans (by rw [hc]; rfl)
          have hin := in_r hv hlow (by omega) hl hcm
          rw [← hdrop] at hin
          have hfi := fram_in hf c
          have hfind := rFind_ok (inP p c).dag (by have := hin.valid.len; unfold few; omega) c.digest
          refine ⟨by show (0 : Int) ≤ ((certsD s.p.dag.certs).length : Int) - 1 - (i : Int); omega, c.cs, (by show (certsD s.p.dag.certs)[(((certsD s.p.dag.certs).length : Int) - 1 - (i : Int)).toNat]? = _; rw [show (((certsD s.p.dag.certs).length : Int) - 1 - (i : Int)).toNat = s.p.dag.certs.length - 1 - i by omega]; exact certsD_at hc), ?_⟩
          conv => whnf
          repeat' (first | ((with_reducible apply z_wrap); (focus omega); (conv => whnf)) | ((with_reducible first | apply mt_dec | apply mt_eq | apply mt_ne | apply mt_not | apply mt_any) <;> (intro _; conv => whnf)))
          refine (acalls_nw htake (.cons (.refl _) (.cons (.agg ?_) (.cons (.refl _) .nil)))).mono ?_
          · repeat (first | exact .nil | refine .cons (.refl _) ?_ | refine .cons (.nils _ (by decide)) ?_)
          rintro _ _ ⟨rfl, rfl⟩
          conv => whnf
          repeat' (first | ((with_reducible apply z_wrap); (focus omega); (conv => whnf)) | ((with_reducible first | apply mt_dec | apply mt_eq | apply mt_ne | apply mt_not | apply mt_any) <;> (intro _; conv => whnf)))
          refine (num20_ok 0).mono ?_
          rintro _ _ ⟨rfl, rfl⟩
          conv => whnf
          repeat' (first | ((with_reducible apply z_wrap); (focus omega); (conv => whnf)) | ((with_reducible first | apply mt_dec | apply mt_eq | apply mt_ne | apply mt_not | apply mt_any) <;> (intro _; conv => whnf)))
          · rename_i hr1 ho
            refine ACalls.mono (post := fun av L => av = .d (.int .i64 (getI (inP p c).dag.certs c.digest)) ∧ L = []) hfind ?_
            rintro _ _ ⟨rfl, rfl⟩
            conv => whnf
            repeat' (first | ((with_reducible apply z_wrap); (focus omega); (conv => whnf)) | ((with_reducible first | apply mt_dec | apply mt_eq | apply mt_ne | apply mt_not | apply mt_any) <;> (intro _; conv => whnf)))
            · rename_i hg hll
              exfalso
              replace ho : ((msgsD (inO p c 2)).length : Int) = 0 := ho
              rw [msgsD_length] at ho
              replace hll : ((certsD p.late).length : Int) = 0 := hll
              rw [certsD_length] at hll
              exact late_goes hv hlow (by omega) hl hcm (by omega) hg (by omega)
            · exact ⟨(i + 1, inP p c), rfl, rfl, ⟨by show i + 1 ≤ _; omega, hfi, hin⟩, by show _ - (i + 1) < _ - i; omega⟩
            · exact ⟨(i + 1, inP p c), rfl, rfl, ⟨by show i + 1 ≤ _; omega, hfi, hin⟩, by show _ - (i + 1) < _ - i; omega⟩
          · exact ⟨(i + 1, inP p c), rfl, rfl, ⟨by show i + 1 ≤ _; omega, hfi, hin⟩, by show _ - (i + 1) < _ - i; omega⟩
          · exact ⟨(i + 1, inP p c), rfl, rfl, ⟨by show i + 1 ≤ _; omega, hfi, hin⟩, by show _ - (i + 1) < _ - i; omega⟩
        · rename_i hge
          replace hge : ¬ (i : Int) < s.p.dag.certs.length := hge
          rw [show s.p.dag.certs.length - i = 0 by omega, List.drop_zero] at hl
          obtain ⟨e1, e2⟩ := late_end hv hlow hl (fun _ h => h)
          have heq := eqCerts_same s.p.dag.certs (by unfold few; omega) (fun c hc => certFew_of hv.nodes (hv.certs c hc))
          rw [e2]
          refine ACalls.mono (post := fun av L => av = .d (.bool true) ∧ L = []) heq ?_
          rintro _ _ ⟨rfl, rfl⟩
          conv => whnf
          rw [e1]
          repeat' (first | ((with_reducible apply z_wrap); (focus omega); (conv => whnf)) | ((with_reducible first | apply mt_dec | apply mt_eq | apply mt_ne | apply mt_not | apply mt_any) <;> (intro _; conv => whnf)))
          · refine ACalls.mono (post := fun av L => av = .d (.bool true) ∧ L = []) wakes_ok ?_
            rintro _ _ ⟨rfl, rfl⟩
            conv => whnf
            repeat' (first | ((with_reducible apply z_wrap); (focus omega); (conv => whnf)) | ((with_reducible first | apply mt_dec | apply mt_eq | apply mt_ne | apply mt_not | apply mt_any) <;> (intro _; conv => whnf)))
            exact ⟨rfl, rfl⟩
          · rename_i hne
            exact absurd rfl hne
    · rw [isV_no hv]
      conv => whnf
      exact ⟨rfl, rfl⟩
  · conv => whnf
    exact ⟨rfl, rfl⟩
end Go.Proofs.YtdlfmgcmfoehdaaGreat

/- PrimaryLate: for every argument the law returns true, and its argument reads behind the call as it read before. No condition of ours. -/
namespace Go.Proofs.YtdlfmgcmfoehdaaGreat
open Go.Ab Go.RowKit Go.ChangeShapes Go.WideShapes Go.ChangeAt
theorem own : ownKnob Tryz.prog.godebug = none := by kernel_rfl
theorem laidOut : laidOutB Tryz.prog = true := by kernel_rfl
set_option maxRecDepth 100000 in
theorem primaryLate_lifted (os : Os) (started : os.Started) (H : Type) (enc : TypeId × Value → H) :
    ReturnsInHanded {} Tryz.checked os 3 .any (Rows.primaryLateSpec.pre6 enc Tryz.prog Tryz.f3 Rows.primaryLateRow.domain false) (Rows.primaryLateSpec.post enc Tryz.prog Tryz.f3 false true false false) := by
  refine returnsInHanded_of_change_sized (C := Tryz.checked) own started (by kernel_rfl) Tryz.func3
    (ChangeSpec.witness6 (enc := enc) (C := Tryz.checked) false ⟨#[], #[.agg #[.int .i64 0, .int .i64 0, .int .i64 0, .int .i64 0, .int .i64 0, .int .i64 0, .int .i64 0, .slice none 0 0, .slice none 0 0, .int .i64 0, .slice none 0 0, .slice none 0 0, .int .i64 0, .int .i64 0, .slice none 0 0, .slice none 0 0, .slice none 0 0]], []⟩ 8 (by kernel_rfl) (by kernel_rfl) (by kernel_rfl) (by kernel_rfl)) ?_
  intro W base args ds gs before hval hW _ hsz _
  exact law_contract ttOk (f := Tryz.f3) (tb := 4) (t := 33) rfl rfl Tryz.underlying4 rfl (fun _ _ => rfl) laidOut (by kernel_rfl) (of_decide_eq_true (by kernel_rfl)) 8 (by kernel_rfl) argS
    (fun W base v ds h1 h2 => argS_ok Tryz.underlying33 h1 h2)
    (fun ds hd => by
      obtain ⟨p, hp, hok⟩ := askP_of hd
      rw [hp]
      exact primaryLate_ok p hok) hval hW hsz
theorem primaryLate_holds : Rows.PrimaryLateSaid :=
  OpenClaim.holds_of_wide 3 Tryz.f3 rfl rfl rfl rfl rfl rfl rfl ⟨rfl, rfl, rfl, rfl, rfl⟩ rfl rfl rfl rfl rfl (by kernel_rfl) Tryz.func3 (by kernel_rfl)
    (of_decide_eq_true (by kernel_rfl)) (by unfold Func.isWrapper; first | (rw [if_pos (by decide +kernel)]; kernel_rfl) | (rw [if_neg (by decide +kernel)]; exact ⟨rfl, rfl⟩))
    (fun os started H enc _ => primaryLate_lifted os started H enc)
#print axioms primaryLate_holds
end Go.Proofs.YtdlfmgcmfoehdaaGreat
