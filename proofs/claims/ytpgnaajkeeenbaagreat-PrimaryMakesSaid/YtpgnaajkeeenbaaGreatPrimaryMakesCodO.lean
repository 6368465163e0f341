/- PrimaryMakes: for every argument the law returns true, and its argument reads behind the call as it read before. No condition of ours. -/
import Derived.Test.YtpgnaajkeeenbaaGreatPrimaryMakesCodN
import Derived.Test.YtpgnaajkeeenbaaGreatRows
set_option linter.unusedVariables false
set_option linter.unusedSimpArgs false
namespace Go.Proofs.YtpgnaajkeeenbaaGreat
open Go.Ab Go.RowKit Go.MapKept
attribute [local irreducible] ACalls AW ADraw Into fltB fnear
set_option maxRecDepth 100000
theorem full20_ok (p : Prim) (hl : p.dag.certs.length ≤ 1099511627776) (hc : ∀ c ∈ p.dag.certs, c.tiny) (hn : isN p.nodes = true) (r : Int) :
    ACalls Tryz.prog 110 [.ptr 0 0, .d (.int .i64 r)] [.cells (p.cs.map AV.d ++ [.d .nils])] (fun av L => av = .d (.bool (fullB p r)) ∧ L = [.cells (p.cs.map AV.d ++ [.d .nils])]) := by
  have hnn := of_decide_eq_true hn
  have h1 := rRound_ok p.dag (by unfold few; omega) hl hc r
  have h2 := rQuorum_ok p.nodes (by omega)
  have hol := certsD_length (ofR p.dag.certs r)
  refine acalls_go ttOk zOk foOk Tryz.func110 rfl Tryz.ntmps110 rfl true rfl ?_
  conv => whnf
  refine rdw ?_; repeat' ((with_reducible apply tw) <;> intro _)
  ((with_reducible refine draw_pl ttOk zOk foOk mixedOk pl110x1 ?_ ?_); (focus kernel_rfl); (conv => whnf))
  repeat' (first | (first | ((with_reducible first | apply rd_intro | apply gd_and); (focus ((conv => whnf) <;> first | rfl | (intro K hK; (conv => whnf); first | exact hK | exact z_wrap (by omega) hK))); conv => whnf) | ((with_reducible apply z_wrap); (focus omega); conv => whnf) | ((with_reducible first | apply mt_dec | apply mt_eq | apply mt_ne | apply mt_not | apply mt_any) <;> (intro _; conv => whnf))) | (refine (h1).mono ?_; rintro _ _ ⟨rfl, rfl⟩; (conv => whnf)) | (refine (h2).mono ?_; rintro _ _ ⟨rfl, rfl⟩; (conv => whnf)) | fail)
  refine ⟨congrArg (fun b => AV.d (.bool b)) ?_, rfl⟩
  unfold fullB quo
  rw [decide_eq_decide]
  show (((certsD (ofR p.dag.certs r)).length : Nat) : Int) ≥ _ ↔ _
  rw [hol]
theorem open20_ok (p : Prim) (hl : p.dag.certs.length ≤ 1099511627776) (hc : ∀ c ∈ p.dag.certs, c.tiny) (hn : isN p.nodes = true) (hr : 1 ≤ p.round ∧ p.round ≤ 1099511627776) :
    ACalls Tryz.prog 56 [p.av] [] (fun av L => av = .d (.bool (readyB p)) ∧ L = []) := by
  have h1 := full20_ok p hl hc hn (p.round - 1)
  unfold readyB
  refine acalls_go ttOk zOk foOk Tryz.func56 rfl Tryz.ntmps56 rfl false rfl ?_
  conv => whnf
  refine rdw ?_; repeat' ((with_reducible apply tw) <;> intro _)
  · rename_i e1 e2
    replace e1 : p.said < p.round := e1
    replace e2 : p.round = 1 := e2
    exact ⟨congrArg (fun b => AV.d (.bool b)) (by rw [decide_eq_true e1, decide_eq_true e2]; rfl), rfl⟩
  · rename_i e1 e2
    replace e1 : p.said < p.round := e1
    replace e2 : p.round ≠ 1 := e2
    refine h1.mono ?_
    rintro _ _ ⟨rfl, rfl⟩
    conv => whnf
    exact ⟨congrArg (fun b => AV.d (.bool b)) (by rw [decide_eq_true e1, decide_eq_false e2]; simp), rfl⟩
  · rename_i e1
    replace e1 : ¬ p.said < p.round := e1
    exact ⟨congrArg (fun b => AV.d (.bool b)) (by rw [decide_eq_false e1]; rfl), rfl⟩
def paSt (p : Prim) : Bool → Nat → AF × List AB
  | true, i => ([(1, .ptr 0 0), (3, .arr 1), (4, .d (.int .i64 i))], [.cells (p.cs.map AV.d), .row 3 1 [] false])
  | false, i => ([(1, .ptr 0 0), (3, .d (.sl 1 (nums (parsI p i)))), (4, .d (.int .i64 i))], [.cells (p.cs.map AV.d)])
theorem parents20_ok (p : Prim) (hl : p.dag.certs.length ≤ 100000) (hr : 1 ≤ p.round ∧ p.round ≤ 1099511627776) :
    ACalls Tryz.prog 57 [p.av] [] (fun av L => av = .d (.sl 1 (nums (foldW (parsF p)))) ∧ L = []) := by
  have hcl := certsD_length p.dag.certs
  refine acalls_go ttOk zOk foOk Tryz.func57 rfl Tryz.ntmps57 rfl false rfl ?_
  conv => whnf
  refine loop_go2 ttOk zOk foOk (σ := Bool) (ρ := Nat) (paSt p) (fun b i => i ≤ p.dag.certs.length ∧ (b = true → parsI p i = [])) (fun _ i => p.dag.certs.length - i) [1, 3, 4] ?_ ?_
  · conv => whnf
    exact ⟨true, 0, rfl, rfl, Nat.zero_le _, fun _ => rfl⟩
  · rintro b i ⟨hi, hb⟩
    have hpl := parsI_len p i
    cases b with
    | true =>
      have he := hb rfl
      conv => whnf
      refine rdw ?_; repeat' ((with_reducible apply tw) <;> intro _)
      · rename_i hil
        replace hil : (i : Int) < ((certsD p.dag.certs).length : Int) := hil
        refine Exists.elim (⟨_, List.getElem?_eq_getElem (by omega)⟩ : ∃ c, p.dag.certs[i]? = some c) fun c hc => ?_
        have hsn := parsI_snoc hc
        have hw := with_full (parsI p i) (by unfold tiny; omega) (foldW_rising _) c.digest
        rw [he] at hw hsn
        ((with_reducible refine draw_pl ttOk zOk foOk mixedOk pl57x5 ?_ ?_); (focus kernel_rfl); (conv => whnf))
        repeat' (first | (first | ((with_reducible first | apply rd_intro | apply gd_and); (focus ((conv => whnf) <;> first | rfl | (intro K hK; (conv => whnf); first | exact hK | exact z_wrap (by omega) hK))); conv => whnf) | ((with_reducible apply z_wrap); (focus omega); conv => whnf) | ((with_reducible first | apply mt_dec | apply mt_eq | apply mt_ne | apply mt_not | apply mt_any) <;> (intro _; conv => whnf))) | ((with_reducible apply rd_intro); (focus (intro K hK; (conv => whnf); exact ⟨by omega, c.cs, certsD_at hc, hK⟩)); (conv => whnf)) | ((with_reducible apply rd_intro); (focus (intro K hK; (conv => whnf); exact ix_map hc (by first | rfl | omega) hK)); (conv => whnf)) | fail)
        · rename_i hcr
          replace hcr : c.round = p.round - 1 := hcr
          rw [if_pos hcr] at hsn
          refine ⟨by omega, c.cs, certsD_at hc, ?_⟩
          conv => whnf
          refine rdw ?_; repeat' ((with_reducible apply tw) <;> intro _)
          (refine Or.inl ?_; (conv => whnf))
          refine hw.mono ?_
          rintro _ _ ⟨rfl, rfl⟩
          conv => whnf
          refine rdw ?_; repeat' ((with_reducible apply tw) <;> intro _)
          exact ⟨false, i + 1, by rw [← hsn]; rfl, rfl, ⟨by omega, fun h => (by cases h)⟩, by omega⟩
        · rename_i hcr
          replace hcr : c.round ≠ p.round - 1 := hcr
          rw [if_neg hcr] at hsn
          exact ⟨true, i + 1, rfl, rfl, ⟨by omega, fun _ => hsn⟩, by omega⟩
      · rename_i hil
        replace hil : ¬ (i : Int) < ((certsD p.dag.certs).length : Int) := hil
        refine ⟨?_, rfl⟩
        rw [parsI_all (by omega)] at he
        rw [he]
        rfl
    | false =>
      conv => whnf
      refine rdw ?_; repeat' ((with_reducible apply tw) <;> intro _)
      · rename_i hil
        replace hil : (i : Int) < ((certsD p.dag.certs).length : Int) := hil
        refine Exists.elim (⟨_, List.getElem?_eq_getElem (by omega)⟩ : ∃ c, p.dag.certs[i]? = some c) fun c hc => ?_
        have hsn := parsI_snoc hc
        have hw := with_full (parsI p i) (by unfold tiny; omega) (foldW_rising _) c.digest
        ((with_reducible refine draw_pl ttOk zOk foOk mixedOk pl57x5 ?_ ?_); (focus kernel_rfl); (conv => whnf))
        repeat' (first | (first | ((with_reducible first | apply rd_intro | apply gd_and); (focus ((conv => whnf) <;> first | rfl | (intro K hK; (conv => whnf); first | exact hK | exact z_wrap (by omega) hK))); conv => whnf) | ((with_reducible apply z_wrap); (focus omega); conv => whnf) | ((with_reducible first | apply mt_dec | apply mt_eq | apply mt_ne | apply mt_not | apply mt_any) <;> (intro _; conv => whnf))) | ((with_reducible apply rd_intro); (focus (intro K hK; (conv => whnf); exact ⟨by omega, c.cs, certsD_at hc, hK⟩)); (conv => whnf)) | ((with_reducible apply rd_intro); (focus (intro K hK; (conv => whnf); exact ix_map hc (by first | rfl | omega) hK)); (conv => whnf)) | fail)
        · rename_i hcr
          replace hcr : c.round = p.round - 1 := hcr
          rw [if_pos hcr] at hsn
          refine ⟨by omega, c.cs, certsD_at hc, ?_⟩
          conv => whnf
          refine rdw ?_; repeat' ((with_reducible apply tw) <;> intro _)
          refine hw.mono ?_
          rintro _ _ ⟨rfl, rfl⟩
          conv => whnf
          refine rdw ?_; repeat' ((with_reducible apply tw) <;> intro _)
          exact ⟨false, i + 1, by rw [← hsn]; rfl, rfl, ⟨by omega, fun h => (by cases h)⟩, by omega⟩
        · rename_i hcr
          replace hcr : c.round ≠ p.round - 1 := hcr
          rw [if_neg hcr] at hsn
          exact ⟨false, i + 1, by rw [← hsn]; rfl, rfl, ⟨by omega, fun h => (by cases h)⟩, by omega⟩
      · rename_i hil
        replace hil : ¬ (i : Int) < ((certsD p.dag.certs).length : Int) := hil
        refine ⟨?_, rfl⟩
        show AV.d (.sl 1 (nums (parsI p i))) = _
        rw [parsI_all (by omega)]
def noH (e : Int) : AV := .tup [.agg [.d (.int .i64 0), .d (.int .i64 0), .d .nils, .d .nils], .d (.int .i64 e)]
theorem digs_iff (l : List Int) : (∀ x ∈ l, 1 ≤ x ∧ x ≤ 65536) ↔ digsB l = true := by
  unfold digsB
  rw [List.all_eq_true]
  simp only [decide_eq_true_iff]
def rmSt (p : Prim) (l : List Int) (i : Nat) : AF × List AB := ([(1, .d (.sl 1 (nums l))), (4, .ptr 0 0), (6, .ptr 1 0), (7, .d (.int .i64 i))], [.cells [.d (.int .i64 0), .d (.int .i64 0), .d .nils, .d .nils], .cells [.d (.int .i64 p.id), .d (.int .i64 p.round), .d (.sl 1 (nums (foldW (batsF (l.take i))))), .d (.sl 1 (nums (foldW (parsF p))))]])
open Classical in
theorem rMake_ok (p : Prim) (hm : May p) (hl : p.dag.certs.length ≤ 100000) (hc : ∀ c ∈ p.dag.certs, c.tiny) (l : List Int) (hll : few l) :
    ACalls Tryz.prog 15 [p.av, .d (.sl 1 (nums l))] [] (fun av L => ((digsB l = false ∧ av = noH 1) ∨ (digsB l = true ∧ readyB p = false ∧ av = noH 10) ∨ (digsB l = true ∧ readyB p = true ∧ av = .tup [(headC p l).hav, .d (.int .i64 0)])) ∧ L = []) := by
  have h1 := rDigests_ok l hll
  have h2 := open20_ok p (by omega) hc hm.isn hm.round
  have h3 := parents20_ok p hl hm.round
  have hnl := nums_length l
  have hll' := hll
  unfold few at hll'
  refine acalls_go ttOk zOk foOk Tryz.func15 rfl Tryz.ntmps15 rfl false rfl ?_
  conv => whnf
  refine h1.mono ?_
  rintro _ _ ⟨rfl, rfl⟩
  cases hd : digsB l with
  | false =>
    have hd2 : ¬ ∀ x ∈ l, 1 ≤ x ∧ x ≤ 65536 := fun h => by rw [(digs_iff l).1 h] at hd; cases hd
    rw [decide_eq_false hd2]
    conv => whnf
    refine rdw ?_; repeat' ((with_reducible apply tw) <;> intro _)
    exact ⟨.inl ⟨rfl, rfl⟩, rfl⟩
  | true =>
    rw [decide_eq_true ((digs_iff l).2 hd)]
    conv => whnf
    refine rdw ?_; repeat' ((with_reducible apply tw) <;> intro _)
    refine h2.mono ?_
    rintro _ _ ⟨rfl, rfl⟩
    cases hr : readyB p with
    | false =>
      conv => whnf
      refine rdw ?_; repeat' ((with_reducible apply tw) <;> intro _)
      exact ⟨.inr (.inl ⟨rfl, rfl, rfl⟩), rfl⟩
    | true =>
      conv => whnf
      refine rdw ?_; repeat' ((with_reducible apply tw) <;> intro _)
      ((with_reducible refine draw_pl ttOk zOk foOk mixedOk pl15x5 ?_ ?_); (focus kernel_rfl); (conv => whnf))
      repeat' (first | (first | ((with_reducible first | apply rd_intro | apply gd_and); (focus ((conv => whnf) <;> first | rfl | (intro K hK; (conv => whnf); first | exact hK | exact z_wrap (by omega) hK))); conv => whnf) | ((with_reducible apply z_wrap); (focus omega); conv => whnf) | ((with_reducible first | apply mt_dec | apply mt_eq | apply mt_ne | apply mt_not | apply mt_any) <;> (intro _; conv => whnf))) | ((with_reducible apply rd_intro); (focus (intro K hK; (conv => whnf); refine h3.mono ?_; rintro _ _ ⟨rfl, rfl⟩; (conv => whnf); exact hK)); (conv => whnf)) | ((with_reducible apply gd_and); (focus ((conv => whnf); intro K hK; (conv => whnf); refine h3.mono ?_; rintro _ _ ⟨rfl, rfl⟩; (conv => whnf); exact hK)); (conv => whnf)) | fail)
      refine aw_nilsL [(2, 2, 1)] rfl ?_
      refine loop_go ttOk zOk foOk (σ := Nat) (rmSt p l) (fun i => i ≤ l.length) (fun i => l.length - i) [1, 4, 6, 7] ?_ ?_
      · conv => whnf
        exact ⟨0, rfl, rfl, Nat.zero_le _⟩
      · intro i hi
        have hbl : (foldW (batsF (l.take i))).length ≤ 8 := by rw [foldW_len (batsF_nodup _)]; exact batsF_len _
        have hbn := nums_length (foldW (batsF (l.take i)))
        have hfin : ¬ (foldW (batsF (l.take i))).length < 8 ∨ l.length ≤ i → AV.tup [.agg [.d (.int .i64 p.id), .d (.int .i64 p.round), .d (.sl 1 (nums (foldW (batsF (l.take i))))), .d (.sl 1 (nums (foldW (parsF p))))], .d (.int .i64 0)] = .tup [(headC p l).hav, .d (.int .i64 0)] := fun h => by
          rw [bats_end h, pars_end hm.dag.dig]
          rfl
        conv => whnf
        refine rdw ?_; repeat' ((with_reducible apply tw) <;> intro _)
        · rename_i k1 k2
          replace k1 : (i : Int) < ((nums l).length : Int) := k1
          replace k2 : ((nums (foldW (batsF (l.take i)))).length : Int) < 8 := k2
          refine Exists.elim (⟨_, List.getElem?_eq_getElem (by omega)⟩ : ∃ d, l[i]? = some d) fun d hd => ?_
          have hw := with_full (foldW (batsF (l.take i))) (by unfold tiny; omega) (foldW_rising _) d
          have hsn := bats_step (l := l.take i) (d := d) (by omega)
          rw [← take_snoc hd] at hsn
          rw [← hsn] at hw
          ((with_reducible refine draw_pl ttOk zOk foOk mixedOk pl15x9 ?_ ?_); (focus kernel_rfl); (conv => whnf))
          repeat' (first | (first | ((with_reducible first | apply rd_intro | apply gd_and); (focus ((conv => whnf) <;> first | rfl | (intro K hK; (conv => whnf); first | exact hK | exact z_wrap (by omega) hK))); conv => whnf) | ((with_reducible apply z_wrap); (focus omega); conv => whnf) | ((with_reducible first | apply mt_dec | apply mt_eq | apply mt_ne | apply mt_not | apply mt_any) <;> (intro _; conv => whnf))) | ((with_reducible apply rd_intro); (focus (intro K hK; (conv => whnf); exact ix_map hd (by first | rfl | omega) hK)); (conv => whnf)) | ((with_reducible apply rd_intro); (focus (intro K hK; (conv => whnf); exact ⟨by omega, [.int .i64 d], nums_at hd, hK⟩)); (conv => whnf)) | ((with_reducible apply rd_intro); (focus (intro K hK; (conv => whnf); refine hw.mono ?_; rintro _ _ ⟨rfl, rfl⟩; (conv => whnf); exact hK)); (conv => whnf)) | ((with_reducible apply gd_and); (focus ((conv => whnf); intro K hK; (conv => whnf); refine hw.mono ?_; rintro _ _ ⟨rfl, rfl⟩; (conv => whnf); exact hK)); (conv => whnf)) | fail)
          (refine (hw).mono ?_; rintro _ _ ⟨rfl, rfl⟩; (conv => whnf))
          refine rdw ?_; repeat' ((with_reducible apply tw) <;> intro _)
          exact ⟨i + 1, rfl, rfl, (show i + 1 ≤ l.length by omega), (show l.length - (i + 1) < l.length - i by omega)⟩
        · rename_i k1 k2
          replace k2 : ¬ ((nums (foldW (batsF (l.take i)))).length : Int) < 8 := k2
          exact ⟨.inr (.inr ⟨rfl, rfl, hfin (.inl (by omega))⟩), rfl⟩
        · rename_i k1
          replace k1 : ¬ (i : Int) < ((nums l).length : Int) := k1
          exact ⟨.inr (.inr ⟨rfl, rfl, hfin (.inr (by omega))⟩), rfl⟩
end Go.Proofs.YtpgnaajkeeenbaaGreat
namespace Go.Ab
open Go.RowKit
theorem acalls_nil22 {P : Program} {f : FuncId} {x y : AV} {e n : Nat} (hn : 0 < n) {post : AV → List AB → Prop} (h : ACalls P f [.agg [x, y, .arr 0, .arr 1]] [.row e n [] false, .row e n [] false] post) : ACalls P f [.agg [x, y, .d .nils, .d .nils]] [] post := by
  intro c vs hc hL hs hv
  obtain ⟨hs1, hle1⟩ := hs.nilRow hc e n false hn
  obtain ⟨hs2, hle2⟩ := hs1.nilRow hc e n false hn
  simp only [List.length_nil, List.nil_append, List.length_cons, List.cons_append, Nat.zero_add] at hs1 hle1 hs2 hle2
  have hle := hle1.trans hle2
  have hs3 : SimH { c with E0 := Eupd (Eupd c.E0 0 none) 1 none, L0 := [.row e n [] false, .row e n [] false] } (Eupd (Eupd c.E0 0 none) 1 none) [.row e n [] false, .row e n [] false] c.w0 :=
    ⟨hs2.os, hs2.tape, hs2.output, hs2.size, hs2.prot, hs2.blk, hs2.low, hs2.inj, RC.le.refl _, hs2.bx⟩
  refine (h { c with E0 := Eupd (Eupd c.E0 0 none) 1 none, L0 := [.row e n [] false, .row e n [] false] } vs ⟨hc.low, hc.sub⟩ rfl hs3 ?_).mono ?_
  · simp only [VRt, VR, VRs, VD] at hv ⊢
    obtain ⟨u1, r1, h1, ⟨us, rfl, w1, s1, h3, o1, v1, w2, s2, h4, o2, v2, w3, s3, h5, o3, rfl, w4, s4, h6, o4, rfl, rfl⟩, rfl⟩ := hv
    refine ⟨_, _, h1, ⟨us, rfl, w1, s1, h3, o1, VR.mono hle _ _ v1, w2, s2, h4, o2, VR.mono hle _ _ v2, _, s3, h5, o3, ?_, _, _, h6, o4, ?_, rfl⟩, rfl⟩
    · exact ⟨_, rfl, by simp [arRel, Eupd]⟩
    · exact ⟨_, rfl, by simp [arRel, Eupd]⟩
  · rintro e w' ⟨v, av, L', E', h1, h2, h3, h4⟩
    refine ⟨v, av, L', E', h1, h2, ⟨h3.os, h3.tape, h3.output, h3.size, h3.prot, h3.blk, h3.low, h3.inj, ?_, h3.bx⟩, h4⟩
    rw [hL]
    exact hle.trans h3.old
end Go.Ab
namespace Go.Proofs.YtpgnaajkeeenbaaGreat
open Go.Ab Go.RowKit Go.MapKept
attribute [local irreducible] ACalls AW ADraw Into fltB fnear
set_option maxRecDepth 100000
theorem eqVotes_same (l : List Vote) (hl : few l) : ACalls Tryz.prog 65 [.d (.sl 3 (votesD l)), .d (.sl 3 (votesD l))] [] (fun av L => av = .d (.bool true) ∧ L = []) := by
  have hcl := votesD_length l
  unfold few at hl
  refine acalls_go ttOk zOk foOk Tryz.func65 rfl Tryz.ntmps65 rfl false rfl ?_
  conv => whnf
  refine rdw ?_; repeat' ((with_reducible apply tw) <;> intro _)
  · rename_i hx; exact absurd rfl hx
  · refine loop_go ttOk zOk foOk (σ := Nat) (fun k => ([(0, .d (.sl 3 (votesD l))), (1, .d (.sl 3 (votesD l))), (5, .d (.int .i64 k))], [])) (fun k => k ≤ l.length) (fun k => l.length - k) [0, 1, 5] ?_ ?_
    · conv => whnf
      exact ⟨0, rfl, rfl, by omega⟩
    · intro k hk
      conv => whnf
      rw [hcl]
      refine rdw ?_; repeat' ((with_reducible apply tw) <;> intro _)
      · rename_i hkl
        refine Exists.elim (⟨_, List.getElem?_eq_getElem (by omega)⟩ : ∃ c, l[k]? = some c) fun c hc => ?_
        ((with_reducible refine draw_pl ttOk zOk foOk mixedOk pl65x6 ?_ ?_); (focus kernel_rfl); (conv => whnf))
        repeat' (first | (first | ((with_reducible first | apply rd_intro | apply gd_and); (focus ((conv => whnf) <;> first | rfl | (intro K hK; (conv => whnf); first | exact hK | exact z_wrap (by omega) hK))); conv => whnf) | ((with_reducible apply z_wrap); (focus omega); conv => whnf) | ((with_reducible first | apply mt_dec | apply mt_eq | apply mt_ne | apply mt_not | apply mt_any) <;> (intro _; conv => whnf))) | ((with_reducible apply rd_intro); (focus (intro K hK; (conv => whnf); exact ⟨by omega, c.cs, votesD_at hc, hK⟩)); (conv => whnf)) | ((with_reducible apply rd_intro); (focus (intro K hK; (conv => whnf); exact ix_map hc (by first | rfl | omega) hK)); (conv => whnf)) | ((with_reducible apply rd_intro); (focus (intro K hK; (conv => whnf); exact ⟨eqVote_ok, hK⟩)); (conv => whnf)) | fail)
        · rename_i hx
          exfalso
          simp at hx
        · exact ⟨k + 1, rfl, rfl, by omega, by omega⟩
      · exact ⟨rfl, rfl⟩
theorem eqPrim_same (p : Prim) (h : p.ok) (hd : few p.dag.certs ∧ ∀ c ∈ p.dag.certs, fewL c) (hl : few p.late ∧ ∀ c ∈ p.late, fewL c) (hv : few p.votes) (ha : few p.acks) (hm : few p.mine.bats ∧ few p.mine.pars) :
    ACalls Tryz.prog 20 [p.av, p.av] [] (fun av L => av = .d (.bool true) ∧ L = []) := by
  have h1 := eqHeader_ok p.mine p.mine hm
  have h2 := eqNumbers_ok p.acks p.acks ha
  have h3 := eqVotes_same p.votes hv
  have h4 := eqDag_same p.dag hd.1 hd.2
  have h5 := eqCerts_same p.late hl.1 hl.2
  rw [decide_eq_true ⟨rfl, rfl, rfl, rfl⟩] at h1
  rw [decide_eq_true rfl] at h2
  refine acalls_go ttOk zOk foOk Tryz.func20 rfl Tryz.ntmps20 rfl false rfl ?_
  conv => whnf
  repeat' (first | (first | ((with_reducible first | apply rd_intro | apply gd_and); (focus ((conv => whnf) <;> first | rfl | (intro K hK; (conv => whnf); first | exact hK | exact z_wrap (by omega) hK))); conv => whnf) | ((with_reducible apply z_wrap); (focus omega); conv => whnf) | ((with_reducible first | apply mt_dec | apply mt_eq | apply mt_ne | apply mt_not | apply mt_any) <;> (intro _; conv => whnf))) | (refine (h1).mono ?_; rintro _ _ ⟨rfl, rfl⟩; (conv => whnf)) | (refine (h2).mono ?_; rintro _ _ ⟨rfl, rfl⟩; (conv => whnf)) | (refine (h3).mono ?_; rintro _ _ ⟨rfl, rfl⟩; (conv => whnf)) | (refine (h4).mono ?_; rintro _ _ ⟨rfl, rfl⟩; (conv => whnf)) | (refine (h5).mono ?_; rintro _ _ ⟨rfl, rfl⟩; (conv => whnf)) | fail)
  all_goals first
    | exact ⟨rfl, rfl⟩
    | (rename_i hx; exact absurd rfl hx)
theorem spoilH_ok (a r : Int) (xs ys : List Int) (hx : xs.length ≤ 8000000000) (hy : ys.length ≤ 8000000000) : ACalls Tryz.prog 22 [.agg [.d (.int .i64 a), .d (.int .i64 r), .arr 0, .arr 1]] [.row 3 1 (nums xs) false, .row 3 1 (nums ys) false] (fun av L => av = .tup [] ∧ L = [.dead, .dead]) := by
  have h1 := spoil_ok xs hx
  have h2 := spoil_ok ys hy
  refine acalls_go ttOk zOk foOk Tryz.func22 rfl Tryz.ntmps22 rfl true rfl ?_
  conv => whnf
  refine rdw ?_; repeat' ((with_reducible apply tw) <;> intro _)
  (refine Or.inr ?_; (conv => whnf))
  (refine (h1).mono ?_; rintro _ _ ⟨rfl, rfl⟩; (conv => whnf))
  refine rdw ?_; repeat' ((with_reducible apply tw) <;> intro _)
  (refine Or.inr ?_; (conv => whnf))
  (refine (h2).mono ?_; rintro _ _ ⟨rfl, rfl⟩; (conv => whnf))
  refine rdw ?_; repeat' ((with_reducible apply tw) <;> intro _)
  exact ⟨rfl, rfl⟩
theorem spoilH_nil : ACalls Tryz.prog 22 [.agg [.d (.int .i64 0), .d (.int .i64 0), .d .nils, .d .nils]] [] (fun av L => av = .tup [] ∧ L = [.dead, .dead]) :=
  acalls_nil22 (by decide) (spoilH_ok 0 0 [] [] (Nat.zero_le _) (Nat.zero_le _))
theorem eqHeaderN : ACalls Tryz.prog 19 [.agg [.d (.int .i64 0), .d (.int .i64 0), .d .nils, .d .nils], .agg [.d (.int .i64 0), .d (.int .i64 0), .d .nils, .d .nils]] [] (fun av L => av = .d (.bool true) ∧ L = []) := by
  have h1 := eqHeader_ok cz0 cz0 ⟨Nat.zero_le _, Nat.zero_le _⟩
  rw [decide_eq_true ⟨rfl, rfl, rfl, rfl⟩] at h1
  have e : NW (.agg [.d (.int .i64 0), .d (.int .i64 0), .d .nils, .d .nils]) cz0.hav := .agg (.cons (.refl _) (.cons (.refl _) (.cons (.nils 1 (by decide)) (.cons (.nils 1 (by decide)) .nil))))
  exact acalls_nw h1 (.cons e (.cons e .nil))
theorem eqHeaderA (h : Cert) (hf : few h.bats ∧ few h.pars) : ACalls Tryz.prog 19 [.agg [.d (.int .i64 h.author), .d (.int .i64 h.round), .arr 0, .arr 1], h.hav] [.row 3 1 (nums h.bats) false, .row 3 1 (nums h.pars) false]
    (fun av L => av = .d (.bool true) ∧ L = [.row 3 1 (nums h.bats) false, .row 3 1 (nums h.pars) false]) := by
  have h1 := eqHeader_ok h h hf
  rw [decide_eq_true ⟨rfl, rfl, rfl, rfl⟩] at h1
  exact acalls_lend (flat_bool _) ⟨_, _, rfl, .inr ⟨_, _, rfl, rfl, _, _, rfl, .inl ⟨_, rfl, rfl⟩, _, _, rfl, .inl ⟨_, rfl, rfl⟩, _, _, rfl, .inr (.inl ⟨0, _, _, _, _, rfl, rfl, rfl⟩), _, _, rfl, .inr (.inl ⟨1, _, _, _, _, rfl, rfl, rfl⟩), rfl⟩,
    _, _, rfl, .inr ⟨_, _, rfl, rfl, _, _, rfl, .inl ⟨_, rfl, rfl⟩, _, _, rfl, .inl ⟨_, rfl, rfl⟩, _, _, rfl, .inl ⟨_, rfl, rfl⟩, _, _, rfl, .inl ⟨_, rfl, rfl⟩, rfl⟩, rfl⟩ h1
end Go.Proofs.YtpgnaajkeeenbaaGreat
namespace Go.Proofs.YtpgnaajkeeenbaaGreat
open Go.Ab Go.RowKit Go.MapKept
attribute [local irreducible] ACalls AW ADraw Into fltB fnear
set_option maxRecDepth 100000
set_option maxHeartbeats 4000000 in
open Classical in
theorem step0_ok (p : Prim) (hok : p.ok) (ht : p.tiny) (hdl : p.dag.certs.length ≤ 100000) (hm : few p.mine.bats ∧ few p.mine.pars) (hfd : few p.dag.certs ∧ ∀ c ∈ p.dag.certs, fewL c) (hfl : few p.late ∧ ∀ c ∈ p.late, fewL c) (hv : few p.votes) (ha : few p.acks) (a : Act) (hl : tiny a.l) (h0 : a.doo = 0) :
    ACalls Tryz.prog 6 [p.av, .agg (a.cs.map AV.d)] [] (fun av L => av = .tup [p.av, .d (.bool true)] ∧ L = []) := by
  have hlf : few a.l := by unfold few; unfold tiny at hl; omega
  have h1 := copyPrim_ok p ht
  have h2 := rMay20_ok p hok
  have h3 := within_ok a.doo 10 (by decide) (by decide) (by rw [h0]; decide)
  have h4 := copyNumbers_ok a.l hl
  have h5 := make_full p hok hdl a.l hlf
  have h6 := eqPrim_same p hok hfd hfl hv ha hm
  have h7 := eqNumbers_ok a.l a.l hlf
  rw [decide_eq_true rfl] at h7
  rw [show a.doo % 18446744073709551616 % 10 = 0 by rw [h0]; decide] at h3
  refine acalls_go ttOk zOk foOk Tryz.func6 rfl Tryz.ntmps6 rfl false rfl ?_
  conv => whnf
  refine h1.mono ?_
  rintro _ _ ⟨rfl, rfl⟩
  conv => whnf
  refine rdw ?_; repeat' ((with_reducible apply tw) <;> intro _)
  refine h2.mono ?_
  rintro _ _ ⟨rfl, rfl⟩
  by_cases k1 : May p
  · rw [decide_eq_true k1]
    have h8 := rMake_ok p k1 hdl ht.dag.2 a.l hlf
    conv => whnf
    refine rdw ?_; repeat' ((with_reducible apply tw) <;> intro _)
    (refine (h3).mono ?_; rintro _ _ ⟨rfl, rfl⟩; (conv => whnf))
    refine rdw ?_; repeat' ((with_reducible apply tw) <;> intro _)
    refine h8.mono ?_
    rintro _ _ ⟨⟨k2, rfl⟩ | ⟨k2, k3, rfl⟩ | ⟨k2, k3, rfl⟩, rfl⟩
    · conv => whnf
      refine rdw ?_; repeat' ((with_reducible apply tw) <;> intro _)
      (refine (h4).mono ?_; rintro _ _ ⟨rfl, rfl⟩; (conv => whnf))
      refine rdw ?_; repeat' ((with_reducible apply tw) <;> intro _)
      refine h5.mono ?_
      rintro _ _ ⟨⟨k, _⟩ | ⟨k, _⟩ | ⟨_, rfl⟩, rfl⟩
      · rw [k2] at k
        exact absurd k.2 (by decide)
      · rw [k2] at k
        exact absurd k.2 (by decide)
      conv => whnf
      refine rdw ?_; repeat' ((with_reducible apply tw) <;> intro _)
      (refine (num20_ok 1).mono ?_; rintro _ _ ⟨rfl, rfl⟩; (conv => whnf))
      refine rdw ?_; repeat' ((with_reducible apply tw) <;> intro _)
      (refine (eqHeaderN).mono ?_; rintro _ _ ⟨rfl, rfl⟩; (conv => whnf))
      refine rdw ?_; repeat' ((with_reducible apply tw) <;> intro _)
      (refine (h6).mono ?_; rintro _ _ ⟨rfl, rfl⟩; (conv => whnf))
      refine rdw ?_; repeat' ((with_reducible apply tw) <;> intro _)
      (refine (h7).mono ?_; rintro _ _ ⟨rfl, rfl⟩; (conv => whnf))
      refine rdw ?_; repeat' ((with_reducible apply tw) <;> intro _)
      (refine (spoilH_nil).mono ?_; rintro _ _ ⟨rfl, rfl⟩; (conv => whnf))
      refine rdw ?_; repeat' ((with_reducible apply tw) <;> intro _)
      ((with_reducible refine draw_pl ttOk zOk foOk mixedOk pl6x30 ?_ ?_); (focus kernel_rfl); (conv => whnf))
      repeat' (first | (first | ((with_reducible first | apply rd_intro | apply gd_and); (focus ((conv => whnf) <;> first | rfl | (intro K hK; (conv => whnf); first | exact hK | exact z_wrap (by omega) hK))); conv => whnf) | ((with_reducible apply z_wrap); (focus omega); conv => whnf) | ((with_reducible first | apply mt_dec | apply mt_eq | apply mt_ne | apply mt_not | apply mt_any) <;> (intro _; conv => whnf))) | ((with_reducible apply rd_intro); (focus (intro K hK; (conv => whnf); refine h6.mono ?_; rintro _ _ ⟨rfl, rfl⟩; (conv => whnf); exact hK)); (conv => whnf)) | ((with_reducible apply gd_and); (focus ((conv => whnf); intro K hK; (conv => whnf); refine h6.mono ?_; rintro _ _ ⟨rfl, rfl⟩; (conv => whnf); exact hK)); (conv => whnf)) | (refine (h6).mono ?_; rintro _ _ ⟨rfl, rfl⟩; (conv => whnf)) | fail)
      exact ⟨rfl, rfl⟩
    · conv => whnf
      refine rdw ?_; repeat' ((with_reducible apply tw) <;> intro _)
      (refine (h4).mono ?_; rintro _ _ ⟨rfl, rfl⟩; (conv => whnf))
      refine rdw ?_; repeat' ((with_reducible apply tw) <;> intro _)
      refine h5.mono ?_
      rintro _ _ ⟨⟨_, k, _⟩ | ⟨_, _, rfl⟩ | ⟨k, _⟩, rfl⟩
      · rw [k3] at k
        exact absurd k (by decide)
      · conv => whnf
        refine rdw ?_; repeat' ((with_reducible apply tw) <;> intro _)
        (refine (num20_ok 10).mono ?_; rintro _ _ ⟨rfl, rfl⟩; (conv => whnf))
        refine rdw ?_; repeat' ((with_reducible apply tw) <;> intro _)
        (refine (eqHeaderN).mono ?_; rintro _ _ ⟨rfl, rfl⟩; (conv => whnf))
        refine rdw ?_; repeat' ((with_reducible apply tw) <;> intro _)
        (refine (h6).mono ?_; rintro _ _ ⟨rfl, rfl⟩; (conv => whnf))
        refine rdw ?_; repeat' ((with_reducible apply tw) <;> intro _)
        (refine (h7).mono ?_; rintro _ _ ⟨rfl, rfl⟩; (conv => whnf))
        refine rdw ?_; repeat' ((with_reducible apply tw) <;> intro _)
        (refine (spoilH_nil).mono ?_; rintro _ _ ⟨rfl, rfl⟩; (conv => whnf))
        refine rdw ?_; repeat' ((with_reducible apply tw) <;> intro _)
        ((with_reducible refine draw_pl ttOk zOk foOk mixedOk pl6x30 ?_ ?_); (focus kernel_rfl); (conv => whnf))
        repeat' (first | (first | ((with_reducible first | apply rd_intro | apply gd_and); (focus ((conv => whnf) <;> first | rfl | (intro K hK; (conv => whnf); first | exact hK | exact z_wrap (by omega) hK))); conv => whnf) | ((with_reducible apply z_wrap); (focus omega); conv => whnf) | ((with_reducible first | apply mt_dec | apply mt_eq | apply mt_ne | apply mt_not | apply mt_any) <;> (intro _; conv => whnf))) | ((with_reducible apply rd_intro); (focus (intro K hK; (conv => whnf); refine h6.mono ?_; rintro _ _ ⟨rfl, rfl⟩; (conv => whnf); exact hK)); (conv => whnf)) | ((with_reducible apply gd_and); (focus ((conv => whnf); intro K hK; (conv => whnf); refine h6.mono ?_; rintro _ _ ⟨rfl, rfl⟩; (conv => whnf); exact hK)); (conv => whnf)) | (refine (h6).mono ?_; rintro _ _ ⟨rfl, rfl⟩; (conv => whnf)) | fail)
        exact ⟨rfl, rfl⟩
      · exact absurd ⟨k1, k2⟩ k
    · have h9 := make_row p hok hdl a.l hlf k1 k2 k3
      have e1 : (sortI (batsF a.l)).length ≤ 8 := by rw [sortI, List.length_mergeSort]; exact batsF_len _
      have e2 : (sortI (parsF p)).length ≤ 100000 := by
        rw [sortI, List.length_mergeSort, parsF, List.length_map, ofR]
        have := List.length_filter_le (fun c : Cert => decide (c.round = p.round - 1)) p.dag.certs
        omega
      have h10 := eqHeaderA (headC p a.l) ⟨few_le 8 e1, few_le 100000 e2⟩
      have h11 := spoilH_ok p.id p.round (sortI (batsF a.l)) (sortI (parsF p)) (by omega) (by omega)
      conv => whnf
      refine rdw ?_; repeat' ((with_reducible apply tw) <;> intro _)
      (refine (h4).mono ?_; rintro _ _ ⟨rfl, rfl⟩; (conv => whnf))
      refine rdw ?_; repeat' ((with_reducible apply tw) <;> intro _)
      (refine (h9).mono ?_; rintro _ _ ⟨rfl, rfl⟩; (conv => whnf))
      refine rdw ?_; repeat' ((with_reducible apply tw) <;> intro _)
      (refine (num20_ok 0).mono ?_; rintro _ _ ⟨rfl, rfl⟩; (conv => whnf))
      refine rdw ?_; repeat' ((with_reducible apply tw) <;> intro _)
      (refine (h10).mono ?_; rintro _ _ ⟨rfl, rfl⟩; (conv => whnf))
      refine rdw ?_; repeat' ((with_reducible apply tw) <;> intro _)
      (refine (h6).mono ?_; rintro _ _ ⟨rfl, rfl⟩; (conv => whnf))
      refine rdw ?_; repeat' ((with_reducible apply tw) <;> intro _)
      (refine (h7).mono ?_; rintro _ _ ⟨rfl, rfl⟩; (conv => whnf))
      refine rdw ?_; repeat' ((with_reducible apply tw) <;> intro _)
      (refine (h11).mono ?_; rintro _ _ ⟨rfl, rfl⟩; (conv => whnf))
      refine rdw ?_; repeat' ((with_reducible apply tw) <;> intro _)
      ((with_reducible refine draw_pl ttOk zOk foOk mixedOk pl6x30 ?_ ?_); (focus kernel_rfl); (conv => whnf))
      repeat' (first | (first | ((with_reducible first | apply rd_intro | apply gd_and); (focus ((conv => whnf) <;> first | rfl | (intro K hK; (conv => whnf); first | exact hK | exact z_wrap (by omega) hK))); conv => whnf) | ((with_reducible apply z_wrap); (focus omega); conv => whnf) | ((with_reducible first | apply mt_dec | apply mt_eq | apply mt_ne | apply mt_not | apply mt_any) <;> (intro _; conv => whnf))) | ((with_reducible apply rd_intro); (focus (intro K hK; (conv => whnf); refine h6.mono ?_; rintro _ _ ⟨rfl, rfl⟩; (conv => whnf); exact hK)); (conv => whnf)) | ((with_reducible apply gd_and); (focus ((conv => whnf); intro K hK; (conv => whnf); refine h6.mono ?_; rintro _ _ ⟨rfl, rfl⟩; (conv => whnf); exact hK)); (conv => whnf)) | (refine (h6).mono ?_; rintro _ _ ⟨rfl, rfl⟩; (conv => whnf)) | fail)
      exact ⟨rfl, rfl⟩
  · rw [decide_eq_false k1]
    conv => whnf
    refine rdw ?_; repeat' ((with_reducible apply tw) <;> intro _)
    (refine (h3).mono ?_; rintro _ _ ⟨rfl, rfl⟩; (conv => whnf))
    refine rdw ?_; repeat' ((with_reducible apply tw) <;> intro _)
    (refine (h4).mono ?_; rintro _ _ ⟨rfl, rfl⟩; (conv => whnf))
    refine rdw ?_; repeat' ((with_reducible apply tw) <;> intro _)
    refine h5.mono ?_
    rintro _ _ ⟨⟨k, _⟩ | ⟨k, _⟩ | ⟨_, rfl⟩, rfl⟩
    · exact absurd k.1 k1
    · exact absurd k.1 k1
    conv => whnf
    refine rdw ?_; repeat' ((with_reducible apply tw) <;> intro _)
    (refine (num20_ok 1).mono ?_; rintro _ _ ⟨rfl, rfl⟩; (conv => whnf))
    refine rdw ?_; repeat' ((with_reducible apply tw) <;> intro _)
    (refine (eqHeaderN).mono ?_; rintro _ _ ⟨rfl, rfl⟩; (conv => whnf))
    refine rdw ?_; repeat' ((with_reducible apply tw) <;> intro _)
    (refine (h6).mono ?_; rintro _ _ ⟨rfl, rfl⟩; (conv => whnf))
    refine rdw ?_; repeat' ((with_reducible apply tw) <;> intro _)
    (refine (h7).mono ?_; rintro _ _ ⟨rfl, rfl⟩; (conv => whnf))
    refine rdw ?_; repeat' ((with_reducible apply tw) <;> intro _)
    (refine (spoilH_nil).mono ?_; rintro _ _ ⟨rfl, rfl⟩; (conv => whnf))
    refine rdw ?_; repeat' ((with_reducible apply tw) <;> intro _)
    ((with_reducible refine draw_pl ttOk zOk foOk mixedOk pl6x30 ?_ ?_); (focus kernel_rfl); (conv => whnf))
    repeat' (first | (first | ((with_reducible first | apply rd_intro | apply gd_and); (focus ((conv => whnf) <;> first | rfl | (intro K hK; (conv => whnf); first | exact hK | exact z_wrap (by omega) hK))); conv => whnf) | ((with_reducible apply z_wrap); (focus omega); conv => whnf) | ((with_reducible first | apply mt_dec | apply mt_eq | apply mt_ne | apply mt_not | apply mt_any) <;> (intro _; conv => whnf))) | ((with_reducible apply rd_intro); (focus (intro K hK; (conv => whnf); refine h6.mono ?_; rintro _ _ ⟨rfl, rfl⟩; (conv => whnf); exact hK)); (conv => whnf)) | ((with_reducible apply gd_and); (focus ((conv => whnf); intro K hK; (conv => whnf); refine h6.mono ?_; rintro _ _ ⟨rfl, rfl⟩; (conv => whnf); exact hK)); (conv => whnf)) | (refine (h6).mono ?_; rintro _ _ ⟨rfl, rfl⟩; (conv => whnf)) | fail)
    exact ⟨rfl, rfl⟩
def onSt6 (s : Script) (i : Nat) : AF × List AB := ([(1, .d (.int .i64 0)), (2, .ptr 0 0), (5, .d (.int .i64 i))], [.cells (s.cs.map AV.d)])
def Act.zero (a : Act) : Act := { a with doo := 0 }
set_option maxHeartbeats 4000000 in
open Classical in
theorem only0_ok (s : Script) (hs : s.okk) : ACalls Tryz.prog 4 [s.av, .d (.int .i64 0)] [] (fun av L => av = .d (.bool true) ∧ L = []) := by
  have hh := heavyS_full s hs.oks
  have hok := hs.oks.ok
  have hal := actsD_length s.acts
  have hpok : s.p.ok := ⟨hok.mine, by rw [hs.gh.2]; exact Nat.zero_le _, hok.acks, hok.votes, hok.dag, hok.late⟩
  refine acalls_go ttOk zOk foOk Tryz.func4 rfl Tryz.ntmps4 rfl false rfl ?_
  conv => whnf
  refine rdz ?_; repeat' ((with_reducible apply tw) <;> intro _)
  refine hh.mono ?_
  rintro _ _ ⟨⟨b, rfl, hb⟩, rfl⟩
  cases b with
  | true =>
    conv => whnf
    refine rdz ?_; repeat' ((with_reducible apply tw) <;> intro _)
    exact ⟨rfl, rfl⟩
  | false =>
    have hlt := hb rfl
    have e1 := hlt.certs
    have e2 := hlt.late
    have e3 := hlt.votes
    have e4 := hlt.acks
    have e5 := hlt.mine
    have e6 := hlt.acts
    have hpt : s.p.tiny := ⟨⟨by unfold tiny; omega, by unfold tiny; omega, by rw [hs.gh.2]; exact Nat.zero_le _⟩, by omega, by omega, ⟨by unfold tiny; omega, fun c hc => (e1.2 c hc).all.2⟩, ⟨by unfold tiny; omega, fun c hc => (e2.2 c hc).all.2⟩⟩
    conv => whnf
    refine rdz ?_; repeat' ((with_reducible apply tw) <;> intro _)
    refine loop_go ttOk zOk foOk (σ := Nat) (onSt6 s) (fun i => i ≤ s.acts.length) (fun i => s.acts.length - i) [1, 2, 5] ?_ ?_
    · conv => whnf
      exact ⟨0, rfl, rfl, Nat.zero_le _⟩
    · intro i hi
      conv => whnf
      refine rdz ?_; repeat' ((with_reducible apply tw) <;> intro _)
      · rename_i k1 k2
        replace k1 : (i : Int) < ((actsD s.acts).length : Int) := k1
        refine Exists.elim (⟨_, List.getElem?_eq_getElem (by omega)⟩ : ∃ a, s.acts[i]? = some a) fun a ha => ?_
        have ham := List.mem_of_getElem? ha
        have hst := step0_ok s.p hpok hpt (by omega) ⟨by unfold few; omega, by unfold few; omega⟩ ⟨by unfold few; omega, fun c hc => (e1.2 c hc).all.1⟩ ⟨by unfold few; omega, fun c hc => (e2.2 c hc).all.1⟩ (by unfold few; omega) (by unfold few; omega) a.zero (by have := (e6.2 a ham).l; show a.l.length ≤ _; omega) rfl
        refine ⟨by omega, a.cs, by rw [Int.toNat_natCast, actsD, List.getElem?_map, ha]; rfl, ?_⟩
        conv => whnf
        refine rdz ?_; repeat' ((with_reducible apply tw) <;> intro _)
        (refine (hst).mono ?_; rintro _ _ ⟨rfl, rfl⟩; (conv => whnf))
        refine rdz ?_; repeat' ((with_reducible apply tw) <;> intro _)
        exact ⟨i + 1, rfl, rfl, (show i + 1 ≤ s.acts.length by omega), (show s.acts.length - (i + 1) < s.acts.length - i by omega)⟩
      all_goals
        refine wakes_ok.mono ?_
        rintro _ _ ⟨rfl, rfl⟩
        conv => whnf
        refine rdz ?_; repeat' ((with_reducible apply tw) <;> intro _)
        exact ⟨rfl, rfl⟩
theorem primaryMakes_ok (s : Script) (hs : s.okk) : ACalls Tryz.prog 3 [s.av] [] (fun av L => av = .d (.bool true) ∧ L = []) := by
  have h := only0_ok s hs
  refine acalls_go ttOk zOk foOk Tryz.func3 rfl Tryz.ntmps3 rfl false rfl ?_
  conv => whnf
  refine rdz ?_; repeat' ((with_reducible apply tw) <;> intro _)
  (refine (h).mono ?_; rintro _ _ ⟨rfl, rfl⟩; (conv => whnf))
  refine rdz ?_; repeat' ((with_reducible apply tw) <;> intro _)
  exact ⟨rfl, rfl⟩
end Go.Proofs.YtpgnaajkeeenbaaGreat
/- PrimaryMakes: for every argument the law returns true, and its argument reads behind the call as it read before. No condition of ours. -/
namespace Go.Proofs.YtpgnaajkeeenbaaGreat
open Go.Ab Go.RowKit Go.ChangeShapes Go.WideShapes Go.ChangeAt
theorem own : ownKnob Tryz.prog.godebug = none := by kernel_rfl
theorem laidOut : laidOutB Tryz.prog = true := by kernel_rfl
set_option maxRecDepth 100000 in
theorem primaryMakes_lifted (os : Os) (started : os.Started) (H : Type) (enc : TypeId × Value → H) :
    ReturnsInHanded {} Tryz.checked os 3 .any (Rows.primaryMakesSpec.pre6 enc Tryz.prog Tryz.f3 Rows.primaryMakesRow.domain false) (Rows.primaryMakesSpec.post enc Tryz.prog Tryz.f3 false true false false) := by
  refine returnsInHanded_of_change_sized (C := Tryz.checked) own started (by kernel_rfl) Tryz.func3
    (ChangeSpec.witness6 (enc := enc) (C := Tryz.checked) false ⟨#[], #[.agg #[.int .i64 0, .int .i64 0, .int .i64 0, .int .i64 0, .int .i64 0, .int .i64 0, .int .i64 0, .slice none 0 0, .slice none 0 0, .int .i64 0, .slice none 0 0, .slice none 0 0, .int .i64 0, .int .i64 0, .slice none 0 0, .slice none 0 0, .slice none 0 0]], []⟩ 8 (by kernel_rfl) (by kernel_rfl) (by kernel_rfl) (by kernel_rfl)) ?_
  intro W base args ds gs before hval hW _ hsz _
  exact law_contract ttOk (f := Tryz.f3) (tb := 4) (t := 33) rfl rfl Tryz.underlying4 rfl (fun _ _ => rfl) laidOut (by kernel_rfl) (of_decide_eq_true (by kernel_rfl)) 8 (by kernel_rfl) argS
    (fun W base v ds h1 h2 => argS_ok Tryz.underlying33 h1 h2)
    (fun ds hd => by
      obtain ⟨p, hp, hok⟩ := askR_of hd
      rw [hp]
      exact primaryMakes_ok p hok) hval hW hsz
theorem primaryMakes_holds : Rows.PrimaryMakesSaid :=
  OpenClaim.holds_of_wide 3 Tryz.f3 rfl rfl rfl rfl rfl rfl rfl ⟨rfl, rfl, rfl, rfl, rfl⟩ rfl rfl rfl rfl rfl (by kernel_rfl) Tryz.func3 (by kernel_rfl)
    (of_decide_eq_true (by kernel_rfl)) (by unfold Func.isWrapper; first | (rw [if_pos (by decide +kernel)]; kernel_rfl) | (rw [if_neg (by decide +kernel)]; exact ⟨rfl, rfl⟩))
    (fun os started H enc _ => primaryMakes_lifted os started H enc)
#print axioms primaryMakes_holds
end Go.Proofs.YtpgnaajkeeenbaaGreat
