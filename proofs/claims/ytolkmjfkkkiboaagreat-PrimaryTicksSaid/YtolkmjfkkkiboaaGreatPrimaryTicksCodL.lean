/- PrimaryTicks: contracts. -/
import Derived.Test.YtolkmjfkkkiboaaGreatPrimaryTicksCodK
set_option linter.unusedVariables false
set_option linter.unusedSimpArgs false
namespace Go.Proofs.YtolkmjfkkkiboaaGreat
open Go.Ab Go.RowKit Go.MapKept
attribute [local irreducible] ACalls AW ADraw Into fltB fnear
set_option maxRecDepth 100000
attribute [local irreducible] AWr
def askMsg (q : Prim) : Msg := ⟨4, 0, 0, q.dig, 0, 0, [], q.mine, cz0, []⟩
def lastBy (q : Prim) : Option Cert := q.dag.certs.reverse.find? fun c => c.author == q.id
def beat1 (q : Prim) : List Msg := if q.dig > 0 then tellO q (askMsg q) q.acks q.nodes.toNat else []
def beat2 (q : Prim) : List Msg := match lastBy q with | some c => tellO q (certMsg c) [] q.nodes.toNat | none => []
def beatS (q : Prim) : List Msg := if q.age = 0 ∨ q.age % 3 ≠ 0 then [] else beat1 q ++ beat2 q
structure BeatOk2 (p : Prim) : Prop where
  valid : Valid p.dag
  isn : isN p.nodes = true
  same : p.dag.nodes = p.nodes
  round : 1 ≤ p.round ∧ p.round ≤ 1099511627776
  age : 0 ≤ p.age ∧ p.age ≤ 1099511627776
  tiny : p.mine.tiny
  acks : few p.acks
theorem lastBy_none {q : Prim} {xs : List (Fin q.dag.certs.length)} (hd : descL xs) (hl : xs.length = q.dag.certs.length) (hG : ∀ y ∈ xs, q.dag.certs[y].author ≠ q.id) : lastBy q = none := by
  unfold lastBy
  rw [List.find?_eq_none]
  intro c hc
  rw [List.mem_reverse] at hc
  obtain ⟨k, hk, rfl⟩ := List.getElem_of_mem hc
  have hm : k ∈ xs.map (·.val) := by
    rw [hd, hl]
    exact List.mem_map.2 ⟨q.dag.certs.length - 1 - k, by simp; omega, by omega⟩
  obtain ⟨y, hy, hyk⟩ := List.mem_map.1 hm
  have := hG y hy
  subst hyk
  simpa using this
theorem lastBy_some {q : Prim} {pre : List (Fin q.dag.certs.length)} {x : Fin q.dag.certs.length} (hd : descL (pre ++ [x])) (hG : ∀ y ∈ pre, q.dag.certs[y].author ≠ q.id) (hx : q.dag.certs[x].author = q.id) : lastBy q = some q.dag.certs[x] := by
  have hall : ∀ k (hk : k < (pre ++ [x]).length), (pre ++ [x])[k].val = q.dag.certs.length - 1 - k := by
    intro k hk
    have := congrArg (fun l => l[k]?) hd
    simp only [List.getElem?_map, List.getElem?_eq_getElem hk, Option.map_some, List.getElem?_range hk] at this
    exact Option.some.inj this
  have hxv : x.val = q.dag.certs.length - 1 - pre.length := by
    have := hall pre.length (by simp)
    simpa using this
  have hxl := x.isLt
  have hpl : pre.length < q.dag.certs.length := by
    have hm : ((pre ++ [x]).map (·.val)).length = pre.length + 1 := by simp
    rcases Nat.lt_or_ge pre.length q.dag.certs.length with h | h
    · exact h
    · exfalso
      have h0 := hall 0 (by simp)
      have h1 := hall (q.dag.certs.length) (by simp; omega)
      have h2 := hall (q.dag.certs.length - 1) (by simp; omega)
      have e : (pre ++ [x])[q.dag.certs.length - 1]'(by simp; omega) ∈ pre := by
        rw [List.getElem_append_left (by omega)]
        exact List.getElem_mem _
      have h3 := hG _ e
      have hx0 : x.val = 0 := by omega
      have : (pre ++ [x])[q.dag.certs.length - 1]'(by simp; omega) = x := Fin.ext (by omega)
      rw [this] at h3
      exact h3 hx
  unfold lastBy
  rw [List.find?_eq_some_iff_getElem]
  refine ⟨by simpa using hx, pre.length, by rw [List.length_reverse]; exact hpl, ?_, ?_⟩
  · rw [List.getElem_reverse]
    show q.dag.certs[_] = q.dag.certs[x.val]
    congr 1
    omega
  · intro k hk
    rw [List.getElem_reverse]
    have e : (pre ++ [x])[k]'(by simp; omega) ∈ pre := by
      rw [List.getElem_append_left hk]
      exact List.getElem_mem _
    have h3 := hG _ e
    have h4 := hall k (by simp; omega)
    have h5 : q.dag.certs[(pre ++ [x])[k]'(by simp; omega)] = q.dag.certs[q.dag.certs.length - 1 - k]'(by omega) := by
      show q.dag.certs[((pre ++ [x])[k]'(by simp; omega)).val] = _
      congr 1
    rw [h5] at h3
    simpa using h3
theorem onF_range (p : Prim) : ∀ (n : Nat) (x : Int × Int) (r : Int), 1 ≤ x.1 ∧ x.1 ≤ 1099511627776 → r ≤ 1099511627776 → 0 ≤ x.2 ∧ x.2 ≤ 1099511627776 → x.1 ≤ (onF p n x r).1 ∧ (onF p n x r).1 ≤ 1099511627776 ∧ 0 ≤ (onF p n x r).2 ∧ (onF p n x r).2 ≤ 1099511627776
  | 0, x, r, h1, h2, h3 => ⟨Int.le_refl _, h1.2, h3⟩
  | n + 1, x, r, h1, h2, h3 => by
    have hl : x.1 ≤ (lift p x r).1 ∧ (lift p x r).1 ≤ 1099511627776 ∧ 0 ≤ (lift p x r).2 ∧ (lift p x r).2 ≤ 1099511627776 := by
      unfold lift
      split
      · exact ⟨by show x.1 ≤ r; omega, h2, by show (0 : Int) ≤ 0; omega, by show (0 : Int) ≤ _; omega⟩
      · exact ⟨Int.le_refl _, h1.2, h3⟩
    unfold onF
    split
    · exact onF_range p n x (r - 1) h1 (by omega) h3
    · split
      · rename_i hg
        have h4 := goes_1 hg
        have h5 := onF_range p n ((lift p x r).1 + 1, 0) r ⟨by show 1 ≤ (lift p x r).1 + 1; omega, by show (lift p x r).1 + 1 ≤ _; omega⟩ h2 ⟨by show (0 : Int) ≤ 0; omega, by show (0 : Int) ≤ _; omega⟩
        have h6 : (lift p x r).1 + 1 ≤ (onF p n ((lift p x r).1 + 1, 0) r).1 := h5.1
        exact ⟨by omega, h5.2⟩
      · exact hl
theorem onP_range {p : Prim} (hv : Valid p.dag) (h1 : 1 ≤ p.round ∧ p.round ≤ 1099511627776) (h3 : 0 ≤ p.age ∧ p.age ≤ 1099511627776) : p.round ≤ (onP p).round ∧ (onP p).round ≤ 1099511627776 ∧ 0 ≤ (onP p).age ∧ (onP p).age ≤ 1099511627776 :=
  onF_range p _ (p.round, p.age) _ h1 (topR_le hv).2 h3
def cL (p q : Prim) (o : List Msg) (j : Bool) : List AB := if j then [.cells (p.cs.map AV.d), .cells zPrim, .row 49 18 [] false, .dead, .cells (q.cs.map AV.d ++ [.arr 6]), .cells [.ptr 4 0], .row 49 18 (msgsD o) false]
  else [.cells (p.cs.map AV.d), .cells zPrim, .row 49 18 [] false, .row 49 18 (msgsD o) false, .cells (q.cs.map AV.d ++ [.arr 3]), .cells [.ptr 4 0]]
def cX (p q : Prim) (c : Cert) (o : List Msg) (j0 j : Bool) : List AB := match j0, j with
  | false, true => [.cells (p.cs.map AV.d), .cells zPrim, .row 49 18 [] false, .dead, .cells (q.cs.map AV.d ++ [.arr 7]), .cells [.ptr 4 0], .cells (c.cs.map AV.d), .row 49 18 (msgsD o) false]
  | false, false => [.cells (p.cs.map AV.d), .cells zPrim, .row 49 18 [] false, .row 49 18 (msgsD o) false, .cells (q.cs.map AV.d ++ [.arr 3]), .cells [.ptr 4 0], .cells (c.cs.map AV.d)]
  | true, true => [.cells (p.cs.map AV.d), .cells zPrim, .row 49 18 [] false, .dead, .cells (q.cs.map AV.d ++ [.arr 8]), .cells [.ptr 4 0], .dead, .cells (c.cs.map AV.d), .row 49 18 (msgsD o) false]
  | true, false => [.cells (p.cs.map AV.d), .cells zPrim, .row 49 18 [] false, .dead, .cells (q.cs.map AV.d ++ [.arr 6]), .cells [.ptr 4 0], .row 49 18 (msgsD o) false, .cells (c.cs.map AV.d)]
set_option maxHeartbeats 8000000 in
theorem beat_full (p : Prim) (h : BeatOk2 p) : ACalls Tryz.prog 98 [p.av] [] (fun av L => av = .tup [(beatP p).av, .d (.sl 18 (msgsD (beatS (beatP p))))] ∧ L = []) := by
  have hag := h.age
  have hon := on_ok (agedP p) [] h.valid h.isn h.round
  have hqt : (onP (agedP p)).mine.tiny := h.tiny
  have hqa : few (onP (agedP p)).acks := h.acks
  have hqv : Valid (onP (agedP p)).dag := h.valid
  have hqn : isN (onP (agedP p)).nodes = true := h.isn
  have hqr := onP_range (p := agedP p) h.valid h.round ⟨by show 0 ≤ min (p.age + 1) 1099511627776; omega, by show min (p.age + 1) 1099511627776 ≤ _; omega⟩
  obtain ⟨q, hq⟩ : ∃ q, onP (agedP p) = q := ⟨_, rfl⟩
  rw [hq] at hqr
  rw [hq] at hon hqt hqa hqv hqn
  rw [show beatP p = q from hq]
  have hnn := of_decide_eq_true hqn
  have htell0 := tell_ok q ⟨by omega, by omega⟩ [] (by decide) (askMsg q) hqt cz0_tiny q.acks hqa
  rw [List.nil_append] at htell0
  refine acalls_marks ttOk Tryz.func98 rfl Tryz.ntmps98 rfl false rfl ?_
  intro c a hc hcn hck hs
  rw [seqs_split 6 (Go.Code.seq _ _)]
  refine seqs_ok (K := fun F L => fget F 4 = .ptr 5 0 ∧ fget F 2 = .ptr 1 0 ∧ ∃ j, L = cL p q (beat1 q) j ∧ ¬ (q.age = 0 ∨ q.age % 3 ≠ 0)) ttOk zOk foOk hc hcn hck ?_ (fun E' F' L' a' w' hr hs' => ⟨.inl rfl, E', F', L', hr, .inl hs'⟩) _ ?_ hs
  · rintro E' F' L' a' w' ⟨k1, k2, j, rfl, hnage⟩ hs'
    have ho1 : (beat1 q).length ≤ 16 := by
      unfold beat1
      split
      · exact Nat.le_trans (tellO_len ..) (by omega)
      · simp
    obtain ⟨o, ho⟩ : ∃ o, beat1 q = o := ⟨_, rfl⟩
    have hS : beatS q = o ++ beat2 q := by rw [beatS, if_neg hnage, ho]
    rw [ho] at hs' ho1
    rw [hS]
    cases j
    · have hs0 : Sim c E' bF (cL p q o false) a' w' := hs'.weak (fget_pair F' k1 k2)
      show (Go.Code.seq (Go.Code.seq _ _) _).wpIn _ _ _ _ _ _
      refine wpIn_seq (wpIn_seq (wpIn_mono (wpIn_wide.2 (aw_run (AW_go ttOk zOk foOk (Q := fun e F L => e = .normal ∧ fget F 4 = .ptr 5 0 ∧ fget F 2 = .ptr 1 0 ∧ fget F 76 = .fn 186 [.ptr 6 0] ∧ L = cL p q o false ++ [.cells [.d (.sl 6 (certsD q.dag.certs))]]) ?h8) hc hcn hck hs0)) ?_))
      case h8 =>
        conv => whnf
        refine rdw ?_; repeat' ((with_reducible apply tw) <;> intro _)
        refine (backward_ok q.dag.certs).mono ?_
        rintro _ _ ⟨rfl, rfl⟩
        conv => whnf
        exact ⟨rfl, rfl, rfl, rfl, rfl⟩
      rintro e a8 w8 ⟨E8, F8, L8, hs8, rfl, j1, j2, j3, rfl⟩
      have hv76 := hs8.slots 76
      rw [j3] at hv76
      simp only [VR, VRt] at hv76
      obtain ⟨us, hus, u0, r0, hus2, ⟨Bs, ⟨ab6, _, _, hE6⟩, rfl⟩, rfl⟩ := hv76
      have hus3 : us = #[.pointer (some ⟨Bs, 0, none⟩)] := by rw [← Array.toArray_toList (xs := us), hus2]
      rw [hus3] at hus
      have hL0 : c.L0.length ≤ (cL p q o false).length := by rw [hck]; exact Nat.zero_le _
      obtain ⟨E9, h9, hl, pp, cap, b, off, el, hrd, hcap, hpp, hel⟩ := cap_slice hc hs8.h rfl hL0 rfl hE6
      have hs9 : Sim c E9 bF (cL p q o false) a8 w8 := ⟨h9, fun s => by
        rcases fget_two (x := .ptr 5 0) (y := .ptr 1 0) (m := 4) (n := 2) s with ⟨rfl, e⟩ | ⟨rfl, e⟩ | e
        · show VR _ (fget [(4, .ptr 5 0), (2, .ptr 1 0)] 4) _
          rw [e]
          exact renA_ok hl (.ptr 5 0) (.ptr 5 0) rfl _ (by have := hs8.slots 4; rw [j1] at this; exact this)
        · show VR _ (fget [(4, .ptr 5 0), (2, .ptr 1 0)] 2) _
          rw [e]
          exact renA_ok hl (.ptr 1 0) (.ptr 1 0) rfl _ (by have := hs8.slots 2; rw [j2] at this; exact this)
        · show VR _ (fget [(4, .ptr 5 0), (2, .ptr 1 0)] s) _
          rw [e]
          simp only [VR, VD], hs8.nt, hs8.df⟩
      have hlen : (certsD q.dag.certs).length ≤ 1000000 := by rw [certsD_length]; have := hqv.len; omega
      have hseq := backward_stops2 (rcOf c.M0 E9 (cL p q o false) w8) Bs pp b off (certsD q.dag.certs).length cap hpp hcap hlen el (fun k => (hel k).1) w8 (fun x u hsx hx => (rd_cell hx hsx).1) hrd (fun k j v hv => (hel k).2.2 j v hv)
      have hcll := certsD_length q.dag.certs
      obtain ⟨crt, hcrt, hcrt2⟩ : ∃ crt : Fin (certsD q.dag.certs).length → Cert, (∀ x : Fin (certsD q.dag.certs).length, (certsD q.dag.certs)[x] = (crt x).cs ∧ crt x ∈ q.dag.certs) ∧ ∀ x : Fin (certsD q.dag.certs).length, q.dag.certs[(x.cast hcll)] = crt x :=
        ⟨fun x => q.dag.certs[x.val]'(by have := x.isLt; omega), fun x => ⟨List.getElem_map .., List.getElem_mem ..⟩, fun x => rfl⟩
      refine wpIn_block (wpIn_mono (range_wp2 hc hs9 rfl hL0 (g := .tmp 76) (lb := #[.pointer (some ⟨Bs, 0, none⟩)]) hus (enters_of Tryz.func186 (by kernel_rfl) rfl) hseq (fun _ => rfl)
        (fun x => (78, .agg ((crt x).cs.map AV.d)) :: (77, .d (.int .i64 (x.val : Nat))) :: bF)
        (fun x => fput (fput ((78, .agg ((crt x).cs.map AV.d)) :: (77, .d (.int .i64 (x.val : Nat))) :: bF) (some 6) (.ptr 6 0)) none (.d .any))
        (fun x => cL p q o false ++ [.cells ((crt x).cs.map AV.d)]) (fun x => (crt x).author ≠ q.id) ?hpar (fun x => rfl) (fun x => rfl) ?hA (fun x id L => id = 0 ∧ (crt x).author = q.id ∧ ∃ j, L = cX p q (crt x) (o ++ tellO q (certMsg (crt x)) [] q.nodes.toNat) false j) ?hB) ?_)
      case hpar =>
        intro x R hle s
        have hsz : a8.tmps.size = 100 := hs9.nt.trans hcn
        have hfold : ((#[77, 78].zip #[Value.int .i64 (x.val : Nat), Value.agg (el x).toArray]).foldl (fun t (p, v) => t.setIfInBounds p v) a8.tmps) = (a8.tmps.setIfInBounds 77 (.int .i64 (x.val : Nat))).setIfInBounds 78 (.agg (el x).toArray) := by simp [Array.zip, Array.zipWith, Array.zipWithMAux]
        show VR R _ (Array.getD ((#[77, 78].zip #[Value.int .i64 (x.val : Nat), Value.agg (el x).toArray]).foldl (fun t (p, v) => t.setIfInBounds p v) a8.tmps) s undef)
        rw [hfold]
        by_cases h78 : s = 78
        · subst h78
          rw [show fget ((78, AV.agg ((crt x).cs.map AV.d)) :: (77, .d (.int .i64 (x.val : Nat))) :: bF) 78 = AV.agg ((crt x).cs.map AV.d) from rfl,
            show Array.getD ((a8.tmps.setIfInBounds 77 (.int .i64 (x.val : Nat))).setIfInBounds 78 (.agg (el x).toArray)) 78 undef = .agg (el x).toArray by simp [Array.getD, hsz]]
          simp only [VR]
          refine ⟨_, rfl, ?_⟩
          have := (hel x).2.1
          rw [(hcrt x).1] at this
          exact VRs_d.2 (VDs.mono hle.rd this)
        · by_cases h77 : s = 77
          · subst h77
            rw [show fget ((78, AV.agg ((crt x).cs.map AV.d)) :: (77, .d (.int .i64 (x.val : Nat))) :: bF) 77 = .d (.int .i64 (x.val : Nat)) from rfl,
              show Array.getD ((a8.tmps.setIfInBounds 77 (.int .i64 (x.val : Nat))).setIfInBounds 78 (.agg (el x).toArray)) 77 undef = .int .i64 (x.val : Nat) by simp [Array.getD, hsz]]
            simp only [VR, VD]
          · have e1 : fget ((78, AV.agg ((crt x).cs.map AV.d)) :: (77, .d (.int .i64 (x.val : Nat))) :: bF) s = fget bF s := by
              simp only [fget_cons]
              rw [show Nat.beq 78 s = false from Bool.eq_false_iff.2 fun h => h78 (Nat.eq_of_beq_eq_true h).symm, show Nat.beq 77 s = false from Bool.eq_false_iff.2 fun h => h77 (Nat.eq_of_beq_eq_true h).symm]
              rfl
            have e2 : Array.getD ((a8.tmps.setIfInBounds 77 (.int .i64 (x.val : Nat))).setIfInBounds 78 (.agg (el x).toArray)) s undef = a8.tmps.getD s undef := by
              simp only [Array.getD_eq_getD_getElem?]
              rw [Array.getElem?_setIfInBounds_ne (by omega), Array.getElem?_setIfInBounds_ne (by omega)]
            rw [e1, e2]
            exact VR.mono hle _ _ (hs9.slots s)
      case hA =>
        intro l x
        rw [hcn]
        refine awr_region ttOk zOk foOk rfl ?_
        conv => whnf
        refine rdw ?_; repeat' ((with_reducible apply tw) <;> intro _)
        exact ⟨rfl, rfl, rfl⟩
      case hB =>
        intro l x
        rw [hcn]
        refine awr_block (awr_seqN (awr_draw ttOk zOk foOk mixedOk rfl pl98x10 (by kernel_rfl) ?_))
        conv => whnf
        refine rdw ?_; repeat' ((with_reducible apply tw) <;> intro _)
        refine awr_cond ?_
        conv => whnf
        refine rdw ?_; repeat' ((with_reducible apply tw) <;> intro _)
        · rename_i hau
          replace hau : (crt x).author = q.id := hau
          refine awr_seqN ?_
          refine awr_region ttOk zOk foOk rfl ?_
          conv => whnf
          refine rdw ?_; repeat' ((with_reducible apply tw) <;> intro _)
          have hnn := of_decide_eq_true hqn
          have htl : (crt x).tiny := certTiny_of hqv.nodes (hqv.certs _ (hcrt x).2)
          have htell := tell_ok q ⟨by omega, by omega⟩ o (by omega) (certMsg (crt x)) cz0_tiny htl [] few_nil
          refine (acalls_nw htell (.cons (.refl _) (.cons (.agg ?_) (.cons (.refl _) .nil)))).mono ?_
          · repeat (first | exact .nil | refine .cons (.refl _) ?_ | refine .cons (.nils _ (by decide)) ?_)
          · rintro _ _ ⟨rfl, j, rfl⟩
            cases j
            · conv => whnf
              refine rdw ?_; repeat' ((with_reducible apply tw) <;> intro _)
              refine ⟨rfl, awr_exit ?_⟩
              exact .inr (.inl ⟨0, rfl, by decide, rfl, .inr ⟨0, rfl, rfl, hau, false, rfl⟩⟩)
            · conv => whnf
              refine rdw ?_; repeat' ((with_reducible apply tw) <;> intro _)
              refine ⟨rfl, awr_exit ?_⟩
              exact .inr (.inl ⟨0, rfl, by decide, rfl, .inr ⟨0, rfl, rfl, hau, true, rfl⟩⟩)
        · rename_i hau
          replace hau : (crt x).author ≠ q.id := hau
          refine awr_skip ?_
          exact .inl ⟨rfl, rfl, .inl ⟨rfl, hau, rfl⟩⟩
      rintro e a9 w9 ⟨D, rfl, hD, hK, hcase⟩
      have hsh : ∃ E3 L3, Sim c E3 bF L3 a8 w9 ∧ plainB L3 = true ∧ ((L3 = cL p q o false ∧ beat2 q = []) ∨ ∃ cc j, L3 = cX p q cc (o ++ beat2 q) false j) := by
        rcases hcase with ⟨rfl, ⟨E3, h1, _⟩, xs, ⟨hd, hl2⟩, hG⟩ | ⟨id, x, pre, rfl, hd, hG, E3, L3, h1, _, h2, _, h3, h4⟩
        · refine ⟨E3, _, h1, rfl, .inl ⟨rfl, ?_⟩⟩
          have := lastBy_none (q := q) (xs := xs.map (Fin.cast hcll)) (by
            unfold descL at hd ⊢
            rw [List.map_map, List.length_map]
            rw [show ((fun x : Fin q.dag.certs.length => x.val) ∘ Fin.cast hcll) = fun x : Fin (certsD q.dag.certs).length => x.val from rfl, hd]
            exact List.map_congr_left fun i _ => by omega) (by rw [List.length_map, hl2, hcll]) (fun y hy => by
            obtain ⟨z, hz, rfl⟩ := List.mem_map.1 hy
            rw [hcrt2 z]
            exact hG z hz)
          rw [beat2, this]
        · obtain ⟨j, rfl⟩ := h4
          have := lastBy_some (q := q) (pre := pre.map (Fin.cast hcll)) (x := x.cast hcll) (by
            unfold descL at hd ⊢
            rw [show pre.map (Fin.cast hcll) ++ [x.cast hcll] = (pre ++ [x]).map (Fin.cast hcll) by simp, List.map_map, List.length_map]
            rw [show ((fun x : Fin q.dag.certs.length => x.val) ∘ Fin.cast hcll) = fun x : Fin (certsD q.dag.certs).length => x.val from rfl, hd]
            exact List.map_congr_left fun i _ => by omega) (fun y hy => by
            obtain ⟨z, hz, rfl⟩ := List.mem_map.1 hy
            rw [hcrt2 z]
            exact hG z hz) (by rw [hcrt2 x]; exact h3)
          rw [hcrt2 x] at this
          exact ⟨E3, _, h1, h2, .inr ⟨crt x, j, by rw [beat2, this]⟩⟩
      have he : e = .normal ∨ e = .exit 0 := by
        rcases hcase with ⟨rfl, _⟩ | ⟨id, x, pre, rfl, _, _, E3, L3, _, _, _, rfl, _⟩
        · exact .inl rfl
        · exact .inr rfl
      obtain ⟨E3, L3, h3, hpl3, hshape⟩ := hsh
      have hin := subC_in h3.h
      rw [hs8.df]
      rcases he with rfl | rfl
      all_goals
        show (Go.Code.seq (Go.Code.region _ _ true) Go.Code.ret).wpIn Fence.wide 5 _ _ { a8 with defers := [{ target := .collected D, args := #[] }] } w9
        refine tail_ok ttOk zOk foOk mixedOk (n := 100) rfl pl98x12 (by kernel_rfl) (K := fun F L => retK tt false 0 [ResultVar.cell 2 30, ResultVar.tmp 3] (fun av L => av = .tup [q.av, .d (.sl 18 (msgsD (o ++ beat2 q)))] ∧ L = []) .ret F L ∧ plainB L = true) (F := bF) (L := L3) ?_ (subC_wf hc h3.h) hcn ⟨hin.1, fun s => VR.mono hin.2 _ _ (h3.slots s), h3.nt, h3.df⟩ [{ target := .collected D, args := #[] }] ?_
        · rcases hshape with ⟨rfl, hb2⟩ | ⟨cc, j, rfl⟩
          · rw [hb2, List.append_nil]
            conv => whnf
            refine rdw ?_; repeat' ((with_reducible apply tw) <;> intro _)
            exact ⟨⟨rfl, rfl⟩, rfl⟩
          · cases j
            · conv => whnf
              refine rdw ?_; repeat' ((with_reducible apply tw) <;> intro _)
              exact ⟨⟨rfl, rfl⟩, rfl⟩
            · conv => whnf
              refine rdw ?_; repeat' ((with_reducible apply tw) <;> intro _)
              exact ⟨⟨rfl, rfl⟩, rfl⟩
        · exact fun E4 F4 L4 a4 w4 hr h4 => ⟨.inl rfl, E4, F4, L4, hr.1, .inr ⟨D, rfl, (h4.h.prot D ⟨(Array.getElem?_eq_some_iff.1 hK).1, plain_apart h3.h hpl3 hK rfl⟩).trans hK, Nat.le_trans hs9.h.size hD, ⟨(subC_out hc h3.h h4.h).1, fun s => VR.mono (subC_out hc h3.h h4.h).2.2 _ _ (h4.slots s), h4.nt, rfl⟩, hr.2⟩⟩
    · have hs0 : Sim c E' bF (cL p q o true) a' w' := hs'.weak (fget_pair F' k1 k2)
      show (Go.Code.seq (Go.Code.seq _ _) _).wpIn _ _ _ _ _ _
      refine wpIn_seq (wpIn_seq (wpIn_mono (wpIn_wide.2 (aw_run (AW_go ttOk zOk foOk (Q := fun e F L => e = .normal ∧ fget F 4 = .ptr 5 0 ∧ fget F 2 = .ptr 1 0 ∧ fget F 76 = .fn 186 [.ptr 7 0] ∧ L = cL p q o true ++ [.cells [.d (.sl 6 (certsD q.dag.certs))]]) ?h8) hc hcn hck hs0)) ?_))
      case h8 =>
        conv => whnf
        refine rdw ?_; repeat' ((with_reducible apply tw) <;> intro _)
        refine (backward_ok q.dag.certs).mono ?_
        rintro _ _ ⟨rfl, rfl⟩
        conv => whnf
        exact ⟨rfl, rfl, rfl, rfl, rfl⟩
      rintro e a8 w8 ⟨E8, F8, L8, hs8, rfl, j1, j2, j3, rfl⟩
      have hv76 := hs8.slots 76
      rw [j3] at hv76
      simp only [VR, VRt] at hv76
      obtain ⟨us, hus, u0, r0, hus2, ⟨Bs, ⟨ab6, _, _, hE6⟩, rfl⟩, rfl⟩ := hv76
      have hus3 : us = #[.pointer (some ⟨Bs, 0, none⟩)] := by rw [← Array.toArray_toList (xs := us), hus2]
      rw [hus3] at hus
      have hL0 : c.L0.length ≤ (cL p q o true).length := by rw [hck]; exact Nat.zero_le _
      obtain ⟨E9, h9, hl, pp, cap, b, off, el, hrd, hcap, hpp, hel⟩ := cap_slice hc hs8.h rfl hL0 rfl hE6
      have hs9 : Sim c E9 bF (cL p q o true) a8 w8 := ⟨h9, fun s => by
        rcases fget_two (x := .ptr 5 0) (y := .ptr 1 0) (m := 4) (n := 2) s with ⟨rfl, e⟩ | ⟨rfl, e⟩ | e
        · show VR _ (fget [(4, .ptr 5 0), (2, .ptr 1 0)] 4) _
          rw [e]
          exact renA_ok hl (.ptr 5 0) (.ptr 5 0) rfl _ (by have := hs8.slots 4; rw [j1] at this; exact this)
        · show VR _ (fget [(4, .ptr 5 0), (2, .ptr 1 0)] 2) _
          rw [e]
          exact renA_ok hl (.ptr 1 0) (.ptr 1 0) rfl _ (by have := hs8.slots 2; rw [j2] at this; exact this)
        · show VR _ (fget [(4, .ptr 5 0), (2, .ptr 1 0)] s) _
          rw [e]
          simp only [VR, VD], hs8.nt, hs8.df⟩
      have hlen : (certsD q.dag.certs).length ≤ 1000000 := by rw [certsD_length]; have := hqv.len; omega
      have hseq := backward_stops2 (rcOf c.M0 E9 (cL p q o true) w8) Bs pp b off (certsD q.dag.certs).length cap hpp hcap hlen el (fun k => (hel k).1) w8 (fun x u hsx hx => (rd_cell hx hsx).1) hrd (fun k j v hv => (hel k).2.2 j v hv)
      have hcll := certsD_length q.dag.certs
      obtain ⟨crt, hcrt, hcrt2⟩ : ∃ crt : Fin (certsD q.dag.certs).length → Cert, (∀ x : Fin (certsD q.dag.certs).length, (certsD q.dag.certs)[x] = (crt x).cs ∧ crt x ∈ q.dag.certs) ∧ ∀ x : Fin (certsD q.dag.certs).length, q.dag.certs[(x.cast hcll)] = crt x :=
        ⟨fun x => q.dag.certs[x.val]'(by have := x.isLt; omega), fun x => ⟨List.getElem_map .., List.getElem_mem ..⟩, fun x => rfl⟩
      refine wpIn_block (wpIn_mono (range_wp2 hc hs9 rfl hL0 (g := .tmp 76) (lb := #[.pointer (some ⟨Bs, 0, none⟩)]) hus (enters_of Tryz.func186 (by kernel_rfl) rfl) hseq (fun _ => rfl)
        (fun x => (78, .agg ((crt x).cs.map AV.d)) :: (77, .d (.int .i64 (x.val : Nat))) :: bF)
        (fun x => fput (fput ((78, .agg ((crt x).cs.map AV.d)) :: (77, .d (.int .i64 (x.val : Nat))) :: bF) (some 6) (.ptr 7 0)) none (.d .any))
        (fun x => cL p q o true ++ [.cells ((crt x).cs.map AV.d)]) (fun x => (crt x).author ≠ q.id) ?hpar (fun x => rfl) (fun x => rfl) ?hA (fun x id L => id = 0 ∧ (crt x).author = q.id ∧ ∃ j, L = cX p q (crt x) (o ++ tellO q (certMsg (crt x)) [] q.nodes.toNat) true j) ?hB) ?_)
      case hpar =>
        intro x R hle s
        have hsz : a8.tmps.size = 100 := hs9.nt.trans hcn
        have hfold : ((#[77, 78].zip #[Value.int .i64 (x.val : Nat), Value.agg (el x).toArray]).foldl (fun t (p, v) => t.setIfInBounds p v) a8.tmps) = (a8.tmps.setIfInBounds 77 (.int .i64 (x.val : Nat))).setIfInBounds 78 (.agg (el x).toArray) := by simp [Array.zip, Array.zipWith, Array.zipWithMAux]
        show VR R _ (Array.getD ((#[77, 78].zip #[Value.int .i64 (x.val : Nat), Value.agg (el x).toArray]).foldl (fun t (p, v) => t.setIfInBounds p v) a8.tmps) s undef)
        rw [hfold]
        by_cases h78 : s = 78
        · subst h78
          rw [show fget ((78, AV.agg ((crt x).cs.map AV.d)) :: (77, .d (.int .i64 (x.val : Nat))) :: bF) 78 = AV.agg ((crt x).cs.map AV.d) from rfl,
            show Array.getD ((a8.tmps.setIfInBounds 77 (.int .i64 (x.val : Nat))).setIfInBounds 78 (.agg (el x).toArray)) 78 undef = .agg (el x).toArray by simp [Array.getD, hsz]]
          simp only [VR]
          refine ⟨_, rfl, ?_⟩
          have := (hel x).2.1
          rw [(hcrt x).1] at this
          exact VRs_d.2 (VDs.mono hle.rd this)
        · by_cases h77 : s = 77
          · subst h77
            rw [show fget ((78, AV.agg ((crt x).cs.map AV.d)) :: (77, .d (.int .i64 (x.val : Nat))) :: bF) 77 = .d (.int .i64 (x.val : Nat)) from rfl,
              show Array.getD ((a8.tmps.setIfInBounds 77 (.int .i64 (x.val : Nat))).setIfInBounds 78 (.agg (el x).toArray)) 77 undef = .int .i64 (x.val : Nat) by simp [Array.getD, hsz]]
            simp only [VR, VD]
          · have e1 : fget ((78, AV.agg ((crt x).cs.map AV.d)) :: (77, .d (.int .i64 (x.val : Nat))) :: bF) s = fget bF s := by
              simp only [fget_cons]
              rw [show Nat.beq 78 s = false from Bool.eq_false_iff.2 fun h => h78 (Nat.eq_of_beq_eq_true h).symm, show Nat.beq 77 s = false from Bool.eq_false_iff.2 fun h => h77 (Nat.eq_of_beq_eq_true h).symm]
              rfl
            have e2 : Array.getD ((a8.tmps.setIfInBounds 77 (.int .i64 (x.val : Nat))).setIfInBounds 78 (.agg (el x).toArray)) s undef = a8.tmps.getD s undef := by
              simp only [Array.getD_eq_getD_getElem?]
              rw [Array.getElem?_setIfInBounds_ne (by omega), Array.getElem?_setIfInBounds_ne (by omega)]
            rw [e1, e2]
            exact VR.mono hle _ _ (hs9.slots s)
      case hA =>
        intro l x
        rw [hcn]
        refine awr_region ttOk zOk foOk rfl ?_
        conv => whnf
        refine rdw ?_; repeat' ((with_reducible apply tw) <;> intro _)
        exact ⟨rfl, rfl, rfl⟩
      case hB =>
        intro l x
        rw [hcn]
        refine awr_block (awr_seqN (awr_draw ttOk zOk foOk mixedOk rfl pl98x10 (by kernel_rfl) ?_))
        conv => whnf
        refine rdw ?_; repeat' ((with_reducible apply tw) <;> intro _)
        refine awr_cond ?_
        conv => whnf
        refine rdw ?_; repeat' ((with_reducible apply tw) <;> intro _)
        · rename_i hau
          replace hau : (crt x).author = q.id := hau
          refine awr_seqN ?_
          refine awr_region ttOk zOk foOk rfl ?_
          conv => whnf
          refine rdw ?_; repeat' ((with_reducible apply tw) <;> intro _)
          have hnn := of_decide_eq_true hqn
          have htl : (crt x).tiny := certTiny_of hqv.nodes (hqv.certs _ (hcrt x).2)
          have htell := tell_ok q ⟨by omega, by omega⟩ o (by omega) (certMsg (crt x)) cz0_tiny htl [] few_nil
          refine (acalls_nw htell (.cons (.refl _) (.cons (.agg ?_) (.cons (.refl _) .nil)))).mono ?_
          · repeat (first | exact .nil | refine .cons (.refl _) ?_ | refine .cons (.nils _ (by decide)) ?_)
          · rintro _ _ ⟨rfl, j, rfl⟩
            cases j
            · conv => whnf
              refine rdw ?_; repeat' ((with_reducible apply tw) <;> intro _)
              refine ⟨rfl, awr_exit ?_⟩
              exact .inr (.inl ⟨0, rfl, by decide, rfl, .inr ⟨0, rfl, rfl, hau, false, rfl⟩⟩)
            · conv => whnf
              refine rdw ?_; repeat' ((with_reducible apply tw) <;> intro _)
              refine ⟨rfl, awr_exit ?_⟩
              exact .inr (.inl ⟨0, rfl, by decide, rfl, .inr ⟨0, rfl, rfl, hau, true, rfl⟩⟩)
        · rename_i hau
          replace hau : (crt x).author ≠ q.id := hau
          refine awr_skip ?_
          exact .inl ⟨rfl, rfl, .inl ⟨rfl, hau, rfl⟩⟩
      rintro e a9 w9 ⟨D, rfl, hD, hK, hcase⟩
      have hsh : ∃ E3 L3, Sim c E3 bF L3 a8 w9 ∧ plainB L3 = true ∧ ((L3 = cL p q o true ∧ beat2 q = []) ∨ ∃ cc j, L3 = cX p q cc (o ++ beat2 q) true j) := by
        rcases hcase with ⟨rfl, ⟨E3, h1, _⟩, xs, ⟨hd, hl2⟩, hG⟩ | ⟨id, x, pre, rfl, hd, hG, E3, L3, h1, _, h2, _, h3, h4⟩
        · refine ⟨E3, _, h1, rfl, .inl ⟨rfl, ?_⟩⟩
          have := lastBy_none (q := q) (xs := xs.map (Fin.cast hcll)) (by
            unfold descL at hd ⊢
            rw [List.map_map, List.length_map]
            rw [show ((fun x : Fin q.dag.certs.length => x.val) ∘ Fin.cast hcll) = fun x : Fin (certsD q.dag.certs).length => x.val from rfl, hd]
            exact List.map_congr_left fun i _ => by omega) (by rw [List.length_map, hl2, hcll]) (fun y hy => by
            obtain ⟨z, hz, rfl⟩ := List.mem_map.1 hy
            rw [hcrt2 z]
            exact hG z hz)
          rw [beat2, this]
        · obtain ⟨j, rfl⟩ := h4
          have := lastBy_some (q := q) (pre := pre.map (Fin.cast hcll)) (x := x.cast hcll) (by
            unfold descL at hd ⊢
            rw [show pre.map (Fin.cast hcll) ++ [x.cast hcll] = (pre ++ [x]).map (Fin.cast hcll) by simp, List.map_map, List.length_map]
            rw [show ((fun x : Fin q.dag.certs.length => x.val) ∘ Fin.cast hcll) = fun x : Fin (certsD q.dag.certs).length => x.val from rfl, hd]
            exact List.map_congr_left fun i _ => by omega) (fun y hy => by
            obtain ⟨z, hz, rfl⟩ := List.mem_map.1 hy
            rw [hcrt2 z]
            exact hG z hz) (by rw [hcrt2 x]; exact h3)
          rw [hcrt2 x] at this
          exact ⟨E3, _, h1, h2, .inr ⟨crt x, j, by rw [beat2, this]⟩⟩
      have he : e = .normal ∨ e = .exit 0 := by
        rcases hcase with ⟨rfl, _⟩ | ⟨id, x, pre, rfl, _, _, E3, L3, _, _, _, rfl, _⟩
        · exact .inl rfl
        · exact .inr rfl
      obtain ⟨E3, L3, h3, hpl3, hshape⟩ := hsh
      have hin := subC_in h3.h
      rw [hs8.df]
      rcases he with rfl | rfl
      all_goals
        show (Go.Code.seq (Go.Code.region _ _ true) Go.Code.ret).wpIn Fence.wide 5 _ _ { a8 with defers := [{ target := .collected D, args := #[] }] } w9
        refine tail_ok ttOk zOk foOk mixedOk (n := 100) rfl pl98x12 (by kernel_rfl) (K := fun F L => retK tt false 0 [ResultVar.cell 2 30, ResultVar.tmp 3] (fun av L => av = .tup [q.av, .d (.sl 18 (msgsD (o ++ beat2 q)))] ∧ L = []) .ret F L ∧ plainB L = true) (F := bF) (L := L3) ?_ (subC_wf hc h3.h) hcn ⟨hin.1, fun s => VR.mono hin.2 _ _ (h3.slots s), h3.nt, h3.df⟩ [{ target := .collected D, args := #[] }] ?_
        · rcases hshape with ⟨rfl, hb2⟩ | ⟨cc, j, rfl⟩
          · rw [hb2, List.append_nil]
            conv => whnf
            refine rdw ?_; repeat' ((with_reducible apply tw) <;> intro _)
            exact ⟨⟨rfl, rfl⟩, rfl⟩
          · cases j
            · conv => whnf
              refine rdw ?_; repeat' ((with_reducible apply tw) <;> intro _)
              exact ⟨⟨rfl, rfl⟩, rfl⟩
            · conv => whnf
              refine rdw ?_; repeat' ((with_reducible apply tw) <;> intro _)
              exact ⟨⟨rfl, rfl⟩, rfl⟩
        · exact fun E4 F4 L4 a4 w4 hr h4 => ⟨.inl rfl, E4, F4, L4, hr.1, .inr ⟨D, rfl, (h4.h.prot D ⟨(Array.getElem?_eq_some_iff.1 hK).1, plain_apart h3.h hpl3 hK rfl⟩).trans hK, Nat.le_trans hs9.h.size hD, ⟨(subC_out hc h3.h h4.h).1, fun s => VR.mono (subC_out hc h3.h h4.h).2.2 _ _ (h4.slots s), h4.nt, rfl⟩, hr.2⟩⟩
  · conv => whnf
    refine rdw ?_; repeat' ((with_reducible apply tw) <;> intro _)
    ((with_reducible refine draw_pl ttOk zOk foOk mixedOk pl98x2 ?_ ?_); (focus kernel_rfl); (conv => whnf))
    refine rdw ?_; repeat' ((with_reducible apply tw) <;> intro _)
    refine ACalls.mono (post := fun av L => av = .tup [] ∧ L = q.st []) hon ?_
    rintro _ _ ⟨rfl, rfl⟩
    conv => whnf
    refine rdw ?_; repeat' ((with_reducible apply tw) <;> intro _)
    · rename_i h0
      replace h0 : q.age = 0 := h0
      have hS : beatS q = [] := by rw [beatS, if_pos (.inl h0)]
      ((with_reducible refine draw_pl ttOk zOk foOk mixedOk pl98x5 ?_ ?_); (focus kernel_rfl); (conv => whnf))
      refine rdw ?_; repeat' ((with_reducible apply tw) <;> intro _)
      exact ⟨by rw [hS]; rfl, rfl⟩
    · rename_i h0
      replace h0 : q.age ≠ 0 := h0
      refine ⟨by decide, fun z hz => ?_⟩
      replace hz := tmod_pos hqr.2.2.1 hz
      subst hz
      conv => whnf
      refine rdw ?_; repeat' ((with_reducible apply tw) <;> intro _)
      · rename_i h3
        replace h3 : q.age % 3 ≠ 0 := h3
        have hS : beatS q = [] := by rw [beatS, if_pos (.inr h3)]
        ((with_reducible refine draw_pl ttOk zOk foOk mixedOk pl98x5 ?_ ?_); (focus kernel_rfl); (conv => whnf))
        refine rdw ?_; repeat' ((with_reducible apply tw) <;> intro _)
        exact ⟨by rw [hS]; rfl, rfl⟩
      · rename_i h3 h4
        replace h4 : q.dig > 0 := h4
        replace h3 : q.age % 3 = 0 := h3
        have hno : ¬ (q.age = 0 ∨ q.age % 3 ≠ 0) := fun h => h.elim (fun h => h0 h) (fun h => h h3)
        have hb1 : beat1 q = tellO q (askMsg q) q.acks q.nodes.toNat := by rw [beat1, if_pos h4]
        rw [← hb1] at htell0
        ((with_reducible refine draw_pl ttOk zOk foOk mixedOk pl98x7 ?_ ?_); (focus kernel_rfl); (conv => whnf))
        refine rdw ?_; repeat' ((with_reducible apply tw) <;> intro _)
        refine (acalls_nw htell0 (.cons (.refl _) (.cons (.agg ?_) (.cons (.refl _) .nil)))).mono ?_
        · repeat (first | exact .nil | refine .cons (.refl _) ?_ | refine .cons (.nils _ (by decide)) ?_)
        · rintro _ _ ⟨rfl, j, rfl⟩
          cases j
          · conv => whnf
            refine rdw ?_; repeat' ((with_reducible apply tw) <;> intro _)
            exact ⟨rfl, rfl, false, rfl, hno⟩
          · conv => whnf
            refine rdw ?_; repeat' ((with_reducible apply tw) <;> intro _)
            exact ⟨rfl, rfl, true, rfl, hno⟩
      · rename_i h3 h4
        replace h4 : ¬ q.dig > 0 := h4
        replace h3 : q.age % 3 = 0 := h3
        have hno : ¬ (q.age = 0 ∨ q.age % 3 ≠ 0) := fun h => h.elim (fun h => h0 h) (fun h => h h3)
        have hb1 : beat1 q = [] := by rw [beat1, if_neg h4]
        exact ⟨rfl, rfl, false, by rw [hb1]; rfl, hno⟩
end Go.Proofs.YtolkmjfkkkiboaaGreat
namespace Go.Proofs.YtolkmjfkkkiboaaGreat
open Go.Ab Go.RowKit Go.MapKept
attribute [local irreducible] ACalls AW ADraw Into fltB fnear
set_option maxRecDepth 100000
def lone : Prim := newP 1 1
def loneH : Cert := ⟨1, 1, [], [], 0, []⟩
theorem lone_bare : BareMay lone := new_bare (by decide) (by decide)
theorem lone_fit : lone.dag.fit := by
  exact ⟨by show (0 : Nat) ≤ _; decide, List.Pairwise.nil, fun c h => (by cases h), fun c h => (by cases h)⟩
theorem lone_head : headC lone [] = loneH := by
  simp only [headC, parsF, lone, newP, loneH, ofR, batsF, List.foldl, List.filter, List.map, sortI]
  simp
theorem make1 : ACalls Tryz.prog 44 [lone.av, .d (.sl 1 [])] [] (fun av L => av = .tup [loneH.hav, .d (.int .i64 0)] ∧ L = []) := by
  have h1 := primMay_true lone lone_bare
  have h2 := containsMk_ok [] few_nil
  have h3 := ready_ok lone lone_fit (by decide) (by decide)
  have h4 := headP_ok lone lone_fit (by decide) (by decide) [] few_nil
  rw [lone_head] at h4
  (refine acalls_go ttOk zOk foOk Tryz.func44 rfl Tryz.ntmps44 rfl false rfl ?_); (conv => whnf)
  refine rdz ?_; repeat' ((with_reducible apply tw) <;> intro _)
  refine ACalls.mono (post := fun av L => av = .d (.bool true) ∧ L = []) h1 ?_
  rintro _ _ ⟨rfl, rfl⟩
  conv => whnf
  refine rdz ?_; repeat' ((with_reducible apply tw) <;> intro _)
  refine ACalls.mono (post := fun av L => av = .d (.bool false) ∧ L = []) h2 ?_
  rintro _ _ ⟨rfl, rfl⟩
  conv => whnf
  refine rdz ?_; repeat' ((with_reducible apply tw) <;> intro _)
  refine ACalls.mono (post := fun av L => av = .d (.bool true) ∧ L = []) h3 ?_
  rintro _ _ ⟨rfl, rfl⟩
  conv => whnf
  refine rdz ?_; repeat' ((with_reducible apply tw) <;> intro _)
  refine ACalls.mono (post := fun av L => av = loneH.hav ∧ L = []) h4 ?_
  rintro _ _ ⟨rfl, rfl⟩
  conv => whnf
  refine rdz ?_; repeat' ((with_reducible apply tw) <;> intro _)
  exact ⟨rfl, rfl⟩
def plSay8 : Plan := ⟨[[],[],[],[],[],[],[],[6],[6,7],[7,6,8],[8,6,7,9],[],[11],[],[],[14],[14,15],[15,14,16],[16,14,15,17],[17,15,14,16,18],[17,15,14,16,18,11,12,9,7,6,8,10,5,0],[0,5,10,8,6,7,9,12,11,18,16,14,15,17,20],[20,17,15,14,16,18,11,12,9,7,6,8,10,5,0,21],[21,0,5,10,8,6,7,9,12,11,18,16,14,15,17,20,22],[23,22,21,20,17,15,14,16,18,11,12,10,9,8,7,6,5,0,1],[1,0,5,6,7,8,9,10,12,11,18,16,14,15,17,20,21,22,23,24],[24,23,22,21,20,17,15,14,16,18,11,12,10,9,8,7,6,5,0,1,25],[25,1,0,5,6,7,8,9,10,12,11,18,16,14,15,17,20,21,22,23,24,26],[27,26,25,24,23,22,21,20,17,15,14,16,18,12,11,10,9,8,7,6,5,1,0,2],[2,0,1,5,6,7,8,9,10,11,12,18,16,14,15,17,20,21,22,23,24,25,26,27,28],[28,27,26,25,24,23,22,21,20,17,15,14,16,18,12,11,10,9,8,7,6,5,1,0,2,29],[29,2,0,1,5,6,7,8,9,10,11,12,18,16,14,15,17,20,21,22,23,24,25,26,27,28,30],[31,30,29,28,27,26,25,24,23,22,21,20,17,15,14,16,18,13,12,11,10,9,8,7,6,5,2,1,0,3],[3,0,1,2,5,6,7,8,9,10,11,12,13,18,16,14,15,17,20,21,22,23,24,25,26,27,28,29,30,31,32],[32,31,30,29,28,27,26,25,24,23,22,21,20,17,15,14,16,18,13,12,11,10,9,8,7,6,5,2,1,0,3,33],[33,3,0,1,2,5,6,7,8,9,10,11,12,13,18,16,14,15,17,20,21,22,23,24,25,26,27,28,29,30,31,32,34],[35,34,33,32,31,30,29,28,27,26,25,24,23,22,21,20,19,18,17,16,15,14,13,12,11,10,9,8,7,6,5,3,2,1,0,4],[4,0,1,2,3,5,6,7,8,9,10,11,12,13,14,15,16,17,18,19,20,21,22,23,24,25,26,27,28,29,30,31,32,33,34,35,36],[36,35,34,33,32,31,30,29,28,27,26,25,24,23,22,21,20,19,18,17,16,15,14,13,12,11,10,9,8,7,6,5,3,2,1,0,4,37],[37,4,0,1,2,3,5,6,7,8,9,10,11,12,13,14,15,16,17,18,19,20,21,22,23,24,25,26,27,28,29,30,31,32,33,34,35,36,38]],[0,1,2,3,4,5,6,7,8,9,10,11,13,14,15,16,17,18,19],[(12,[20,21,22]),(23,[24,25,26]),(27,[28,29,30]),(31,[32,33,34]),(35,[36,37,38]),(39,[])]⟩
def lone2 : Prim := { lone with votes := [⟨1, 1, 5⟩], said := 1, mine := loneH, dig := 5, acks := [1] }
def loneC : Cert := ⟨1, 1, [], [], 5, [1]⟩
def lone3 : Prim := ⟨1, 1, 1, 0, 1, cz0, 0, [], [⟨1, 1, 5⟩], ⟨1, 0, [loneC]⟩, []⟩
theorem lone3_eq : certdP lone2 = lone3 := by rfl
def loneM : Msg := ⟨4, 0, 0, 5, 0, 0, [], loneH, cz0, []⟩
theorem tell_none : tellO lone2 loneM [] lone2.nodes.toNat = [] := by rfl
theorem tell_none2 : (if doneP lone2 then tellO (clearP lone2) (certMsg (certP lone2)) [] lone2.nodes.toNat else []) = [] := by rfl
theorem tiny_nil {α : Type} : tiny ([] : List α) := by show 0 ≤ _; decide
theorem tiny_one {α : Type} (x : α) : tiny [x] := by show 1 ≤ _; decide
theorem rise_nil (a b : Int) : riseB [] a b := ⟨List.Pairwise.nil, fun x h => (by cases h)⟩
theorem okH1 : okHead 1 loneH := ⟨by rfl, by decide, by decide, ⟨by decide, rise_nil 1 65536⟩, ⟨by decide, rise_nil 1 65536⟩, fun _ => rfl, fun h => absurd rfl h⟩
theorem okC1 : okCert 1 loneC := ⟨⟨by rfl, by decide, by decide, ⟨by decide, rise_nil 1 65536⟩, ⟨by decide, rise_nil 1 65536⟩, fun _ => rfl, fun h => absurd rfl h⟩, by decide, ⟨List.pairwise_singleton .., fun x h => (by have := List.mem_singleton.1 h; subst this; decide)⟩, by decide⟩
theorem tinyH1 : loneH.tiny := ⟨tiny_nil, tiny_nil, tiny_nil⟩
theorem tinyC1 : loneC.tiny := ⟨tiny_nil, tiny_nil, tiny_one 1⟩
theorem mayH1 : ACalls Tryz.prog 92 [loneH.hav, .d (.int .i64 1)] [] (fun av L => av = .d (.bool true) ∧ L = []) := by
  refine (hMay_ok loneH ⟨few_nil, few_nil, few_nil⟩ 1).mono ?_
  rintro _ _ ⟨rfl, rfl⟩
  exact ⟨by simp [okH1], rfl⟩
set_option maxHeartbeats 2000000 in
theorem say1 : ACalls Tryz.prog 93 [lone.av, loneH.hav, .d (.int .i64 5)] [] (fun av L => av = .tup [lone3.av, .d (.sl 1 []), .d (.sl 18 []), .d (.int .i64 0)] ∧ L = []) := by
  have h1 := ready_ok lone lone_fit (by decide) (by decide)
  have h2 := headP_ok lone lone_fit (by decide) (by decide) [] few_nil
  rw [lone_head] at h2
  have h3 := equal_ok [] [] few_nil
  have h4 := votePut_nil ⟨1, 1, 5⟩
  have h5 := own_ok loneH tinyH1
  have h6 := tell_ok lone2 (by decide) [] (by decide) loneM tinyH1 cz0_tiny [] few_nil
  rw [tell_none] at h6
  have h7 := certified_ok lone2 [] (by decide) (by decide) (fun _ => ⟨okC1, tinyC1, ⟨lone_bare.dag, by decide, fun c h => (by cases h)⟩, by decide, List.Pairwise.nil⟩)
  rw [tell_none2, lone3_eq] at h7
  (refine acalls_go ttOk zOk foOk Tryz.func93 rfl Tryz.ntmps93 rfl false rfl ?_); (conv => whnf)
  ((with_reducible refine draw_pl ttOk zOk foOk mixedOk pl93x1 ?_ ?_); (focus kernel_rfl); (conv => whnf))
  refine rdw ?_; repeat' ((with_reducible apply tw) <;> intro _)
  refine ACalls.mono (post := fun av L => av = .d (.bool true) ∧ L = []) h1 ?_
  rintro _ _ ⟨rfl, rfl⟩
  conv => whnf
  refine rdw ?_; repeat' ((with_reducible apply tw) <;> intro _)
  refine ACalls.mono (post := fun av L => av = loneH.hav ∧ L = []) h2 ?_
  rintro _ _ ⟨rfl, rfl⟩
  conv => whnf
  refine rdw ?_; repeat' ((with_reducible apply tw) <;> intro _)
  refine ACalls.mono (post := fun av L => av = .d (.bool true) ∧ L = []) h3 ?_
  rintro _ _ ⟨rfl, rfl⟩
  conv => whnf
  refine rdw ?_; repeat' ((with_reducible apply tw) <;> intro _)
  refine ACalls.mono (post := fun av L => av = .tup [.d (.sl 3 (votesD [⟨1, 1, 5⟩])), .d (.int .i64 0)] ∧ L = []) h4 ?_
  rintro _ _ ⟨rfl, rfl⟩
  conv => whnf
  refine rdw ?_; repeat' ((with_reducible apply tw) <;> intro _)
  refine ACalls.mono (post := fun av L => av = .d (.sl 1 []) ∧ L = []) (cloneI_ok [] (by decide)) ?_
  rintro _ _ ⟨rfl, rfl⟩
  conv => whnf
  refine rdw ?_; repeat' ((with_reducible apply tw) <;> intro _)
  (with_reducible refine draw_pl ttOk zOk foOk mixedOk plSay8 ?_ ?_)
  focus kernel_rfl
  conv => whnf
  refine rdw ?_; repeat' ((with_reducible apply tw) <;> intro _)
  refine ACalls.mono (post := fun av L => av = loneH.hav ∧ L = []) h5 ?_
  rintro _ _ ⟨rfl, rfl⟩
  conv => whnf
  refine rdw ?_; repeat' ((with_reducible apply tw) <;> intro _)
  refine (acalls_nw h6 (.cons (.refl _) (.cons (.agg ?_) (.cons (.refl _) .nil)))).mono ?_
  · repeat (first | exact .nil | refine .cons (.refl _) ?_ | refine .cons (.nils _ (by decide)) ?_)
  rintro _ _ ⟨rfl, j, rfl⟩
  cases j
  all_goals
    conv => whnf
    refine rdw ?_; repeat' ((with_reducible apply tw) <;> intro _)
    refine h7.mono ?_
    rintro _ _ ⟨rfl, j, rfl⟩
    cases j
    all_goals
      conv => whnf
      refine rdw ?_; repeat' ((with_reducible apply tw) <;> intro _)
      ((with_reducible refine draw_pl ttOk zOk foOk mixedOk pl93x11 ?_ ?_); (focus kernel_rfl); (conv => whnf))
      refine rdw ?_; repeat' ((with_reducible apply tw) <;> intro _)
      exact ⟨rfl, rfl⟩
theorem okHead_tiny {n : Int} {c : Cert} (h : okHead n c) : tiny c.bats ∧ tiny c.pars := by
  have hnn := of_decide_eq_true h.isn
  have h1 := h.bats.1
  have h2 := h.pars.1
  exact ⟨by unfold tiny; omega, by unfold tiny; omega⟩
theorem May.acks {p : Prim} (h : May p) : riseB p.acks 1 p.nodes ∧ p.acks.length ≤ 65536 := by
  have hnn := of_decide_eq_true h.isn
  by_cases h0 : p.dig = 0
  · rw [(h.mine.none h0).2.2.2.2]
    exact ⟨rise_nil _ _, by simp⟩
  · exact ⟨h.mine.acks h0, riseN_len (h.mine.acks h0) ⟨by omega, by omega⟩⟩
theorem May.tiny {p : Prim} (h : May p) (hs : p.mine.sigs.length ≤ 1099511627776) : p.tiny := by
  have hnn := of_decide_eq_true h.isn
  have ha := h.acks
  have hv := h.votes.len
  have hd := h.dag.len
  have hl := h.late.len
  refine ⟨?_, by omega, by omega, ⟨?_, fun c hc => certTiny_of h.dag.nodes (h.dag.certs c hc)⟩, ⟨?_, fun c hc => certTiny_of h.isn (h.late.certs c hc)⟩⟩
  · by_cases h0 : p.dig = 0
    · obtain ⟨_, _, e1, e2, _⟩ := h.mine.none h0
      refine ⟨?_, ?_, hs⟩
      · rw [e1]; exact tiny_nil
      · rw [e2]; exact tiny_nil
    · have := okHead_tiny (h.mine.head h0)
      exact ⟨this.1, this.2, hs⟩
  · show p.dag.certs.length ≤ _
    omega
  · show p.late.length ≤ _
    omega
def errAV (e : Int) : AV := .tup [.agg zPrim, .d (.sl 18 []), .d (.int .i64 e)]
def doneAV (q : Prim) (o : List Msg) : AV := .tup [q.av, .d (.sl 18 (msgsD o)), .d (.int .i64 0)]
theorem May.beat {p : Prim} (h : May p) (hs : p.mine.sigs.length ≤ 1099511627776) : BeatOk2 p := ⟨h.dag, h.isn, h.same, h.round, h.age, (h.tiny hs).mine, by have := h.acks.2; unfold few; omega⟩
theorem num20_ok (n : Int) : ACalls Tryz.prog 17 [.d (.int .i64 n)] [] (fun av L => av = .d (.int .i64 n) ∧ L = []) := by
  (refine acalls_go ttOk zOk foOk Tryz.func17 rfl Tryz.ntmps17 rfl false rfl ?_); (conv => whnf)
  refine rdw ?_; repeat' ((with_reducible apply tw) <;> intro _)
  exact ⟨rfl, rfl⟩
theorem lone_tiny : lone.tiny := ⟨⟨tiny_nil, tiny_nil, tiny_nil⟩, by decide, by decide, ⟨tiny_nil, fun c h => (by cases h)⟩, ⟨tiny_nil, fun c h => (by cases h)⟩⟩
theorem proposed1 : ACalls Tryz.prog 49 [lone.av, loneH.hav, .d (.int .i64 5)] [] (fun av L => av = .tup [lone3.av, .d (.sl 1 []), .d (.sl 18 []), .d (.int .i64 0)] ∧ L = []) := by
  have h1 := primMay_true lone lone_bare
  have h2 := mayH1
  have h3 := primOwn_ok lone lone_tiny
  have h4 := say1
  (refine acalls_go ttOk zOk foOk Tryz.func49 rfl Tryz.ntmps49 rfl false rfl ?_); (conv => whnf)
  refine rdw ?_; repeat' ((with_reducible apply tw) <;> intro _)
  refine ACalls.mono (post := fun av L => av = .d (.bool true) ∧ L = []) h1 ?_
  rintro _ _ ⟨rfl, rfl⟩
  conv => whnf
  refine rdw ?_; repeat' ((with_reducible apply tw) <;> intro _)
  refine (digest_ok 5).mono ?_
  rintro _ _ ⟨rfl, rfl⟩
  conv => whnf
  refine rdw ?_; repeat' ((with_reducible apply tw) <;> intro _)
  refine ACalls.mono (post := fun av L => av = .d (.bool true) ∧ L = []) h2 ?_
  rintro _ _ ⟨rfl, rfl⟩
  conv => whnf
  refine rdw ?_; repeat' ((with_reducible apply tw) <;> intro _)
  ((with_reducible refine draw_pl ttOk zOk foOk mixedOk pl49x3 ?_ ?_); (focus kernel_rfl); (conv => whnf))
  refine rdw ?_; repeat' ((with_reducible apply tw) <;> intro _)
  refine ACalls.mono (post := fun av L => av = lone.av ∧ L = []) h3 ?_
  rintro _ _ ⟨rfl, rfl⟩
  conv => whnf
  refine rdw ?_; repeat' ((with_reducible apply tw) <;> intro _)
  refine ACalls.mono (post := fun av L => av = .tup [lone3.av, .d (.sl 1 []), .d (.sl 18 []), .d (.int .i64 0)] ∧ L = []) h4 ?_
  rintro _ _ ⟨rfl, rfl⟩
  conv => whnf
  refine rdw ?_; repeat' ((with_reducible apply tw) <;> intro _)
  exact ⟨rfl, rfl⟩
theorem wakes_ok : ACalls Tryz.prog 20 [] [] (fun av L => av = .d (.bool true) ∧ L = []) := by
  have h1 := new_ok 1 1 (by decide) (by decide)
  have h2 := make1
  have h3 := proposed1
  (refine acalls_go ttOk zOk foOk Tryz.func20 rfl Tryz.ntmps20 rfl false rfl ?_); (conv => whnf)
  refine rdw ?_; repeat' ((with_reducible apply tw) <;> intro _)
  refine ACalls.mono (post := fun av L => av = .tup [lone.av, .d (.int .i64 0)] ∧ L = []) h1 ?_
  rintro _ _ ⟨rfl, rfl⟩
  conv => whnf
  refine rdw ?_; repeat' ((with_reducible apply tw) <;> intro _)
  refine ACalls.mono (post := fun av L => av = .tup [loneH.hav, .d (.int .i64 0)] ∧ L = []) h2 ?_
  rintro _ _ ⟨rfl, rfl⟩
  conv => whnf
  refine rdw ?_; repeat' ((with_reducible apply tw) <;> intro _)
  refine ACalls.mono (post := fun av L => av = .tup [lone3.av, .d (.sl 1 []), .d (.sl 18 []), .d (.int .i64 0)] ∧ L = []) h3 ?_
  rintro _ _ ⟨rfl, rfl⟩
  conv => whnf
  refine rdw ?_; repeat' ((with_reducible apply tw) <;> intro _)
  iterate 3
    refine (num20_ok 0).mono ?_
    rintro _ _ ⟨rfl, rfl⟩
    conv => whnf
    refine rdw ?_; repeat' ((with_reducible apply tw) <;> intro _)
  intro z hz
  have hz0 : z = 0 := hz
  subst hz0
  conv => whnf
  refine rdw ?_; repeat' ((with_reducible apply tw) <;> intro _)
  exact ⟨rfl, rfl⟩
end Go.Proofs.YtolkmjfkkkiboaaGreat
