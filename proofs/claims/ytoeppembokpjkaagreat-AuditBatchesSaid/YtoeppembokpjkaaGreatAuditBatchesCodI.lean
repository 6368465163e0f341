/- AuditBatches: for every Ask the law returns true, and its argument reads behind the call as it read before. No condition of ours. -/
import Derived.Test.YtoeppembokpjkaaGreatAuditBatchesCodH
import Derived.Test.YtoeppembokpjkaaGreatRows

set_option linter.unusedVariables false
set_option linter.unusedSimpArgs false
namespace Go.Proofs.YtoeppembokpjkaaGreat
open Go.Ab Go.RowKit Go.MapKept
attribute [local irreducible] ACalls AW ADraw Into fltB fnear
set_option maxRecDepth 100000
/-! ## audit.Batches -/
theorem batf_ok (c : Cert) (x : Int) : ACalls Tryz.prog 68 [c.av, .ptr 0 0] [.cells [.d (.int .i64 x)]] (fun av L => av = .d (.bool (c.digest == x)) ∧ L = [.cells [.d (.int .i64 x)]]) := by
  refine acalls_go ttOk zOk foOk Tryz.func68 rfl Tryz.ntmps68 rfl false rfl ?_
  conv => whnf
  exact ⟨rfl, rfl⟩
theorem indexB_ok (l : List Cert) (hl : few l) (x : Int) : ACalls Tryz.prog 67 [.d (.sl 6 (certsD l)), .fn 68 [.ptr 0 0]] [.cells [.d (.int .i64 x)]] (fun av L => av = .d (.int .i64 ((l.findIdx? (fun c => c.digest == x)).elim (-1) fun i => (i : Int))) ∧ L = [.cells [.d (.int .i64 x)]]) := by
  have hll := certsD_length l
  unfold few at hl
  refine acalls_go ttOk zOk foOk Tryz.func67 rfl Tryz.ntmps67 rfl false rfl ?_
  conv => whnf
  refine loop_go ttOk zOk foOk (σ := Nat) (fun j => ([(1, .fn 68 [.ptr 0 0]), (0, .d (.sl 6 (certsD l))), (7, .d (.int .i64 l.length)), (8, .d (.int .i64 j))], [.cells [.d (.int .i64 x)]])) (fun j => j ≤ l.length ∧ ∀ i c, i < j → l[i]? = some c → (c.digest == x) = false) (fun j => l.length - j) [1, 0, 7, 8] ?_ ?_
  · conv => whnf
    exact ⟨0, by rw [hll]; rfl, rfl, Nat.zero_le _, by omega⟩
  · rintro j ⟨h1, h2⟩
    conv => whnf
    repeat' (first | ((with_reducible apply z_wrap); (focus omega); (conv => whnf)) | ((with_reducible first | apply mt_dec | apply mt_eq | apply mt_ne | apply mt_not | apply mt_any) <;> (intro _; conv => whnf)))
    · rename_i h
      obtain ⟨c, hc⟩ : ∃ c, l[j]? = some c := ⟨_, List.getElem?_eq_getElem (by omega)⟩
      refine ⟨by omega, c.cs, certsD_at hc, ?_⟩
      conv => whnf
      refine (batf_ok c x).mono ?_
      rintro _ _ ⟨rfl, rfl⟩
      obtain ⟨b, hb⟩ : ∃ b, (c.digest == x) = b := ⟨_, rfl⟩
      rw [hb]
      conv => whnf
      repeat' (first | ((with_reducible apply z_wrap); (focus omega); (conv => whnf)) | ((with_reducible first | apply mt_dec | apply mt_eq | apply mt_ne | apply mt_not | apply mt_any) <;> (intro _; conv => whnf)))
      · rename_i h3
        subst h3
        exact ⟨by rw [findIdx_at hc hb h2]; rfl, rfl⟩
      · rename_i h3
        refine ⟨j + 1, rfl, rfl, ⟨by omega, fun i c' hi hc' => ?_⟩, by omega⟩
        rcases Nat.lt_or_ge i j with h4 | h4
        · exact h2 i c' h4 hc'
        · obtain rfl : i = j := by omega
          rw [hc] at hc'; cases hc'; rw [hb]; simpa using h3
    · rename_i h
      exact ⟨by rw [findIdx_no (l := l) fun i c hi => h2 i c (by have := (List.getElem?_eq_some_iff.1 hi).1; omega) hi]; rfl, rfl⟩

def batL (l : List Cert) (x : Int) : List Int := ((l.findIdx? fun c => c.digest == x).bind fun i => l[i]?).elim [] (·.bats)
def batsI (l : List Cert) (outs : List Int) : List Int := outs.foldl (fun b x => addS b (batL l x)) []
def baSt (n : Int) (l : List Cert) (outs : List Int) (i : Nat) (b : List Int) : AF × List AB :=
  ([(1, .d (.sl 6 (certsD l))), (20, .d (.sl 1 (nums outs))), (21, .d (.int .i64 outs.length)), (22, .d (.int .i64 i)), (8, .arr 0), (9, .map 1)], [.row 3 1 (nums b) false, .map (setM b)])
def baIn (l : List Cert) (outs : List Int) (i : Nat) (bs : List Int) (k : Nat) (b : List Int) : AF × List AB :=
  ([(1, .d (.sl 6 (certsD l))), (20, .d (.sl 1 (nums outs))), (21, .d (.int .i64 outs.length)), (22, .d (.int .i64 i)), (36, .d (.sl 1 (nums bs))), (37, .d (.int .i64 bs.length)), (38, .d (.int .i64 k)), (8, .arr 0), (9, .map 1)], [.row 3 1 (nums b) false, .map (setM b)])
theorem addS_len (ks ps : List Int) : (addS ks ps).length ≤ ks.length + ps.length := by
  induction ps generalizing ks with
  | nil => simp [addS]
  | cons p ps ih =>
    have := ih (insS ks p)
    have h2 : (insS ks p).length ≤ ks.length + 1 := by unfold insS; split <;> simp
    simp only [addS, List.foldl_cons, List.length_cons] at this ⊢
    omega
theorem batL_len {l : List Cert} (h : ∀ c ∈ l, c.bats.length ≤ 3000) (x : Int) : (batL l x).length ≤ 3000 := by
  unfold batL
  cases hf : (l.findIdx? fun c => c.digest == x).bind fun i => l[i]? with
  | none => simp
  | some c =>
    cases hi : l.findIdx? fun c => c.digest == x with
    | none => rw [hi] at hf; cases hf
    | some i => rw [hi] at hf; exact h c (List.mem_of_getElem? hf)
theorem bats_len {l : List Cert} (h : ∀ c ∈ l, c.bats.length ≤ 3000) : ∀ (outs b : List Int), (outs.foldl (fun b x => addS b (batL l x)) b).length ≤ b.length + 3000 * outs.length
  | [], b => by simp
  | x :: r, b => by
    have h1 := bats_len h r (addS b (batL l x))
    have h2 := addS_len b (batL l x)
    have h3 := batL_len h x
    simp only [List.foldl_cons, List.length_cons]
    omega
noncomputable def batE (n : Int) (l : List Cert) (outs : List Int) : List Int := if okAll n l = true then batsI l outs else []
set_option maxHeartbeats 8000000 in
theorem batches_row (n : Int) (l : List Cert) (hl : l.length ≤ 60) (hf : ∀ c ∈ l, c.light) (outs : List Int) (ho : outs.length ≤ 200) : ACalls Tryz.prog 39 [.d (.int .i64 n), .d (.sl 6 (certsD l)), .d (.sl 1 (nums outs))] [] (fun av L => av = .tup [.arr 0, .d (.int .i64 (ordE n l))] ∧ L = [.row 3 1 (nums (batE n l outs)) false]) := by
  have hmay := auditMay_ok n l (by unfold few; omega) (fun c hc => (hf c hc).all.1)
  rw [show (isN n && l.all fun c => okC n c) = okAll n l from rfl] at hmay
  have hcl := certsD_length l
  have hol := nums_length outs
  have hll : ∀ c ∈ l, c.bats.length ≤ 3000 := fun c hc => (hf c hc).1
  refine acalls_go ttOk zOk foOk Tryz.func39 rfl Tryz.ntmps39 rfl true rfl ?_
  conv => whnf
  refine hmay.mono ?_
  rintro _ _ ⟨rfl, rfl⟩
  rw [ordE, batE]
  cases hb : okAll n l with
  | false =>
    conv => whnf
    repeat' (first | ((with_reducible apply z_wrap); (focus omega); (conv => whnf)) | ((with_reducible first | apply mt_dec | apply mt_eq | apply mt_ne | apply mt_not | apply mt_any) <;> (intro _; conv => whnf)))
    exact ⟨rfl, rfl⟩
  | true =>
    conv => whnf
    repeat' (first | ((with_reducible apply z_wrap); (focus omega); (conv => whnf)) | ((with_reducible first | apply mt_dec | apply mt_eq | apply mt_ne | apply mt_not | apply mt_any) <;> (intro _; conv => whnf)))
    refine loop_go2 ttOk zOk foOk (σ := Nat) (ρ := List Int) (baSt n l outs) (fun i b => i ≤ outs.length ∧ b = batsI l (outs.take i)) (fun i _ => outs.length - i) [1, 20, 21, 22, 8, 9] ?_ ?_
    · conv => whnf
      exact ⟨0, [], by rw [hol]; rfl, rfl, Nat.zero_le _, rfl⟩
    · rintro i b ⟨hi, hbb⟩
      have hbl : b.length ≤ 600000 := by
        have := bats_len hll (outs.take i) []
        have h2 : (outs.take i).length ≤ outs.length := List.length_take_le' ..
        rw [hbb, batsI]
        simp only [List.length_nil] at this
        omega
      conv => whnf
      repeat' (first | ((with_reducible apply z_wrap); (focus omega); (conv => whnf)) | ((with_reducible first | apply mt_dec | apply mt_eq | apply mt_ne | apply mt_not | apply mt_any) <;> (intro _; conv => whnf)))
      · rename_i hil
        refine Exists.elim (⟨_, List.getElem?_eq_getElem (by omega)⟩ : ∃ x, outs[i]? = some x) fun x hx => ?_
        have hsn : batsI l (outs.take (i + 1)) = addS b (batL l x) := by
          rw [List.take_add_one, hx, hbb, batsI, List.foldl_append]
          rfl
        refine ⟨by omega, [.int .i64 x], nums_at hx, ?_⟩
        conv => whnf
        refine (indexB_ok l (by unfold few; omega) x).mono ?_
        rintro _ _ ⟨rfl, rfl⟩
        cases hg : l.findIdx? fun c => c.digest == x with
        | none =>
          have he : batL l x = [] := by rw [batL, hg]; rfl
          rw [he] at hsn
          conv => whnf
          repeat' (first | ((with_reducible apply z_wrap); (focus omega); (conv => whnf)) | ((with_reducible first | apply mt_dec | apply mt_eq | apply mt_ne | apply mt_not | apply mt_any) <;> (intro _; conv => whnf)))
          exact ⟨i + 1, b, rfl, rfl, ⟨by omega, hsn.symm⟩, by omega⟩
        | some m =>
          have hml : m < l.length := (List.findIdx?_eq_some_iff_getElem.1 hg).1
          refine Exists.elim (⟨_, List.getElem?_eq_getElem hml⟩ : ∃ c, l[m]? = some c) fun c hc => ?_
          have he : batL l x = c.bats := by rw [batL, hg]; simp [hc]
          rw [he] at hsn
          have hcb : c.bats.length ≤ 3000 := hll c (List.mem_of_getElem? hc)
          have hbn := nums_length c.bats
          rw [show ((some m).elim (-1) fun i => (i : Int)) = (m : Int) from rfl]
          conv => whnf
          repeat' (first | ((with_reducible apply z_wrap); (focus omega); (conv => whnf)) | ((with_reducible first | apply mt_dec | apply mt_eq | apply mt_ne | apply mt_not | apply mt_any) <;> (intro _; conv => whnf)))
          refine ⟨by omega, c.cs, certsD_at hc, ?_⟩
          conv => whnf
          repeat' (first | ((with_reducible apply z_wrap); (focus omega); (conv => whnf)) | ((with_reducible first | apply mt_dec | apply mt_eq | apply mt_ne | apply mt_not | apply mt_any) <;> (intro _; conv => whnf)))
          refine loop_go2 ttOk zOk foOk (σ := Nat) (ρ := List Int) (baIn l outs i c.bats) (fun k b' => k ≤ c.bats.length ∧ b' = addS b (c.bats.take k)) (fun k _ => c.bats.length - k) [1, 20, 21, 22, 36, 37, 38, 8, 9] ?_ ?_
          · conv => whnf
            exact ⟨0, b, by rw [hbn]; rfl, rfl, Nat.zero_le _, rfl⟩
          · rintro k b' ⟨hk, hbk⟩
            conv => whnf
            repeat' (first | ((with_reducible apply z_wrap); (focus omega); (conv => whnf)) | ((with_reducible first | apply mt_dec | apply mt_eq | apply mt_ne | apply mt_not | apply mt_any) <;> (intro _; conv => whnf)))
            · rename_i hkl
              refine Exists.elim (⟨_, List.getElem?_eq_getElem (by omega)⟩ : ∃ y, c.bats[k]? = some y) fun y hy => ?_
              have hbs : addS b (c.bats.take (k + 1)) = insS b' y := by
                rw [List.take_add_one, hy, hbk, addS, addS, List.foldl_append]
                rfl
              have hbl2 : b'.length ≤ 603000 := by
                have h1 := addS_len b (c.bats.take k)
                have h2 : (c.bats.take k).length ≤ c.bats.length := List.length_take_le' ..
                rw [hbk]; omega
              refine ⟨by omega, [.int .i64 y], nums_at hy, ?_⟩
              conv => whnf
              refine Exists.elim (setM_look b' y) fun q hq0 => ?_
              refine Exists.elim (setM_put b' y) fun q2 hp0 => ?_
              have hq := hq0.1
              have hq2 := hq0.2
              have hq3 := hp0.1
              have hq4 := hp0.2
              rw [← hbs] at hq4
              clear hq0 hp0
              refine ⟨q, hq, ?_⟩
              by_cases hin : y ∈ b'
              · refine Exists.elim (hq2.elim (fun h => h.2) (fun h => absurd hin h.1)) fun j hj => ?_
                rw [hj]
                conv => whnf
                refine ⟨q2, hq3, ?_⟩
                rw [show mputAt (setM b') q2 (.one (.int .i64 y)) (.v (.one (avOf1 (Value.bool true)))) = setM (insS b' y) by rw [hbs] at hq4; exact hq4]
                have hb' : insS b' y = b' := by rw [insS, if_pos hin]
                rw [hb']
                conv => whnf
                repeat' (first | ((with_reducible apply z_wrap); (focus omega); (conv => whnf)) | ((with_reducible first | apply mt_dec | apply mt_eq | apply mt_ne | apply mt_not | apply mt_any) <;> (intro _; conv => whnf)))
                exact ⟨k + 1, b', rfl, rfl, ⟨by omega, by rw [hbs, hb']⟩, by omega⟩
              · have hj : q = none := hq2.elim (fun h => absurd h.1 hin) (fun h => h.2)
                rw [hj]
                conv => whnf
                refine ⟨by rw [nums_length, List.length_singleton]; show (b'.length + 1) * 8 ≤ _; omega, ?_⟩
                conv => whnf
                rw [nums_app]
                refine ⟨q2, hq3, ?_⟩
                rw [show mputAt (setM b') q2 (.one (.int .i64 y)) (.v (.one (avOf1 (Value.bool true)))) = setM (insS b' y) by rw [hbs] at hq4; exact hq4]
                have hb' : insS b' y = b' ++ [y] := by rw [insS, if_neg hin]
                rw [hb']
                conv => whnf
                repeat' (first | ((with_reducible apply z_wrap); (focus omega); (conv => whnf)) | ((with_reducible first | apply mt_dec | apply mt_eq | apply mt_ne | apply mt_not | apply mt_any) <;> (intro _; conv => whnf)))
                exact ⟨k + 1, b' ++ [y], rfl, rfl, ⟨by omega, by rw [hbs, hb']⟩, by omega⟩
            · rename_i hkl
              obtain rfl : k = c.bats.length := by omega
              rw [List.take_length] at hbk
              exact ⟨i + 1, b', rfl, rfl, ⟨by omega, by rw [hsn, hbk]⟩, by omega⟩
      · rename_i hil
        obtain rfl : i = outs.length := by omega
        rw [List.take_length] at hbb
        rw [← hbb]
        exact ⟨rfl, rfl⟩
end Go.Proofs.YtoeppembokpjkaaGreat

namespace Go.Proofs.YtoeppembokpjkaaGreat
open Go.Ab Go.RowKit Go.MapKept
attribute [local irreducible] ACalls AW ADraw Into fltB fnear
set_option maxRecDepth 100000
/-! ## the page's Batches -/
def rbO (l : List Cert) (outs : List Int) (i : Nat) (b : List Int) : AF × List AB :=
  ([(0, .d (.sl 6 (certsD l))), (1, .d (.sl 1 (nums outs))), (5, .arr 0), (6, .d (.int .i64 i))], [.row 3 1 (nums b) false])
def rbK (l : List Cert) (outs : List Int) (i k : Nat) (b : List Int) : AF × List AB :=
  ([(0, .d (.sl 6 (certsD l))), (1, .d (.sl 1 (nums outs))), (5, .arr 0), (6, .d (.int .i64 i)), (7, .d (.int .i64 k))], [.row 3 1 (nums b) false])
def rbJ (l : List Cert) (outs : List Int) (i k j : Nat) (b : List Int) : AF × List AB :=
  ([(0, .d (.sl 6 (certsD l))), (1, .d (.sl 1 (nums outs))), (5, .arr 0), (6, .d (.int .i64 i)), (7, .d (.int .i64 k)), (8, .d (.int .i64 j))], [.row 3 1 (nums b) false])
theorem insS_in (b : List Int) (y : Int) : insS b y = if inI b y < 0 then b ++ [y] else b := by
  unfold insS inI
  by_cases h : y ∈ b
  · rw [if_pos h]
    cases hc : inC b y with
    | none =>
      unfold inC at hc
      rw [List.findIdx?_eq_none_iff] at hc
      have := hc y h
      simp at this
    | some i =>
      rw [if_neg]
      show ¬ ((i : Int) < 0)
      omega
  · rw [if_neg h]
    cases hc : inC b y with
    | none => rw [if_pos]; decide
    | some i =>
      unfold inC at hc
      obtain ⟨h1, h2, _⟩ := List.findIdx?_eq_some_iff_getElem.1 hc
      exact absurd (by have := of_decide_eq_true h2; rw [← this]; exact List.getElem_mem h1) h
theorem batL_at {l : List Cert} {x : Int} {k : Nat} {c : Cert} (hc : l[k]? = some c) (hx : c.digest = x) (h : ∀ (j : Nat) y, j < k → l[j]? = some y → y.digest ≠ x) : batL l x = c.bats := by
  have : l.findIdx? (fun c => c.digest == x) = some k := findIdx_at hc (by simpa using hx) (fun j y hj hy => by simpa using h j y hj hy)
  rw [batL, this]
  simp [hc]
theorem batL_no {l : List Cert} {x : Int} (h : ∀ (j : Nat) y, l[j]? = some y → y.digest ≠ x) : batL l x = [] := by
  have : l.findIdx? (fun c => c.digest == x) = none := findIdx_no (fun j y hy => by simpa using h j y hy)
  rw [batL, this]
  rfl
theorem in_raw (b : List Int) (hb : few b) (x : Int) (sh : Bool) : ACalls Tryz.prog 40 [.arr 0, .d (.int .i64 x)] [.row 3 1 (nums b) sh] (fun av L => av = .d (.int .i64 (inI b x)) ∧ L = [.row 3 1 (nums b) sh]) :=
  acalls_lend (flat_int _ _) ⟨_, _, rfl, .inl (.inr (.inl ⟨0, _, _, _, _, rfl, rfl, rfl⟩)), _, _, rfl, .inl (.inl ⟨_, rfl, rfl⟩), rfl⟩ (in_ok b hb x)
set_option maxHeartbeats 8000000 in
theorem rBatches_ok (l : List Cert) (hl : l.length ≤ 60) (hf : ∀ c ∈ l, c.light) (outs : List Int) (ho : outs.length ≤ 200) : ACalls Tryz.prog 37 [.d (.sl 6 (certsD l)), .d (.sl 1 (nums outs))] [] (fun av L => av = .d (.sl 1 (nums (batsI l outs))) ∧ L = []) := by
  have hcl := certsD_length l
  have hol := nums_length outs
  have hll : ∀ c ∈ l, c.bats.length ≤ 3000 := fun c hc => (hf c hc).1
  refine acalls_go ttOk zOk foOk Tryz.func37 rfl Tryz.ntmps37 rfl false rfl ?_
  conv => whnf
  refine loop_go2 ttOk zOk foOk (σ := Nat) (ρ := List Int) (rbO l outs) (fun i b => i ≤ outs.length ∧ b = batsI l (outs.take i)) (fun i _ => outs.length - i) [0, 1, 5, 6] ?_ ?_
  · conv => whnf
    exact ⟨0, [], rfl, rfl, Nat.zero_le _, rfl⟩
  · rintro i b ⟨hi, hbb⟩
    have hbl : b.length ≤ 600000 := by
      have := bats_len hll (outs.take i) []
      have h2 : (outs.take i).length ≤ outs.length := List.length_take_le' ..
      rw [hbb, batsI]
      simp only [List.length_nil] at this
      omega
    conv => whnf
    repeat' (first | ((with_reducible apply rd_intro); (focus (intro K hK; (conv => whnf); first | exact hK | (intro z hz; rw [wrapI (by omega)] at hz; subst hz; exact hK))); (conv => whnf)) | ((with_reducible apply gd_and); (focus ((conv => whnf) <;> first | rfl | (intro K hK; (conv => whnf); first | exact hK | (intro z hz; rw [wrapI (by omega)] at hz; subst hz; exact hK)))); (conv => whnf)) | ((with_reducible apply z_wrap); (focus omega); (conv => whnf)) | ((with_reducible first | apply mt_dec | apply mt_eq | apply mt_ne | apply mt_not | apply mt_any) <;> (intro _; conv => whnf)))
    · rename_i hil
      refine Exists.elim (⟨_, List.getElem?_eq_getElem (by omega)⟩ : ∃ x, outs[i]? = some x) fun x hx => ?_
      have hsn : batsI l (outs.take (i + 1)) = addS b (batL l x) := by
        rw [List.take_add_one, hx, hbb, batsI, List.foldl_append]
        rfl
      refine loop_go ttOk zOk foOk (σ := Nat) (fun k => rbK l outs i k b) (fun k => k ≤ l.length ∧ ∀ (j : Nat) y, j < k → l[j]? = some y → y.digest ≠ x) (fun k => l.length - k) [0, 1, 5, 6, 7] ?_ ?_
      · conv => whnf
        exact ⟨0, rfl, rfl, Nat.zero_le _, fun j y h => absurd h (by omega)⟩
      · rintro k ⟨hk, hno⟩
        conv => whnf
        repeat' (first | ((with_reducible apply rd_intro); (focus (intro K hK; (conv => whnf); first | exact hK | (intro z hz; rw [wrapI (by omega)] at hz; subst hz; exact hK))); (conv => whnf)) | ((with_reducible apply gd_and); (focus ((conv => whnf) <;> first | rfl | (intro K hK; (conv => whnf); first | exact hK | (intro z hz; rw [wrapI (by omega)] at hz; subst hz; exact hK)))); (conv => whnf)) | ((with_reducible apply z_wrap); (focus omega); (conv => whnf)) | ((with_reducible first | apply mt_dec | apply mt_eq | apply mt_ne | apply mt_not | apply mt_any) <;> (intro _; conv => whnf)))
        · rename_i hkl
          refine Exists.elim (⟨_, List.getElem?_eq_getElem (by omega)⟩ : ∃ c, l[k]? = some c) fun c hc => ?_
          have hcb : c.bats.length ≤ 3000 := hll c (List.mem_of_getElem? hc)
          have hbn := nums_length c.bats
          ((with_reducible refine draw_pl ttOk zOk foOk mixedOk pl37x8 ?_ ?_); (focus kernel_rfl); (conv => whnf))
          repeat' (first | ((with_reducible apply rd_intro); (focus (intro K hK; (conv => whnf); first | exact hK | (intro z hz; rw [wrapI (by omega)] at hz; subst hz; exact hK))); (conv => whnf)) | ((with_reducible apply gd_and); (focus ((conv => whnf) <;> first | rfl | (intro K hK; (conv => whnf); first | exact hK | (intro z hz; rw [wrapI (by omega)] at hz; subst hz; exact hK)))); (conv => whnf)) | ((with_reducible apply z_wrap); (focus omega); (conv => whnf)) | ((with_reducible first | apply mt_dec | apply mt_eq | apply mt_ne | apply mt_not | apply mt_any) <;> (intro _; conv => whnf)))
          ((with_reducible apply rd_intro); (focus (intro K hK; (conv => whnf); exact ⟨by omega, c.cs, certsD_at hc, hK⟩)); (conv => whnf))
          repeat' (first | ((with_reducible apply rd_intro); (focus (intro K hK; (conv => whnf); first | exact hK | (intro z hz; rw [wrapI (by omega)] at hz; subst hz; exact hK))); (conv => whnf)) | ((with_reducible apply gd_and); (focus ((conv => whnf) <;> first | rfl | (intro K hK; (conv => whnf); first | exact hK | (intro z hz; rw [wrapI (by omega)] at hz; subst hz; exact hK)))); (conv => whnf)) | ((with_reducible apply z_wrap); (focus omega); (conv => whnf)) | ((with_reducible first | apply mt_dec | apply mt_eq | apply mt_ne | apply mt_not | apply mt_any) <;> (intro _; conv => whnf)))
          ((with_reducible apply rd_intro); (focus (intro K hK; (conv => whnf); exact ⟨by omega, [.int .i64 x], nums_at hx, hK⟩)); (conv => whnf))
          repeat' (first | ((with_reducible apply rd_intro); (focus (intro K hK; (conv => whnf); first | exact hK | (intro z hz; rw [wrapI (by omega)] at hz; subst hz; exact hK))); (conv => whnf)) | ((with_reducible apply gd_and); (focus ((conv => whnf) <;> first | rfl | (intro K hK; (conv => whnf); first | exact hK | (intro z hz; rw [wrapI (by omega)] at hz; subst hz; exact hK)))); (conv => whnf)) | ((with_reducible apply z_wrap); (focus omega); (conv => whnf)) | ((with_reducible first | apply mt_dec | apply mt_eq | apply mt_ne | apply mt_not | apply mt_any) <;> (intro _; conv => whnf)))
          · rename_i hne
            refine ⟨k + 1, rfl, rfl, ⟨by omega, fun j y hj hy => ?_⟩, by omega⟩
            rcases Nat.lt_or_ge j k with h4 | h4
            · exact hno j y h4 hy
            · obtain rfl : j = k := by omega
              rw [hc] at hy; cases hy; exact hne
          · rename_i hne
            have he := batL_at hc (by omega) hno
            rw [he] at hsn
            refine loop_go2 ttOk zOk foOk (σ := Nat) (ρ := List Int) (rbJ l outs i k) (fun j b' => j ≤ c.bats.length ∧ b' = addS b (c.bats.take j)) (fun j _ => c.bats.length - j) [0, 1, 5, 6, 7, 8] ?_ ?_
            · conv => whnf
              exact ⟨0, b, rfl, rfl, Nat.zero_le _, rfl⟩
            · rintro j b' ⟨hj, hbj⟩
              conv => whnf
              refine ⟨by omega, c.cs, certsD_at hc, ?_⟩
              conv => whnf
              repeat' (first | ((with_reducible apply rd_intro); (focus (intro K hK; (conv => whnf); first | exact hK | (intro z hz; rw [wrapI (by omega)] at hz; subst hz; exact hK))); (conv => whnf)) | ((with_reducible apply gd_and); (focus ((conv => whnf) <;> first | rfl | (intro K hK; (conv => whnf); first | exact hK | (intro z hz; rw [wrapI (by omega)] at hz; subst hz; exact hK)))); (conv => whnf)) | ((with_reducible apply z_wrap); (focus omega); (conv => whnf)) | ((with_reducible first | apply mt_dec | apply mt_eq | apply mt_ne | apply mt_not | apply mt_any) <;> (intro _; conv => whnf)))
              · rename_i hjl
                refine Exists.elim (⟨_, List.getElem?_eq_getElem (by omega)⟩ : ∃ y, c.bats[j]? = some y) fun y hy => ?_
                have hbs : addS b (c.bats.take (j + 1)) = insS b' y := by
                  rw [List.take_add_one, hy, hbj, addS, addS, List.foldl_append]
                  rfl
                rw [insS_in] at hbs
                have hbl2 : b'.length ≤ 603000 := by
                  have h1 := addS_len b (c.bats.take j)
                  have h2 : (c.bats.take j).length ≤ c.bats.length := List.length_take_le' ..
                  rw [hbj]; omega
                refine ⟨by omega, c.cs, certsD_at hc, ?_⟩
                conv => whnf
                refine ⟨by omega, [.int .i64 y], nums_at hy, ?_⟩
                conv => whnf
                (refine Or.inr ?_; (conv => whnf))
                refine (in_raw b' (by unfold few; omega) y false).mono ?_
                rintro _ _ ⟨rfl, rfl⟩
                conv => whnf
                repeat' (first | ((with_reducible apply rd_intro); (focus (intro K hK; (conv => whnf); first | exact hK | (intro z hz; rw [wrapI (by omega)] at hz; subst hz; exact hK))); (conv => whnf)) | ((with_reducible apply gd_and); (focus ((conv => whnf) <;> first | rfl | (intro K hK; (conv => whnf); first | exact hK | (intro z hz; rw [wrapI (by omega)] at hz; subst hz; exact hK)))); (conv => whnf)) | ((with_reducible apply z_wrap); (focus omega); (conv => whnf)) | ((with_reducible first | apply mt_dec | apply mt_eq | apply mt_ne | apply mt_not | apply mt_any) <;> (intro _; conv => whnf)))
                · rename_i hneg
                  have hb' : addS b (c.bats.take (j + 1)) = b' ++ [y] := by rw [hbs, if_pos hneg]
                  have hbn2 := nums_length b'
                  refine ⟨by omega, c.cs, certsD_at hc, ?_⟩
                  conv => whnf
                  refine ⟨by omega, [.int .i64 y], nums_at hy, ?_⟩
                  conv => whnf
                  refine ⟨by simp; omega, ?_⟩
                  conv => whnf
                  repeat' (first | ((with_reducible apply rd_intro); (focus (intro K hK; (conv => whnf); first | exact hK | (intro z hz; rw [wrapI (by omega)] at hz; subst hz; exact hK))); (conv => whnf)) | ((with_reducible apply gd_and); (focus ((conv => whnf) <;> first | rfl | (intro K hK; (conv => whnf); first | exact hK | (intro z hz; rw [wrapI (by omega)] at hz; subst hz; exact hK)))); (conv => whnf)) | ((with_reducible apply z_wrap); (focus omega); (conv => whnf)) | ((with_reducible first | apply mt_dec | apply mt_eq | apply mt_ne | apply mt_not | apply mt_any) <;> (intro _; conv => whnf)))
                  refine ⟨j + 1, b' ++ [y], rfl, ?_, ⟨by omega, hb'.symm⟩, by omega⟩
                  simp [rbJ, nums]
                · rename_i hneg
                  have hb' : addS b (c.bats.take (j + 1)) = b' := by rw [hbs, if_neg hneg]
                  exact ⟨j + 1, b', rfl, rfl, ⟨by omega, hb'.symm⟩, by omega⟩
              · rename_i hjl
                obtain rfl : j = c.bats.length := by omega
                rw [List.take_length] at hbj
                exact ⟨i + 1, b', rfl, rfl, ⟨by omega, by rw [hsn, hbj]⟩, by omega⟩
        · rename_i hkl
          have he := batL_no (l := l) (x := x) fun j y hy => hno j y (by have := (List.getElem?_eq_some_iff.1 hy).1; omega) hy
          rw [he] at hsn
          exact ⟨i + 1, b, rfl, rfl, ⟨by omega, hsn.symm⟩, by omega⟩
    · rename_i hil
      obtain rfl : i = outs.length := by omega
      rw [List.take_length] at hbb
      rw [← hbb]
      exact ⟨rfl, rfl⟩
end Go.Proofs.YtoeppembokpjkaaGreat

namespace Go.Proofs.YtoeppembokpjkaaGreat
open Go.Ab Go.RowKit Go.MapKept
attribute [local irreducible] ACalls AW ADraw Into fltB fnear
set_option maxRecDepth 100000
end Go.Proofs.YtoeppembokpjkaaGreat

namespace Go.Proofs.YtoeppembokpjkaaGreat
open Go.Ab Go.RowKit Go.MapKept
attribute [local irreducible] ACalls AW ADraw Into fltB fnear
set_option maxRecDepth 100000
/-! ## AuditBatches -/
theorem insS_nodup {b : List Int} (h : b.Nodup) (y : Int) : (insS b y).Nodup := by
  unfold insS
  split
  · exact h
  · rename_i hy
    rw [List.nodup_append]
    exact ⟨h, by simp, fun a ha c hc => by rw [List.mem_singleton.1 hc]; rintro rfl; exact hy ha⟩
theorem addS_nodup : ∀ (ps : List Int) {b : List Int}, b.Nodup → (addS b ps).Nodup
  | [], b, h => h
  | p :: ps, b, h => addS_nodup ps (insS_nodup h p)
theorem bats_nodup (l : List Cert) : ∀ (outs b : List Int), b.Nodup → (outs.foldl (fun b x => addS b (batL l x)) b).Nodup
  | [], b, h => h
  | x :: r, b, h => bats_nodup l r _ (addS_nodup _ h)
theorem inI_no {l : List Int} {x : Int} (h : x ∉ l) : inI l x = -1 := by
  have : inC l x = none := by
    unfold inC
    rw [List.findIdx?_eq_none_iff]
    intro y hy
    have : y ≠ x := fun e => h (e ▸ hy)
    simpa using this
  rw [inI, this]
  rfl
theorem nodup_take {l : List Int} (h : l.Nodup) {i : Nat} {x : Int} (hx : l[i]? = some x) : x ∉ l.take i := by
  intro hm
  obtain ⟨j, hj⟩ := List.getElem?_of_mem hm
  rw [List.getElem?_take] at hj
  split at hj
  · rename_i hji
    have hi := (List.getElem?_eq_some_iff.1 hx).1
    have := (List.getElem?_inj (by omega) h).1 (hj.trans hx.symm)
    omega
  · cases hj
theorem in_sub (b : List Int) (hb : few b) (x : Int) (h : Nat) (hh : h ≤ b.length) : ACalls Tryz.prog 40 [.sub 0 h, .d (.int .i64 x)] [.row 3 1 (nums b) false] (fun av L => av = .d (.int .i64 (inI (b.take h) x)) ∧ L = [.row 3 1 (nums b) false]) :=
  acalls_lend (flat_int _ _) ⟨_, _, rfl, .inl (.inr (.inr ⟨0, h, _, _, _, _, rfl, rfl, by rw [nums_length]; exact hh, rfl⟩)), _, _, rfl, .inl (.inl ⟨_, rfl, rfl⟩), rfl⟩
    (by
      rw [show (nums b).take h = nums (b.take h) by simp [nums]]
      exact in_ok (b.take h) (by unfold few at hb ⊢; exact Nat.le_trans (List.length_take_le' ..) hb) x)
theorem eqNumbers_lend (xs ys : List Int) (hm : few xs) (sh : Bool) : ACalls Tryz.prog 18 [.arr 0, .d (.sl 1 (nums ys))] [.row 3 1 (nums xs) sh] (fun av L => av = .d (.bool (decide (xs = ys))) ∧ L = [.row 3 1 (nums xs) sh]) :=
  acalls_lend (flat_bool _) ⟨_, _, rfl, .inl (.inr (.inl ⟨0, _, _, _, _, rfl, rfl, rfl⟩)), _, _, rfl, .inl (.inl ⟨_, rfl, rfl⟩), rfl⟩ (eqNumbers_ok xs ys hm)
theorem eqNumbers_lend2 (xs ys : List Int) (hm : few xs) (s1 s2 : Bool) : ACalls Tryz.prog 18 [.arr 0, .arr 1] [.row 3 1 (nums xs) s1, .row 3 1 (nums ys) s2] (fun av L => av = .d (.bool (decide (xs = ys))) ∧ L = [.row 3 1 (nums xs) s1, .row 3 1 (nums ys) s2]) :=
  acalls_lend (flat_bool _) ⟨_, _, rfl, .inl (.inr (.inl ⟨0, _, _, _, _, rfl, rfl, rfl⟩)), _, _, rfl, .inl (.inr (.inl ⟨1, _, _, _, _, rfl, rfl, rfl⟩)), rfl⟩ (eqNumbers_ok xs ys hm)
def abSt (ys : List Int) (i : Nat) : AF × List AB := ([(6, .arr 0), (8, .d (.int .i64 i))], [.row 3 1 (nums ys) false])
set_option maxHeartbeats 8000000 in
theorem auditBatches_ok (p : AskA) (hp : p.ok) : ACalls Tryz.prog 7 [p.av] [] (fun av L => av = .d (.bool true) ∧ L = []) := by
  refine acalls_go ttOk zOk foOk Tryz.func7 rfl Tryz.ntmps7 rfl false rfl ?_
  conv => whnf
  refine (heavy25_ok p hp).mono ?_
  rintro _ _ ⟨⟨b, rfl, hb⟩, rfl⟩
  cases b with
  | true =>
    conv => whnf
    exact ⟨rfl, rfl⟩
  | false =>
    have hl := hb rfl
    have hlen := hl.len
    have hout := hl.outs
    have hform := form25_ok p hl
    have hcpy := copyNumbers_ok p.outs (by show p.outs.length ≤ _; omega)
    have hbat := batches_row p.n p.l hlen hl.light p.outs hout
    have hnum := num25_ok (ordE p.n p.l)
    have hnd : (batE p.n p.l p.outs).Nodup := by
      unfold batE
      split
      · exact bats_nodup p.l p.outs [] (by simp)
      · simp
    have hbl : (batE p.n p.l p.outs).length ≤ 600000 := by
      unfold batE
      split
      · have := bats_len (l := p.l) (fun c hc => (hl.light c hc).1) p.outs []
        rw [batsI]
        simp only [List.length_nil] at this
        omega
      · simp
    have hrb := rBatches_ok p.l hlen hl.light p.outs hout
    conv => whnf
    refine hform.mono ?_
    rintro _ _ ⟨rfl, rfl⟩
    cases hok : okAll p.n p.l with
    | false =>
      rw [ordE, if_neg (by rw [hok]; decide)] at hbat hnum
      rw [ordE, if_neg (by rw [hok]; decide)]
      obtain ⟨ys, hys⟩ : ∃ ys, batE p.n p.l p.outs = ys := ⟨_, rfl⟩
      have hy0 : ys = [] := by rw [← hys, batE, if_neg (by rw [hok]; decide)]
      rw [hys] at hbat hnd hbl
      have hyl := nums_length ys
      conv => whnf
      repeat' (first | ((with_reducible apply rd_intro); (focus (intro K hK; (conv => whnf); first | exact hK | (intro z hz; rw [wrapI (by omega)] at hz; subst hz; exact hK))); (conv => whnf)) | ((with_reducible apply gd_and); (focus ((conv => whnf) <;> first | rfl | (intro K hK; (conv => whnf); first | exact hK | (intro z hz; rw [wrapI (by omega)] at hz; subst hz; exact hK)))); (conv => whnf)) | ((with_reducible apply z_wrap); (focus omega); (conv => whnf)) | ((with_reducible first | apply mt_dec | apply mt_eq | apply mt_ne | apply mt_not | apply mt_any) <;> (intro _; conv => whnf)))
      refine hcpy.mono ?_
      rintro _ _ ⟨rfl, rfl⟩
      conv => whnf
      repeat' (first | ((with_reducible apply rd_intro); (focus (intro K hK; (conv => whnf); first | exact hK | (intro z hz; rw [wrapI (by omega)] at hz; subst hz; exact hK))); (conv => whnf)) | ((with_reducible apply gd_and); (focus ((conv => whnf) <;> first | rfl | (intro K hK; (conv => whnf); first | exact hK | (intro z hz; rw [wrapI (by omega)] at hz; subst hz; exact hK)))); (conv => whnf)) | ((with_reducible apply z_wrap); (focus omega); (conv => whnf)) | ((with_reducible first | apply mt_dec | apply mt_eq | apply mt_ne | apply mt_not | apply mt_any) <;> (intro _; conv => whnf)))
      refine hbat.mono ?_
      rintro _ _ ⟨rfl, rfl⟩
      conv => whnf
      repeat' (first | ((with_reducible apply rd_intro); (focus (intro K hK; (conv => whnf); first | exact hK | (intro z hz; rw [wrapI (by omega)] at hz; subst hz; exact hK))); (conv => whnf)) | ((with_reducible apply gd_and); (focus ((conv => whnf) <;> first | rfl | (intro K hK; (conv => whnf); first | exact hK | (intro z hz; rw [wrapI (by omega)] at hz; subst hz; exact hK)))); (conv => whnf)) | ((with_reducible apply z_wrap); (focus omega); (conv => whnf)) | ((with_reducible first | apply mt_dec | apply mt_eq | apply mt_ne | apply mt_not | apply mt_any) <;> (intro _; conv => whnf)))
      refine hnum.mono ?_
      rintro _ _ ⟨rfl, rfl⟩
      conv => whnf
      repeat' (first | ((with_reducible apply rd_intro); (focus (intro K hK; (conv => whnf); first | exact hK | (intro z hz; rw [wrapI (by omega)] at hz; subst hz; exact hK))); (conv => whnf)) | ((with_reducible apply gd_and); (focus ((conv => whnf) <;> first | rfl | (intro K hK; (conv => whnf); first | exact hK | (intro z hz; rw [wrapI (by omega)] at hz; subst hz; exact hK)))); (conv => whnf)) | ((with_reducible apply z_wrap); (focus omega); (conv => whnf)) | ((with_reducible first | apply mt_dec | apply mt_eq | apply mt_ne | apply mt_not | apply mt_any) <;> (intro _; conv => whnf)))
      (refine Or.inr ?_; (conv => whnf))
      refine (eqNumbers_lend2 ys [] (by unfold few; omega) false false).mono ?_
      rintro _ _ ⟨rfl, rfl⟩
      rw [decide_eq_true hy0]
      conv => whnf
      repeat' (first | ((with_reducible apply rd_intro); (focus (intro K hK; (conv => whnf); first | exact hK | (intro z hz; rw [wrapI (by omega)] at hz; subst hz; exact hK))); (conv => whnf)) | ((with_reducible apply gd_and); (focus ((conv => whnf) <;> first | rfl | (intro K hK; (conv => whnf); first | exact hK | (intro z hz; rw [wrapI (by omega)] at hz; subst hz; exact hK)))); (conv => whnf)) | ((with_reducible apply z_wrap); (focus omega); (conv => whnf)) | ((with_reducible first | apply mt_dec | apply mt_eq | apply mt_ne | apply mt_not | apply mt_any) <;> (intro _; conv => whnf)))
      refine (eqNumbers_ok p.outs p.outs hp.outs.1).mono ?_
      rintro _ _ ⟨rfl, rfl⟩
      rw [decide_eq_true rfl]
      conv => whnf
      repeat' (first | ((with_reducible apply rd_intro); (focus (intro K hK; (conv => whnf); first | exact hK | (intro z hz; rw [wrapI (by omega)] at hz; subst hz; exact hK))); (conv => whnf)) | ((with_reducible apply gd_and); (focus ((conv => whnf) <;> first | rfl | (intro K hK; (conv => whnf); first | exact hK | (intro z hz; rw [wrapI (by omega)] at hz; subst hz; exact hK)))); (conv => whnf)) | ((with_reducible apply z_wrap); (focus omega); (conv => whnf)) | ((with_reducible first | apply mt_dec | apply mt_eq | apply mt_ne | apply mt_not | apply mt_any) <;> (intro _; conv => whnf)))
      refine loop_go ttOk zOk foOk (σ := Nat) (abSt ys) (fun i => i ≤ ys.length) (fun i => ys.length - i) [6, 8] ?_ ?_
      · conv => whnf
        exact ⟨0, rfl, rfl, Nat.zero_le _⟩
      · intro i hi
        conv => whnf
        repeat' (first | ((with_reducible apply rd_intro); (focus (intro K hK; (conv => whnf); first | exact hK | (intro z hz; rw [wrapI (by omega)] at hz; subst hz; exact hK))); (conv => whnf)) | ((with_reducible apply gd_and); (focus ((conv => whnf) <;> first | rfl | (intro K hK; (conv => whnf); first | exact hK | (intro z hz; rw [wrapI (by omega)] at hz; subst hz; exact hK)))); (conv => whnf)) | ((with_reducible apply z_wrap); (focus omega); (conv => whnf)) | ((with_reducible first | apply mt_dec | apply mt_eq | apply mt_ne | apply mt_not | apply mt_any) <;> (intro _; conv => whnf)))
        · rename_i hil
          refine Exists.elim (⟨_, List.getElem?_eq_getElem (by omega)⟩ : ∃ y, ys[i]? = some y) fun y hy => ?_
          have hyi : i < ys.length := by omega
          have hne : nums ys ≠ [] := fun e => by have h1 := congrArg List.length e; rw [nums_length] at h1; simp at h1; rw [h1] at hyi; simp at hyi
          have hno := inI_no (nodup_take hnd hy)
          have hcall := in_sub ys (by unfold few; omega) y i (by omega)
          rw [hno] at hcall
          ((with_reducible refine draw_pl ttOk zOk foOk mixedOk pl7x13 ?_ ?_); (focus kernel_rfl); (conv => whnf))
          repeat' (first | ((with_reducible apply rd_intro); (focus (intro K hK; (conv => whnf); first | exact hK | (intro z hz; rw [wrapI (by omega)] at hz; subst hz; exact hK))); (conv => whnf)) | ((with_reducible apply gd_and); (focus ((conv => whnf) <;> first | rfl | (intro K hK; (conv => whnf); first | exact hK | (intro z hz; rw [wrapI (by omega)] at hz; subst hz; exact hK)))); (conv => whnf)) | ((with_reducible apply z_wrap); (focus omega); (conv => whnf)) | ((with_reducible first | apply mt_dec | apply mt_eq | apply mt_ne | apply mt_not | apply mt_any) <;> (intro _; conv => whnf)))
          ((with_reducible apply rd_intro); (focus (intro K hK; (conv => whnf); exact .inr ⟨rfl, by omega, by rw [nums_length]; omega, hne, hK⟩)); (conv => whnf))
          repeat' (first | ((with_reducible apply rd_intro); (focus (intro K hK; (conv => whnf); first | exact hK | (intro z hz; rw [wrapI (by omega)] at hz; subst hz; exact hK))); (conv => whnf)) | ((with_reducible apply gd_and); (focus ((conv => whnf) <;> first | rfl | (intro K hK; (conv => whnf); first | exact hK | (intro z hz; rw [wrapI (by omega)] at hz; subst hz; exact hK)))); (conv => whnf)) | ((with_reducible apply z_wrap); (focus omega); (conv => whnf)) | ((with_reducible first | apply mt_dec | apply mt_eq | apply mt_ne | apply mt_not | apply mt_any) <;> (intro _; conv => whnf)))
          ((with_reducible apply rd_intro); (focus (intro K hK; (conv => whnf); exact ⟨by omega, by rw [nums_length]; omega, hK⟩)); (conv => whnf))
          repeat' (first | ((with_reducible apply rd_intro); (focus (intro K hK; (conv => whnf); first | exact hK | (intro z hz; rw [wrapI (by omega)] at hz; subst hz; exact hK))); (conv => whnf)) | ((with_reducible apply gd_and); (focus ((conv => whnf) <;> first | rfl | (intro K hK; (conv => whnf); first | exact hK | (intro z hz; rw [wrapI (by omega)] at hz; subst hz; exact hK)))); (conv => whnf)) | ((with_reducible apply z_wrap); (focus omega); (conv => whnf)) | ((with_reducible first | apply mt_dec | apply mt_eq | apply mt_ne | apply mt_not | apply mt_any) <;> (intro _; conv => whnf)))
          ((with_reducible apply rd_intro); (focus (intro K hK; (conv => whnf); exact ⟨_, nums_at hy, hK⟩)); (conv => whnf))
          repeat' (first | ((with_reducible apply rd_intro); (focus (intro K hK; (conv => whnf); first | exact hK | (intro z hz; rw [wrapI (by omega)] at hz; subst hz; exact hK))); (conv => whnf)) | ((with_reducible apply gd_and); (focus ((conv => whnf) <;> first | rfl | (intro K hK; (conv => whnf); first | exact hK | (intro z hz; rw [wrapI (by omega)] at hz; subst hz; exact hK)))); (conv => whnf)) | ((with_reducible apply z_wrap); (focus omega); (conv => whnf)) | ((with_reducible first | apply mt_dec | apply mt_eq | apply mt_ne | apply mt_not | apply mt_any) <;> (intro _; conv => whnf)))
          refine hcall.mono ?_
          rintro _ _ ⟨rfl, rfl⟩
          conv => whnf
          repeat' (first | ((with_reducible apply rd_intro); (focus (intro K hK; (conv => whnf); first | exact hK | (intro z hz; rw [wrapI (by omega)] at hz; subst hz; exact hK))); (conv => whnf)) | ((with_reducible apply gd_and); (focus ((conv => whnf) <;> first | rfl | (intro K hK; (conv => whnf); first | exact hK | (intro z hz; rw [wrapI (by omega)] at hz; subst hz; exact hK)))); (conv => whnf)) | ((with_reducible apply z_wrap); (focus omega); (conv => whnf)) | ((with_reducible first | apply mt_dec | apply mt_eq | apply mt_ne | apply mt_not | apply mt_any) <;> (intro _; conv => whnf)))
          exact ⟨i + 1, rfl, rfl, by omega, by omega⟩
        · (refine Or.inr ?_; (conv => whnf))
          refine (spoil_ok ys (by omega)).mono ?_
          rintro _ _ ⟨rfl, rfl⟩
          conv => whnf
          refine wakes25_ok.mono ?_
          rintro _ _ ⟨rfl, rfl⟩
          conv => whnf
          exact ⟨rfl, rfl⟩
    | true =>
      rw [ordE, if_pos hok] at hbat hnum
      rw [ordE, if_pos hok]
      obtain ⟨ys, hys⟩ : ∃ ys, batsI p.l p.outs = ys := ⟨_, rfl⟩
      have hy0 : batE p.n p.l p.outs = ys := by rw [← hys, batE, if_pos hok]
      rw [hy0] at hbat hnd hbl
      rw [hys] at hrb
      have hyl := nums_length ys
      conv => whnf
      repeat' (first | ((with_reducible apply rd_intro); (focus (intro K hK; (conv => whnf); first | exact hK | (intro z hz; rw [wrapI (by omega)] at hz; subst hz; exact hK))); (conv => whnf)) | ((with_reducible apply gd_and); (focus ((conv => whnf) <;> first | rfl | (intro K hK; (conv => whnf); first | exact hK | (intro z hz; rw [wrapI (by omega)] at hz; subst hz; exact hK)))); (conv => whnf)) | ((with_reducible apply z_wrap); (focus omega); (conv => whnf)) | ((with_reducible first | apply mt_dec | apply mt_eq | apply mt_ne | apply mt_not | apply mt_any) <;> (intro _; conv => whnf)))
      refine hrb.mono ?_
      rintro _ _ ⟨rfl, rfl⟩
      conv => whnf
      repeat' (first | ((with_reducible apply rd_intro); (focus (intro K hK; (conv => whnf); first | exact hK | (intro z hz; rw [wrapI (by omega)] at hz; subst hz; exact hK))); (conv => whnf)) | ((with_reducible apply gd_and); (focus ((conv => whnf) <;> first | rfl | (intro K hK; (conv => whnf); first | exact hK | (intro z hz; rw [wrapI (by omega)] at hz; subst hz; exact hK)))); (conv => whnf)) | ((with_reducible apply z_wrap); (focus omega); (conv => whnf)) | ((with_reducible first | apply mt_dec | apply mt_eq | apply mt_ne | apply mt_not | apply mt_any) <;> (intro _; conv => whnf)))
      refine hcpy.mono ?_
      rintro _ _ ⟨rfl, rfl⟩
      conv => whnf
      repeat' (first | ((with_reducible apply rd_intro); (focus (intro K hK; (conv => whnf); first | exact hK | (intro z hz; rw [wrapI (by omega)] at hz; subst hz; exact hK))); (conv => whnf)) | ((with_reducible apply gd_and); (focus ((conv => whnf) <;> first | rfl | (intro K hK; (conv => whnf); first | exact hK | (intro z hz; rw [wrapI (by omega)] at hz; subst hz; exact hK)))); (conv => whnf)) | ((with_reducible apply z_wrap); (focus omega); (conv => whnf)) | ((with_reducible first | apply mt_dec | apply mt_eq | apply mt_ne | apply mt_not | apply mt_any) <;> (intro _; conv => whnf)))
      refine hbat.mono ?_
      rintro _ _ ⟨rfl, rfl⟩
      conv => whnf
      repeat' (first | ((with_reducible apply rd_intro); (focus (intro K hK; (conv => whnf); first | exact hK | (intro z hz; rw [wrapI (by omega)] at hz; subst hz; exact hK))); (conv => whnf)) | ((with_reducible apply gd_and); (focus ((conv => whnf) <;> first | rfl | (intro K hK; (conv => whnf); first | exact hK | (intro z hz; rw [wrapI (by omega)] at hz; subst hz; exact hK)))); (conv => whnf)) | ((with_reducible apply z_wrap); (focus omega); (conv => whnf)) | ((with_reducible first | apply mt_dec | apply mt_eq | apply mt_ne | apply mt_not | apply mt_any) <;> (intro _; conv => whnf)))
      refine hnum.mono ?_
      rintro _ _ ⟨rfl, rfl⟩
      conv => whnf
      repeat' (first | ((with_reducible apply rd_intro); (focus (intro K hK; (conv => whnf); first | exact hK | (intro z hz; rw [wrapI (by omega)] at hz; subst hz; exact hK))); (conv => whnf)) | ((with_reducible apply gd_and); (focus ((conv => whnf) <;> first | rfl | (intro K hK; (conv => whnf); first | exact hK | (intro z hz; rw [wrapI (by omega)] at hz; subst hz; exact hK)))); (conv => whnf)) | ((with_reducible apply z_wrap); (focus omega); (conv => whnf)) | ((with_reducible first | apply mt_dec | apply mt_eq | apply mt_ne | apply mt_not | apply mt_any) <;> (intro _; conv => whnf)))
      (refine Or.inr ?_; (conv => whnf))
      refine (eqNumbers_lend ys ys (by unfold few; omega) false).mono ?_
      rintro _ _ ⟨rfl, rfl⟩
      rw [decide_eq_true rfl]
      conv => whnf
      repeat' (first | ((with_reducible apply rd_intro); (focus (intro K hK; (conv => whnf); first | exact hK | (intro z hz; rw [wrapI (by omega)] at hz; subst hz; exact hK))); (conv => whnf)) | ((with_reducible apply gd_and); (focus ((conv => whnf) <;> first | rfl | (intro K hK; (conv => whnf); first | exact hK | (intro z hz; rw [wrapI (by omega)] at hz; subst hz; exact hK)))); (conv => whnf)) | ((with_reducible apply z_wrap); (focus omega); (conv => whnf)) | ((with_reducible first | apply mt_dec | apply mt_eq | apply mt_ne | apply mt_not | apply mt_any) <;> (intro _; conv => whnf)))
      refine (eqNumbers_ok p.outs p.outs hp.outs.1).mono ?_
      rintro _ _ ⟨rfl, rfl⟩
      rw [decide_eq_true rfl]
      conv => whnf
      repeat' (first | ((with_reducible apply rd_intro); (focus (intro K hK; (conv => whnf); first | exact hK | (intro z hz; rw [wrapI (by omega)] at hz; subst hz; exact hK))); (conv => whnf)) | ((with_reducible apply gd_and); (focus ((conv => whnf) <;> first | rfl | (intro K hK; (conv => whnf); first | exact hK | (intro z hz; rw [wrapI (by omega)] at hz; subst hz; exact hK)))); (conv => whnf)) | ((with_reducible apply z_wrap); (focus omega); (conv => whnf)) | ((with_reducible first | apply mt_dec | apply mt_eq | apply mt_ne | apply mt_not | apply mt_any) <;> (intro _; conv => whnf)))
      refine loop_go ttOk zOk foOk (σ := Nat) (abSt ys) (fun i => i ≤ ys.length) (fun i => ys.length - i) [6, 8] ?_ ?_
      · conv => whnf
        exact ⟨0, rfl, rfl, Nat.zero_le _⟩
      · intro i hi
        conv => whnf
        repeat' (first | ((with_reducible apply rd_intro); (focus (intro K hK; (conv => whnf); first | exact hK | (intro z hz; rw [wrapI (by omega)] at hz; subst hz; exact hK))); (conv => whnf)) | ((with_reducible apply gd_and); (focus ((conv => whnf) <;> first | rfl | (intro K hK; (conv => whnf); first | exact hK | (intro z hz; rw [wrapI (by omega)] at hz; subst hz; exact hK)))); (conv => whnf)) | ((with_reducible apply z_wrap); (focus omega); (conv => whnf)) | ((with_reducible first | apply mt_dec | apply mt_eq | apply mt_ne | apply mt_not | apply mt_any) <;> (intro _; conv => whnf)))
        · rename_i hil
          refine Exists.elim (⟨_, List.getElem?_eq_getElem (by omega)⟩ : ∃ y, ys[i]? = some y) fun y hy => ?_
          have hyi : i < ys.length := by omega
          have hne : nums ys ≠ [] := fun e => by have h1 := congrArg List.length e; rw [nums_length] at h1; simp at h1; rw [h1] at hyi; simp at hyi
          have hno := inI_no (nodup_take hnd hy)
          have hcall := in_sub ys (by unfold few; omega) y i (by omega)
          rw [hno] at hcall
          ((with_reducible refine draw_pl ttOk zOk foOk mixedOk pl7x13 ?_ ?_); (focus kernel_rfl); (conv => whnf))
          repeat' (first | ((with_reducible apply rd_intro); (focus (intro K hK; (conv => whnf); first | exact hK | (intro z hz; rw [wrapI (by omega)] at hz; subst hz; exact hK))); (conv => whnf)) | ((with_reducible apply gd_and); (focus ((conv => whnf) <;> first | rfl | (intro K hK; (conv => whnf); first | exact hK | (intro z hz; rw [wrapI (by omega)] at hz; subst hz; exact hK)))); (conv => whnf)) | ((with_reducible apply z_wrap); (focus omega); (conv => whnf)) | ((with_reducible first | apply mt_dec | apply mt_eq | apply mt_ne | apply mt_not | apply mt_any) <;> (intro _; conv => whnf)))
          ((with_reducible apply rd_intro); (focus (intro K hK; (conv => whnf); exact .inr ⟨rfl, by omega, by rw [nums_length]; omega, hne, hK⟩)); (conv => whnf))
          repeat' (first | ((with_reducible apply rd_intro); (focus (intro K hK; (conv => whnf); first | exact hK | (intro z hz; rw [wrapI (by omega)] at hz; subst hz; exact hK))); (conv => whnf)) | ((with_reducible apply gd_and); (focus ((conv => whnf) <;> first | rfl | (intro K hK; (conv => whnf); first | exact hK | (intro z hz; rw [wrapI (by omega)] at hz; subst hz; exact hK)))); (conv => whnf)) | ((with_reducible apply z_wrap); (focus omega); (conv => whnf)) | ((with_reducible first | apply mt_dec | apply mt_eq | apply mt_ne | apply mt_not | apply mt_any) <;> (intro _; conv => whnf)))
          ((with_reducible apply rd_intro); (focus (intro K hK; (conv => whnf); exact ⟨by omega, by rw [nums_length]; omega, hK⟩)); (conv => whnf))
          repeat' (first | ((with_reducible apply rd_intro); (focus (intro K hK; (conv => whnf); first | exact hK | (intro z hz; rw [wrapI (by omega)] at hz; subst hz; exact hK))); (conv => whnf)) | ((with_reducible apply gd_and); (focus ((conv => whnf) <;> first | rfl | (intro K hK; (conv => whnf); first | exact hK | (intro z hz; rw [wrapI (by omega)] at hz; subst hz; exact hK)))); (conv => whnf)) | ((with_reducible apply z_wrap); (focus omega); (conv => whnf)) | ((with_reducible first | apply mt_dec | apply mt_eq | apply mt_ne | apply mt_not | apply mt_any) <;> (intro _; conv => whnf)))
          ((with_reducible apply rd_intro); (focus (intro K hK; (conv => whnf); exact ⟨_, nums_at hy, hK⟩)); (conv => whnf))
          repeat' (first | ((with_reducible apply rd_intro); (focus (intro K hK; (conv => whnf); first | exact hK | (intro z hz; rw [wrapI (by omega)] at hz; subst hz; exact hK))); (conv => whnf)) | ((with_reducible apply gd_and); (focus ((conv => whnf) <;> first | rfl | (intro K hK; (conv => whnf); first | exact hK | (intro z hz; rw [wrapI (by omega)] at hz; subst hz; exact hK)))); (conv => whnf)) | ((with_reducible apply z_wrap); (focus omega); (conv => whnf)) | ((with_reducible first | apply mt_dec | apply mt_eq | apply mt_ne | apply mt_not | apply mt_any) <;> (intro _; conv => whnf)))
          refine hcall.mono ?_
          rintro _ _ ⟨rfl, rfl⟩
          conv => whnf
          repeat' (first | ((with_reducible apply rd_intro); (focus (intro K hK; (conv => whnf); first | exact hK | (intro z hz; rw [wrapI (by omega)] at hz; subst hz; exact hK))); (conv => whnf)) | ((with_reducible apply gd_and); (focus ((conv => whnf) <;> first | rfl | (intro K hK; (conv => whnf); first | exact hK | (intro z hz; rw [wrapI (by omega)] at hz; subst hz; exact hK)))); (conv => whnf)) | ((with_reducible apply z_wrap); (focus omega); (conv => whnf)) | ((with_reducible first | apply mt_dec | apply mt_eq | apply mt_ne | apply mt_not | apply mt_any) <;> (intro _; conv => whnf)))
          exact ⟨i + 1, rfl, rfl, by omega, by omega⟩
        · (refine Or.inr ?_; (conv => whnf))
          refine (spoil_ok ys (by omega)).mono ?_
          rintro _ _ ⟨rfl, rfl⟩
          conv => whnf
          refine wakes25_ok.mono ?_
          rintro _ _ ⟨rfl, rfl⟩
          conv => whnf
          exact ⟨rfl, rfl⟩
end Go.Proofs.YtoeppembokpjkaaGreat

/- AuditBatches: for every argument the law returns true, and its argument reads behind the call as it read before. No condition of ours. -/
namespace Go.Proofs.YtoeppembokpjkaaGreat
open Go.Ab Go.RowKit Go.ChangeShapes Go.WideShapes Go.ChangeAt
theorem own : ownKnob Tryz.prog.godebug = none := by kernel_rfl
theorem laidOut : laidOutB Tryz.prog = true := by kernel_rfl
set_option maxRecDepth 100000 in
theorem auditBatches_lifted (os : Os) (started : os.Started) (H : Type) (enc : TypeId × Value → H) :
    ReturnsInHanded {} Tryz.checked os 7 .any (Rows.auditBatchesSpec.pre6 enc Tryz.prog Tryz.f7 Rows.auditBatchesRow.domain false) (Rows.auditBatchesSpec.post enc Tryz.prog Tryz.f7 false true false false) := by
  refine returnsInHanded_of_change_sized (C := Tryz.checked) own started (by kernel_rfl) Tryz.func7
    (ChangeSpec.witness6 (enc := enc) (C := Tryz.checked) false ⟨#[], #[.agg #[.int .i64 0, .slice none 0 0, .slice none 0 0]], []⟩ 8 (by kernel_rfl) (by kernel_rfl) (by kernel_rfl) (by kernel_rfl)) ?_
  intro W base args ds gs before hval hW _ hsz _
  exact law_contract ttOk (f := Tryz.f7) (tb := 4) (t := 49) rfl rfl Tryz.underlying4 rfl (fun _ _ => rfl) laidOut (by kernel_rfl) (of_decide_eq_true (by kernel_rfl)) 6 (by kernel_rfl) argS
    (fun W base v ds h1 h2 => argS_ok Tryz.underlying49 h1 h2)
    (fun ds hd => by
      obtain ⟨p, hp, hok⟩ := askA_of hd
      rw [hp]
      exact auditBatches_ok p hok) hval hW hsz
theorem auditBatches_holds : Rows.AuditBatchesSaid :=
  OpenClaim.holds_of_wide 7 Tryz.f7 rfl rfl rfl rfl rfl rfl rfl ⟨rfl, rfl, rfl, rfl, rfl⟩ rfl rfl rfl rfl rfl (by kernel_rfl) Tryz.func7 (by kernel_rfl)
    (of_decide_eq_true (by kernel_rfl)) (by unfold Func.isWrapper; first | (rw [if_pos (by decide +kernel)]; kernel_rfl) | (rw [if_neg (by decide +kernel)]; exact ⟨rfl, rfl⟩))
    (fun os started H enc _ => auditBatches_lifted os started H enc)
#print axioms auditBatches_holds
end Go.Proofs.YtoeppembokpjkaaGreat
