/- ImageGoes: contracts. -/
import Derived.Test.YtmmngmnmghpfaaaGreatImageGoesCodC
set_option linter.unusedVariables false
set_option linter.unusedSimpArgs false
namespace Go.Proofs.YtmmngmnmghpfaaaGreat
open Go.Ab Go.RowKit Go.MapKept
attribute [local irreducible] ACalls AW ADraw Into fltB fnear
set_option maxRecDepth 100000
structure mayP (d : Dag) (j : Nat) : Prop where
  ok : ∀ c ∈ d.certs.take j, okCert d.nodes c ∧ d.low < c.round ∧ lacksI d c = []
  sorted : sortedC (d.certs.take j)
  dig : ((d.certs.take j).map (·.digest)).Nodup
theorem take_snoc {α : Type} {l : List α} {j : Nat} {c : α} (hc : l[j]? = some c) : l.take (j + 1) = l.take j ++ [c] := by rw [List.take_add_one, hc]; rfl
theorem mayP.next {d : Dag} {j : Nat} (h : mayP d j) {c : Cert} (hc : d.certs[j]? = some c) (h1 : okCert d.nodes c) (h2 : d.low < c.round) (h3 : lacksI d c = []) (h4 : ∀ c0, 0 < j → d.certs[j - 1]? = some c0 → c0.before c.round c.author = true) (h5 : ∀ x ∈ d.certs.take j, x.digest ≠ c.digest) : mayP d (j + 1) := by
  have e := take_snoc hc
  refine ⟨?_, ?_, ?_⟩
  · rw [e]
    intro y hy
    rcases List.mem_append.1 hy with hy | hy
    · exact h.ok y hy
    · simp at hy; rw [hy]; exact ⟨h1, h2, h3⟩
  · rw [e]
    refine List.pairwise_append.2 ⟨h.sorted, by simp, fun x hx y hy => ?_⟩
    simp at hy
    rw [hy]
    obtain ⟨i, hi, rfl⟩ := List.mem_take_iff_getElem.1 hx
    have hil : i < j := by omega
    have hjl := (List.getElem?_eq_some_iff.1 hc).1
    have hp : d.certs[j - 1]? = some d.certs[j - 1] := List.getElem?_eq_getElem (by omega)
    have hb := h4 _ (by omega) hp
    rcases Nat.lt_or_ge i (j - 1) with hlt | hge
    · have h6 := List.pairwise_iff_getElem.1 h.sorted i (j - 1) (by rw [List.length_take]; omega) (by rw [List.length_take]; omega) hlt
      rw [List.getElem_take, List.getElem_take] at h6
      have h7 := before_iff.1 h6
      have h8 := before_iff.1 hb
      exact before_iff.2 (by omega)
    · have : i = j - 1 := by omega
      subst this
      exact hb
  · rw [e, List.map_append, List.nodup_append]
    refine ⟨h.dig, by simp, fun a ha b hb => ?_⟩
    obtain ⟨x, hx, rfl⟩ := List.mem_map.1 ha
    simp at hb
    rw [hb]
    exact h5 x hx
theorem lacks_nil {d : Dag} {c : Cert} (h : lacksI d c = []) (hr : c.round > d.low + 1) : ∀ x ∈ c.pars, ∃ c' ∈ d.certs, c'.digest = x ∧ c'.round = c.round - 1 := by
  intro x hx
  rw [lacksI, if_neg (by omega), List.filter_eq_nil_iff] at h
  have := h x hx
  unfold lackB at this
  cases hc : certOf d x with
  | none => rw [hc] at this; simp at this
  | some c' =>
    rw [hc] at this
    simp at this
    obtain ⟨h1, h2, _⟩ := certOf_some hc
    exact ⟨c', h1, h2, this⟩
theorem mayP.valid {d : Dag} (h : mayP d d.certs.length) (h1 : isN d.nodes = true) (h2 : 0 ≤ d.low ∧ d.low ≤ 1099511627776) (h3 : d.certs.length ≤ 65536) : Valid d := by
  obtain ⟨a, b, c⟩ := h
  rw [List.take_length] at a b c
  exact ⟨h1, h2, h3, fun c hc => (a c hc).1, fun c hc => (a c hc).2.1, b, c, fun c hc hr => lacks_nil (a c hc).2.2 hr⟩
theorem ok_fewL {c : Cert} (h : c.ok) : fewL c := ⟨h.bats.1, h.pars.1, h.sigs.1⟩
set_option maxHeartbeats 2000000 in
theorem rMayDag_ok (d : Dag) (h : d.ok) : ACalls Tryz.prog 5 [d.av] [] (fun av L => (∃ b, av = .d (.bool b) ∧ (b = true → Valid d)) ∧ L = []) := by
  have hcl := certsD_length d.certs
  have hfd := h.certs.1
  (refine acalls_go ttOk zOk foOk Tryz.func5 rfl Tryz.ntmps5 rfl false rfl ?_); (conv => whnf)
  refine (rMay_ok d.nodes).mono ?_
  rintro _ _ ⟨rfl, rfl⟩
  cases hn : isN d.nodes with
  | false =>
    conv => whnf
    exact ⟨⟨_, rfl, by intro h; cases h⟩, rfl⟩
  | true =>
    have hnn := of_decide_eq_true hn
    conv => whnf
    refine rdw ?_; repeat' ((with_reducible apply tw) <;> intro _)
    · exact ⟨⟨_, rfl, by intro h; cases h⟩, rfl⟩
    · exact ⟨⟨_, rfl, by intro h; cases h⟩, rfl⟩
    · exact ⟨⟨_, rfl, by intro h; cases h⟩, rfl⟩
    · rename_i hl1 hl2 hl3
      refine loop_go ttOk zOk foOk (σ := Nat) (fun j => ([(1, .ptr 0 0), (3, .d (.int .i64 j))], [.cells d.cells])) (fun j => j ≤ d.certs.length ∧ mayP d j) (fun j => d.certs.length - j) [1, 3] ?_ ?_
      · conv => whnf
        exact ⟨0, rfl, rfl, Nat.zero_le _, by simp, by simp [sortedC], by simp⟩
      · rintro j ⟨hj, hinv⟩
        conv => whnf
        refine rdw ?_; repeat' ((with_reducible apply tw) <;> intro _)
        · rename_i hjl
          have hjn : j < d.certs.length := by omega
          refine Exists.elim (⟨_, List.getElem?_eq_getElem hjn⟩ : ∃ c, d.certs[j]? = some c) fun c hc => ?_
          have hcm := List.mem_of_getElem? hc
          refine ⟨by omega, c.cs, certsD_at hc, ?_⟩
          conv => whnf
          refine rdw ?_; repeat' ((with_reducible apply tw) <;> intro _)
          refine (rCert_ok c (ok_fewL (h.certs.2 c hcm)) d.nodes).mono ?_
          rintro _ _ ⟨rfl, rfl⟩
          by_cases hcok : okCert d.nodes c
          · rw [@decide_eq_true _ (Classical.propDecidable _) hcok]
            conv => whnf
            refine rdw ?_; repeat' ((with_reducible apply tw) <;> intro _)
            · exact ⟨⟨_, rfl, by intro h; cases h⟩, rfl⟩
            · rename_i hlow hj0
              replace hlow : d.low < c.round := by omega
              have hj0' : 0 < j := by omega
              refine Exists.elim (⟨_, List.getElem?_eq_getElem (show j - 1 < d.certs.length by omega)⟩ : ∃ c, d.certs[j - 1]? = some c) fun c0 hc0 => ?_
              refine ⟨by omega, c0.cs, (by rw [show ((j : Int) - 1).toNat = j - 1 by omega]; exact certsD_at hc0), ?_⟩
              conv => whnf
              refine rdw ?_; repeat' ((with_reducible apply tw) <;> intro _)
              refine (rBefore_ok c0.round c0.author c.round c.author).mono ?_
              rintro _ _ ⟨rfl, rfl⟩
              by_cases hb : c0.before c.round c.author = true
              · rw [show decide (c0.round < c.round ∨ c0.round = c.round ∧ c0.author < c.author) = true from hb]
                have h4 : ∀ c0, 0 < j → d.certs[j - 1]? = some c0 → c0.before c.round c.author = true := by
                  intro c1 _ hc1
                  rw [hc0] at hc1; cases hc1; exact hb
                conv => whnf
                refine loop_go ttOk zOk foOk (σ := Nat) (fun k => ([(1, .ptr 0 0), (3, .d (.int .i64 j)), (4, .ptr 1 0), (6, .d (.int .i64 k))], [.cells d.cells, .cells c.cells])) (fun k => k ≤ j ∧ ∀ x ∈ d.certs.take k, x.digest ≠ c.digest) (fun k => j - k) [1, 3, 4, 6] ?_ ?_
                · conv => whnf
                  exact ⟨0, rfl, rfl, by omega, by simp⟩
                · rintro k ⟨hkj, hkd⟩
                  conv => whnf
                  refine rdw ?_; repeat' ((with_reducible apply tw) <;> intro _)
                  · rename_i hkl
                    have hkn : k < j := Int.ofNat_lt.1 hkl
                    refine Exists.elim (⟨_, List.getElem?_eq_getElem (by omega)⟩ : ∃ c, d.certs[k]? = some c) fun c1 hc1 => ?_
                    ((with_reducible refine draw_pl ttOk zOk foOk mixedOk pl5x16 ?_ ?_); (focus kernel_rfl); (conv => whnf))
                    refine rdw ?_; repeat' ((with_reducible apply tw) <;> intro _)
                    ((with_reducible apply rd_intro); (focus (intro K hK; (conv => whnf); exact ⟨by omega, c1.cs, certsD_at hc1, hK⟩)); (conv => whnf))
                    refine rdw ?_; repeat' ((with_reducible apply tw) <;> intro _)
                    · exact ⟨⟨_, rfl, by intro h; cases h⟩, rfl⟩
                    · rename_i hne
                      refine ⟨k + 1, rfl, rfl, ⟨by omega, fun y hy => ?_⟩, by omega⟩
                      rw [take_snoc hc1] at hy
                      rcases List.mem_append.1 hy with hy | hy
                      · exact hkd y hy
                      · simp at hy; rw [hy]; exact hne
                  · rename_i hkl
                    have hkj : k = j := by omega
                    subst hkj
                    refine (rLacks_ok d hfd c (by have := hcok.head.pars.1; omega) hcok.head.round).mono ?_
                    rintro _ _ ⟨rfl, rfl⟩
                    have hll := nums_length (lacksI d c)
                    conv => whnf
                    rw [hll]
                    refine rdw ?_; repeat' ((with_reducible apply tw) <;> intro _)
                    · exact ⟨⟨_, rfl, by intro h; cases h⟩, rfl⟩
                    · rename_i hl0
                      exact ⟨k + 1, rfl, rfl, ⟨by omega, hinv.next hc hcok hlow (List.length_eq_zero_iff.1 (by omega)) h4 hkd⟩, by omega⟩
              · rw [show decide (c0.round < c.round ∨ c0.round = c.round ∧ c0.author < c.author) = false from by simpa [Cert.before] using hb]
                conv => whnf
                exact ⟨⟨_, rfl, by intro h; cases h⟩, rfl⟩
            · rename_i hlow hj0
              replace hlow : d.low < c.round := by omega
              have h4 : ∀ c0, 0 < j → d.certs[j - 1]? = some c0 → c0.before c.round c.author = true := by
                intro c1 h _
                omega
              refine loop_go ttOk zOk foOk (σ := Nat) (fun k => ([(1, .ptr 0 0), (3, .d (.int .i64 j)), (4, .ptr 1 0), (6, .d (.int .i64 k))], [.cells d.cells, .cells c.cells])) (fun k => k ≤ j ∧ ∀ x ∈ d.certs.take k, x.digest ≠ c.digest) (fun k => j - k) [1, 3, 4, 6] ?_ ?_
              · conv => whnf
                exact ⟨0, rfl, rfl, by omega, by simp⟩
              · rintro k ⟨hkj, hkd⟩
                conv => whnf
                refine rdw ?_; repeat' ((with_reducible apply tw) <;> intro _)
                · rename_i hkl
                  have hkn : k < j := Int.ofNat_lt.1 hkl
                  refine Exists.elim (⟨_, List.getElem?_eq_getElem (by omega)⟩ : ∃ c, d.certs[k]? = some c) fun c1 hc1 => ?_
                  ((with_reducible refine draw_pl ttOk zOk foOk mixedOk pl5x16 ?_ ?_); (focus kernel_rfl); (conv => whnf))
                  refine rdw ?_; repeat' ((with_reducible apply tw) <;> intro _)
                  ((with_reducible apply rd_intro); (focus (intro K hK; (conv => whnf); exact ⟨by omega, c1.cs, certsD_at hc1, hK⟩)); (conv => whnf))
                  refine rdw ?_; repeat' ((with_reducible apply tw) <;> intro _)
                  · exact ⟨⟨_, rfl, by intro h; cases h⟩, rfl⟩
                  · rename_i hne
                    refine ⟨k + 1, rfl, rfl, ⟨by omega, fun y hy => ?_⟩, by omega⟩
                    rw [take_snoc hc1] at hy
                    rcases List.mem_append.1 hy with hy | hy
                    · exact hkd y hy
                    · simp at hy; rw [hy]; exact hne
                · rename_i hkl
                  have hkj : k = j := by omega
                  subst hkj
                  refine (rLacks_ok d hfd c (by have := hcok.head.pars.1; omega) hcok.head.round).mono ?_
                  rintro _ _ ⟨rfl, rfl⟩
                  have hll := nums_length (lacksI d c)
                  conv => whnf
                  rw [hll]
                  refine rdw ?_; repeat' ((with_reducible apply tw) <;> intro _)
                  · exact ⟨⟨_, rfl, by intro h; cases h⟩, rfl⟩
                  · rename_i hl0
                    exact ⟨k + 1, rfl, rfl, ⟨by omega, hinv.next hc hcok hlow (List.length_eq_zero_iff.1 (by omega)) h4 hkd⟩, by omega⟩
          · rw [@decide_eq_false _ (Classical.propDecidable _) hcok]
            conv => whnf
            exact ⟨⟨_, rfl, by intro h; cases h⟩, rfl⟩
        · rename_i hjl
          have : j = d.certs.length := by omega
          subst this
          exact ⟨⟨_, rfl, fun _ => hinv.valid hn ⟨by omega, by omega⟩ (by omega)⟩, rfl⟩
end Go.Proofs.YtmmngmnmghpfaaaGreat
namespace Go.Proofs.YtmmngmnmghpfaaaGreat
open Go.Ab Go.RowKit
def strs (l : List ByteArray) : List (List DV) := l.map fun s => [.str s]
theorem strs_length (l : List ByteArray) : (strs l).length = l.length := List.length_map ..
theorem strs_at {l : List ByteArray} {k : Nat} {a : ByteArray} (h : l[k]? = some a) : (strs l)[k]? = some [.str a] := by simp [strs, h]
theorem strs_apps (l m : List ByteArray) : strs l ++ strs m = strs (l ++ m) := by simp [strs]
theorem jtake_snoc {α : Type} {xs : List α} {k : Nat} {a : α} (hx : xs[k]? = some a) : xs.take (k + 1) = xs.take k ++ [a] := by
  rw [List.take_add_one, hx]; rfl
def numF : Nat → Nat → List UInt8
  | 0, n => [UInt8.ofNat n]
  | f + 1, n => if 128 ≤ n then UInt8.ofNat (n % 128 + 128) :: numF f (n / 128) else [UInt8.ofNat n]
theorem numF_len : ∀ (f n : Nat), 1 ≤ (numF f n).length ∧ (numF f n).length ≤ f + 1
  | 0, n => by simp [numF]
  | f + 1, n => by
    have := numF_len f (n / 128)
    unfold numF
    split
    · simp; omega
    · simp
theorem or128 : ∀ z : Fin 256, ior .u8 (z.val : Int) 128 = ((z.val % 128 + 128 : Nat) : Int) := by decide +kernel
theorem byteI (n : Nat) (h : n < 256) : ((UInt8.ofNat n).toNat : Int) = n := by
  rw [UInt8.toNat_ofNat', Nat.mod_eq_of_lt (by simpa using h)]
theorem wrapB (n : Nat) : IntKind.u8.wrap (n : Int) = ((n % 256 : Nat) : Int) := by
  unfold IntKind.wrap; simp [IntKind.bits, IntKind.signed]
end Go.Proofs.YtmmngmnmghpfaaaGreat
namespace Go.Proofs.YtmmngmnmghpfaaaGreat
open Go.Ab Go.RowKit Go.MapKept
attribute [local irreducible] ACalls AW ADraw Into fltB fnear
set_option maxRecDepth 100000
def rowU (b : List UInt8) : AB := .row 5 1 (u8s b) false
def nst (j : Bool) (b : List UInt8) (n : Int) : AF × List AB :=
  match j with
  | true => ([(0, .arr 0), (1, .d (.int .i64 n))], [rowU b])
  | false => ([(0, .arr 1), (1, .d (.int .i64 n))], [.dead, rowU b])
def nInv (b : List UInt8) (n : Nat) (c : List UInt8) (m f : Nat) : Prop := f ≤ 9 ∧ m < 128 ^ f * 128 ∧ m < 9223372036854775808 ∧ c.length + f ≤ b.length + 9 ∧ c ++ numF f m = b ++ numF 9 n
theorem nInv_0 {b : List UInt8} {n : Nat} (hn : n < 9223372036854775808) : nInv b n b n 9 := by
  refine ⟨Nat.le_refl _, ?_, hn, Nat.le_refl _, rfl⟩
  have : (128 : Nat) ^ 9 * 128 = 1180591620717411303424 := by decide +kernel
  omega
theorem nInv_step {b : List UInt8} {n : Nat} {c : List UInt8} {m f : Nat} (h : nInv b n c m f) (hm : 128 ≤ m) : ∃ g, f = g + 1 ∧ nInv b n (c ++ [UInt8.ofNat (m % 128 + 128)]) (m / 128) g := by
  obtain ⟨h1, h2, h3, h4, h5⟩ := h
  cases f with
  | zero => simp at h2; omega
  | succ g =>
    refine ⟨g, rfl, by omega, ?_, by omega, by simp; omega, ?_⟩
    · rw [Nat.div_lt_iff_lt_mul (by decide)]
      have : 128 ^ (g + 1) = 128 ^ g * 128 := Nat.pow_succ ..
      omega
    · rw [← h5, numF, if_pos hm]; simp
theorem nInv_end {b : List UInt8} {n : Nat} {c : List UInt8} {m f : Nat} (h : nInv b n c m f) (hm : ¬ 128 ≤ m) : c ++ [UInt8.ofNat m] = b ++ numF 9 n := by
  obtain ⟨h1, h2, h3, h4, h5⟩ := h
  rw [← h5]
  cases f with
  | zero => rfl
  | succ g => rw [numF, if_neg hm]
theorem u8s_snoc (c : List UInt8) {x : UInt8} {z : Int} (h : (x.toNat : Int) = z) : u8s (c ++ [x]) = u8s c ++ [[.int .u8 z]] := by subst h; simp [u8s]
theorem ishr7 (m : Nat) : ishr .i64 (m : Int) 7 = ((m / 128 : Nat) : Int) := by
  unfold ishr
  show (m : Int).fdiv (2 ^ 7) = _
  rw [Int.fdiv_eq_ediv_of_nonneg _ (by decide)]
  omega
set_option maxHeartbeats 1000000 in
theorem wnum_ok (b : List UInt8) (hb : b.length ≤ 1000000000) (n : Nat) (hn : n < 9223372036854775808) : ACalls Tryz.prog 61 [.arr 0, .d (.int .i64 n)] [rowU b] (fun av L => av = .arr 1 ∧ L = [.dead, rowU (b ++ numF 9 n)]) := by
  (refine acalls_go ttOk zOk foOk Tryz.func61 rfl Tryz.ntmps61 rfl true rfl ?_); (conv => whnf)
  refine rdz ?_; repeat' ((with_reducible apply tw) <;> intro _)
  refine loop_go ttOk zOk foOk (σ := Bool × List UInt8 × Nat × Nat) (fun s => nst s.1 s.2.1 s.2.2.1) (fun s => nInv b n s.2.1 s.2.2.1 s.2.2.2) (fun s => s.2.2.2) [0, 1] ?_ ?_
  · conv => whnf
    exact ⟨(true, b, n, 9), rfl, rfl, nInv_0 hn⟩
  · rintro ⟨j, c, m, f⟩ (hi : nInv b n c m f)
    have hi4 := hi.2.2.2.1
    cases j
    all_goals
      conv => whnf
      refine rdz ?_; repeat' ((with_reducible apply tw) <;> intro _)
      · rename_i h
        replace h : (m : Int) ≥ 128 := h
        refine Exists.elim (nInv_step hi (by omega)) fun g hg => ?_
        intro z hz
        replace hz : z = ((m % 256 : Nat) : Int) := by rw [hz]; exact wrapB m
        subst hz
        conv => whnf
        intro z hz
        replace hz : z = ((m % 256 % 128 + 128 : Nat) : Int) := by rw [hz]; exact or128 ⟨m % 256, Nat.mod_lt _ (by decide)⟩
        rw [show m % 256 % 128 = m % 128 by omega] at hz
        subst hz
        conv => whnf
        refine ⟨by show ((u8s c).length + 1) * 1 ≤ _; rw [u8s_length]; omega, ?_⟩
        conv => whnf
        refine rdz ?_; repeat' ((with_reducible apply tw) <;> intro _)
        refine ⟨by decide, ?_⟩
        intro z hz
        replace hz : z = ((m / 128 : Nat) : Int) := by rw [hz]; exact ishr7 m
        subst hz
        conv => whnf
        refine rdz ?_; repeat' ((with_reducible apply tw) <;> intro _)
        exact ⟨(false, c ++ [UInt8.ofNat (m % 128 + 128)], m / 128, g), rfl, by simp only [nst, rowU, u8s_snoc _ (byteI (m % 128 + 128) (by omega))], hg.2, by have := hg.1; show g < f; omega⟩
      · rename_i h
        replace h : ¬ (m : Int) ≥ 128 := h
        intro z hz
        replace hz : z = ((m : Nat) : Int) := by rw [hz]; refine (wrapB m).trans ?_; rw [Nat.mod_eq_of_lt (by omega)]
        subst hz
        conv => whnf
        refine ⟨by show ((u8s c).length + 1) * 1 ≤ _; rw [u8s_length]; omega, ?_⟩
        conv => whnf
        refine rdz ?_; repeat' ((with_reducible apply tw) <;> intro _)
        refine ⟨rfl, ?_⟩
        rw [← nInv_end hi (by omega)]
        simp only [rowU, u8s_snoc _ (byteI m (by omega))]
def gnF (i acc : Nat) : List UInt8 → Option (Nat × Nat)
  | [] => none
  | c :: r => if i = 9 then none else
    if 128 ≤ c.toNat then gnF (i + 1) (acc + c.toNat % 128 * 2 ^ (7 * i)) r else
    if c.toNat = 0 ∧ 0 < i then none else some (acc + c.toNat % 128 * 2 ^ (7 * i), i + 1)
def gnum (b : List UInt8) : Option (Nat × Nat) := gnF 0 0 b
theorem gnF_size : ∀ {b : List UInt8} {i acc n k : Nat}, gnF i acc b = some (n, k) → i < k ∧ k ≤ i + b.length
  | [], i, acc, n, k, h => by simp [gnF] at h
  | c :: r, i, acc, n, k, h => by
    unfold gnF at h
    split at h
    · cases h
    · split at h
      · have := gnF_size h; simp; omega
      · split at h
        · cases h
        · cases h; simp
theorem pow7 {i acc x : Nat} (h1 : acc < 2 ^ (7 * i)) (hx : x < 128) : acc + x * 2 ^ (7 * i) < 2 ^ (7 * (i + 1)) := by
  have e : 2 ^ (7 * (i + 1)) = 128 * 2 ^ (7 * i) := by rw [show 7 * (i + 1) = 7 * i + 7 by omega, Nat.pow_add]; omega
  have := Nat.mul_le_mul_right (2 ^ (7 * i)) (show x ≤ 127 by omega)
  omega
theorem pow7_le {i : Nat} (h : i ≤ 9) : 2 ^ (7 * i) ≤ 9223372036854775808 := Nat.le_trans (Nat.pow_le_pow_right (by decide) (show 7 * i ≤ 63 by omega)) (by decide +kernel)
theorem gnF_lt : ∀ {b : List UInt8} {i acc n k : Nat}, i ≤ 9 → acc < 2 ^ (7 * i) → gnF i acc b = some (n, k) → n < 9223372036854775808
  | [], i, acc, n, k, hi, ha, h => by simp [gnF] at h
  | c :: r, i, acc, n, k, hi, ha, h => by
    unfold gnF at h
    split at h
    · cases h
    · have hp := pow7 ha (Nat.mod_lt c.toNat (by decide : 0 < 128))
      split at h
      · exact gnF_lt (by omega) hp h
      · split at h
        · cases h
        · cases h
          exact Nat.lt_of_lt_of_le hp (pow7_le (by omega))
theorem gnum_lt {b : List UInt8} {n k : Nat} (h : gnum b = some (n, k)) : n < 9223372036854775808 ∧ 1 ≤ k ∧ k ≤ b.length :=
  ⟨gnF_lt (by decide) (by decide) h, by have := gnF_size h; omega, by have := gnF_size h; omega⟩
theorem wrap64 {n : Nat} (h : n < 9223372036854775808) : IntKind.i64.wrap (n : Int) = n := wrapI (by omega)
theorem shl7 {x i : Nat} (hx : x < 128) (hi : i ≤ 8) : ishl .i64 (x : Int) ((7 * i : Nat) : Int) = ((x * 2 ^ (7 * i) : Nat) : Int) := by
  unfold ishl
  rw [show min (Int.toNat ((7 * i : Nat) : Int)) IntKind.i64.bits = 7 * i by simp [IntKind.bits]; omega]
  have e : (x : Int) * 2 ^ (7 * i) = ((x * 2 ^ (7 * i) : Nat) : Int) := by simp
  rw [e, wrap64]
  have h1 := pow7 (i := i) (acc := 0) (Nat.pow_pos (by decide)) hx
  have h2 := pow7_le (i := i + 1) (by omega)
  omega
theorem or7 {acc x i : Nat} (ha : acc < 2 ^ (7 * i)) (hx : x < 128) (hi : i ≤ 8) : ior .i64 (acc : Int) ((x * 2 ^ (7 * i) : Nat) : Int) = ((acc + x * 2 ^ (7 * i) : Nat) : Int) := by
  have h1 := pow7 ha hx
  have h2 := pow7_le (i := i + 1) (by omega)
  unfold ior
  have e1 : BitVec.ofInt IntKind.i64.bits (acc : Int) = BitVec.ofNat 64 acc := BitVec.ofInt_natCast ..
  have e2 : BitVec.ofInt IntKind.i64.bits ((x * 2 ^ (7 * i) : Nat) : Int) = BitVec.ofNat 64 (x * 2 ^ (7 * i)) := BitVec.ofInt_natCast ..
  have e3 : (BitVec.ofNat 64 acc ||| BitVec.ofNat 64 (x * 2 ^ (7 * i))).toNat = acc + x * 2 ^ (7 * i) := by
    rw [BitVec.toNat_or, BitVec.toNat_ofNat, BitVec.toNat_ofNat, Nat.mod_eq_of_lt (show acc < 2 ^ 64 by omega), Nat.mod_eq_of_lt (show x * 2 ^ (7 * i) < 2 ^ 64 by omega)]
    have := Nat.shiftLeft_add_eq_or_of_lt ha x
    rw [Nat.shiftLeft_eq] at this
    rw [Nat.or_comm, ← this, Nat.add_comm]
  rw [e1, e2]
  show IntKind.i64.wrap ((BitVec.ofNat 64 acc ||| BitVec.ofNat 64 (x * 2 ^ (7 * i))).toNat : Int) = _
  rw [e3, wrap64 (by omega)]
theorem and127 : ∀ z : Fin 256, iand .u8 (z.val : Int) 127 = ((z.val % 128 : Nat) : Int) := by decide +kernel
def gnumR (b : List UInt8) : AV := match gnum b with
  | none => .tup [.d (.int .i64 0), .d (.int .i64 0), .d (.int .i64 1)]
  | some (n, k) => .tup [.d (.int .i64 n), .d (.int .i64 k), .d (.int .i64 0)]
theorem gnumR_none {b : List UInt8} (h : gnum b = none) : gnumR b = .tup [.d (.int .i64 0), .d (.int .i64 0), .d (.int .i64 1)] := by unfold gnumR; rw [h]
theorem gnumR_some {b : List UInt8} {n k : Nat} (h : gnum b = some (n, k)) : gnumR b = .tup [.d (.int .i64 n), .d (.int .i64 k), .d (.int .i64 0)] := by unfold gnumR; rw [h]
set_option maxHeartbeats 1000000 in
theorem getNum_ok (b : List UInt8) (hb : b.length ≤ 1000000000) : ACalls Tryz.prog 65 [.d (.sl 1 (u8s b))] [] (fun av L => av = gnumR b ∧ L = []) := by
  have hub : (u8s b).length = b.length := u8s_length _
  (refine acalls_go ttOk zOk foOk Tryz.func65 rfl Tryz.ntmps65 rfl false rfl ?_); (conv => whnf)
  refine scope_go ttOk zOk foOk (σ := Unit) (fun _ => ([], [])) (fun k _ => k = 0 ∧ gnum b = none) (fun _ _ => 0) ?_ ?_
  · rintro k rest hk _ ⟨rfl, hno⟩
    have e := Option.some.inj (show some _ = some rest from hk)
    subst e
    clear hk
    conv => whnf
    rw [gnumR_none hno]
    exact ⟨rfl, rfl⟩
  · intro pass
    conv => whnf
    refine loop_go ttOk zOk foOk (σ := Nat × Nat) (fun s => ([(2, .d (.int .i64 s.2)), (7, .d (.sl 1 (u8s b))), (8, .d (.int .i64 b.length)), (9, .d (.int .i64 s.1))], [])) (fun s => s.1 ≤ b.length ∧ s.1 ≤ 9 ∧ s.2 < 2 ^ (7 * s.1) ∧ gnum b = gnF s.1 s.2 (b.drop s.1)) (fun s => b.length - s.1) [2, 7, 8, 9] ?_ ?_
    · conv => whnf
      exact ⟨(0, 0), by rw [hub]; rfl, rfl, Nat.zero_le _, Nat.zero_le _, Nat.one_pos, rfl⟩
    · rintro ⟨i, acc⟩ ⟨h1, h2, h3, h4⟩
      simp only at h1 h2 h3 h4
      conv => whnf
      refine rdz ?_; repeat' ((with_reducible apply tw) <;> intro _)
      · rename_i h
        replace h : (i : Int) < b.length := h
        refine Exists.elim (⟨_, List.getElem?_eq_getElem (by omega)⟩ : ∃ c, b[i]? = some c) fun c hc => ?_
        have hdr : b.drop i = c :: b.drop (i + 1) := by
          obtain ⟨hlt, hce⟩ := List.getElem?_eq_some_iff.1 hc
          rw [← hce]; exact List.drop_eq_getElem_cons hlt
        rw [hdr] at h4
        have hcl := c.toNat_lt
        ((with_reducible refine ix_u8 hc ?_ ?_); (focus (first | rfl | omega)); (conv => whnf))
        refine rdz ?_; repeat' ((with_reducible apply tw) <;> intro _)
        · rename_i h9
          replace h9 : (i : Int) = 9 := h9
          refine into_of [] ?_
          conv => whnf
          exact ⟨(), rfl, rfl, rfl, by rw [h4, gnF, if_pos (by omega)]⟩
        · rename_i h9
          replace h9 : (i : Int) ≠ 9 := h9
          have hmod := Nat.mod_lt c.toNat (by decide : 0 < 128)
          have hp := pow7 h3 hmod
          have hp2 := pow7_le (i := i + 1) (by omega)
          have hp3 : c.toNat % 128 * 2 ^ (7 * i) < 9223372036854775808 := by omega
          intro z hz
          replace hz : z = ((c.toNat % 128 : Nat) : Int) := by rw [hz]; exact and127 ⟨c.toNat, by omega⟩
          subst hz
          conv => whnf
          intro z hz
          replace hz : z = ((c.toNat % 128 : Nat) : Int) := by rw [hz]; exact wrap64 (by omega)
          subst hz
          conv => whnf
          intro z hz
          replace hz : z = ((7 * i : Nat) : Int) := by rw [hz]; show IntKind.i64.wrap (7 * (i : Int)) = _; rw [wrapI (by omega)]; omega
          subst hz
          conv => whnf
          refine ⟨by omega, ?_⟩
          intro z hz
          replace hz : z = ((c.toNat % 128 * 2 ^ (7 * i) : Nat) : Int) := by rw [hz]; exact shl7 hmod (by omega)
          subst hz
          conv => whnf
          intro z hz
          replace hz : z = ((acc + c.toNat % 128 * 2 ^ (7 * i) : Nat) : Int) := by rw [hz]; exact or7 h3 hmod (by omega)
          subst hz
          conv => whnf
          rw [gnF, if_neg (by omega)] at h4
          refine rdz ?_; repeat' ((with_reducible apply tw) <;> intro _)
          · rename_i h8
            replace h8 : (c.toNat : Int) ≥ 128 := h8
            exact ⟨(i + 1, acc + c.toNat % 128 * 2 ^ (7 * i)), rfl, rfl, ⟨by show i + 1 ≤ b.length; omega, by show i + 1 ≤ 9; omega, hp, by rw [h4, if_pos (by omega)]⟩, by show b.length - (i + 1) < b.length - i; omega⟩
          · rename_i h8 h0 hi
            replace h8 : ¬ (c.toNat : Int) ≥ 128 := h8
            replace h0 : (c.toNat : Int) = 0 := h0
            replace hi : (i : Int) > 0 := hi
            refine into_of [] ?_
            conv => whnf
            exact ⟨(), rfl, rfl, rfl, by rw [h4, if_neg (by omega), if_pos (by omega)]⟩
          · rename_i h8 h0 hi
            replace h8 : ¬ (c.toNat : Int) ≥ 128 := h8
            replace hi : ¬ (i : Int) > 0 := hi
            rw [gnumR_some (n := acc + c.toNat % 128 * 2 ^ (7 * i)) (k := i + 1) (by rw [h4, if_neg (by omega), if_neg (by omega)])]
            exact ⟨rfl, rfl⟩
          · rename_i h8 h0
            replace h8 : ¬ (c.toNat : Int) ≥ 128 := h8
            replace h0 : ¬ (c.toNat : Int) = 0 := h0
            rw [gnumR_some (n := acc + c.toNat % 128 * 2 ^ (7 * i)) (k := i + 1) (by rw [h4, if_neg (by omega), if_neg (by omega)])]
            exact ⟨rfl, rfl⟩
      · rename_i h
        replace h : ¬ (i : Int) < b.length := h
        refine aw_at (σ := Unit) (fun _ => ([], [])) (fun _ => True) [] ?_ ?_
        · conv => whnf
          exact ⟨(), rfl, rfl, trivial⟩
        · intro _ _
          exact pass 0 _ rfl () ⟨rfl, by rw [h4, List.drop_of_length_le (by omega)]; rfl⟩
structure Rd where
  b : List UInt8
  bad : Bool
def Rd.L (r : Rd) : List AB := [.cells [.d (.sl 1 (u8s r.b)), .d (.bool r.bad)]]
def rnum (r : Rd) : Nat × Rd := match gnum r.b with
  | none => (0, { r with bad := true })
  | some (n, k) => if r.bad then (0, { r with bad := true }) else (n, { r with b := r.b.drop k })
def rcount (r : Rd) : Nat × Rd := if (rnum r).2.bad = true ∨ (rnum r).1 > (rnum r).2.b.length then (0, { (rnum r).2 with bad := true }) else rnum r
def rtext (r : Rd) : ByteArray × Rd := (⟨((rcount r).2.b.take (rcount r).1).toArray⟩, { (rcount r).2 with b := (rcount r).2.b.drop (rcount r).1 })
theorem rnum_len (r : Rd) : (rnum r).2.b.length ≤ r.b.length ∧ (rnum r).1 < 9223372036854775808 := by
  unfold rnum
  cases h : gnum r.b with
  | none => exact ⟨Nat.le_refl _, Nat.lt_of_lt_of_le (by decide : 0 < 1) (by decide)⟩
  | some p =>
    obtain ⟨n, k⟩ := p
    simp only
    split
    · exact ⟨Nat.le_refl _, Nat.lt_of_lt_of_le (by decide : 0 < 1) (by decide)⟩
    · exact ⟨by simp, (gnum_lt h).1⟩
theorem rcount_len (r : Rd) : (rcount r).2.b.length ≤ r.b.length ∧ (rcount r).1 ≤ (rcount r).2.b.length := by
  have := rnum_len r
  unfold rcount
  split
  · exact ⟨this.1, Nat.zero_le _⟩
  · rename_i h
    exact ⟨this.1, by omega⟩
theorem rtext_len (r : Rd) : (rtext r).2.b.length ≤ r.b.length ∧ (rtext r).1.size ≤ r.b.length := by
  have := rcount_len r
  unfold rtext
  refine ⟨by simp; omega, ?_⟩
  show (List.toArray _).size ≤ _
  simp; omega
theorem number_ok (r : Rd) (hb : r.b.length ≤ 1000000000) : ACalls Tryz.prog 90 [.ptr 0 0] r.L (fun av L => av = .d (.int .i64 (rnum r).1) ∧ L = (rnum r).2.L) := by
  obtain ⟨b, bad⟩ := r
  have hub : (u8s b).length = b.length := u8s_length _
  have hg := getNum_ok b hb
  (refine acalls_go ttOk zOk foOk Tryz.func90 rfl Tryz.ntmps90 rfl false rfl ?_); (conv => whnf)
  refine rdz ?_; repeat' ((with_reducible apply tw) <;> intro _)
  refine hg.mono ?_
  rintro _ _ ⟨rfl, rfl⟩
  rcases h : gnum b with _ | ⟨n, k⟩
  · rw [gnumR_none h, rnum, h]
    conv => whnf
    cases bad
    all_goals
      conv => whnf
      refine rdz ?_; repeat' ((with_reducible apply tw) <;> intro _)
      exact ⟨rfl, rfl⟩
  · obtain ⟨h1, h2, h3⟩ := gnum_lt h
    rw [gnumR_some h, rnum, h]
    conv => whnf
    cases bad
    · conv => whnf
      refine rdz ?_; repeat' ((with_reducible apply tw) <;> intro _)
      refine ⟨by omega, by show (k : Int) ≤ ((u8s b).length : Nat); omega, Int.le_refl _, ?_⟩
      conv => whnf
      refine rdz ?_; repeat' ((with_reducible apply tw) <;> intro _)
      refine ⟨rfl, ?_⟩
      have e : ((u8s b).take (((u8s b).length : Nat) : Int).toNat).drop ((k : Nat) : Int).toNat = u8s (b.drop k) := by
        rw [Int.toNat_natCast, Int.toNat_natCast, List.take_length]; simp [u8s]
      exact congrArg (fun x => [AB.cells [.d (.sl 1 x), .d (.bool false)]]) e
    · conv => whnf
      refine rdz ?_; repeat' ((with_reducible apply tw) <;> intro _)
      exact ⟨rfl, rfl⟩
theorem rcount_ok (r : Rd) (hb : r.b.length ≤ 1000000000) : ACalls Tryz.prog 88 [.ptr 0 0] r.L (fun av L => av = .d (.int .i64 (rcount r).1) ∧ L = (rcount r).2.L) := by
  have hn := number_ok r hb
  have hl := rnum_len r
  rcases hx : rnum r with ⟨n, ⟨b, bad⟩⟩
  have hub : (u8s b).length = b.length := u8s_length _
  unfold rcount
  rw [hx] at hn hl ⊢
  simp only at hn hl ⊢
  (refine acalls_go ttOk zOk foOk Tryz.func88 rfl Tryz.ntmps88 rfl false rfl ?_); (conv => whnf)
  refine rdz ?_; repeat' ((with_reducible apply tw) <;> intro _)
  refine hn.mono ?_
  rintro _ _ ⟨rfl, rfl⟩
  cases bad
  · conv => whnf
    rw [hub]
    refine rdz ?_; repeat' ((with_reducible apply tw) <;> intro _)
    · rename_i h
      rw [if_pos (.inr (by omega))]
      exact ⟨rfl, by rw [decide_eq_true h]; rfl⟩
    · rename_i h
      rw [if_neg (by rintro (h2 | h2); cases h2; omega)]
      exact ⟨rfl, by rw [decide_eq_false h]; rfl⟩
  · conv => whnf
    refine rdz ?_; repeat' ((with_reducible apply tw) <;> intro _)
    rw [if_pos (.inl rfl)]
    exact ⟨rfl, rfl⟩
theorem text_ok (r : Rd) (hb : r.b.length ≤ 1000000000) : ACalls Tryz.prog 64 [.ptr 0 0] r.L (fun av L => av = .d (.str (rtext r).1) ∧ L = (rtext r).2.L) := by
  have hn := rcount_ok r hb
  have hl := rcount_len r
  unfold rtext
  rcases hx : rcount r with ⟨n, ⟨b, bad⟩⟩
  have hub : (u8s b).length = b.length := u8s_length _
  rw [hx] at hn hl
  simp only at hn hl ⊢
  (refine acalls_go ttOk zOk foOk Tryz.func64 rfl Tryz.ntmps64 rfl false rfl ?_); (conv => whnf)
  refine rdz ?_; repeat' ((with_reducible apply tw) <;> intro _)
  refine hn.mono ?_
  rintro _ _ ⟨rfl, rfl⟩
  conv => whnf
  refine rdz ?_; repeat' ((with_reducible apply tw) <;> intro _)
  refine ⟨Int.le_refl _, by omega, by show (n : Int) ≤ ((u8s b).length : Nat); omega, ?_⟩
  conv => whnf
  refine ⟨b.take n, ?_, ?_⟩
  · show ((u8s b).take ((n : Nat) : Int).toNat).drop 0 = _
    simp [u8s]
  conv => whnf
  refine rdz ?_; repeat' ((with_reducible apply tw) <;> intro _)
  refine ⟨by omega, by show (n : Int) ≤ ((u8s b).length : Nat); omega, Int.le_refl _, ?_⟩
  conv => whnf
  refine rdz ?_; repeat' ((with_reducible apply tw) <;> intro _)
  refine ⟨rfl, ?_⟩
  have e : ((u8s b).take (((u8s b).length : Nat) : Int).toNat).drop ((n : Nat) : Int).toNat = u8s (b.drop n) := by
    rw [Int.toNat_natCast, Int.toNat_natCast, List.take_length]; simp [u8s]
  exact congrArg (fun x => [AB.cells [.d (.sl 1 x), .d (.bool bad)]]) e
def rlist {α : Type} (f : Rd → α × Rd) : Nat → Rd → Option (List α × Rd)
  | 0, r => some ([], r)
  | n + 1, r => if (f r).2.bad = true then none else (rlist f n (f r).2).map fun p => ((f r).1 :: p.1, p.2)
theorem rlist_succ {α : Type} (f : Rd → α × Rd) (n : Nat) (r : Rd) : rlist f (n + 1) r = if (f r).2.bad = true then none else (rlist f n (f r).2).map fun p => ((f r).1 :: p.1, p.2) := rfl
def listF {α : Type} (f : Rd → α × Rd) (b : List UInt8) : Option (List α) :=
  match rlist f (rcount ⟨b, decide (b.length > 1048576)⟩).1 (rcount ⟨b, decide (b.length > 1048576)⟩).2 with
  | none => none
  | some (l, r) => if r.bad = false ∧ r.b.length = 0 then some l else none
theorem rlist_len {α : Type} {f : Rd → α × Rd} : ∀ {n : Nat} {r : Rd} {p : List α × Rd}, rlist f n r = some p → p.1.length = n
  | 0, r, p, h => by simp only [rlist, Option.some.injEq] at h; subst h; rfl
  | n + 1, r, p, h => by
    unfold rlist at h
    split at h
    · cases h
    · rw [Option.map_eq_some_iff] at h
      obtain ⟨q, h1, rfl⟩ := h
      simp [rlist_len h1]
theorem rlist_all {α : Type} {f : Rd → α × Rd} {B : Nat} (ok : α → Prop) (hf : ∀ r : Rd, r.b.length ≤ B → (f r).2.b.length ≤ B ∧ ok (f r).1) : ∀ {n : Nat} {r : Rd} {p : List α × Rd}, r.b.length ≤ B → rlist f n r = some p → ∀ x ∈ p.1, ok x
  | 0, r, p, hr, h => by simp only [rlist, Option.some.injEq] at h; subst h; simp
  | n + 1, r, p, hr, h => by
    unfold rlist at h
    split at h
    · cases h
    · rw [Option.map_eq_some_iff] at h
      obtain ⟨q, h1, rfl⟩ := h
      intro x hx
      rcases List.mem_cons.1 hx with rfl | hx
      · exact (hf r hr).2
      · exact rlist_all ok hf (hf r hr).1 h1 x hx
def rint (r : Rd) : Int × Rd := (((rnum r).1 : Int), (rnum r).2)
theorem listF_len {α : Type} {f : Rd → α × Rd} {b : List UInt8} {l : List α} (h : listF f b = some l) : l.length ≤ b.length := by
  unfold listF at h
  have hc := rcount_len ⟨b, decide (b.length > 1048576)⟩
  split at h
  · cases h
  · rename_i l' r' h1
    split at h
    · cases h
      have := rlist_len h1
      simp only at this hc
      omega
    · cases h
theorem listF_all {α : Type} {f : Rd → α × Rd} {b : List UInt8} (ok : α → Prop) (hf : ∀ r : Rd, r.b.length ≤ b.length → (f r).2.b.length ≤ b.length ∧ ok (f r).1) {l : List α} (h : listF f b = some l) : ∀ x ∈ l, ok x := by
  unfold listF at h
  have hc := rcount_len ⟨b, decide (b.length > 1048576)⟩
  split at h
  · cases h
  · rename_i l' r' h1
    split at h
    · cases h
      exact rlist_all ok hf hc.1 h1
    · cases h
def strLR (b : List UInt8) : AV := match listF rtext b with
  | some l => .tup [.d (.sl 1 (strs l)), .d (.int .i64 0)]
  | none => .tup [.d (.sl 1 []), .d (.int .i64 1)]
set_option maxHeartbeats 2000000 in
theorem strL_ok (b : List UInt8) (hb : b.length ≤ 1000000) : ACalls Tryz.prog 63 [.d (.sl 1 (u8s b)), .fn 64 []] [] (fun av L => av = strLR b ∧ L = []) := by
  have hub : (u8s b).length = b.length := u8s_length _
  have hlf : listF rtext b = listF rtext b := rfl
  conv at hlf => rhs; unfold listF
  have hR : ∀ l, listF rtext b = some l → strLR b = .tup [.d (.sl 1 (strs l)), .d (.int .i64 0)] := fun l h => by unfold strLR; rw [h]
  have hN : listF rtext b = none → strLR b = .tup [.d (.sl 1 []), .d (.int .i64 1)] := fun h => by unfold strLR; rw [h]
  have hcn := rcount_ok ⟨b, decide (b.length > 1048576)⟩ (by show b.length ≤ 1000000000; omega)
  have hcl := rcount_len ⟨b, decide (b.length > 1048576)⟩
  obtain ⟨⟨n, r1⟩, hx⟩ : ∃ x, rcount ⟨b, decide (b.length > 1048576)⟩ = x := ⟨_, rfl⟩
  rw [hx] at hcn hcl hlf
  simp only at hcn hcl hlf
  (refine acalls_go ttOk zOk foOk Tryz.func63 rfl Tryz.ntmps63 rfl false rfl ?_); (conv => whnf)
  refine scope_go ttOk zOk foOk (σ := Unit) (fun _ => ([], [])) (fun k _ => k = 0 ∧ listF rtext b = none) (fun _ _ => 0) ?_ ?_
  · rintro k rest hk _ ⟨rfl, hno⟩
    have e := Option.some.inj (show some _ = some rest from hk)
    subst e
    clear hk
    conv => whnf
    rw [hN hno]
    exact ⟨rfl, rfl⟩
  · intro pass
    conv => whnf
    rw [hub]
    refine rdz ?_; repeat' ((with_reducible apply tw) <;> intro _)
    refine ACalls.mono (post := fun av L => av = .d (.int .i64 n) ∧ L = r1.L) ?_ ?_
    · have e : decide ((b.length : Int) > 1048576) = decide (b.length > 1048576) := by congr 1; simp only [eq_iff_iff]; omega
      show ACalls _ _ _ [.cells [.d (.sl 1 (u8s b)), .d (.bool (decide ((b.length : Int) > 1048576)))]] _
      rw [e]
      exact hcn
    rintro _ _ ⟨rfl, rfl⟩
    conv => whnf
    refine rdz ?_; repeat' ((with_reducible apply tw) <;> intro _)
    refine loop_go ttOk zOk foOk (σ := Nat × List ByteArray × Rd) (fun s => ([(1, .fn 64 []), (4, .arr 0), (6, .ptr 1 0), (7, .d (.int .i64 s.1))], [.row 9 1 (strs s.2.1) false, .cells [.d (.sl 1 (u8s s.2.2.b)), .d (.bool s.2.2.bad)]]))
      (fun s => rlist rtext n r1 = (rlist rtext s.1 s.2.2).map (fun p => (s.2.1 ++ p.1, p.2)) ∧ s.2.1.length + s.1 = n ∧ s.2.2.b.length ≤ b.length) (fun s => s.1) [1, 4, 6, 7] ?_ ?_
    · conv => whnf
      exact ⟨(n, [], r1), rfl, rfl, by simp, by simp, hcl.1⟩
    · rintro ⟨k, acc, ⟨rb, rbad⟩⟩ ⟨h1, h2, h3⟩
      simp only at h1 h2 h3
      have hal : (strs acc).length = acc.length := strs_length _
      conv => whnf
      refine rdz ?_; repeat' ((with_reducible apply tw) <;> intro _)
      · rename_i h
        replace h : (k : Int) > 0 := h
        obtain ⟨k, rfl⟩ : ∃ j, k = j + 1 := ⟨k - 1, by omega⟩
        have hone := text_ok ⟨rb, rbad⟩ (by show rb.length ≤ 1000000000; omega)
        have hol := (rtext_len ⟨rb, rbad⟩).1
        rw [rlist_succ] at h1
        obtain ⟨⟨x, ⟨rb', rbad'⟩⟩, hy⟩ : ∃ x, rtext ⟨rb, rbad⟩ = x := ⟨_, rfl⟩
        rw [hy] at hone hol
        rw [hy] at h1
        simp only at hone hol h1
        refine hone.mono ?_
        rintro _ _ ⟨rfl, rfl⟩
        conv => whnf
        refine ⟨by show ((strs acc).length + 1) * 16 ≤ _; omega, ?_⟩
        conv => whnf
        refine rdz ?_; repeat' ((with_reducible apply tw) <;> intro _)
        · rename_i hb1
          replace hb1 : rbad' = true := hb1
          rw [if_pos hb1] at h1
          refine into_of [] ?_
          conv => whnf
          exact ⟨(), rfl, rfl, rfl, by rw [hlf, h1]; rfl⟩
        · rename_i hb1
          replace hb1 : rbad' = false := hb1
          subst hb1
          rw [if_neg (by decide)] at h1
          refine ⟨(k, acc ++ [x], ⟨rb', false⟩), ?_, ?_, ⟨?_, by simp; omega, by show rb'.length ≤ b.length; omega⟩, by show k < k + 1; omega⟩
          · show _ = [_, _, _, (7, AV.d (.int .i64 ((k : Nat) : Int)))]
            rw [show ((k : Nat) : Int) = ((k + 1 : Nat) : Int) - 1 by omega]
          · rw [← strs_apps]; rfl
          · rw [h1, Option.map_map]
            congr 1
            funext p
            simp
      all_goals
        have hul : (u8s rb).length = rb.length := u8s_length _
      · rename_i h hb1 h5
        replace h : ¬ (k : Int) > 0 := h
        replace hb1 : rbad = false := hb1
        replace h5 : (((u8s rb).length : Nat) : Int) = 0 := h5
        obtain rfl : k = 0 := by omega
        have h1' : rlist rtext n r1 = some (acc, ⟨rb, rbad⟩) := by rw [h1]; simp [rlist]
        rw [hR acc (by rw [hlf, h1']; simp only; rw [if_pos ⟨hb1, by omega⟩])]
        exact ⟨rfl, rfl⟩
      · rename_i h hb1 h5
        replace h : ¬ (k : Int) > 0 := h
        replace h5 : ¬ (((u8s rb).length : Nat) : Int) = 0 := h5
        obtain rfl : k = 0 := by omega
        have h1' : rlist rtext n r1 = some (acc, ⟨rb, rbad⟩) := by rw [h1]; simp [rlist]
        refine aw_at (σ := Unit) (fun _ => ([], [])) (fun _ => True) [] ?_ ?_
        · conv => whnf
          exact ⟨(), rfl, rfl, trivial⟩
        · intro _ _
          exact pass 0 _ rfl () ⟨rfl, by rw [hlf, h1']; simp only; rw [if_neg (by rintro ⟨_, h6⟩; omega)]⟩
      · rename_i h hb1
        replace h : ¬ (k : Int) > 0 := h
        replace hb1 : rbad = true := hb1
        obtain rfl : k = 0 := by omega
        have h1' : rlist rtext n r1 = some (acc, ⟨rb, rbad⟩) := by rw [h1]; simp [rlist]
        refine aw_at (σ := Unit) (fun _ => ([], [])) (fun _ => True) [] ?_ ?_
        · conv => whnf
          exact ⟨(), rfl, rfl, trivial⟩
        · intro _ _
          exact pass 0 _ rfl () ⟨rfl, by rw [hlf, h1']; simp only; rw [if_neg (by rintro ⟨h6, _⟩; rw [hb1] at h6; cases h6)]⟩
def intLR (b : List UInt8) : AV := match listF rint b with
  | some l => .tup [.d (.sl 1 (nums l)), .d (.int .i64 0)]
  | none => .tup [.d (.sl 1 []), .d (.int .i64 1)]
set_option maxHeartbeats 2000000 in
theorem intL_ok (b : List UInt8) (hb : b.length ≤ 1000000) : ACalls Tryz.prog 89 [.d (.sl 1 (u8s b)), .fn 90 []] [] (fun av L => av = intLR b ∧ L = []) := by
  have hub : (u8s b).length = b.length := u8s_length _
  have hlf : listF rint b = listF rint b := rfl
  conv at hlf => rhs; unfold listF
  have hR : ∀ l, listF rint b = some l → intLR b = .tup [.d (.sl 1 (nums l)), .d (.int .i64 0)] := fun l h => by unfold intLR; rw [h]
  have hN : listF rint b = none → intLR b = .tup [.d (.sl 1 []), .d (.int .i64 1)] := fun h => by unfold intLR; rw [h]
  have hcn := rcount_ok ⟨b, decide (b.length > 1048576)⟩ (by show b.length ≤ 1000000000; omega)
  have hcl := rcount_len ⟨b, decide (b.length > 1048576)⟩
  obtain ⟨⟨n, r1⟩, hx⟩ : ∃ x, rcount ⟨b, decide (b.length > 1048576)⟩ = x := ⟨_, rfl⟩
  rw [hx] at hcn hcl hlf
  simp only at hcn hcl hlf
  (refine acalls_go ttOk zOk foOk Tryz.func89 rfl Tryz.ntmps89 rfl false rfl ?_); (conv => whnf)
  refine scope_go ttOk zOk foOk (σ := Unit) (fun _ => ([], [])) (fun k _ => k = 0 ∧ listF rint b = none) (fun _ _ => 0) ?_ ?_
  · rintro k rest hk _ ⟨rfl, hno⟩
    have e := Option.some.inj (show some _ = some rest from hk)
    subst e
    clear hk
    conv => whnf
    rw [hN hno]
    exact ⟨rfl, rfl⟩
  · intro pass
    conv => whnf
    rw [hub]
    refine rdz ?_; repeat' ((with_reducible apply tw) <;> intro _)
    refine ACalls.mono (post := fun av L => av = .d (.int .i64 n) ∧ L = r1.L) ?_ ?_
    · have e : decide ((b.length : Int) > 1048576) = decide (b.length > 1048576) := by congr 1; simp only [eq_iff_iff]; omega
      show ACalls _ _ _ [.cells [.d (.sl 1 (u8s b)), .d (.bool (decide ((b.length : Int) > 1048576)))]] _
      rw [e]
      exact hcn
    rintro _ _ ⟨rfl, rfl⟩
    conv => whnf
    refine rdz ?_; repeat' ((with_reducible apply tw) <;> intro _)
    refine loop_go ttOk zOk foOk (σ := Nat × List Int × Rd) (fun s => ([(1, .fn 90 []), (4, .arr 0), (6, .ptr 1 0), (7, .d (.int .i64 s.1))], [.row 3 1 (nums s.2.1) false, .cells [.d (.sl 1 (u8s s.2.2.b)), .d (.bool s.2.2.bad)]]))
      (fun s => rlist rint n r1 = (rlist rint s.1 s.2.2).map (fun p => (s.2.1 ++ p.1, p.2)) ∧ s.2.1.length + s.1 = n ∧ s.2.2.b.length ≤ b.length) (fun s => s.1) [1, 4, 6, 7] ?_ ?_
    · conv => whnf
      exact ⟨(n, [], r1), rfl, rfl, by simp, by simp, hcl.1⟩
    · rintro ⟨k, acc, ⟨rb, rbad⟩⟩ ⟨h1, h2, h3⟩
      simp only at h1 h2 h3
      have hal : (nums acc).length = acc.length := nums_length _
      conv => whnf
      refine rdz ?_; repeat' ((with_reducible apply tw) <;> intro _)
      · rename_i h
        replace h : (k : Int) > 0 := h
        obtain ⟨k, rfl⟩ : ∃ j, k = j + 1 := ⟨k - 1, by omega⟩
        have hone := number_ok ⟨rb, rbad⟩ (by show rb.length ≤ 1000000000; omega)
        have hol := (rnum_len ⟨rb, rbad⟩).1
        rw [rlist_succ] at h1
        obtain ⟨⟨x, ⟨rb', rbad'⟩⟩, hy⟩ : ∃ x, rint ⟨rb, rbad⟩ = x := ⟨_, rfl⟩
        have hy1 : ((rnum ⟨rb, rbad⟩).1 : Int) = x := congrArg Prod.fst hy
        have hy2 : (rnum ⟨rb, rbad⟩).2 = ⟨rb', rbad'⟩ := congrArg Prod.snd hy
        rw [hy1, hy2] at hone
        rw [hy2] at hol
        rw [hy] at h1
        simp only at hone hol h1
        refine hone.mono ?_
        rintro _ _ ⟨rfl, rfl⟩
        conv => whnf
        refine ⟨by show ((nums acc).length + 1) * 8 ≤ _; omega, ?_⟩
        conv => whnf
        refine rdz ?_; repeat' ((with_reducible apply tw) <;> intro _)
        · rename_i hb1
          replace hb1 : rbad' = true := hb1
          rw [if_pos hb1] at h1
          refine into_of [] ?_
          conv => whnf
          exact ⟨(), rfl, rfl, rfl, by rw [hlf, h1]; rfl⟩
        · rename_i hb1
          replace hb1 : rbad' = false := hb1
          subst hb1
          rw [if_neg (by decide)] at h1
          refine ⟨(k, acc ++ [x], ⟨rb', false⟩), ?_, ?_, ⟨?_, by simp; omega, by show rb'.length ≤ b.length; omega⟩, by show k < k + 1; omega⟩
          · show _ = [_, _, _, (7, AV.d (.int .i64 ((k : Nat) : Int)))]
            rw [show ((k : Nat) : Int) = ((k + 1 : Nat) : Int) - 1 by omega]
          · rw [← nums_apps]; rfl
          · rw [h1, Option.map_map]
            congr 1
            funext p
            simp
      all_goals
        have hul : (u8s rb).length = rb.length := u8s_length _
      · rename_i h hb1 h5
        replace h : ¬ (k : Int) > 0 := h
        replace hb1 : rbad = false := hb1
        replace h5 : (((u8s rb).length : Nat) : Int) = 0 := h5
        obtain rfl : k = 0 := by omega
        have h1' : rlist rint n r1 = some (acc, ⟨rb, rbad⟩) := by rw [h1]; simp [rlist]
        rw [hR acc (by rw [hlf, h1']; simp only; rw [if_pos ⟨hb1, by omega⟩])]
        exact ⟨rfl, rfl⟩
      · rename_i h hb1 h5
        replace h : ¬ (k : Int) > 0 := h
        replace h5 : ¬ (((u8s rb).length : Nat) : Int) = 0 := h5
        obtain rfl : k = 0 := by omega
        have h1' : rlist rint n r1 = some (acc, ⟨rb, rbad⟩) := by rw [h1]; simp [rlist]
        refine aw_at (σ := Unit) (fun _ => ([], [])) (fun _ => True) [] ?_ ?_
        · conv => whnf
          exact ⟨(), rfl, rfl, trivial⟩
        · intro _ _
          exact pass 0 _ rfl () ⟨rfl, by rw [hlf, h1']; simp only; rw [if_neg (by rintro ⟨_, h6⟩; omega)]⟩
      · rename_i h hb1
        replace h : ¬ (k : Int) > 0 := h
        replace hb1 : rbad = true := hb1
        obtain rfl : k = 0 := by omega
        have h1' : rlist rint n r1 = some (acc, ⟨rb, rbad⟩) := by rw [h1]; simp [rlist]
        refine aw_at (σ := Unit) (fun _ => ([], [])) (fun _ => True) [] ?_ ?_
        · conv => whnf
          exact ⟨(), rfl, rfl, trivial⟩
        · intro _ _
          exact pass 0 _ rfl () ⟨rfl, by rw [hlf, h1']; simp only; rw [if_neg (by rintro ⟨h6, _⟩; rw [hb1] at h6; cases h6)]⟩
theorem wget_ok (b : List UInt8) (hb : b.length ≤ 1000000) : ACalls Tryz.prog 33 [.d (.sl 1 (u8s b))] [] (fun av L => av = strLR b ∧ L = []) := by
  have h := strL_ok b hb
  unfold strLR at h ⊢
  (refine acalls_go ttOk zOk foOk Tryz.func33 rfl Tryz.ntmps33 rfl false rfl ?_); (conv => whnf)
  refine h.mono ?_
  rintro _ _ ⟨rfl, rfl⟩
  rcases listF rtext b with _ | l
  all_goals
    conv => whnf
    exact ⟨rfl, rfl⟩
theorem getNums_ok (b : List UInt8) (hb : b.length ≤ 1000000) : ACalls Tryz.prog 66 [.d (.sl 1 (u8s b))] [] (fun av L => av = intLR b ∧ L = []) := by
  have h := intL_ok b hb
  unfold intLR at h ⊢
  (refine acalls_go ttOk zOk foOk Tryz.func66 rfl Tryz.ntmps66 rfl false rfl ?_); (conv => whnf)
  refine h.mono ?_
  rintro _ _ ⟨rfl, rfl⟩
  rcases listF rint b with _ | l
  all_goals
    conv => whnf
    exact ⟨rfl, rfl⟩
def ntext (n : Int) : ByteArray := ⟨(numF 9 n.toNat).toArray⟩
theorem ntext_size (n : Int) : (ntext n).size ≤ 10 := by
  have := (numF_len 9 n.toNat).2
  show (List.toArray _).size ≤ 10
  simp; omega
def pos64 (l : List Int) : Prop := ∀ n ∈ l, 0 ≤ n ∧ n < 9223372036854775808
set_option maxHeartbeats 1000000 in
theorem texts_ok (l : List Int) (hl : l.length ≤ 1000000) (hp : pos64 l) : ACalls Tryz.prog 30 [.d (.sl 1 (nums l))] [] (fun av L => av = .arr 0 ∧ L = [.row 9 1 (strs (l.map ntext)) false]) := by
  have hnl := nums_length l
  (refine acalls_go ttOk zOk foOk Tryz.func30 rfl Tryz.ntmps30 rfl true rfl ?_); (conv => whnf)
  refine loop_go ttOk zOk foOk (σ := Nat) (fun k => ([(2, .arr 0), (5, .d (.sl 1 (nums l))), (6, .d (.int .i64 l.length)), (7, .d (.int .i64 k))], [.row 9 1 (strs ((l.take k).map ntext)) false])) (fun k => k ≤ l.length) (fun k => l.length - k) [2, 5, 6, 7] ?_ ?_
  · conv => whnf
    exact ⟨0, by rw [hnl]; rfl, rfl, Nat.zero_le _⟩
  · rintro k hk
    conv => whnf
    refine rdz ?_; repeat' ((with_reducible apply tw) <;> intro _)
    · rename_i h
      refine Exists.elim (⟨_, List.getElem?_eq_getElem (by omega)⟩ : ∃ a, l[k]? = some a) fun a ha => ?_
      have hk2 : (strs ((l.take k).map ntext)).length = k := by rw [strs_length, List.length_map, List.length_take]; omega
      obtain ⟨h0, h1⟩ := hp a (List.mem_of_getElem? ha)
      refine ⟨by omega, [.int .i64 a], nums_at ha, ?_⟩
      obtain ⟨n, rfl⟩ : ∃ n : Nat, a = (n : Int) := ⟨a.toNat, by omega⟩
      have hnum := wnum_ok [] (by simp) n (by omega)
      conv => whnf
      refine rdz ?_; repeat' ((with_reducible apply tw) <;> intro _)
      (refine Or.inr ?_; (conv => whnf))
      refine hnum.mono ?_
      rintro _ _ ⟨rfl, rfl⟩
      conv => whnf
      refine ⟨numF 9 n, rfl, ?_⟩
      conv => whnf
      refine ⟨by show ((strs ((l.take k).map ntext)).length + 1) * 16 ≤ _; omega, ?_⟩
      conv => whnf
      refine rdz ?_; repeat' ((with_reducible apply tw) <;> intro _)
      refine ⟨k + 1, rfl, ?_, by omega, by omega⟩
      rw [jtake_snoc ha, List.map_append, ← strs_apps]
      rfl
    · rename_i h
      rw [List.take_of_length_le (by omega)]
      exact ⟨rfl, rfl⟩
def numsF : List UInt8 → List Int → List UInt8
  | b, [] => b
  | b, n :: r => numsF (if b.length ≤ 1048576 then b ++ numF 9 n.toNat else b) r
def numsO (l : List Int) : Option (List UInt8) := if (numsF (numF 9 l.length) l).length > 1048576 then none else some (numsF (numF 9 l.length) l)
theorem numsF_snoc (b : List UInt8) (l : List Int) (n : Int) : numsF b (l ++ [n]) = if (numsF b l).length ≤ 1048576 then numsF b l ++ numF 9 n.toNat else numsF b l := by
  induction l generalizing b with
  | nil => rfl
  | cons x r ih => exact ih _
def numsR (l : List Int) : AV := match numsO l with
  | some b => .tup [.d (.sl 1 (u8s b)), .d (.int .i64 0)]
  | none => .tup [.d (.sl 1 []), .d (.int .i64 2)]
theorem numsF_len (b : List UInt8) (l : List Int) (h : b.length ≤ 1048586) : (numsF b l).length ≤ 1048586 := by
  induction l generalizing b with
  | nil => exact h
  | cons x r ih =>
    unfold numsF
    refine ih _ ?_
    have := (numF_len 9 x.toNat).2
    split
    · simp; omega
    · exact h
set_option maxHeartbeats 1000000 in
theorem nums_ok (l : List Int) (hl : l.length ≤ 1000000) (hp : pos64 l) : ACalls Tryz.prog 62 [.d (.sl 1 (nums l))] [] (fun av L => av = numsR l ∧ L = []) := by
  have hnl := nums_length l
  have hn0 := wnum_ok [] (by simp) l.length (by omega)
  have hf0 := (numF_len 9 l.length).2
  (refine acalls_go ttOk zOk foOk Tryz.func62 rfl Tryz.ntmps62 rfl false rfl ?_); (conv => whnf)
  rw [hnl]
  refine rdz ?_; repeat' ((with_reducible apply tw) <;> intro _)
  (refine Or.inr ?_; (conv => whnf))
  refine hn0.mono ?_
  rintro _ _ ⟨rfl, rfl⟩
  conv => whnf
  rw [hnl]
  refine loop_go ttOk zOk foOk (σ := Nat) (fun k => ([(4, .arr 0), (10, .d (.sl 1 (nums l))), (11, .d (.int .i64 l.length)), (12, .d (.int .i64 k))], [rowU (numsF (numF 9 l.length) (l.take k))])) (fun k => k ≤ l.length) (fun k => l.length - k) [4, 10, 11, 12] ?_ ?_
  · conv => whnf
    exact ⟨0, rfl, rfl, Nat.zero_le _⟩
  · rintro k hk
    have hfl := numsF_len (numF 9 l.length) (l.take k) (by omega)
    obtain ⟨b, hb⟩ : ∃ b, numsF (numF 9 l.length) (l.take k) = b := ⟨_, rfl⟩
    rw [hb] at hfl ⊢
    have hub : (u8s b).length = b.length := u8s_length _
    conv => whnf
    refine rdz ?_; repeat' ((with_reducible apply tw) <;> intro _)
    · rename_i h
      replace h : (k : Int) < l.length := h
      refine Exists.elim (⟨_, List.getElem?_eq_getElem (by omega)⟩ : ∃ a, l[k]? = some a) fun a ha => ?_
      obtain ⟨h0, h1⟩ := hp a (List.mem_of_getElem? ha)
      obtain ⟨n, rfl⟩ : ∃ n : Nat, a = (n : Int) := ⟨a.toNat, by omega⟩
      have hnum := wnum_ok b (by omega) n (by omega)
      have hs := numsF_snoc (numF 9 l.length) (l.take k) n
      rw [← jtake_snoc ha, hb, Int.toNat_natCast] at hs
      refine ⟨by omega, [.int .i64 n], nums_at ha, ?_⟩
      conv => whnf
      refine rdz ?_; repeat' ((with_reducible apply tw) <;> intro _)
      · rename_i h3
        replace h3 : (((u8s b).length : Nat) : Int) ≤ 1048576 := h3
        rw [if_pos (by omega)] at hs
        (refine Or.inr ?_; (conv => whnf))
        refine hnum.mono ?_
        rintro _ _ ⟨rfl, rfl⟩
        conv => whnf
        refine rdz ?_; repeat' ((with_reducible apply tw) <;> intro _)
        exact ⟨k + 1, rfl, by rw [hs]; rfl, by omega, by omega⟩
      · rename_i h3
        replace h3 : ¬ (((u8s b).length : Nat) : Int) ≤ 1048576 := h3
        rw [if_neg (by omega)] at hs
        exact ⟨k + 1, rfl, by rw [hs]; rfl, by omega, by omega⟩
    all_goals
      rename_i h h3
      replace h : ¬ (k : Int) < l.length := h
      rw [List.take_of_length_le (by omega)] at hb
      unfold numsR numsO
      rw [hb]
    · replace h3 : (((u8s b).length : Nat) : Int) > 1048576 := h3
      rw [if_pos (by omega)]
      exact ⟨rfl, rfl⟩
    · replace h3 : ¬ (((u8s b).length : Nat) : Int) > 1048576 := h3
      rw [if_neg (by omega)]
      exact ⟨rfl, rfl⟩
def ltext (l : List Int) : ByteArray := ⟨((numsO l).getD []).toArray⟩
theorem ltext_size (l : List Int) : (ltext l).size ≤ 1048586 := by
  show (List.toArray _).size ≤ _
  unfold numsO
  split
  · simp
  · rename_i h; simp; omega
theorem list_ok (l : List Int) (hl : l.length ≤ 1000000) (hp : pos64 l) : ACalls Tryz.prog 31 [.d (.sl 1 (nums l))] [] (fun av L => av = .d (.str (ltext l)) ∧ L = []) := by
  have h := nums_ok l hl hp
  unfold numsR at h
  unfold ltext
  (refine acalls_go ttOk zOk foOk Tryz.func31 rfl Tryz.ntmps31 rfl false rfl ?_); (conv => whnf)
  refine h.mono ?_
  rintro _ _ ⟨rfl, rfl⟩
  rcases hn : numsO l with _ | b
  · conv => whnf
    refine ⟨[], rfl, ?_⟩
    conv => whnf
    exact ⟨rfl, rfl⟩
  · conv => whnf
    refine ⟨b, rfl, ?_⟩
    conv => whnf
    exact ⟨rfl, rfl⟩
def putF : List UInt8 → List ByteArray → Option (List UInt8)
  | b, [] => if b.length ≤ 1048576 then some b else none
  | b, s :: r => if ((s.size : Nat) : Int) > 1048576 - ((b ++ numF 9 s.size).length : Int) then none else putF (b ++ numF 9 s.size ++ s.data.toList) r
theorem putF_cons (b : List UInt8) (s : ByteArray) (r : List ByteArray) : putF b (s :: r) = if ((s.size : Nat) : Int) > 1048576 - ((b ++ numF 9 s.size).length : Int) then none else putF (b ++ numF 9 s.size ++ s.data.toList) r := rfl
def putO (l : List ByteArray) : Option (List UInt8) := putF (numF 9 l.length) l
def putR (l : List ByteArray) : AV := match putO l with
  | some b => .tup [.d (.sl 1 (u8s b)), .d (.int .i64 0)]
  | none => .tup [.d (.sl 1 []), .d (.int .i64 2)]
theorem putR_some {l : List ByteArray} {b : List UInt8} (h : putO l = some b) : putR l = .tup [.d (.sl 1 (u8s b)), .d (.int .i64 0)] := by unfold putR; rw [h]
theorem putR_none {l : List ByteArray} (h : putO l = none) : putR l = .tup [.d (.sl 1 []), .d (.int .i64 2)] := by unfold putR; rw [h]
set_option maxHeartbeats 1000000 in
theorem wput_ok (l : List ByteArray) (hl : l.length ≤ 1000000) (hs : ∀ s ∈ l, s.size ≤ 140737488355328) : ACalls Tryz.prog 32 [.d (.sl 1 (strs l))] [] (fun av L => av = putR l ∧ L = []) := by
  have hnl := strs_length l
  have hn0 := wnum_ok [] (by simp) l.length (by omega)
  have hf0 := (numF_len 9 l.length).2
  (refine acalls_go ttOk zOk foOk Tryz.func32 rfl Tryz.ntmps32 rfl false rfl ?_); (conv => whnf)
  refine scope_go ttOk zOk foOk (σ := Unit) (fun _ => ([], [])) (fun k _ => k = 0 ∧ putO l = none) (fun _ _ => 0) ?_ ?_
  · rintro k rest hk _ ⟨rfl, hno⟩
    have e := Option.some.inj (show some _ = some rest from hk)
    subst e
    clear hk
    conv => whnf
    rw [putR_none hno]
    exact ⟨rfl, rfl⟩
  · intro pass
    conv => whnf
    rw [hnl]
    refine rdz ?_; repeat' ((with_reducible apply tw) <;> intro _)
    (refine Or.inr ?_; (conv => whnf))
    refine hn0.mono ?_
    rintro _ _ ⟨rfl, rfl⟩
    conv => whnf
    refine rdz ?_; repeat' ((with_reducible apply tw) <;> intro _)
    rw [hnl]
    refine loop_go ttOk zOk foOk (σ := Nat × List UInt8) (fun s => ([(4, .arr 0), (10, .d (.sl 1 (strs l))), (11, .d (.int .i64 l.length)), (12, .d (.int .i64 s.1))], [rowU s.2])) (fun s => s.1 ≤ l.length ∧ s.2.length ≤ 1048576 + 10 ∧ putO l = putF s.2 (l.drop s.1)) (fun s => l.length - s.1) [4, 10, 11, 12] ?_ ?_
    · conv => whnf
      exact ⟨(0, numF 9 l.length), rfl, rfl, Nat.zero_le _, by show (numF 9 l.length).length ≤ _; omega, rfl⟩
    · rintro ⟨k, b⟩ ⟨h1, h2, h3⟩
      simp only at h1 h2 h3
      have hub : (u8s b).length = b.length := u8s_length _
      conv => whnf
      refine rdz ?_; repeat' ((with_reducible apply tw) <;> intro _)
      · rename_i h
        replace h : (k : Int) < l.length := h
        refine Exists.elim (⟨_, List.getElem?_eq_getElem (by omega)⟩ : ∃ a, l[k]? = some a) fun a ha => ?_
        have hdr : l.drop k = a :: l.drop (k + 1) := by
          obtain ⟨hlt, hce⟩ := List.getElem?_eq_some_iff.1 ha
          rw [← hce]; exact List.drop_eq_getElem_cons hlt
        have hsa := hs a (List.mem_of_getElem? ha)
        have hnum := wnum_ok b (by omega) a.size (by omega)
        rw [hdr, putF_cons] at h3
        obtain ⟨c, hc⟩ : ∃ c, b ++ numF 9 a.size = c := ⟨_, rfl⟩
        have hcl : c.length ≤ 1048576 + 20 := by have := (numF_len 9 a.size).2; rw [← hc]; simp; omega
        rw [hc] at hnum h3
        have huc : (u8s c).length = c.length := u8s_length _
        refine ⟨by omega, [.str a], strs_at ha, ?_⟩
        conv => whnf
        refine rdz ?_; repeat' ((with_reducible apply tw) <;> intro _)
        (refine Or.inr ?_; (conv => whnf))
        refine hnum.mono ?_
        rintro _ _ ⟨rfl, rfl⟩
        conv => whnf
        intro z hz
        replace hz : z = 1048576 - (c.length : Int) := by
          rw [hz]
          show IntKind.i64.wrap (1048576 - (((u8s c).length : Nat) : Int)) = _
          rw [huc, wrapI (by omega)]
        subst hz
        conv => whnf
        refine rdz ?_; repeat' ((with_reducible apply tw) <;> intro _)
        · rename_i h4
          rw [if_pos h4] at h3
          refine into_of [] ?_
          conv => whnf
          exact ⟨(), rfl, rfl, rfl, h3⟩
        · rename_i h4
          rw [if_neg h4] at h3
          have hal : a.data.toList.length = a.size := by simp
          refine ⟨by show ((u8s c).length + a.size) * 1 ≤ _; omega, ?_⟩
          conv => whnf
          refine rdz ?_; repeat' ((with_reducible apply tw) <;> intro _)
          refine ⟨(k + 1, c ++ a.data.toList), rfl, ?_, ⟨by show k + 1 ≤ l.length; omega, by show (c ++ a.data.toList).length ≤ _; rw [List.length_append, hal]; omega, h3⟩, by show l.length - (k + 1) < l.length - k; omega⟩
          rw [rowU, u8s_app]
      all_goals
        rename_i h h4
        replace h : ¬ (k : Int) < l.length := h
        rw [List.drop_of_length_le (by omega)] at h3
        unfold putF at h3
      · replace h4 : (((u8s b).length : Nat) : Int) ≤ 1048576 := h4
        rw [if_pos (by omega)] at h3
        rw [putR_some h3]
        exact ⟨rfl, rfl⟩
      · replace h4 : ¬ (((u8s b).length : Nat) : Int) ≤ 1048576 := h4
        rw [if_neg (by omega)] at h3
        refine aw_at (σ := Unit) (fun _ => ([], [])) (fun _ => True) [] ?_ ?_
        · conv => whnf
          exact ⟨(), rfl, rfl, trivial⟩
        · intro _ _
          exact pass 0 _ rfl () ⟨rfl, h3⟩
theorem headW_ok (c : Cert) (h : c.ok) : ACalls Tryz.prog 69 [c.hav] [] (fun av L => av = .d (.int .i64 (1 + c.bats.length + c.pars.length)) ∧ L = []) := by
  have h1 := h.bats.1
  have h2 := h.pars.1
  unfold few at h1 h2
  have e1 := nums_length c.bats
  have e2 := nums_length c.pars
  (refine acalls_go ttOk zOk foOk Tryz.func69 rfl Tryz.ntmps69 rfl false rfl ?_); (conv => whnf)
  rw [e1]
  refine rdw ?_; repeat' ((with_reducible apply tw) <;> intro _)
  rw [e2]
  refine rdw ?_; repeat' ((with_reducible apply tw) <;> intro _)
  exact ⟨rfl, rfl⟩
theorem certW_ok (c : Cert) (h : c.ok) : ACalls Tryz.prog 40 [c.av] [] (fun av L => av = .d (.int .i64 (1 + c.bats.length + c.pars.length + c.sigs.length)) ∧ L = []) := by
  have h1 := h.bats.1
  have h2 := h.pars.1
  have h3 := h.sigs.1
  unfold few at h1 h2 h3
  have e3 := nums_length c.sigs
  (refine acalls_go ttOk zOk foOk Tryz.func40 rfl Tryz.ntmps40 rfl false rfl ?_); (conv => whnf)
  ((with_reducible refine draw_pl ttOk zOk foOk mixedOk pl40x1 ?_ ?_); (focus kernel_rfl); (conv => whnf))
  refine rdw ?_; repeat' ((with_reducible apply tw) <;> intro _)
  refine (headW_ok c h).mono ?_
  rintro _ _ ⟨rfl, rfl⟩
  conv => whnf
  refine rdw ?_; repeat' ((with_reducible apply tw) <;> intro _)
  rw [e3]
  refine rdw ?_; repeat' ((with_reducible apply tw) <;> intro _)
  exact ⟨rfl, rfl⟩
end Go.Proofs.YtmmngmnmghpfaaaGreat
namespace Go.Proofs.YtmmngmnmghpfaaaGreat
open Go.Ab Go.RowKit
theorem mem_addS {x : Int} : ∀ {ps ks : List Int}, x ∈ addS ks ps ↔ x ∈ ks ∨ x ∈ ps
  | [], ks => by simp [addS]
  | p :: ps, ks => by
    show x ∈ addS (insS ks p) ps ↔ _
    rw [mem_addS, mem_insS, List.mem_cons]
    constructor
    · rintro ((h | h) | h)
      · exact .inl h
      · exact .inr (.inl h)
      · exact .inr (.inr h)
    · rintro (h | h | h)
      · exact .inl (.inl h)
      · exact .inl (.inr h)
      · exact .inr h
def desc (l : List Cert) : Prop := l.Pairwise fun x y => y.round ≤ x.round
theorem downL_low {dl low : Int} : ∀ {l : List Cert} {ks : List Int}, (∀ c ∈ l, c.round ≤ low) → downL dl low l ks = []
  | [], _, _ => rfl
  | c :: r, ks, h => by rw [downL, if_pos (h c (by simp))]
theorem downL_skip {dl low : Int} : ∀ {l1 l2 : List Cert} {ks : List Int}, desc (l1 ++ l2) → (∀ c ∈ l1, c.digest ∉ ks) → downL dl low (l1 ++ l2) ks = downL dl low l2 ks
  | [], _, _, _, _ => rfl
  | c :: r, l2, ks, hd, h => by
    have hd' := List.pairwise_cons.1 hd
    rw [List.cons_append, downL]
    by_cases h1 : c.round ≤ low
    · rw [if_pos h1, downL_low]
      intro y hy
      have := hd'.1 y (List.mem_append_right _ hy)
      omega
    · rw [if_neg h1, if_neg (h c (by simp))]
      exact downL_skip hd'.2 fun y hy => h y (by simp [hy])
theorem desc_rev {l : List Cert} (h : sortedC l) : desc l.reverse := by
  unfold desc
  rw [List.pairwise_reverse]
  exact h.imp fun h => by have := before_iff.1 h; omega
theorem dig_at {d : Dag} (hd : (d.certs.map (·.digest)).Nodup) {i : Nat} {c : Cert} (h : d.certs[i]? = some c) : ∀ x ∈ d.certs.drop (i + 1), x.digest ≠ c.digest := by
  intro x hx e
  obtain ⟨hi, rfl⟩ := List.getElem?_eq_some_iff.1 h
  have h1 : d.certs = d.certs.take (i + 1) ++ d.certs.drop (i + 1) := (List.take_append_drop ..).symm
  rw [h1, List.map_append, List.nodup_append] at hd
  exact hd.2.2 d.certs[i].digest (List.mem_map.2 ⟨d.certs[i], List.mem_take_iff_getElem.2 ⟨i, by omega, rfl⟩, rfl⟩) x.digest (List.mem_map.2 ⟨x, hx, rfl⟩) e.symm
theorem downI_eq {d : Dag} (hs : sortedC d.certs) (hd : (d.certs.map (·.digest)).Nodup) {i : Nat} {c : Cert} (h : d.certs[i]? = some c) (low : Int) : downI d i low = downL d.low low d.certs.reverse [c.digest] := by
  unfold downI
  rw [h]
  have e : d.certs.reverse = (d.certs.drop (i + 1)).reverse ++ (d.certs.take (i + 1)).reverse := by
    rw [← List.reverse_append, List.take_append_drop]
  have hdsc := desc_rev hs
  rw [e] at hdsc ⊢
  rw [downL_skip hdsc]
  · rfl
  · intro x hx
    have := dig_at hd h x (List.mem_reverse.1 hx)
    simpa using this
theorem downL_filter {dl low : Int} (S : Int → Bool) : ∀ {l : List Cert} {ks : List Int}, (∀ k ∈ ks, S k = true) → (∀ c ∈ l, S c.digest = true → c.round > dl + 1 → ∀ x ∈ c.pars, S x = true) → desc l → downL dl low l ks = downL dl low (l.filter fun c => S c.digest) ks
  | [], _, _, _, _ => rfl
  | c :: r, ks, hk, hc, hd => by
    have hd' := List.pairwise_cons.1 hd
    by_cases h1 : c.round ≤ low
    · rw [downL_low, downL_low]
      · intro y hy
        rcases List.mem_cons.1 (List.mem_filter.1 hy).1 with rfl | hy
        · exact h1
        · have := hd'.1 y hy; omega
      · intro y hy
        rcases List.mem_cons.1 hy with rfl | hy
        · exact h1
        · have := hd'.1 y hy; omega
    · have hr : ∀ y ∈ r, S y.digest = true → y.round > dl + 1 → ∀ x ∈ y.pars, S x = true := fun y hy => hc y (by simp [hy])
      cases hS : S c.digest with
      | false =>
        rw [List.filter_cons, hS]
        rw [downL, if_neg h1, if_neg (fun h => by rw [hk _ h] at hS; cases hS)]
        exact downL_filter S hk hr hd'.2
      | true =>
        rw [List.filter_cons, hS, if_pos rfl, downL, downL, if_neg h1, if_neg h1]
        by_cases h2 : c.digest ∈ ks
        · rw [if_pos h2, if_pos h2]
          congr 1
          refine downL_filter S ?_ hr hd'.2
          split
          · rename_i h3
            intro k hk'
            rcases mem_addS.1 hk' with h4 | h4
            · exact hk k h4
            · exact hc c (by simp) hS h3 k h4
          · exact hk
        · rw [if_neg h2, if_neg h2]
          exact downL_filter S hk hr hd'.2
theorem down_mem {dl low : Int} : ∀ {l : List Cert} {ks : List Int} {c : Cert}, desc l → c ∈ l → c.digest ∈ ks → c.round > low → c.digest ∈ downL dl low l ks
  | x :: r, ks, c, hd, h, hk, hr => by
    have hd' := List.pairwise_cons.1 hd
    have hx : ¬ x.round ≤ low := by
      rcases List.mem_cons.1 h with rfl | h
      · omega
      · have := hd'.1 c h; omega
    rw [downL, if_neg hx]
    rcases List.mem_cons.1 h with rfl | h
    · rw [if_pos hk]; simp
    · split
      · exact List.mem_cons_of_mem _ (down_mem hd'.2 h (by split; exact mem_addS.2 (.inl hk); exact hk) hr)
      · exact down_mem hd'.2 h hk hr
theorem down_closed {dl low : Int} : ∀ {l : List Cert} {ks : List Int} {c p : Cert}, desc l → (l.map (·.digest)).Nodup → c ∈ l → c.digest ∈ downL dl low l ks → c.round > dl + 1 → p ∈ l → p.digest ∈ c.pars → low < p.round → p.round < c.round → p.digest ∈ downL dl low l ks
  | x :: r, ks, c, p, hd, hn, hc, hcd, hcr, hp, hpc, hpl, hpr => by
    have hd' := List.pairwise_cons.1 hd
    have hn' := List.nodup_cons.1 hn
    have hpx : p ∈ r := by
      rcases List.mem_cons.1 hp with rfl | h
      · rcases List.mem_cons.1 hc with rfl | h2
        · omega
        · have := hd'.1 c h2; omega
      · exact h
    have hx : ¬ x.round ≤ low := by have := hd'.1 p hpx; omega
    rw [downL, if_neg hx] at hcd ⊢
    rcases List.mem_cons.1 hc with rfl | hcr'
    · by_cases hk : c.digest ∈ ks
      · rw [if_pos hk, if_pos hcr]
        exact List.mem_cons_of_mem _ (down_mem hd'.2 hpx (mem_addS.2 (.inr hpc)) hpl)
      · rw [if_neg hk] at hcd
        exact absurd ((down_sub dl low r ks).subset hcd) hn'.1
    · have hne : c.digest ≠ x.digest := fun e => hn'.1 (List.mem_map.2 ⟨c, hcr', e⟩)
      split at hcd
      · rename_i hk
        rw [if_pos hk]
        rcases List.mem_cons.1 hcd with h | h
        · exact absurd h hne
        · exact List.mem_cons_of_mem _ (down_closed hd'.2 hn'.2 hcr' h hcr hpx hpc hpl hpr)
      · rename_i hk
        rw [if_neg hk]
        exact down_closed hd'.2 hn'.2 hcr' hcd hcr hpx hpc hpl hpr
inductive Anc (d : Dag) (x : Cert) : Cert → Prop
  | refl : Anc d x x
  | step {z y : Cert} : Anc d x z → z.round > d.low + 1 → y ∈ d.certs → y.digest ∈ z.pars → y.round < z.round → Anc d x y
theorem Anc.cons {d : Dag} {x p y : Cert} (hx : x.round > d.low + 1) (hp : p ∈ d.certs) (hxp : p.digest ∈ x.pars) (hr : p.round < x.round) (h : Anc d p y) : Anc d x y := by
  induction h with
  | refl => exact .step .refl hx hp hxp hr
  | step _ h1 h2 h3 h4 ih => exact .step ih h1 h2 h3 h4
theorem anc_down {d : Dag} (hs : sortedC d.certs) (hd : (d.certs.map (·.digest)).Nodup) {x y : Cert} {i : Nat} (hx : d.certs[i]? = some x) (h : Anc d x y) {low : Int} (hl : low < y.round) : y.digest ∈ downI d i low ∧ y ∈ d.certs := by
  rw [downI_eq hs hd hx]
  have hn : (d.certs.reverse.map (·.digest)).Nodup := by rw [List.map_reverse]; exact (List.reverse_perm _).nodup_iff.2 hd
  induction h with
  | refl => exact ⟨down_mem (desc_rev hs) (List.mem_reverse.2 (List.mem_of_getElem? hx)) (by simp) hl, List.mem_of_getElem? hx⟩
  | step _ h1 h2 h3 h4 ih =>
    obtain ⟨i1, i2⟩ := ih (by omega)
    exact ⟨down_closed (desc_rev hs) hn (List.mem_reverse.2 i2) i1 h1 (List.mem_reverse.2 h2) h3 hl h4, h2⟩
structure Sub (A D : Dag) : Prop where
  va : Valid A
  vd : Valid D
  la : A.low = 0
  ld : D.low = 0
  nodes : A.nodes = D.nodes
  sub : A.certs.Sublist D.certs
theorem place_inj {l : List Cert} (hs : sortedC l) {x y : Cert} (hx : x ∈ l) (hy : y ∈ l) (hr : x.round = y.round) (ha : x.author = y.author) : x = y := by
  obtain ⟨i, hi⟩ := List.getElem?_of_mem hx
  obtain ⟨j, hj⟩ := List.getElem?_of_mem hy
  obtain ⟨hi', rfl⟩ := List.getElem?_eq_some_iff.1 hi
  obtain ⟨hj', rfl⟩ := List.getElem?_eq_some_iff.1 hj
  rcases Nat.lt_trichotomy i j with h | h | h
  · have := before_iff.1 (List.pairwise_iff_getElem.1 hs i j hi' hj' h); omega
  · subst h; rfl
  · have := before_iff.1 (List.pairwise_iff_getElem.1 hs j i hj' hi' h); omega
theorem atC_some {l : List Cert} (hs : sortedC l) {r a : Int} {c : Cert} : atC l r a = some c ↔ c ∈ l ∧ c.round = r ∧ c.author = a := by
  constructor
  · intro h
    have h1 := List.find?_some h
    simp only [decide_eq_true_eq] at h1
    exact ⟨List.mem_of_find?_eq_some h, h1⟩
  · rintro ⟨h1, h2, h3⟩
    cases hc : atC l r a with
    | none =>
      unfold atC at hc
      rw [List.find?_eq_none] at hc
      have := hc c h1
      simp [h2, h3] at this
    | some c' =>
      have h4 := List.find?_some hc
      simp only [decide_eq_true_eq] at h4
      rw [place_inj hs h1 (List.mem_of_find?_eq_some hc) (by omega) (by omega)]
theorem sub_filter {l m : List Cert} (h : l.Sublist m) (hn : (m.map (·.digest)).Nodup) : l = m.filter fun c => decide (c.digest ∈ l.map (·.digest)) := by
  induction h with
  | slnil => rfl
  | @cons l m x h ih =>
    have hn' := List.nodup_cons.1 hn
    have hx : x.digest ∉ l.map (·.digest) := fun hx => hn'.1 ((h.map _).subset hx)
    rw [List.filter_cons, if_neg (by simpa using hx)]
    exact ih hn'.2
  | @cons_cons l m x h ih =>
    have hn' := List.nodup_cons.1 hn
    rw [List.filter_cons, if_pos (by simp)]
    congr 1
    refine (ih hn'.2).trans (List.filter_congr fun c hc => ?_)
    have : c.digest ≠ x.digest := fun e => hn'.1 (List.mem_map.2 ⟨c, hc, e⟩)
    simp [this]
theorem Sub.mem {A D : Dag} (h : Sub A D) {c : Cert} (hc : c ∈ A.certs) : c ∈ D.certs := h.sub.subset hc
theorem Sub.cert {A D : Dag} (h : Sub A D) {x : Int} {c : Cert} (hc : certOf A x = some c) : certOf D x = some c := by
  obtain ⟨h1, rfl, _⟩ := certOf_some hc
  exact certOf_mem h.vd.dig (h.mem h1)
theorem Sub.down {A D : Dag} (h : Sub A D) {i j : Nat} {c : Cert} (hi : A.certs[i]? = some c) (hj : D.certs[j]? = some c) (low : Int) : downI A i low = downI D j low := by
  rw [downI_eq h.va.sorted h.va.dig hi, downI_eq h.vd.sorted h.vd.dig hj, h.la, h.ld]
  have hf := sub_filter h.sub h.vd.dig
  have hmem : ∀ {y : Cert}, y ∈ D.certs → y.digest ∈ A.certs.map (·.digest) → y ∈ A.certs := by
    intro y hy hy2
    obtain ⟨z, hz, e⟩ := List.mem_map.1 hy2
    rw [← dig_inj h.vd.dig (h.mem hz) hy e]; exact hz
  have h1 := downL_filter (dl := 0) (low := low) (fun x => decide (x ∈ A.certs.map (·.digest))) (l := D.certs.reverse) (ks := [c.digest]) (fun k hk => by
      simp only [List.mem_singleton] at hk
      rw [hk, decide_eq_true_eq]
      exact List.mem_map.2 ⟨c, List.mem_of_getElem? hi, rfl⟩) (fun y hy hy2 hyr x hx => by
      have hyA := hmem (List.mem_reverse.1 hy) (of_decide_eq_true hy2)
      obtain ⟨c', h3, h4, _⟩ := h.va.here y hyA (by rw [h.la]; exact hyr) x hx
      exact decide_eq_true (List.mem_map.2 ⟨c', h3, h4⟩)) (desc_rev h.vd.sorted)
  rw [h1, List.filter_reverse, ← hf]
theorem Sub.behind {A D : Dag} (h : Sub A D) {i j : Nat} {c : Cert} (hi : A.certs[i]? = some c) (hj : D.certs[j]? = some c) (done : List Int) : behindI A i c.round done = behindI D j c.round done := by
  unfold behindI riseI
  rw [h.down hi hj]
theorem Sub.keepB {A D : Dag} (h : Sub A D) {x : Int} (hx : x ∈ A.certs.map (·.digest)) (r : Int) : keepB A r x = keepB D r x := by
  obtain ⟨c, hc, rfl⟩ := List.mem_map.1 hx
  have h1 := certOf_mem h.va.dig hc
  have h2 := h.cert h1
  unfold certOf at h1 h2
  unfold Go.Proofs.YtmmngmnmghpfaaaGreat.keepB
  rw [h1, h2]
theorem behind_digs {A : Dag} {i : Nat} {r : Int} {done : List Int} : ∀ x ∈ behindI A i r done, x ∈ A.certs.map (·.digest) := by
  intro x hx
  have h1 := List.mem_reverse.1 (List.mem_filter.1 hx).1
  have h2 := (down_sub A.low (r - 8) (A.certs.take (i + 1)).reverse ((A.certs[i]?).toList.map (·.digest))).subset h1
  rw [List.map_reverse, List.mem_reverse] at h2
  exact ((List.take_sublist ..).map _).subset h2
def inDag (A : Dag) (w : Wk) : Prop := ∀ x ∈ w.c.done, x ∈ A.certs.map (·.digest)
theorem Wk.put_in {A : Dag} {w : Wk} (hw : inDag A w) (i : Nat) (c : Cert) : inDag A (w.put A i c) := by
  intro x hx
  have h1 : x ∈ sortI (keepI A c.round (w.c.done ++ behindI A i c.round w.c.done)) := hx
  rw [sortI, List.mem_mergeSort] at h1
  have h2 := (List.mem_filter.1 h1).1
  rcases List.mem_append.1 h2 with h2 | h2
  · exact hw x h2
  · exact behind_digs x h2
theorem Sub.put {A D : Dag} (h : Sub A D) {w : Wk} (hw : inDag A w) {i j : Nat} {c : Cert} (hi : A.certs[i]? = some c) (hj : D.certs[j]? = some c) : w.put A i c = w.put D j c := by
  unfold Wk.put
  rw [h.behind hi hj]
  have : keepI A c.round (w.c.done ++ behindI D j c.round w.c.done) = keepI D c.round (w.c.done ++ behindI D j c.round w.c.done) := by
    refine List.filter_congr fun x hx => ?_
    refine h.keepB ?_ c.round
    rcases List.mem_append.1 hx with h2 | h2
    · exact hw x h2
    · rw [← h.behind hi hj] at h2; exact behind_digs x h2
  rw [this]
theorem Sub.putA {A D : Dag} (h : Sub A D) {w : Wk} (hw : inDag A w) {a : Int} {c : Cert} (ha : certOf A a = some c) : w.putA A a = w.putA D a ∧ inDag A (w.putA A a) := by
  obtain ⟨_, _, i, h1, h2⟩ := certOf_some ha
  obtain ⟨_, _, j, h3, h4⟩ := certOf_some (h.cert ha)
  rw [putA_eq h1 h2, putA_eq h3 h4]
  exact ⟨h.put hw h2 h4, Wk.put_in hw i c⟩
theorem Sub.putL {A D : Dag} (h : Sub A D) : ∀ {l : List Int} {w : Wk}, inDag A w → (∀ a ∈ l, ∃ c, certOf A a = some c) → w.putL A l = w.putL D l ∧ inDag A (w.putL A l)
  | [], w, hw, _ => ⟨rfl, hw⟩
  | a :: l, w, hw, ha => by
    obtain ⟨c, hc⟩ := ha a (by simp)
    obtain ⟨h1, h2⟩ := h.putA hw hc
    obtain ⟨h3, h4⟩ := h.putL (l := l) h2 fun b hb => ha b (by simp [hb])
    refine ⟨?_, h4⟩
    show (w.putA A a).putL A l = (w.putA D a).putL D l
    rw [← h1]; exact h3
theorem anchor_at {d : Dag} (h : Valid d) {r : Int} : anchorI d r ≠ 0 ↔ ∃ c ∈ d.certs, c.round = r ∧ c.author = leadI d.nodes r := by
  rw [anchor_pos h.well]
  constructor
  · intro h1
    obtain ⟨c, hc⟩ := Option.isSome_iff_exists.1 h1
    exact ⟨c, (atC_some h.sorted).1 hc⟩
  · rintro ⟨c, hc⟩
    rw [(atC_some h.sorted).2 hc]; rfl
theorem anchor_is {d : Dag} (h : Valid d) {c : Cert} (hc : c ∈ d.certs) (ha : c.author = leadI d.nodes c.round) : anchorI d c.round = c.digest := by
  unfold anchorI
  rw [(atC_some h.sorted).2 ⟨hc, rfl, ha⟩]; rfl
theorem Sub.anchor {A D : Dag} (h : Sub A D) {r : Int} (ha : anchorI A r ≠ 0) : anchorI D r = anchorI A r := by
  obtain ⟨c, h1, rfl, h3⟩ := (anchor_at h.va).1 ha
  rw [anchor_is h.va h1 h3, anchor_is h.vd (h.mem h1) (by rw [← h.nodes]; exact h3)]
theorem votes_pos {d : Dag} {r : Int} (h : votes d r ≠ 0) : anchorI d r > 0 := by
  have h1 : 0 < ((ofR d.certs (r + 1)).filter fun c => decide (anchorI d r > 0 ∧ anchorI d r ∈ c.pars)).length := Nat.pos_of_ne_zero h
  obtain ⟨c, hc⟩ := List.exists_mem_of_length_pos h1
  have := (List.mem_filter.1 hc).2
  simp only [decide_eq_true_eq] at this
  exact this.1
theorem Sub.votes {A D : Dag} (h : Sub A D) (r : Int) : votes A r ≤ votes D r := by
  rcases Nat.eq_zero_or_pos (Go.Proofs.YtmmngmnmghpfaaaGreat.votes A r) with h0 | h0
  · omega
  · have h1 := votes_pos (Nat.ne_of_gt h0)
    have h2 := h.anchor (r := r) (by omega)
    unfold Go.Proofs.YtmmngmnmghpfaaaGreat.votes
    rw [h2]
    exact ((h.sub.filter _).filter _).length_le
theorem settled_votes {d : Dag} (h : Valid d) {r : Int} (hs : settled d r = true) : (votes d r : Int) > (d.nodes - 1) / 3 ∧ votes d r ≠ 0 := by
  have hn := of_decide_eq_true h.nodes
  have := of_decide_eq_true hs
  exact ⟨this, by omega⟩
theorem Sub.settled {A D : Dag} (h : Sub A D) {r : Int} (hs : settled A r = true) : settled D r = true := by
  have h1 := (settled_votes h.va hs).1
  have h2 := h.votes r
  have h3 := h.nodes
  exact decide_eq_true (by rw [← h3]; omega)
theorem top_le {d : Dag} (h : Valid d) {c : Cert} (hc : c ∈ d.certs) : c.round ≤ topR d.certs := by
  unfold topR
  cases hg : d.certs.getLast? with
  | none => rw [List.getLast?_eq_none_iff] at hg; rw [hg] at hc; cases hc
  | some z =>
    show c.round ≤ z.round
    obtain ⟨m, hm⟩ := List.getLast?_eq_some_iff.1 hg
    have hs := h.sorted
    rw [hm] at hs hc
    rcases List.mem_append.1 hc with hc | hc
    · have := before_iff.1 ((List.pairwise_append.1 hs).2.2 c hc z (by simp))
      omega
    · simp at hc; rw [hc]; exact Int.le_refl _
theorem settled_top {d : Dag} (h : Valid d) {r : Int} (hs : settled d r = true) : r < topR d.certs := by
  have h1 := (settled_votes h hs).2
  have h2 : 0 < ((ofR d.certs (r + 1)).filter fun c => decide (anchorI d r > 0 ∧ anchorI d r ∈ c.pars)).length := Nat.pos_of_ne_zero h1
  obtain ⟨c, hc⟩ := List.exists_mem_of_length_pos h2
  have h3 := List.mem_filter.1 (List.mem_filter.1 hc).1
  have h4 := top_le h h3.1
  have := of_decide_eq_true h3.2
  omega
theorem nextR_le {d : Dag} (h : Valid d) {q : Int} (hq : settled d q = true) : ∀ r : Int, 0 < r → r ≤ q → r % 2 = q % 2 → nextR d r > 0 ∧ nextR d r ≤ q := by
  intro r
  induction r using nextR.induct (d := d) with
  | case1 r hr => intro _ h1 _; have := settled_top h hq; omega
  | case2 r hr hs => intro h0 h1 _; rw [next_here hr hs]; exact ⟨h0, h1⟩
  | case3 r hr hs ih =>
    intro h0 h1 h2
    have hs' : settled d r = false := by simpa using hs
    rw [next_on hr hs']
    refine ih (by omega) ?_ (by omega)
    rcases Int.lt_or_eq_of_le h1 with h3 | h3
    · omega
    · subst h3; rw [hq] at hs'; cases hs'
theorem round_len {d : Dag} (h : Valid d) (r : Int) : ((ofR d.certs r).length : Int) ≤ d.nodes := by
  have hn := of_decide_eq_true h.nodes
  have h1 : ((ofR d.certs r).map (·.author)).Nodup := by
    unfold List.Nodup
    rw [List.pairwise_map]
    refine List.Pairwise.imp_of_mem ?_ (h.sorted.filter fun c => decide (c.round = r))
    intro a b ha hb hab e
    have h1 := before_iff.1 hab
    have h2 := of_decide_eq_true (List.mem_filter.1 ha).2
    have h3 := of_decide_eq_true (List.mem_filter.1 hb).2
    omega
  have h2 := sub_len (m := (List.range d.nodes.toNat).map fun n : Nat => (n : Int) + 1) h1 fun x hx => by
    obtain ⟨c, hc, rfl⟩ := List.mem_map.1 hx
    have := (h.certs c (List.mem_filter.1 hc).1).head.author
    exact List.mem_map.2 ⟨(c.author - 1).toNat, by simp; omega, by omega⟩
  simp at h2
  omega
theorem settled_anc {d : Dag} (h : Valid d) (h0 : d.low = 0) {r : Int} (hs : settled d r = true) {a : Cert} (ha : a ∈ d.certs) (har : a.round = r) (had : a.digest = anchorI d r) : ∀ (n : Nat) (x : Cert), x ∈ d.certs → x.round = r + 2 + n → Anc d x a := by
  have hn := of_decide_eq_true h.nodes
  have hr1 := (h.certs a ha).head.round
  intro n
  induction n with
  | zero =>
    intro x hx hxr
    have hp := (h.certs x hx).head
    have hq := hp.many (by omega)
    have hpn := rising_nodup hp.pars.2.1
    have hin := h.here x hx (by omega)
    have hv := (settled_votes h hs).1
    have hrl := round_len h (r + 1)
    have hvn : (((ofR d.certs (r + 1)).filter fun c => decide (anchorI d r > 0 ∧ anchorI d r ∈ c.pars)).map (·.digest)).Nodup := h.dig.sublist (((List.filter_sublist.trans List.filter_sublist)).map _)
    have hex : ∃ p ∈ x.pars, p ∈ ((ofR d.certs (r + 1)).filter fun c => decide (anchorI d r > 0 ∧ anchorI d r ∈ c.pars)).map (·.digest) := by
      refine Classical.byContradiction fun hno => ?_
      have hnd : (x.pars ++ ((ofR d.certs (r + 1)).filter fun c => decide (anchorI d r > 0 ∧ anchorI d r ∈ c.pars)).map (·.digest)).Nodup :=
        List.nodup_append.2 ⟨hpn, hvn, fun p hp q hq e => hno ⟨p, hp, by rw [e]; exact hq⟩⟩
      have hle := sub_len (m := (ofR d.certs (r + 1)).map (·.digest)) hnd fun y hy => by
        rcases List.mem_append.1 hy with hy | hy
        · obtain ⟨c', h1, h2, h3⟩ := hin y hy
          exact List.mem_map.2 ⟨c', List.mem_filter.2 ⟨h1, decide_eq_true (by omega)⟩, h2⟩
        · exact (List.filter_sublist.map _).subset hy
      rw [List.length_append, List.length_map, List.length_map] at hle
      have hve : ((ofR d.certs (r + 1)).filter fun c => decide (anchorI d r > 0 ∧ anchorI d r ∈ c.pars)).length = votes d r := rfl
      rw [hve] at hle
      unfold quo at hq
      omega
    obtain ⟨p, hp1, hp2⟩ := hex
    obtain ⟨v, hv1, rfl⟩ := List.mem_map.1 hp2
    have h1 := List.mem_filter.1 hv1
    have h2 := List.mem_filter.1 h1.1
    have h3 := of_decide_eq_true h1.2
    have h4 := of_decide_eq_true h2.2
    exact .step (.step .refl (by omega) h2.1 hp1 (by omega)) (by omega) ha (by rw [had]; exact h3.2) (by omega)
  | succ n ih =>
    intro x hx hxr
    have hp := (h.certs x hx).head
    have hq := hp.many (by omega)
    unfold quo at hq
    have hlen : 0 < x.pars.length := by omega
    obtain ⟨p, hp1⟩ := List.exists_mem_of_length_pos hlen
    obtain ⟨c', h1, h2, h3⟩ := h.here x hx (by omega) p hp1
    exact (ih c' h1 (by omega)).cons (by omega) h1 (by rw [h2]; exact hp1) (by omega)
theorem reachJ_of {d : Dag} (h : Valid d) (h0 : d.low = 0) {r : Int} (hs : settled d r = true) {i k : Nat} {x a : Cert} (hx : d.certs[i]? = some x) (ha : d.certs[k]? = some a) (har : a.round = r) (had : a.digest = anchorI d r) (hxr : r + 2 ≤ x.round) : reachJ d i k = true := by
  have h1 := settled_anc h h0 hs (List.mem_of_getElem? ha) har had (x.round - (r + 2)).toNat x (List.mem_of_getElem? hx) (by omega)
  unfold reachJ
  rw [ha]
  exact decide_eq_true (anc_down h.sorted h.dig hx h1 (by omega)).1
theorem anchor_idx {d : Dag} (h : Valid d) {r : Int} (ha : anchorI d r ≠ 0) : ∃ k a, getC d.certs (anchorI d r) = some k ∧ d.certs[k]? = some a ∧ a.digest = anchorI d r ∧ a.round = r ∧ a.author = leadI d.nodes r := by
  obtain ⟨c, h1, h2, h3⟩ := anchor_cert h.well ha
  obtain ⟨_, h4, k, h5, h6⟩ := certOf_some h1
  exact ⟨k, c, h5, h6, h4, h2, h3⟩
theorem Sub.backR {A D : Dag} (h : Sub A D) (after : Int) : ∀ (r : Int) (i j : Nat) (x : Cert), A.certs[i]? = some x → D.certs[j]? = some x → backR A after r i = backR D after r j := by
  intro r i
  induction r, i using backR.induct (d := A) (after := after) with
  | case1 r i h1 =>
    intro j x hi hj
    rw [back_end h1, back_end (by rw [h.ld, ← h.la]; exact h1)]
  | case2 r i h1 h2 ih =>
    intro j x hi hj
    have h1' : ¬ (r - 2 ≤ after ∨ r - 2 ≤ D.low) := by rw [h.ld, ← h.la]; exact h1
    rw [back_no h1 h2, ih j x hi hj]
    by_cases h3 : anchorI D (r - 2) = 0
    · rw [back_no h1' h3]
    · obtain ⟨k, a, k1, k2, k3, k4, k5⟩ := anchor_idx h.vd h3
      rw [back_yes h1' h3 k1, if_neg]
      intro hre
      unfold reachJ at hre
      rw [k2] at hre
      have hre := of_decide_eq_true hre
      rw [← h.down hi hj] at hre
      have h4 := (down_sub A.low (a.round - 1) (A.certs.take (i + 1)).reverse ((A.certs[i]?).toList.map (·.digest))).subset hre
      rw [List.map_reverse, List.mem_reverse] at h4
      have h5 := ((List.take_sublist ..).map _).subset h4
      obtain ⟨z, hz, hze⟩ := List.mem_map.1 h5
      have hza := dig_inj h.vd.dig (h.mem hz) (List.mem_of_getElem? k2) hze
      subst hza
      exact (anchor_at h.va).2 ⟨z, hz, k4, by rw [h.nodes]; exact k5⟩ h2
  | case3 r i h1 h2 h3 =>
    obtain ⟨j, c, h4, _⟩ := anchor_get h2
    rw [h3] at h4; cases h4
  | case4 r i h1 h2 k h3 h4 ih =>
    intro j x hi hj
    have h1' : ¬ (r - 2 ≤ after ∨ r - 2 ≤ D.low) := by rw [h.ld, ← h.la]; exact h1
    obtain ⟨k', a, k1, k2, k3, k4, k5⟩ := anchor_idx h.va h2
    rw [h3] at k1; cases k1
    have h5 := h.anchor h2
    obtain ⟨m, b, m1, m2, m3, m4, m5⟩ := anchor_idx h.vd (r := r - 2) (by rw [h5]; exact h2)
    have hab := dig_inj h.vd.dig (h.mem (List.mem_of_getElem? k2)) (List.mem_of_getElem? m2) (by rw [k3, m3, h5])
    subst hab
    rw [back_yes h1 h2 h3, if_pos h4, back_yes h1' (by rw [h5]; exact h2) m1, if_pos, h5, ih m a k2 m2]
    unfold reachJ at h4 ⊢
    rw [k2] at h4; rw [m2]
    have h4 := of_decide_eq_true h4
    rw [h.down hi hj] at h4
    exact decide_eq_true h4
  | case5 r i h1 h2 k h3 h4 ih =>
    intro j x hi hj
    have h1' : ¬ (r - 2 ≤ after ∨ r - 2 ≤ D.low) := by rw [h.ld, ← h.la]; exact h1
    obtain ⟨k', a, k1, k2, k3, k4, k5⟩ := anchor_idx h.va h2
    rw [h3] at k1; cases k1
    have h5 := h.anchor h2
    obtain ⟨m, b, m1, m2, m3, m4, m5⟩ := anchor_idx h.vd (r := r - 2) (by rw [h5]; exact h2)
    have hab := dig_inj h.vd.dig (h.mem (List.mem_of_getElem? k2)) (List.mem_of_getElem? m2) (by rw [k3, m3, h5])
    subst hab
    rw [back_yes h1 h2 h3, if_neg h4, back_yes h1' (by rw [h5]; exact h2) m1, if_neg, ih j x hi hj]
    intro h6
    refine h4 ?_
    unfold reachJ at h6 ⊢
    rw [m2] at h6; rw [k2]
    have h6 := of_decide_eq_true h6
    rw [← h.down hi hj] at h6
    exact decide_eq_true h6
theorem Sub.backI {A D : Dag} (h : Sub A D) (after : Int) {r : Int} (ha : anchorI A r ≠ 0) : backI A after r = backI D after r := by
  have h5 := h.anchor ha
  obtain ⟨k, a, k1, k2, k3, k4, k5⟩ := anchor_idx h.va ha
  obtain ⟨m, b, m1, m2, m3, m4, m5⟩ := anchor_idx h.vd (r := r) (by rw [h5]; exact ha)
  have hab := dig_inj h.vd.dig (h.mem (List.mem_of_getElem? k2)) (List.mem_of_getElem? m2) (by rw [k3, m3, h5])
  subst hab
  unfold Go.Proofs.YtmmngmnmghpfaaaGreat.backI
  rw [k1, m1, h5]
  rw [Option.getD_some, Option.getD_some, h.backR after r k m a k2 m2]
theorem backR_pass {d : Dag} (h : Valid d) (h0 : d.low = 0) {s after : Int} (hs : settled d s = true) (has : after < s) {k : Nat} {a : Cert} (hk1 : getC d.certs (anchorI d s) = some k) (hk2 : d.certs[k]? = some a) (hk3 : a.digest = anchorI d s) (hk4 : a.round = s) (hne : anchorI d s ≠ 0) :
    ∀ (r : Int) (i : Nat) (x : Cert), d.certs[i]? = some x → r ≤ x.round → s < r → s % 2 = r % 2 → backR d after r i = backR d s r i ++ anchorI d s :: backR d after s k := by
  have hs1 := (h.certs a (List.mem_of_getElem? hk2)).head.round
  intro r i
  induction r, i using backR.induct (d := d) (after := after) with
  | case1 r i h1 => intro x hi hx hsr hp; omega
  | case2 r i h1 h2 ih =>
    intro x hi hx hsr hp
    have hne2 : r - 2 ≠ s := by intro e; rw [e] at h2; exact hne h2
    rw [back_no h1 h2, back_no (by rw [h0]; omega) h2]
    exact ih x hi (by omega) (by omega) (by omega)
  | case3 r i h1 h2 h3 =>
    obtain ⟨j, c, h4, _⟩ := anchor_get h2
    rw [h3] at h4; cases h4
  | case4 r i h1 h2 m h3 h4 ih =>
    intro x hi hx hsr hp
    rcases Int.lt_or_eq_of_le (show s ≤ r - 2 by omega) with h5 | h5
    · rw [back_yes h1 h2 h3, if_pos h4, back_yes (after := s) (by rw [h0]; omega) h2 h3, if_pos h4]
      obtain ⟨m', b, m1, m2, m3, m4, m5⟩ := anchor_idx h h2
      rw [h3] at m1; cases m1
      rw [ih b m2 (by omega) (by omega) (by omega)]
      rfl
    · subst h5
      rw [hk1] at h3; cases h3
      rw [back_yes h1 h2 hk1, if_pos h4, back_end (after := r - 2) (by omega)]
      rfl
  | case5 r i h1 h2 m h3 h4 ih =>
    intro x hi hx hsr hp
    rcases Int.lt_or_eq_of_le (show s ≤ r - 2 by omega) with h5 | h5
    · rw [back_yes h1 h2 h3, if_neg h4, back_yes (after := s) (by rw [h0]; omega) h2 h3, if_neg h4]
      exact ih x hi (by omega) (by omega) (by omega)
    · subst h5
      rw [hk1] at h3; cases h3
      exact absurd (reachJ_of h h0 hs hi hk2 hk4 hk3 (by omega)) h4
theorem backI_pass {d : Dag} (h : Valid d) (h0 : d.low = 0) {s after r : Int} (hs : settled d s = true) (has : after < s) (hsr : s < r) (hp : s % 2 = r % 2) (ha : anchorI d r ≠ 0) : backI d after r = backI d after s ++ backI d s r := by
  have hn := of_decide_eq_true h.nodes
  have hne := settled_anchor (show 0 < d.nodes by omega) hs
  obtain ⟨k, a, k1, k2, k3, k4, k5⟩ := anchor_idx h hne
  obtain ⟨m, b, m1, m2, m3, m4, m5⟩ := anchor_idx h ha
  unfold Go.Proofs.YtmmngmnmghpfaaaGreat.backI
  rw [k1, m1, Option.getD_some, Option.getD_some, backR_pass h h0 hs has k1 k2 k3 k4 hne r m b m2 (by omega) hsr hp]
  simp
theorem putL_app (d : Dag) (w : Wk) (l m : List Int) : w.putL d (l ++ m) = (w.putL d l).putL d m := List.foldl_append ..
theorem putL_round {d : Dag} (h : Valid d) {w : Wk} {l : List Int} {s : Int} (ha : anchorI d s ≠ 0) (hl : l.getLast? = some (anchorI d s)) : (w.putL d l).c.round = s := by
  obtain ⟨m, rfl⟩ := List.getLast?_eq_some_iff.1 hl
  obtain ⟨k, a, k1, k2, k3, k4, k5⟩ := anchor_idx h ha
  rw [putL_app]
  show (Wk.putA d (w.putL d m) (anchorI d s)).c.round = s
  rw [putA_eq k1 k2]
  exact k4
theorem goF_fuel {d : Dag} (h : Valid d) : ∀ (n m : Nat) (w : Wk), 0 ≤ w.c.round → w.c.round % 2 = 0 → topR d.certs - w.c.round ≤ n → topR d.certs - w.c.round ≤ m → Wk.goF d n w = Wk.goF d m w := by
  intro n
  induction n with
  | zero =>
    intro m w h0 h2 hn hm
    by_cases hp : nextC d w.c.round > 0
    · have := nextC_spec h.well h0 h2 hp; omega
    · rw [goF_end hp, goF_end hp]
  | succ n ih =>
    intro m w h0 h2 hn hm
    by_cases hp : nextC d w.c.round > 0
    · have hsp := nextC_spec h.well h0 h2 hp
      cases m with
      | zero => omega
      | succ m =>
        rw [Wk.goF, Wk.goF, if_pos hp, if_pos hp]
        have hr : (w.putL d (Go.Proofs.YtmmngmnmghpfaaaGreat.backI d w.c.round (nextC d w.c.round))).c.round = nextC d w.c.round := putL_round h hsp.2.2.2.2.1 (backI_all h.well hsp.1 hsp.2.2.2.2.1).2.2
        exact ih m _ (by rw [hr]; omega) (by rw [hr]; exact hsp.2.2.2.1) (by rw [hr]; omega) (by rw [hr]; omega)
    · rw [goF_end hp, goF_end hp]
def run (d : Dag) (w : Wk) : Wk := Wk.goF d (topR d.certs).toNat w
theorem run_step {d : Dag} (h : Valid d) {w : Wk} (h0 : 0 ≤ w.c.round) (h2 : w.c.round % 2 = 0) (hp : nextC d w.c.round > 0) : run d w = run d (w.putL d (backI d w.c.round (nextC d w.c.round))) := by
  have hsp := nextC_spec h.well h0 h2 hp
  have hr : (w.putL d (backI d w.c.round (nextC d w.c.round))).c.round = nextC d w.c.round := putL_round h hsp.2.2.2.2.1 (backI_all h.well hsp.1 hsp.2.2.2.2.1).2.2
  obtain ⟨n, hn⟩ : ∃ n, (topR d.certs).toNat = n + 1 := ⟨(topR d.certs).toNat - 1, by omega⟩
  unfold run
  rw [hn, Wk.goF, if_pos hp]
  exact goF_fuel h _ _ _ (by rw [hr]; omega) (by rw [hr]; exact hsp.2.2.2.1) (by rw [hr]; omega) (by rw [hr]; omega)
theorem nextC_low {d : Dag} (h0 : d.low = 0) {r : Int} (hr : 0 ≤ r) : nextC d r = nextR d (r + 2) := by
  unfold nextC
  rw [h0, show max r (0 - 0 % 2) = r by omega]
theorem run_pass {d : Dag} (h : Valid d) (hl : d.low = 0) {s : Int} (hs : settled d s = true) (hse : s % 2 = 0) : ∀ (n : Nat) (w : Wk), (s - w.c.round).toNat ≤ n → 0 ≤ w.c.round → w.c.round % 2 = 0 → w.c.round < s → run d w = run d (w.putL d (backI d w.c.round s)) := by
  have hn := of_decide_eq_true h.nodes
  have hne := settled_anchor (show 0 < d.nodes by omega) hs
  intro n
  induction n with
  | zero => intro w h1 h2 h3 h4; omega
  | succ n ih =>
    intro w h1 h2 h3 h4
    obtain ⟨h5, h6⟩ := nextR_le h hs (w.c.round + 2) (by omega) (by omega) (by omega)
    rw [← nextC_low hl h2] at h5 h6
    have hsp := nextC_spec h.well h2 h3 h5
    rw [run_step h h2 h3 h5]
    rcases Int.lt_or_eq_of_le h6 with h7 | h7
    · have hr : (w.putL d (backI d w.c.round (nextC d w.c.round))).c.round = nextC d w.c.round := putL_round h hsp.2.2.2.2.1 (backI_all h.well hsp.1 hsp.2.2.2.2.1).2.2
      rw [ih _ (by rw [hr]; omega) (by rw [hr]; omega) (by rw [hr]; exact hsp.2.2.2.1) (by rw [hr]; exact h7), hr, ← putL_app, ← backI_pass h hl hsp.2.2.1 hsp.1 h7 (by omega) hne]
    · rw [h7]
theorem sub_run {A D : Dag} (h : Sub A D) : ∀ (n : Nat) (w : Wk), inDag A w → 0 ≤ w.c.round → w.c.round % 2 = 0 → run D (Wk.goF A n w) = run D w ∧ inDag A (Wk.goF A n w) := by
  intro n
  induction n with
  | zero => intro w h1 _ _; exact ⟨rfl, h1⟩
  | succ n ih =>
    intro w h1 h2 h3
    rw [Wk.goF]
    split
    · rename_i hp
      have hsp := nextC_spec h.va.well h2 h3 hp
      have hall := backI_all h.va.well hsp.1 hsp.2.2.2.2.1
      obtain ⟨p1, p2⟩ := h.putL (l := Go.Proofs.YtmmngmnmghpfaaaGreat.backI A w.c.round (nextC A w.c.round)) h1 fun a ha => by
        obtain ⟨q, _, _, rfl, q2⟩ := hall.1 a ha
        obtain ⟨c, hc, _⟩ := anchor_cert h.va.well q2
        exact ⟨c, hc⟩
      have hr : (w.putL A (Go.Proofs.YtmmngmnmghpfaaaGreat.backI A w.c.round (nextC A w.c.round))).c.round = nextC A w.c.round := putL_round h.va hsp.2.2.2.2.1 hall.2.2
      obtain ⟨i1, i2⟩ := ih _ p2 (by rw [hr]; omega) (by rw [hr]; exact hsp.2.2.2.1)
      refine ⟨?_, i2⟩
      rw [i1, p1, h.backI _ hsp.2.2.2.2.1]
      exact (run_pass h.vd h.ld (h.settled hsp.2.2.1) hsp.2.2.2.1 _ w (Nat.le_refl _) h2 h3 hsp.1).symm
    · exact ⟨rfl, h1⟩
theorem put_outs (d : Dag) (w : Wk) (a : Int) : w.outs <+: (w.putA d a).outs := by
  unfold Wk.putA
  split
  · split
    · exact List.prefix_append ..
    · exact List.prefix_refl _
  · exact List.prefix_refl _
theorem putL_outs (d : Dag) : ∀ (l : List Int) (w : Wk), w.outs <+: (w.putL d l).outs
  | [], w => List.prefix_refl _
  | a :: l, w => (put_outs d w a).trans (putL_outs d l (w.putA d a))
theorem goF_outs (d : Dag) : ∀ (n : Nat) (w : Wk), w.outs <+: (Wk.goF d n w).outs
  | 0, w => List.prefix_refl _
  | n + 1, w => by
    rw [Wk.goF]
    split
    · exact (putL_outs d _ w).trans (goF_outs d n _)
    · exact List.prefix_refl _
end Go.Proofs.YtmmngmnmghpfaaaGreat
