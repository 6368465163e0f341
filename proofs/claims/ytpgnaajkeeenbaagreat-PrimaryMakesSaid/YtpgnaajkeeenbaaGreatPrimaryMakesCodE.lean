/- PrimaryMakes: contracts. -/
import Derived.Test.YtpgnaajkeeenbaaGreatPrimaryMakesCodD
set_option linter.unusedVariables false
set_option linter.unusedSimpArgs false
namespace Go.Proofs.YtpgnaajkeeenbaaGreat
open Go.Ab Go.RowKit Go.MapKept
attribute [local irreducible] ACalls AW ADraw Into fltB fnear
set_option maxRecDepth 100000
def mayS (d : Dag) (j : Nat) : AF × List AB :=
  ([(1, .ptr 0 0), (3, .map 1), (30, .d (.sl 6 (certsD d.certs))), (31, .d (.int .i64 d.certs.length)), (32, .d (.int .i64 j))], [.cells d.cells, .map (mapP (seenP (d.certs.take j)))])
def mayI (d : Dag) (j : Nat) (c : Cert) (m : Nat) : AF × List AB :=
  ([(1, .ptr 0 0), (3, .map 1), (5, .ptr 2 0), (30, .d (.sl 6 (certsD d.certs))), (31, .d (.int .i64 d.certs.length)), (32, .d (.int .i64 j)), (76, .d (.sl 1 (nums c.pars))), (77, .d (.int .i64 c.pars.length)), (78, .d (.int .i64 m))], [.cells d.cells, .map (mapP (seenP (d.certs.take j))), .cells c.cells])
set_option maxHeartbeats 2000000 in
theorem dagMay_ok (d : Dag) (h : Valid d) : ACalls Tryz.prog 114 [d.av] [] (fun av L => av = .d (.bool true) ∧ L = []) := by
  have hcl := certsD_length d.certs
  have hn := of_decide_eq_true h.nodes
  have hlow := h.low
  have hlen := h.len
  have hwell := h.well
  refine acalls_go ttOk zOk foOk Tryz.func114 rfl Tryz.ntmps114 rfl false rfl ?_
  conv => whnf
  refine (is_ok d.nodes).mono ?_
  rintro _ _ ⟨rfl, rfl⟩
  rw [h.nodes]
  conv => whnf
  refine rdw ?_; repeat' ((with_reducible apply tw) <;> intro _)
  · rename_i h1; omega
  · rename_i h1 h2; omega
  · rename_i h1 h2 h3; omega
  · skip
    refine loop_go ttOk zOk foOk (σ := Nat) (mayS d) (fun j => j ≤ d.certs.length) (fun j => d.certs.length - j) [1, 3, 30, 31, 32] ?_ ?_
    · conv => whnf
      exact ⟨0, by rw [hcl]; rfl, rfl, Nat.zero_le _⟩
    · intro j hj
      conv => whnf
      refine rdw ?_; repeat' ((with_reducible apply tw) <;> intro _)
      · rename_i hjl
        have hjn : j < d.certs.length := Int.ofNat_lt.1 hjl
        refine Exists.elim (⟨_, List.getElem?_eq_getElem hjn⟩ : ∃ c, d.certs[j]? = some c) fun c hc => ?_
        have hcm := List.mem_of_getElem? hc
        have hok := h.certs c hcm
        have hfl := h.fewL hcm
        have hab := h.above c hcm
        have hft := hwell.fit.fit c hcm
        have hrb := hok.head.round
        have hpl := nums_length c.pars
        refine ⟨by omega, c.cs, certsD_at hc, ?_⟩
        conv => whnf
        refine rdw ?_; repeat' ((with_reducible apply tw) <;> intro _)
        ((with_reducible refine draw_pl ttOk zOk foOk mixedOk pl114x7 ?_ ?_); (focus kernel_rfl); (conv => whnf))
        refine rdw ?_; repeat' ((with_reducible apply tw) <;> intro _)
        refine (mayCert_ok c hfl d.nodes).mono ?_
        rintro _ _ ⟨rfl, rfl⟩
        rw [@decide_eq_true _ (Classical.propDecidable _) hok]
        conv => whnf
        refine rdw ?_; repeat' ((with_reducible apply tw) <;> intro _)
        · rename_i h1; exact absurd hab (by omega)
        · rename_i h1
          obtain ⟨q, hq, hq2⟩ := mapP_find c.digest (seenP (d.certs.take j)) 0
          have hqn : q = none := by
            rcases hq2 with ⟨v, i, hv, _⟩ | ⟨_, hv⟩
            · rw [h.fresh hc] at hv; cases hv
            · exact hv
          subst hqn
          ((with_reducible apply rd_intro); (focus (intro K hK; (conv => whnf); exact ⟨none, hq, hK⟩)); (conv => whnf))
          refine rdw ?_; repeat' ((with_reducible apply tw) <;> intro _)
          · rename_i hj0
            refine Exists.elim (⟨_, List.getElem?_eq_getElem (show j - 1 < d.certs.length by omega)⟩ : ∃ c, d.certs[j - 1]? = some c) fun c0 hc0 => ?_
            have hft0 := hwell.fit.fit c0 (List.mem_of_getElem? hc0)
            have hbef : c0.before c.round c.author = true := by
              have := List.pairwise_iff_getElem.1 h.sorted (j - 1) j (by omega) hjn (by omega)
              rw [List.getElem?_eq_getElem hjn] at hc
              rw [List.getElem?_eq_getElem (by omega)] at hc0
              rw [← Option.some.inj hc, ← Option.some.inj hc0]
              exact this
            have hls : decide (c0.round < c.round ∨ c0.round = c.round ∧ c0.author < c.author) = true := hbef
            ((with_reducible apply rd_intro); (focus (intro K hK; (conv => whnf); exact ⟨by omega, c0.cs, (by rw [show ((j : Int) - 1).toNat = j - 1 by omega]; exact certsD_at hc0), hK⟩)); (conv => whnf))
            refine rdw ?_; repeat' ((with_reducible apply tw) <;> intro _)
            refine (dagPlace_ok c0).mono ?_
            rintro _ _ ⟨rfl, rfl⟩
            conv => whnf
            refine rdw ?_; repeat' ((with_reducible apply tw) <;> intro _)
            refine (dagPlace_ok c).mono ?_
            rintro _ _ ⟨rfl, rfl⟩
            conv => whnf
            refine rdw ?_; repeat' ((with_reducible apply tw) <;> intro _)
            refine (placeLess_ok hft0.1 hft0.2 hft.1 hft.2).mono ?_
            rintro _ _ ⟨rfl, rfl⟩
            rw [hls]
            conv => whnf
            refine rdw ?_; repeat' ((with_reducible apply tw) <;> intro _)
            refine loop_go ttOk zOk foOk (σ := Nat) (mayI d j c) (fun m => m ≤ c.pars.length) (fun m => c.pars.length - m) [1, 3, 5, 30, 31, 32, 76, 77, 78] ?_ ?_
            · conv => whnf
              exact ⟨0, by rw [hpl]; rfl, rfl, Nat.zero_le _⟩
            · intro m hm
              conv => whnf
              refine rdw ?_; repeat' ((with_reducible apply tw) <;> intro _)
              · rename_i hml
                have hmn : m < c.pars.length := Int.ofNat_lt.1 hml
                have hpf := hfl.pars
                unfold few at hpf
                refine Exists.elim (⟨_, List.getElem?_eq_getElem hmn⟩ : ∃ x, c.pars[m]? = some x) fun x hx => ?_
                refine ⟨by omega, [.int .i64 x], nums_at hx, ?_⟩
                conv => whnf
                refine rdw ?_; repeat' ((with_reducible apply tw) <;> intro _)
                · rename_i hrl
                  have hpa := h.parent hc (by omega) (List.mem_of_getElem? hx)
                  refine Exists.elim (mapP_find x (seenP (d.certs.take j)) 0) fun q hq => ?_
                  have hqs : ∃ i, q = some (i, .v (.one (.int .i64 (c.round - 1)))) := by
                    rcases hq.2 with ⟨v, i, hv, e⟩ | ⟨hv, _⟩
                    · rw [hpa] at hv; cases hv; exact ⟨i, e⟩
                    · rw [hpa] at hv; cases hv
                  refine Exists.elim hqs fun i hqe => ?_
                  have hq1 := hq.1
                  rw [hqe] at hq1
                  refine ⟨_, hq1, ?_⟩
                  conv => whnf
                  refine rdw ?_; repeat' ((with_reducible apply tw) <;> intro _)
                  · rename_i hne
                    exfalso
                    revert hne
                    simp
                  · exact ⟨m + 1, rfl, rfl, by omega, by omega⟩
                · exact ⟨m + 1, rfl, rfl, by omega, by omega⟩
              · rename_i hml
                refine Exists.elim (mapP_new (v := c.round) (h.fresh hc)) fun q hq => ?_
                refine ⟨q, hq.1, ?_⟩
                have hnew : mputAt (mapP (seenP (d.certs.take j))) q (.one (.int .i64 c.digest)) (.v (.one (.int .i64 c.round))) = mapP (seenP (d.certs.take (j + 1))) := by
                  rw [hq.2, List.take_add_one, hc]; simp [seenP]
                rw [hnew]
                conv => whnf
                refine rdw ?_; repeat' ((with_reducible apply tw) <;> intro _)
                exact ⟨j + 1, rfl, rfl, by omega, by omega⟩
          · rename_i hj0
            refine loop_go ttOk zOk foOk (σ := Nat) (mayI d j c) (fun m => m ≤ c.pars.length) (fun m => c.pars.length - m) [1, 3, 5, 30, 31, 32, 76, 77, 78] ?_ ?_
            · conv => whnf
              exact ⟨0, by rw [hpl]; rfl, rfl, Nat.zero_le _⟩
            · intro m hm
              conv => whnf
              refine rdw ?_; repeat' ((with_reducible apply tw) <;> intro _)
              · rename_i hml
                have hmn : m < c.pars.length := Int.ofNat_lt.1 hml
                have hpf := hfl.pars
                unfold few at hpf
                refine Exists.elim (⟨_, List.getElem?_eq_getElem hmn⟩ : ∃ x, c.pars[m]? = some x) fun x hx => ?_
                refine ⟨by omega, [.int .i64 x], nums_at hx, ?_⟩
                conv => whnf
                refine rdw ?_; repeat' ((with_reducible apply tw) <;> intro _)
                · rename_i hrl
                  have hpa := h.parent hc (by omega) (List.mem_of_getElem? hx)
                  refine Exists.elim (mapP_find x (seenP (d.certs.take j)) 0) fun q hq => ?_
                  have hqs : ∃ i, q = some (i, .v (.one (.int .i64 (c.round - 1)))) := by
                    rcases hq.2 with ⟨v, i, hv, e⟩ | ⟨hv, _⟩
                    · rw [hpa] at hv; cases hv; exact ⟨i, e⟩
                    · rw [hpa] at hv; cases hv
                  refine Exists.elim hqs fun i hqe => ?_
                  have hq1 := hq.1
                  rw [hqe] at hq1
                  refine ⟨_, hq1, ?_⟩
                  conv => whnf
                  refine rdw ?_; repeat' ((with_reducible apply tw) <;> intro _)
                  · rename_i hne
                    exfalso
                    revert hne
                    simp
                  · exact ⟨m + 1, rfl, rfl, by omega, by omega⟩
                · exact ⟨m + 1, rfl, rfl, by omega, by omega⟩
              · rename_i hml
                refine Exists.elim (mapP_new (v := c.round) (h.fresh hc)) fun q hq => ?_
                refine ⟨q, hq.1, ?_⟩
                have hnew : mputAt (mapP (seenP (d.certs.take j))) q (.one (.int .i64 c.digest)) (.v (.one (.int .i64 c.round))) = mapP (seenP (d.certs.take (j + 1))) := by
                  rw [hq.2, List.take_add_one, hc]; simp [seenP]
                rw [hnew]
                conv => whnf
                refine rdw ?_; repeat' ((with_reducible apply tw) <;> intro _)
                exact ⟨j + 1, rfl, rfl, by omega, by omega⟩
      · exact ⟨rfl, rfl⟩
structure mayP (d : Dag) (j : Nat) : Prop where
  ok : ∀ c ∈ d.certs.take j, okCert d.nodes c ∧ d.low < c.round ∧ lacksI d c = []
  sorted : sortedC (d.certs.take j)
  dig : ((d.certs.take j).map (·.digest)).Nodup
theorem take_snoc {α : Type} {l : List α} {j : Nat} {c : α} (hc : l[j]? = some c) : l.take (j + 1) = l.take j ++ [c] := by rw [List.take_add_one, hc]; rfl
theorem mayP.next {d : Dag} {j : Nat} (h : mayP d j) {c : Cert} (hc : d.certs[j]? = some c) (h1 : okCert d.nodes c) (h2 : d.low < c.round) (h3 : lacksI d c = []) (h4 : ∀ c0, 0 < j → d.certs[j - 1]? = some c0 → c0.before c.round c.author = true) (h5 : ∀ x ∈ d.certs.take j, x.digest ≠ c.digest) : mayP d (j + 1) := by
  have e := take_snoc hc
  refine ⟨?_, ?_, ?_⟩
  · rw [e]
    intro y hy
    rcases List.mem_append.1 hy with hy | hy
    · exact h.ok y hy
    · simp at hy; rw [hy]; exact ⟨h1, h2, h3⟩
  · rw [e]
    refine List.pairwise_append.2 ⟨h.sorted, by simp, fun x hx y hy => ?_⟩
    simp at hy
    rw [hy]
    obtain ⟨i, hi, rfl⟩ := List.mem_take_iff_getElem.1 hx
    have hil : i < j := by omega
    have hjl := (List.getElem?_eq_some_iff.1 hc).1
    have hp : d.certs[j - 1]? = some d.certs[j - 1] := List.getElem?_eq_getElem (by omega)
    have hb := h4 _ (by omega) hp
    rcases Nat.lt_or_ge i (j - 1) with hlt | hge
    · have h6 := List.pairwise_iff_getElem.1 h.sorted i (j - 1) (by rw [List.length_take]; omega) (by rw [List.length_take]; omega) hlt
      rw [List.getElem_take, List.getElem_take] at h6
      have h7 := before_iff.1 h6
      have h8 := before_iff.1 hb
      exact before_iff.2 (by omega)
    · have : i = j - 1 := by omega
      subst this
      exact hb
  · rw [e, List.map_append, List.nodup_append]
    refine ⟨h.dig, by simp, fun a ha b hb => ?_⟩
    obtain ⟨x, hx, rfl⟩ := List.mem_map.1 ha
    simp at hb
    rw [hb]
    exact h5 x hx
theorem lacks_nil {d : Dag} {c : Cert} (h : lacksI d c = []) (hr : c.round > d.low + 1) : ∀ x ∈ c.pars, ∃ c' ∈ d.certs, c'.digest = x ∧ c'.round = c.round - 1 := by
  intro x hx
  rw [lacksI, if_neg (by omega), List.filter_eq_nil_iff] at h
  have := h x hx
  unfold lackB at this
  cases hc : certOf d x with
  | none => rw [hc] at this; simp at this
  | some c' =>
    rw [hc] at this
    simp at this
    obtain ⟨h1, h2, _⟩ := certOf_some hc
    exact ⟨c', h1, h2, this⟩
theorem mayP.valid {d : Dag} (h : mayP d d.certs.length) (h1 : isN d.nodes = true) (h2 : 0 ≤ d.low ∧ d.low ≤ 1099511627776) (h3 : d.certs.length ≤ 65536) : Valid d := by
  obtain ⟨a, b, c⟩ := h
  rw [List.take_length] at a b c
  exact ⟨h1, h2, h3, fun c hc => (a c hc).1, fun c hc => (a c hc).2.1, b, c, fun c hc hr => lacks_nil (a c hc).2.2 hr⟩
theorem ok_fewL {c : Cert} (h : c.ok) : fewL c := ⟨h.bats.1, h.pars.1, h.sigs.1⟩
set_option maxHeartbeats 2000000 in
theorem rMayDag_ok (d : Dag) (h : d.ok) : ACalls Tryz.prog 48 [d.av] [] (fun av L => (∃ b, av = .d (.bool b) ∧ (b = true → Valid d)) ∧ L = []) := by
  have hcl := certsD_length d.certs
  have hfd := h.certs.1
  refine acalls_go ttOk zOk foOk Tryz.func48 rfl Tryz.ntmps48 rfl false rfl ?_
  conv => whnf
  refine (rMay_ok d.nodes).mono ?_
  rintro _ _ ⟨rfl, rfl⟩
  cases hn : isN d.nodes with
  | false =>
    conv => whnf
    exact ⟨⟨_, rfl, by intro h; cases h⟩, rfl⟩
  | true =>
    have hnn := of_decide_eq_true hn
    conv => whnf
    refine rdw ?_; repeat' ((with_reducible apply tw) <;> intro _)
    · exact ⟨⟨_, rfl, by intro h; cases h⟩, rfl⟩
    · exact ⟨⟨_, rfl, by intro h; cases h⟩, rfl⟩
    · exact ⟨⟨_, rfl, by intro h; cases h⟩, rfl⟩
    · rename_i hl1 hl2 hl3
      refine loop_go ttOk zOk foOk (σ := Nat) (fun j => ([(1, .ptr 0 0), (3, .d (.int .i64 j))], [.cells d.cells])) (fun j => j ≤ d.certs.length ∧ mayP d j) (fun j => d.certs.length - j) [1, 3] ?_ ?_
      · conv => whnf
        exact ⟨0, rfl, rfl, Nat.zero_le _, by simp, by simp [sortedC], by simp⟩
      · rintro j ⟨hj, hinv⟩
        conv => whnf
        refine rdw ?_; repeat' ((with_reducible apply tw) <;> intro _)
        · rename_i hjl
          have hjn : j < d.certs.length := by omega
          refine Exists.elim (⟨_, List.getElem?_eq_getElem hjn⟩ : ∃ c, d.certs[j]? = some c) fun c hc => ?_
          have hcm := List.mem_of_getElem? hc
          refine ⟨by omega, c.cs, certsD_at hc, ?_⟩
          conv => whnf
          refine rdw ?_; repeat' ((with_reducible apply tw) <;> intro _)
          refine (rCert_ok c (ok_fewL (h.certs.2 c hcm)) d.nodes).mono ?_
          rintro _ _ ⟨rfl, rfl⟩
          by_cases hcok : okCert d.nodes c
          · rw [@decide_eq_true _ (Classical.propDecidable _) hcok]
            conv => whnf
            refine rdw ?_; repeat' ((with_reducible apply tw) <;> intro _)
            · exact ⟨⟨_, rfl, by intro h; cases h⟩, rfl⟩
            · rename_i hlow hj0
              replace hlow : d.low < c.round := by omega
              have hj0' : 0 < j := by omega
              refine Exists.elim (⟨_, List.getElem?_eq_getElem (show j - 1 < d.certs.length by omega)⟩ : ∃ c, d.certs[j - 1]? = some c) fun c0 hc0 => ?_
              refine ⟨by omega, c0.cs, (by rw [show ((j : Int) - 1).toNat = j - 1 by omega]; exact certsD_at hc0), ?_⟩
              conv => whnf
              refine rdw ?_; repeat' ((with_reducible apply tw) <;> intro _)
              refine (rBefore_ok c0.round c0.author c.round c.author).mono ?_
              rintro _ _ ⟨rfl, rfl⟩
              by_cases hb : c0.before c.round c.author = true
              · rw [show decide (c0.round < c.round ∨ c0.round = c.round ∧ c0.author < c.author) = true from hb]
                have h4 : ∀ c0, 0 < j → d.certs[j - 1]? = some c0 → c0.before c.round c.author = true := by
                  intro c1 _ hc1
                  rw [hc0] at hc1; cases hc1; exact hb
                conv => whnf
                refine loop_go ttOk zOk foOk (σ := Nat) (fun k => ([(1, .ptr 0 0), (3, .d (.int .i64 j)), (4, .ptr 1 0), (6, .d (.int .i64 k))], [.cells d.cells, .cells c.cells])) (fun k => k ≤ j ∧ ∀ x ∈ d.certs.take k, x.digest ≠ c.digest) (fun k => j - k) [1, 3, 4, 6] ?_ ?_
                · conv => whnf
                  exact ⟨0, rfl, rfl, by omega, by simp⟩
                · rintro k ⟨hkj, hkd⟩
                  conv => whnf
                  refine rdw ?_; repeat' ((with_reducible apply tw) <;> intro _)
                  · rename_i hkl
                    have hkn : k < j := Int.ofNat_lt.1 hkl
                    refine Exists.elim (⟨_, List.getElem?_eq_getElem (by omega)⟩ : ∃ c, d.certs[k]? = some c) fun c1 hc1 => ?_
                    ((with_reducible refine draw_pl ttOk zOk foOk mixedOk pl48x16 ?_ ?_); (focus kernel_rfl); (conv => whnf))
                    refine rdw ?_; repeat' ((with_reducible apply tw) <;> intro _)
                    ((with_reducible apply rd_intro); (focus (intro K hK; (conv => whnf); exact ⟨by omega, c1.cs, certsD_at hc1, hK⟩)); (conv => whnf))
                    refine rdw ?_; repeat' ((with_reducible apply tw) <;> intro _)
                    · exact ⟨⟨_, rfl, by intro h; cases h⟩, rfl⟩
                    · rename_i hne
                      refine ⟨k + 1, rfl, rfl, ⟨by omega, fun y hy => ?_⟩, by omega⟩
                      rw [take_snoc hc1] at hy
                      rcases List.mem_append.1 hy with hy | hy
                      · exact hkd y hy
                      · simp at hy; rw [hy]; exact hne
                  · rename_i hkl
                    have hkj : k = j := by omega
                    subst hkj
                    refine (rLacks_ok d hfd c (by have := hcok.head.pars.1; omega) hcok.head.round).mono ?_
                    rintro _ _ ⟨rfl, rfl⟩
                    have hll := nums_length (lacksI d c)
                    conv => whnf
                    rw [hll]
                    refine rdw ?_; repeat' ((with_reducible apply tw) <;> intro _)
                    · exact ⟨⟨_, rfl, by intro h; cases h⟩, rfl⟩
                    · rename_i hl0
                      exact ⟨k + 1, rfl, rfl, ⟨by omega, hinv.next hc hcok hlow (List.length_eq_zero_iff.1 (by omega)) h4 hkd⟩, by omega⟩
              · rw [show decide (c0.round < c.round ∨ c0.round = c.round ∧ c0.author < c.author) = false from by simpa [Cert.before] using hb]
                conv => whnf
                exact ⟨⟨_, rfl, by intro h; cases h⟩, rfl⟩
            · rename_i hlow hj0
              replace hlow : d.low < c.round := by omega
              have h4 : ∀ c0, 0 < j → d.certs[j - 1]? = some c0 → c0.before c.round c.author = true := by
                intro c1 h _
                omega
              refine loop_go ttOk zOk foOk (σ := Nat) (fun k => ([(1, .ptr 0 0), (3, .d (.int .i64 j)), (4, .ptr 1 0), (6, .d (.int .i64 k))], [.cells d.cells, .cells c.cells])) (fun k => k ≤ j ∧ ∀ x ∈ d.certs.take k, x.digest ≠ c.digest) (fun k => j - k) [1, 3, 4, 6] ?_ ?_
              · conv => whnf
                exact ⟨0, rfl, rfl, by omega, by simp⟩
              · rintro k ⟨hkj, hkd⟩
                conv => whnf
                refine rdw ?_; repeat' ((with_reducible apply tw) <;> intro _)
                · rename_i hkl
                  have hkn : k < j := Int.ofNat_lt.1 hkl
                  refine Exists.elim (⟨_, List.getElem?_eq_getElem (by omega)⟩ : ∃ c, d.certs[k]? = some c) fun c1 hc1 => ?_
                  ((with_reducible refine draw_pl ttOk zOk foOk mixedOk pl48x16 ?_ ?_); (focus kernel_rfl); (conv => whnf))
                  refine rdw ?_; repeat' ((with_reducible apply tw) <;> intro _)
                  ((with_reducible apply rd_intro); (focus (intro K hK; (conv => whnf); exact ⟨by omega, c1.cs, certsD_at hc1, hK⟩)); (conv => whnf))
                  refine rdw ?_; repeat' ((with_reducible apply tw) <;> intro _)
                  · exact ⟨⟨_, rfl, by intro h; cases h⟩, rfl⟩
                  · rename_i hne
                    refine ⟨k + 1, rfl, rfl, ⟨by omega, fun y hy => ?_⟩, by omega⟩
                    rw [take_snoc hc1] at hy
                    rcases List.mem_append.1 hy with hy | hy
                    · exact hkd y hy
                    · simp at hy; rw [hy]; exact hne
                · rename_i hkl
                  have hkj : k = j := by omega
                  subst hkj
                  refine (rLacks_ok d hfd c (by have := hcok.head.pars.1; omega) hcok.head.round).mono ?_
                  rintro _ _ ⟨rfl, rfl⟩
                  have hll := nums_length (lacksI d c)
                  conv => whnf
                  rw [hll]
                  refine rdw ?_; repeat' ((with_reducible apply tw) <;> intro _)
                  · exact ⟨⟨_, rfl, by intro h; cases h⟩, rfl⟩
                  · rename_i hl0
                    exact ⟨k + 1, rfl, rfl, ⟨by omega, hinv.next hc hcok hlow (List.length_eq_zero_iff.1 (by omega)) h4 hkd⟩, by omega⟩
          · rw [@decide_eq_false _ (Classical.propDecidable _) hcok]
            conv => whnf
            exact ⟨⟨_, rfl, by intro h; cases h⟩, rfl⟩
        · rename_i hjl
          have : j = d.certs.length := by omega
          subst this
          exact ⟨⟨_, rfl, fun _ => hinv.valid hn ⟨by omega, by omega⟩ (by omega)⟩, rfl⟩
end Go.Proofs.YtpgnaajkeeenbaaGreat
namespace Go.Proofs.YtpgnaajkeeenbaaGreat
open Go.Ab Go.RowKit
end Go.Proofs.YtpgnaajkeeenbaaGreat
namespace Go.Proofs.YtpgnaajkeeenbaaGreat
open Go.Ab Go.RowKit Go.MapKept
attribute [local irreducible] ACalls AW ADraw Into fltB fnear
set_option maxRecDepth 100000
theorem rise_len2 {l : List Int} (h : riseB l 1 65536) : l.length ≤ 65536 := by
  have := sub_len (m := (List.range 65536).map fun n : Nat => (n : Int) + 1) (rising_nodup h.1) fun x hx => by
    have := h.2 x hx
    exact List.mem_map.2 ⟨(x - 1).toNat, by simp; omega, by omega⟩
  simpa using this
end Go.Proofs.YtpgnaajkeeenbaaGreat
namespace Go.Proofs.YtpgnaajkeeenbaaGreat
open Go.Ab Go.RowKit
end Go.Proofs.YtpgnaajkeeenbaaGreat
namespace Go.Proofs.YtpgnaajkeeenbaaGreat
open Go.Ab Go.RowKit Go.MapKept
attribute [local irreducible] ACalls AW ADraw Into fltB fnear
set_option maxRecDepth 100000
end Go.Proofs.YtpgnaajkeeenbaaGreat
