/- PrimaryMakes: contracts. -/
import Derived.Test.YtpgnaajkeeenbaaGreatPrimaryMakesCodE
set_option linter.unusedVariables false
set_option linter.unusedSimpArgs false
namespace Go.Proofs.YtpgnaajkeeenbaaGreat
open Go.Ab Go.RowKit Go.MapKept
attribute [local irreducible] ACalls AW ADraw Into fltB fnear
set_option maxRecDepth 100000
noncomputable def isV (d : Dag) : Bool := @decide (Valid d) (Classical.propDecidable _)
theorem isV_yes {d : Dag} (h : Valid d) : isV d = true := by unfold isV; exact @decide_eq_true _ (Classical.propDecidable _) h
theorem isV_no {d : Dag} (h : ¬ Valid d) : isV d = false := by unfold isV; exact @decide_eq_false _ (Classical.propDecidable _) h
structure mayD (d : Dag) (j : Nat) : Prop where
  ok : ∀ c ∈ d.certs.take j, okCert d.nodes c ∧ d.low < c.round
  sorted : sortedC (d.certs.take j)
  dig : ((d.certs.take j).map (·.digest)).Nodup
  here : ∀ c ∈ d.certs.take j, c.round > d.low + 1 → ∀ x ∈ c.pars, ∃ c' ∈ d.certs.take j, c'.digest = x ∧ c'.round = c.round - 1
theorem mayD.next {d : Dag} {j : Nat} (h : mayD d j) {c : Cert} (hc : d.certs[j]? = some c) (h1 : okCert d.nodes c) (h2 : d.low < c.round) (h3 : c.round > d.low + 1 → ∀ x ∈ c.pars, ∃ c' ∈ d.certs.take j, c'.digest = x ∧ c'.round = c.round - 1) (h4 : ∀ c0, 0 < j → d.certs[j - 1]? = some c0 → c0.before c.round c.author = true) (h5 : ∀ x ∈ d.certs.take j, x.digest ≠ c.digest) : mayD d (j + 1) := by
  have e := take_snoc hc
  refine ⟨?_, ?_, ?_, ?_⟩
  · rw [e]
    intro y hy
    rcases List.mem_append.1 hy with hy | hy
    · exact h.ok y hy
    · simp at hy; rw [hy]; exact ⟨h1, h2⟩
  · rw [e]
    refine List.pairwise_append.2 ⟨h.sorted, by simp, fun x hx y hy => ?_⟩
    simp at hy
    rw [hy]
    obtain ⟨i, hi, rfl⟩ := List.mem_take_iff_getElem.1 hx
    have hil : i < j := by omega
    have hjl := (List.getElem?_eq_some_iff.1 hc).1
    have hp : d.certs[j - 1]? = some d.certs[j - 1] := List.getElem?_eq_getElem (by omega)
    have hb := h4 _ (by omega) hp
    rcases Nat.lt_or_ge i (j - 1) with hlt | hge
    · have h6 := List.pairwise_iff_getElem.1 h.sorted i (j - 1) (by rw [List.length_take]; omega) (by rw [List.length_take]; omega) hlt
      rw [List.getElem_take, List.getElem_take] at h6
      have h7 := before_iff.1 h6
      have h8 := before_iff.1 hb
      exact before_iff.2 (by omega)
    · have : i = j - 1 := by omega
      subst this
      exact hb
  · rw [e, List.map_append, List.nodup_append]
    refine ⟨h.dig, by simp, fun a ha b hb => ?_⟩
    obtain ⟨x, hx, rfl⟩ := List.mem_map.1 ha
    simp at hb
    rw [hb]
    exact h5 x hx
  · rw [e]
    intro y hy hr x hx
    rcases List.mem_append.1 hy with hy | hy
    · obtain ⟨c', k1, k2⟩ := h.here y hy hr x hx
      exact ⟨c', List.mem_append_left _ k1, k2⟩
    · simp at hy
      rw [hy] at hr hx ⊢
      obtain ⟨c', k1, k2⟩ := h3 hr x hx
      exact ⟨c', List.mem_append_left _ k1, k2⟩
theorem mayD.valid {d : Dag} (h : mayD d d.certs.length) (h1 : isN d.nodes = true) (h2 : 0 ≤ d.low ∧ d.low ≤ 1099511627776) (h3 : d.certs.length ≤ 65536) : Valid d := by
  obtain ⟨a, b, c, e⟩ := h
  rw [List.take_length] at a b c e
  exact ⟨h1, h2, h3, fun c hc => (a c hc).1, fun c hc => (a c hc).2, b, c, fun c hc hr x hx => e c hc hr x hx⟩
theorem look_mem {k v : Int} : ∀ {ps : List (Int × Int)}, lookP k ps = some v → (k, v) ∈ ps
  | [], h => by cases h
  | p :: r, h => by
    rw [lookP] at h
    split at h
    · rename_i e
      cases h
      rw [← e]; simp
    · exact List.mem_cons_of_mem _ (look_mem h)
theorem seen_some {l : List Cert} {x v : Int} (h : lookP x (seenP l) = some v) : ∃ c ∈ l, c.digest = x ∧ c.round = v := by
  obtain ⟨c, hc, e⟩ := List.mem_map.1 (look_mem h)
  exact ⟨c, hc, congrArg Prod.fst e, congrArg Prod.snd e⟩
theorem look_no {k : Int} : ∀ {ps : List (Int × Int)}, lookP k ps = none → ∀ p ∈ ps, p.1 ≠ k
  | p :: r, h, q, hq => by
    rw [lookP] at h
    split at h
    · cases h
    · rename_i e
      rcases List.mem_cons.1 hq with rfl | hq
      · exact e
      · exact look_no h q hq
theorem seen_none {l : List Cert} {x : Int} (h : lookP x (seenP l) = none) : ∀ c ∈ l, c.digest ≠ x := fun c hc => look_no h (c.digest, c.round) (List.mem_map.2 ⟨c, hc, rfl⟩)
theorem mapP_look (k : Int) (ps : List (Int × Int)) : ∃ r, mfind (.one (.int .i64 k)) (mapP ps) 0 = some r ∧ ((∃ v, lookP k ps = some v ∧ ∃ i, r = some (i, .v (.one (.int .i64 v)))) ∨ (lookP k ps = none ∧ r = none)) := by
  obtain ⟨r, h1, ⟨v, i, h2, h3⟩ | h2⟩ := mapP_find k ps 0
  · exact ⟨r, h1, .inl ⟨v, h2, i, h3⟩⟩
  · exact ⟨r, h1, .inr h2⟩
def outM (av : AV) (L : List AB) (d : Dag) : Prop := (∃ b, av = .d (.bool b) ∧ (b = true → Valid d)) ∧ L = []
theorem outM_no (d : Dag) : outM (.d (.bool false)) [] d := ⟨⟨false, rfl, by intro h; cases h⟩, rfl⟩
set_option maxHeartbeats 2000000 in
theorem dagMay_any (d : Dag) (h : d.ok) : ACalls Tryz.prog 114 [d.av] [] (fun av L => outM av L d) := by
  have hcl := certsD_length d.certs
  have hfd := h.certs.1
  refine acalls_go ttOk zOk foOk Tryz.func114 rfl Tryz.ntmps114 rfl false rfl ?_
  conv => whnf
  refine (is_ok d.nodes).mono ?_
  rintro _ _ ⟨rfl, rfl⟩
  cases hn : isN d.nodes with
  | false =>
    conv => whnf
    exact outM_no d
  | true =>
    have hnn := of_decide_eq_true hn
    conv => whnf
    refine rdw ?_; repeat' ((with_reducible apply tw) <;> intro _)
    · exact outM_no d
    · exact outM_no d
    · exact outM_no d
    · rename_i h1 h2 h3
      refine loop_go ttOk zOk foOk (σ := Nat) (mayS d) (fun j => j ≤ d.certs.length ∧ mayD d j) (fun j => d.certs.length - j) [1, 3, 30, 31, 32] ?_ ?_
      · conv => whnf
        exact ⟨0, by rw [hcl]; rfl, rfl, Nat.zero_le _, by simp, by simp [sortedC], by simp, by simp⟩
      · rintro j ⟨hj, hinv⟩
        conv => whnf
        refine rdw ?_; repeat' ((with_reducible apply tw) <;> intro _)
        · rename_i hjl
          have hjn : j < d.certs.length := Int.ofNat_lt.1 hjl
          refine Exists.elim (⟨_, List.getElem?_eq_getElem hjn⟩ : ∃ c, d.certs[j]? = some c) fun c hc => ?_
          have hcm := List.mem_of_getElem? hc
          have hfl := ok_fewL (h.certs.2 c hcm)
          have hpl := nums_length c.pars
          have hmc := mayCert_ok c hfl d.nodes
          refine ⟨by omega, c.cs, certsD_at hc, ?_⟩
          conv => whnf
          refine rdw ?_; repeat' ((with_reducible apply tw) <;> intro _)
          ((with_reducible refine draw_pl ttOk zOk foOk mixedOk pl114x7 ?_ ?_); (focus kernel_rfl); (conv => whnf))
          refine rdw ?_; repeat' ((with_reducible apply tw) <;> intro _)
          refine hmc.mono ?_
          rintro _ _ ⟨rfl, rfl⟩
          by_cases hok : okCert d.nodes c
          · rw [@decide_eq_true _ (Classical.propDecidable _) hok]
            have hrb := hok.head.round
            have hau := hok.head.author
            conv => whnf
            refine rdw ?_; repeat' ((with_reducible apply tw) <;> intro _)
            · exact outM_no d
            · rename_i hab
              replace hab : d.low < c.round := by omega
              refine Exists.elim (mapP_look c.digest (seenP (d.certs.take j))) fun q hq => ?_
              have hq1 := hq.1
              refine hq.2.elim (fun hv => Exists.elim hv fun v hv => Exists.elim hv.2 fun i hqe => ?_) fun hn2 => ?_
              · rw [hqe] at hq1
                have hvp : v > 0 := Exists.elim (seen_some hv.1) fun c' k => by
                  have := (hinv.ok c' k.1).1.head.round
                  have := k.2.2
                  omega
                ((with_reducible apply rd_intro); (focus (intro K hK; (conv => whnf); exact ⟨_, hq1, hK⟩)); (conv => whnf))
                refine rdw ?_; repeat' ((with_reducible apply tw) <;> intro _)
                · exact outM_no d
                · exfalso; omega
                · exfalso; omega
              · have hfr := hn2.1
                rw [hn2.2] at hq1
                ((with_reducible apply rd_intro); (focus (intro K hK; (conv => whnf); exact ⟨_, hq1, hK⟩)); (conv => whnf))
                refine rdw ?_; repeat' ((with_reducible apply tw) <;> intro _)
                · rename_i hj0
                  refine Exists.elim (⟨_, List.getElem?_eq_getElem (show j - 1 < d.certs.length by omega)⟩ : ∃ c, d.certs[j - 1]? = some c) fun c0 hc0 => ?_
                  have hc0m : c0 ∈ d.certs.take j := List.mem_take_iff_getElem.2 ⟨j - 1, by omega, (List.getElem?_eq_some_iff.1 hc0).2⟩
                  have hok0 := (hinv.ok c0 hc0m).1
                  have hrb0 := hok0.head.round
                  have hau0 := hok0.head.author
                  have hft : isF c.round ∧ isF c.author := ⟨⟨by omega, by omega⟩, ⟨by omega, by omega⟩⟩
                  have hft0 : isF c0.round ∧ isF c0.author := ⟨⟨by omega, by omega⟩, ⟨by omega, by omega⟩⟩
                  have hpl1 := placeLess_ok hft0.1 hft0.2 hft.1 hft.2
                  ((with_reducible apply rd_intro); (focus (intro K hK; (conv => whnf); exact ⟨by omega, c0.cs, (by rw [show ((j : Int) - 1).toNat = j - 1 by omega]; exact certsD_at hc0), hK⟩)); (conv => whnf))
                  refine rdw ?_; repeat' ((with_reducible apply tw) <;> intro _)
                  refine (dagPlace_ok c0).mono ?_
                  rintro _ _ ⟨rfl, rfl⟩
                  conv => whnf
                  refine rdw ?_; repeat' ((with_reducible apply tw) <;> intro _)
                  refine (dagPlace_ok c).mono ?_
                  rintro _ _ ⟨rfl, rfl⟩
                  conv => whnf
                  refine rdw ?_; repeat' ((with_reducible apply tw) <;> intro _)
                  refine hpl1.mono ?_
                  rintro _ _ ⟨rfl, rfl⟩
                  by_cases hb : c0.before c.round c.author = true
                  · rw [show decide (c0.round < c.round ∨ c0.round = c.round ∧ c0.author < c.author) = true from hb]
                    have h4 : ∀ c0, 0 < j → d.certs[j - 1]? = some c0 → c0.before c.round c.author = true := by
                      intro c1 _ hc1
                      rw [hc0] at hc1; cases hc1; exact hb
                    conv => whnf
                    refine rdw ?_; repeat' ((with_reducible apply tw) <;> intro _)
                    refine loop_go ttOk zOk foOk (σ := Nat) (mayI d j c) (fun m => m ≤ c.pars.length ∧ (c.round > d.low + 1 → ∀ x ∈ c.pars.take m, ∃ c' ∈ d.certs.take j, c'.digest = x ∧ c'.round = c.round - 1)) (fun m => c.pars.length - m) [1, 3, 5, 30, 31, 32, 76, 77, 78] ?_ ?_
                    · conv => whnf
                      exact ⟨0, by rw [hpl]; rfl, rfl, Nat.zero_le _, by simp⟩
                    · rintro m ⟨hm, hall⟩
                      conv => whnf
                      refine rdw ?_; repeat' ((with_reducible apply tw) <;> intro _)
                      · rename_i hml
                        have hmn : m < c.pars.length := Int.ofNat_lt.1 hml
                        have hpf := hfl.pars
                        unfold few at hpf
                        refine Exists.elim (⟨_, List.getElem?_eq_getElem hmn⟩ : ∃ x, c.pars[m]? = some x) fun x hx => ?_
                        refine ⟨by omega, [.int .i64 x], nums_at hx, ?_⟩
                        conv => whnf
                        refine rdw ?_; repeat' ((with_reducible apply tw) <;> intro _)
                        · rename_i hrl
                          refine Exists.elim (mapP_look x (seenP (d.certs.take j))) fun q hq => ?_
                          have hq1 := hq.1
                          refine hq.2.elim (fun hv => Exists.elim hv fun v hv => Exists.elim hv.2 fun i hqe => ?_) fun hn => ?_
                          · rw [hqe] at hq1
                            refine ⟨_, hq1, ?_⟩
                            conv => whnf
                            refine rdw ?_; repeat' ((with_reducible apply tw) <;> intro _)
                            · exact outM_no d
                            · rename_i hve
                              refine ⟨m + 1, rfl, rfl, ⟨by omega, fun hr y hy => ?_⟩, by omega⟩
                              rw [take_snoc hx] at hy
                              rcases List.mem_append.1 hy with hy | hy
                              · exact hall hr y hy
                              · simp at hy
                                obtain ⟨c', k1, k2, k3⟩ := seen_some hv.1
                                exact ⟨c', k1, by rw [k2, hy], by rw [k3]; exact hve⟩
                          · rw [hn.2] at hq1
                            refine ⟨_, hq1, ?_⟩
                            conv => whnf
                            refine rdw ?_; repeat' ((with_reducible apply tw) <;> intro _)
                            · exact outM_no d
                            · rename_i hve
                              exfalso
                              omega
                        · rename_i hrl
                          exact ⟨m + 1, rfl, rfl, ⟨by omega, fun hr => absurd hr hrl⟩, by omega⟩
                      · rename_i hml
                        rw [List.take_of_length_le (by omega)] at hall
                        refine Exists.elim (mapP_new (v := c.round) hfr) fun q hq => ?_
                        refine ⟨q, hq.1, ?_⟩
                        have hnew : mputAt (mapP (seenP (d.certs.take j))) q (.one (.int .i64 c.digest)) (.v (.one (.int .i64 c.round))) = mapP (seenP (d.certs.take (j + 1))) := by
                          rw [hq.2, List.take_add_one, hc]; simp [seenP]
                        rw [hnew]
                        conv => whnf
                        refine rdw ?_; repeat' ((with_reducible apply tw) <;> intro _)
                        exact ⟨j + 1, rfl, rfl, ⟨by omega, hinv.next hc hok hab hall h4 (seen_none hfr)⟩, by omega⟩
                  · rw [show decide (c0.round < c.round ∨ c0.round = c.round ∧ c0.author < c.author) = false from by simpa [Cert.before] using hb]
                    conv => whnf
                    refine rdw ?_; repeat' ((with_reducible apply tw) <;> intro _)
                    exact outM_no d
                · rename_i hj0
                  have h4 : ∀ c0, 0 < j → d.certs[j - 1]? = some c0 → c0.before c.round c.author = true := by
                    intro c1 h _
                    omega
                  refine loop_go ttOk zOk foOk (σ := Nat) (mayI d j c) (fun m => m ≤ c.pars.length ∧ (c.round > d.low + 1 → ∀ x ∈ c.pars.take m, ∃ c' ∈ d.certs.take j, c'.digest = x ∧ c'.round = c.round - 1)) (fun m => c.pars.length - m) [1, 3, 5, 30, 31, 32, 76, 77, 78] ?_ ?_
                  · conv => whnf
                    exact ⟨0, by rw [hpl]; rfl, rfl, Nat.zero_le _, by simp⟩
                  · rintro m ⟨hm, hall⟩
                    conv => whnf
                    refine rdw ?_; repeat' ((with_reducible apply tw) <;> intro _)
                    · rename_i hml
                      have hmn : m < c.pars.length := Int.ofNat_lt.1 hml
                      have hpf := hfl.pars
                      unfold few at hpf
                      refine Exists.elim (⟨_, List.getElem?_eq_getElem hmn⟩ : ∃ x, c.pars[m]? = some x) fun x hx => ?_
                      refine ⟨by omega, [.int .i64 x], nums_at hx, ?_⟩
                      conv => whnf
                      refine rdw ?_; repeat' ((with_reducible apply tw) <;> intro _)
                      · rename_i hrl
                        refine Exists.elim (mapP_look x (seenP (d.certs.take j))) fun q hq => ?_
                        have hq1 := hq.1
                        refine hq.2.elim (fun hv => Exists.elim hv fun v hv => Exists.elim hv.2 fun i hqe => ?_) fun hn => ?_
                        · rw [hqe] at hq1
                          refine ⟨_, hq1, ?_⟩
                          conv => whnf
                          refine rdw ?_; repeat' ((with_reducible apply tw) <;> intro _)
                          · exact outM_no d
                          · rename_i hve
                            refine ⟨m + 1, rfl, rfl, ⟨by omega, fun hr y hy => ?_⟩, by omega⟩
                            rw [take_snoc hx] at hy
                            rcases List.mem_append.1 hy with hy | hy
                            · exact hall hr y hy
                            · simp at hy
                              obtain ⟨c', k1, k2, k3⟩ := seen_some hv.1
                              exact ⟨c', k1, by rw [k2, hy], by rw [k3]; exact hve⟩
                        · rw [hn.2] at hq1
                          refine ⟨_, hq1, ?_⟩
                          conv => whnf
                          refine rdw ?_; repeat' ((with_reducible apply tw) <;> intro _)
                          · exact outM_no d
                          · rename_i hve
                            exfalso
                            omega
                      · rename_i hrl
                        exact ⟨m + 1, rfl, rfl, ⟨by omega, fun hr => absurd hr hrl⟩, by omega⟩
                    · rename_i hml
                      rw [List.take_of_length_le (by omega)] at hall
                      refine Exists.elim (mapP_new (v := c.round) hfr) fun q hq => ?_
                      refine ⟨q, hq.1, ?_⟩
                      have hnew : mputAt (mapP (seenP (d.certs.take j))) q (.one (.int .i64 c.digest)) (.v (.one (.int .i64 c.round))) = mapP (seenP (d.certs.take (j + 1))) := by
                        rw [hq.2, List.take_add_one, hc]; simp [seenP]
                      rw [hnew]
                      conv => whnf
                      refine rdw ?_; repeat' ((with_reducible apply tw) <;> intro _)
                      exact ⟨j + 1, rfl, rfl, ⟨by omega, hinv.next hc hok hab hall h4 (seen_none hfr)⟩, by omega⟩
          · rw [@decide_eq_false _ (Classical.propDecidable _) hok]
            conv => whnf
            refine rdw ?_; repeat' ((with_reducible apply tw) <;> intro _)
            exact outM_no d
        · rename_i hjl
          have : j = d.certs.length := by omega
          subst this
          exact ⟨⟨_, rfl, fun _ => hinv.valid hn ⟨by omega, by omega⟩ (by omega)⟩, rfl⟩
theorem dagMay_full (d : Dag) (h : d.ok) : ACalls Tryz.prog 114 [d.av] [] (fun av L => av = .d (.bool (isV d)) ∧ L = []) := by
  by_cases hv : Valid d
  · rw [isV_yes hv]; exact dagMay_ok d hv
  · rw [isV_no hv]
    refine (dagMay_any d h).mono ?_
    rintro _ _ ⟨⟨b, rfl, hb⟩, rfl⟩
    cases b with
    | true => exact absurd (hb rfl) hv
    | false => exact ⟨rfl, rfl⟩
theorem Valid.lacks {d : Dag} (h : Valid d) {c : Cert} (hc : c ∈ d.certs) : lacksI d c = [] := by
  unfold lacksI
  split
  · rfl
  · rename_i hr
    refine List.filter_eq_nil_iff.2 fun x hx => ?_
    obtain ⟨c', k1, k2, k3⟩ := h.here c hc (by omega) x hx
    unfold lackB
    rw [← k2, certOf_mem h.dig k1]
    simp [k3]
theorem before_take3 {d : Dag} (h : Valid d) {j : Nat} {c : Cert} (hc : d.certs[j]? = some c) : (∀ y ∈ d.certs.take j, y.before c.round c.author = true) ∧ (∀ y ∈ d.certs.take j, y.digest ≠ c.digest) := by
  obtain ⟨hj, rfl⟩ := List.getElem?_eq_some_iff.1 hc
  refine ⟨fun y hy => ?_, fun y hy e => ?_⟩
  · obtain ⟨i, hi, rfl⟩ := List.mem_take_iff_getElem.1 hy
    exact List.pairwise_iff_getElem.1 h.sorted i j (by omega) hj (by omega)
  · obtain ⟨i, hi, rfl⟩ := List.mem_take_iff_getElem.1 hy
    have := List.pairwise_iff_getElem.1 h.dig i j (by simp; omega) (by simp; omega) (by omega)
    simp at this
    exact this e
set_option maxHeartbeats 2000000 in
theorem rMayDag_true (d : Dag) (h : Valid d) : ACalls Tryz.prog 48 [d.av] [] (fun av L => av = .d (.bool true) ∧ L = []) := by
  have hcl := certsD_length d.certs
  have hlow := h.low
  have hlen := h.len
  have hnn := of_decide_eq_true h.nodes
  have hfd : few d.certs := by unfold few; omega
  refine acalls_go ttOk zOk foOk Tryz.func48 rfl Tryz.ntmps48 rfl false rfl ?_
  conv => whnf
  refine (rMay_ok d.nodes).mono ?_
  rintro _ _ ⟨rfl, rfl⟩
  rw [h.nodes]
  conv => whnf
  refine rdw ?_; repeat' ((with_reducible apply tw) <;> intro _)
  · exfalso; omega
  · exfalso; omega
  · exfalso; omega
  · refine loop_go ttOk zOk foOk (σ := Nat) (fun j => ([(1, .ptr 0 0), (3, .d (.int .i64 j))], [.cells d.cells])) (fun j => j ≤ d.certs.length) (fun j => d.certs.length - j) [1, 3] ?_ ?_
    · conv => whnf
      exact ⟨0, rfl, rfl, Nat.zero_le _⟩
    · intro j hj
      conv => whnf
      refine rdw ?_; repeat' ((with_reducible apply tw) <;> intro _)
      · rename_i hjl
        have hjn : j < d.certs.length := by omega
        refine Exists.elim (⟨_, List.getElem?_eq_getElem hjn⟩ : ∃ c, d.certs[j]? = some c) fun c hc => ?_
        have hcm := List.mem_of_getElem? hc
        have hcok := h.certs c hcm
        have hlo := h.above c hcm
        refine ⟨by omega, c.cs, certsD_at hc, ?_⟩
        conv => whnf
        refine rdw ?_; repeat' ((with_reducible apply tw) <;> intro _)
        refine (rCert_ok c (h.fewL hcm) d.nodes).mono ?_
        rintro _ _ ⟨rfl, rfl⟩
        rw [@decide_eq_true _ (Classical.propDecidable _) hcok]
        conv => whnf
        refine rdw ?_; repeat' ((with_reducible apply tw) <;> intro _)
        · exfalso; omega
        · rename_i hlow hj0
          have hj0' : 0 < j := by omega
          refine Exists.elim (⟨_, List.getElem?_eq_getElem (show j - 1 < d.certs.length by omega)⟩ : ∃ c, d.certs[j - 1]? = some c) fun c0 hc0 => ?_
          have hb : c0.before c.round c.author = true := (before_take3 h hc).1 c0 (List.mem_take_iff_getElem.2 ⟨j - 1, by omega, (List.getElem?_eq_some_iff.1 hc0).2⟩)
          refine ⟨by omega, c0.cs, (by rw [show ((j : Int) - 1).toNat = j - 1 by omega]; exact certsD_at hc0), ?_⟩
          conv => whnf
          refine rdw ?_; repeat' ((with_reducible apply tw) <;> intro _)
          refine (rBefore_ok c0.round c0.author c.round c.author).mono ?_
          rintro _ _ ⟨rfl, rfl⟩
          rw [show decide (c0.round < c.round ∨ c0.round = c.round ∧ c0.author < c.author) = true from hb]
          conv => whnf
          refine loop_go ttOk zOk foOk (σ := Nat) (fun k => ([(1, .ptr 0 0), (3, .d (.int .i64 j)), (4, .ptr 1 0), (6, .d (.int .i64 k))], [.cells d.cells, .cells c.cells])) (fun k => k ≤ j) (fun k => j - k) [1, 3, 4, 6] ?_ ?_
          · conv => whnf
            exact ⟨0, rfl, rfl, by omega⟩
          · intro k hkj
            conv => whnf
            refine rdw ?_; repeat' ((with_reducible apply tw) <;> intro _)
            · rename_i hkl
              have hkn : k < j := Int.ofNat_lt.1 hkl
              refine Exists.elim (⟨_, List.getElem?_eq_getElem (by omega)⟩ : ∃ c, d.certs[k]? = some c) fun c1 hc1 => ?_
              have hne : c1.digest ≠ c.digest := (before_take3 h hc).2 c1 (List.mem_take_iff_getElem.2 ⟨k, by omega, (List.getElem?_eq_some_iff.1 hc1).2⟩)
              ((with_reducible refine draw_pl ttOk zOk foOk mixedOk pl48x16 ?_ ?_); (focus kernel_rfl); (conv => whnf))
              refine rdw ?_; repeat' ((with_reducible apply tw) <;> intro _)
              ((with_reducible apply rd_intro); (focus (intro K hK; (conv => whnf); exact ⟨by omega, c1.cs, certsD_at hc1, hK⟩)); (conv => whnf))
              refine rdw ?_; repeat' ((with_reducible apply tw) <;> intro _)
              · rename_i he; exact absurd he hne
              · exact ⟨k + 1, rfl, rfl, by omega, by omega⟩
            · rename_i hkl
              have hkj : k = j := by omega
              subst hkj
              refine (rLacks_ok d hfd c (by have := hcok.head.pars.1; omega) hcok.head.round).mono ?_
              rintro _ _ ⟨rfl, rfl⟩
              rw [h.lacks hcm]
              conv => whnf
              refine rdw ?_; repeat' ((with_reducible apply tw) <;> intro _)
              exact ⟨k + 1, rfl, rfl, by omega, by omega⟩
        · rename_i hlow hj0
          refine loop_go ttOk zOk foOk (σ := Nat) (fun k => ([(1, .ptr 0 0), (3, .d (.int .i64 j)), (4, .ptr 1 0), (6, .d (.int .i64 k))], [.cells d.cells, .cells c.cells])) (fun k => k ≤ j) (fun k => j - k) [1, 3, 4, 6] ?_ ?_
          · conv => whnf
            exact ⟨0, rfl, rfl, by omega⟩
          · intro k hkj
            conv => whnf
            refine rdw ?_; repeat' ((with_reducible apply tw) <;> intro _)
            · rename_i hkl
              have hkn : k < j := Int.ofNat_lt.1 hkl
              refine Exists.elim (⟨_, List.getElem?_eq_getElem (by omega)⟩ : ∃ c, d.certs[k]? = some c) fun c1 hc1 => ?_
              have hne : c1.digest ≠ c.digest := (before_take3 h hc).2 c1 (List.mem_take_iff_getElem.2 ⟨k, by omega, (List.getElem?_eq_some_iff.1 hc1).2⟩)
              ((with_reducible refine draw_pl ttOk zOk foOk mixedOk pl48x16 ?_ ?_); (focus kernel_rfl); (conv => whnf))
              refine rdw ?_; repeat' ((with_reducible apply tw) <;> intro _)
              ((with_reducible apply rd_intro); (focus (intro K hK; (conv => whnf); exact ⟨by omega, c1.cs, certsD_at hc1, hK⟩)); (conv => whnf))
              refine rdw ?_; repeat' ((with_reducible apply tw) <;> intro _)
              · rename_i he; exact absurd he hne
              · exact ⟨k + 1, rfl, rfl, by omega, by omega⟩
            · rename_i hkl
              have hkj : k = j := by omega
              subst hkj
              refine (rLacks_ok d hfd c (by have := hcok.head.pars.1; omega) hcok.head.round).mono ?_
              rintro _ _ ⟨rfl, rfl⟩
              rw [h.lacks hcm]
              conv => whnf
              refine rdw ?_; repeat' ((with_reducible apply tw) <;> intro _)
              exact ⟨k + 1, rfl, rfl, by omega, by omega⟩
      · exact ⟨rfl, rfl⟩
theorem rMayDag_full (d : Dag) (h : d.ok) : ACalls Tryz.prog 48 [d.av] [] (fun av L => av = .d (.bool (isV d)) ∧ L = []) := by
  by_cases hv : Valid d
  · rw [isV_yes hv]; exact rMayDag_true d hv
  · rw [isV_no hv]
    refine (rMayDag_ok d h).mono ?_
    rintro _ _ ⟨⟨b, rfl, hb⟩, rfl⟩
    cases b with
    | true => exact absurd (hb rfl) hv
    | false => exact ⟨rfl, rfl⟩
def stepD (s : Dag × List Cert) (c : Cert) : Dag × List Cert := (putD s.1 c, if putE s.1 c = 7 then s.2 ++ [c] else s.2)
def passD (d : Dag) (l : List Cert) : Dag × List Cert := l.foldl stepD (d, [])
theorem passD_snoc {d : Dag} {l : List Cert} {j : Nat} {c : Cert} (hc : l[j]? = some c) : passD d (l.take (j + 1)) = stepD (passD d (l.take j)) c := by
  rw [List.take_add_one, hc]
  simp [passD, List.foldl_append]
theorem pass_len (d : Dag) (l : List Cert) : ∀ j, (passD d (l.take j)).2.length ≤ j
  | 0 => by simp [passD]
  | j + 1 => by
    have ih := pass_len d l j
    cases hc : l[j]? with
    | none =>
      have hl : l.length ≤ j := by simpa using hc
      rw [List.take_of_length_le (by omega)] at ih ⊢
      omega
    | some c =>
      rw [passD_snoc hc]
      unfold stepD
      simp only
      split
      · simp; omega
      · omega
def againF : Nat → Dag → List Cert → Dag × List Cert
  | 0, d, l => (d, l)
  | n + 1, d, l => if (passD d l).2.length < l.length then againF n (passD d l).1 (passD d l).2 else ((passD d l).1, l)
theorem againF_fuel : ∀ (m n : Nat) (d : Dag) (l : List Cert), l.length < m → l.length < n → againF m d l = againF n d l
  | 0, n, d, l, h1, h2 => by omega
  | m + 1, 0, d, l, h1, h2 => by omega
  | m + 1, n + 1, d, l, h1, h2 => by
    unfold againF
    split
    · exact againF_fuel m n _ _ (by omega) (by omega)
    · rfl
def againD (d : Dag) (l : List Cert) : Dag × List Cert := againF (l.length + 1) d l
structure Fine (d : Dag) (l : List Cert) : Prop where
  valid : Valid d
  room : d.certs.length + l.length ≤ 60000
  late : ∀ c ∈ l, okCert d.nodes c ∧ c.tiny
theorem Valid.fit {d : Dag} (h : Valid d) : d.fit := h.well.fit
theorem putD_nodes (d : Dag) (c : Cert) : (putD d c).nodes = d.nodes := by unfold putD; split <;> rfl
theorem putD_low (d : Dag) (c : Cert) : (putD d c).low = d.low := by unfold putD; split <;> rfl
theorem putD_valid {d : Dag} (h : Valid d) {c : Cert} (hc : okCert d.nodes c) (hl : d.certs.length < 65536) : Valid (putD d c) := by
  unfold putD
  split
  · rename_i hp; exact insC_valid h hc hp hl
  · exact h
theorem putD_len (d : Dag) (c : Cert) : (putD d c).certs.length ≤ d.certs.length + 1 := by
  unfold putD
  split
  · rw [insC_len]; omega
  · omega
theorem pass_fine {d : Dag} {l : List Cert} (h : Fine d l) : ∀ j, j ≤ l.length → Valid (passD d (l.take j)).1 ∧ (passD d (l.take j)).1.nodes = d.nodes ∧ (passD d (l.take j)).1.low = d.low ∧ (passD d (l.take j)).1.certs.length + (passD d (l.take j)).2.length ≤ d.certs.length + j ∧ (∀ c ∈ (passD d (l.take j)).2, c ∈ l)
  | 0, _ => ⟨h.valid, rfl, rfl, Nat.le_refl _, by simp [passD]⟩
  | j + 1, hj => by
    obtain ⟨h1, h2, h3, h4, h5⟩ := pass_fine h j (by omega)
    have hr := h.room
    obtain ⟨c, hc⟩ : ∃ c, l[j]? = some c := ⟨_, List.getElem?_eq_getElem (by omega)⟩
    have hcl := List.mem_of_getElem? hc
    rw [passD_snoc hc]
    generalize passD d (l.take j) = s at h1 h2 h3 h4 h5 ⊢
    unfold stepD
    refine ⟨putD_valid h1 (by rw [h2]; exact (h.late c hcl).1) (by omega), by rw [putD_nodes, h2], by rw [putD_low, h3], ?_, ?_⟩
    · simp only
      split
      · rename_i hp
        have : putD s.1 c = s.1 := by unfold putD; rw [if_neg (by omega)]
        rw [this]; simp; omega
      · have := putD_len s.1 c
        omega
    · simp only
      split
      · intro x hx
        rcases List.mem_append.1 hx with hx | hx
        · exact h5 x hx
        · rw [List.mem_singleton.1 hx]; exact hcl
      · exact h5
def Prim.withDL (p : Prim) (s : Dag × List Cert) : Prim := { p with dag := s.1, late := s.2 }
def agSt (p : Prim) (out : List Msg) (d : Dag) (l : List Cert) (j : Nat) : AF × List AB := ([(0, .ptr 0 0), (11, .d (.sl 6 (certsD l))), (12, .d (.int .i64 l.length)), (13, .d (.int .i64 j)), (2, .arr 2)], (p.withDL ((passD d (l.take j)).1, l)).st out ++ [.row 40 6 (certsD (passD d (l.take j)).2) false])
set_option maxHeartbeats 4000000 in
theorem again_ok (p : Prim) (out : List Msg) (hf : Fine p.dag p.late) : ACalls Tryz.prog 86 [.ptr 0 0] (p.st out) (fun av L => av = .tup [] ∧ L = (p.withDL (againD p.dag p.late)).st out) := by
  refine acalls_go ttOk zOk foOk Tryz.func86 rfl Tryz.ntmps86 rfl false rfl ?_
  conv => whnf
  refine scope_go ttOk zOk foOk (σ := Dag × List Cert) (fun s => ([(0, .ptr 0 0)], (p.withDL s).st out)) (fun k s => k = 0 ∧ Fine s.1 s.2 ∧ againD s.1 s.2 = againD p.dag p.late) (fun _ s => s.2.length) ?_ ?_
  · rintro k rest hk ⟨d, l⟩ ⟨rfl, hfd, hag⟩
    have e := Option.some.inj (show some _ = some rest from hk)
    subst e
    clear hk
    replace hfd : Fine d l := hfd
    replace hag : againD d l = againD p.dag p.late := hag
    have hcl := certsD_length l
    conv => whnf
    refine rdw ?_; repeat' ((with_reducible apply tw) <;> intro _)
    have hr := hfd.room
    refine loop_go ttOk zOk foOk (σ := Nat) (agSt p out d l) (fun j => j ≤ l.length) (fun j => l.length - j) [0, 11, 12, 13, 2] ?_ ?_
    · conv => whnf
      exact ⟨0, by rw [show (certsD (p.withDL (d, l)).late).length = l.length from hcl]; rfl, rfl, Nat.zero_le _⟩
    · intro j hj
      obtain ⟨k1, k2, k3, k4, k5⟩ := pass_fine hfd j hj
      have hpl := pass_len d l j
      have hl2 := certsD_length (passD d (l.take j)).2
      conv => whnf
      refine rdw ?_; repeat' ((with_reducible apply tw) <;> intro _)
      · rename_i hjl
        refine Exists.elim (⟨_, List.getElem?_eq_getElem (by omega)⟩ : ∃ c, l[j]? = some c) fun c hc => ?_
        obtain ⟨hok, hct⟩ := hfd.late c (List.mem_of_getElem? hc)
        have hsn := passD_snoc (d := d) hc
        have hrd := hok.head.round
        have hau := hok.head.author
        have hnn := of_decide_eq_true hfd.valid.nodes
        have hput := put_dag (passD d (l.take j)).1 k1.fit (by omega) k1.low c hct ⟨by omega, by omega⟩ hrd.1 ⟨by omega, by omega⟩
        refine ⟨by omega, c.cs, certsD_at hc, ?_⟩
        conv => whnf
        refine rdw ?_; repeat' ((with_reducible apply tw) <;> intro _)
        ((with_reducible refine draw_pl ttOk zOk foOk mixedOk pl86x5 ?_ ?_); (focus kernel_rfl); (conv => whnf))
        refine rdw ?_; repeat' ((with_reducible apply tw) <;> intro _)
        ((with_reducible apply rd_intro); (focus (intro K hK; (conv => whnf); refine (hput).mono ?_; rintro _ _ ⟨rfl, rfl⟩; (conv => whnf); exact hK)); (conv => whnf))
        repeat' (first | (first | ((with_reducible first | apply rd_intro | apply gd_and); (focus ((conv => whnf) <;> first | rfl | (intro K hK; (conv => whnf); first | exact hK | exact z_wrap (by omega) hK))); conv => whnf) | ((with_reducible apply z_wrap); (focus omega); conv => whnf) | ((with_reducible first | apply mt_dec | apply mt_eq | apply mt_ne | apply mt_not | apply mt_any) <;> (intro _; conv => whnf))) | ((with_reducible apply gd_and); (focus ((conv => whnf); intro K hK; (conv => whnf); refine (hput).mono ?_; rintro _ _ ⟨rfl, rfl⟩; (conv => whnf); exact hK)); (conv => whnf)))
        · rename_i h7
          refine ⟨by simp; omega, ?_⟩
          conv => whnf
          refine rdw ?_; repeat' ((with_reducible apply tw) <;> intro _)
          refine ⟨j + 1, rfl, ?_, by omega, by omega⟩
          simp only [agSt]
          rw [hsn, stepD]
          simp only
          rw [if_pos h7, show certsD ((passD d (l.take j)).2 ++ [c]) = certsD (passD d (l.take j)).2 ++ [c.cs] by simp [certsD]]
          rfl
        · rename_i h7
          refine ⟨j + 1, rfl, ?_, by omega, by omega⟩
          simp only [agSt]
          rw [hsn, stepD]
          simp only
          rw [if_neg h7]
          rfl
      · rename_i hjl hlt
        have hjl2 : j = l.length := by omega
        subst hjl2
        rw [List.take_length] at k1 k2 k3 k4 k5 hpl hl2
        replace hlt : ((certsD (passD d (l.take l.length)).2).length : Int) < ((certsD l).length : Int) := hlt
        rw [List.take_length, hl2, hcl] at hlt
        have hlt2 : (passD d l).2.length < l.length := by omega
        refine into_seal [(0, 15)] rfl ?_
        refine into_of [0] ?_
        conv => whnf
        refine ⟨((passD d l).1, (passD d l).2), rfl, by rw [List.take_length]; rfl, ⟨rfl, ⟨k1, by show (passD d l).1.certs.length + (passD d l).2.length ≤ _; omega, fun c hc => by rw [k2]; exact hfd.late c (k5 c hc)⟩, ?_⟩, hlt2⟩
        show againD (passD d l).1 (passD d l).2 = _
        have e1 : againD d l = againF l.length (passD d l).1 (passD d l).2 := by
          rw [againD, againF, if_pos hlt2]
        rw [← hag, e1, againD]
        exact againF_fuel _ _ _ _ (by omega) (by omega)
      · rename_i hjl hlt
        have hjl2 : j = l.length := by omega
        subst hjl2
        rw [List.take_length] at k1 k2 k3 k4 k5 hpl hl2
        replace hlt : ¬ ((certsD (passD d (l.take l.length)).2).length : Int) < ((certsD l).length : Int) := hlt
        rw [List.take_length, hl2, hcl] at hlt
        have : againD p.dag p.late = ((passD d l).1, l) := by
          rw [← hag, againD, againF, if_neg (by omega)]
        rw [this, List.take_length]
        exact ⟨rfl, rfl⟩
  · intro pass
    conv => whnf
    refine aw_at (σ := Unit) (fun _ => ([(0, .ptr 0 0)], (p.withDL (p.dag, p.late)).st out)) (fun _ => True) [0] ?_ ?_
    · conv => whnf
      exact ⟨(), rfl, rfl, trivial⟩
    · intro _ _
      exact pass 0 _ rfl (p.dag, p.late) ⟨rfl, hf, rfl⟩
def lateP (l : List Cert) (c : Cert) : List Cert := if isLate l c.digest = false ∧ l.length < 256 then l.take (lateI l c.digest) ++ c :: l.drop (lateI l c.digest) else l
theorem lateP_len (l : List Cert) (c : Cert) : (lateP l c).length ≤ l.length + 1 := by
  unfold lateP
  split
  · simp; omega
  · omega
theorem lateP_rising {l : List Cert} (hs : risingC l) (c : Cert) : risingC (lateP l c) := by
  unfold lateP
  split
  · rename_i h
    have hne : ∀ x ∈ l, x.digest ≠ c.digest := by
      intro x hx e
      have := h.1
      rw [isLate, List.any_eq_false] at this
      exact this x hx (by simp [e])
    have hsp := hs
    rw [risingC, ← List.take_append_drop (lateI l c.digest) l, List.pairwise_append] at hsp
    rw [risingC, List.pairwise_append]
    refine ⟨hsp.1, List.pairwise_cons.2 ⟨fun y hy => ?_, hsp.2.1⟩, fun x hx y hy => ?_⟩
    · obtain ⟨j, hj⟩ := List.getElem?_of_mem hy
      rw [List.getElem?_drop] at hj
      have h1 := (lateI_iff (d := c.digest) hs hj)
      have h2 := hne y (List.mem_of_mem_drop hy)
      have : ¬ y.digest < c.digest := fun h => by have := h1.1 h; omega
      omega
    · have hxc : x.digest < c.digest := by
        obtain ⟨j, hj⟩ := List.getElem?_of_mem hx
        rw [List.getElem?_take] at hj
        split at hj
        · rename_i hlt
          exact (lateI_iff (d := c.digest) hs hj).2 hlt
        · cases hj
      rcases List.mem_cons.1 hy with rfl | hy
      · exact hxc
      · exact hsp.2.2 x hx y hy
  · exact hs
def inP (p : Prim) (c : Cert) : Prim := if putE p.dag c = 0 then p.withDL (againD (putD p.dag c) p.late) else if putE p.dag c = 7 then { p with late := lateP p.late c } else p
def inO (p : Prim) (c : Cert) (src : Int) : List Msg := if putE p.dag c = 7 ∧ 0 < src then wantO p src 8 (freshI (lateP p.late c) (lackI p.dag c)) else []
set_option maxHeartbeats 4000000 in
theorem stepIn_ok (p : Prim) (out : List Msg) (ho : out.length ≤ 1000000) (c : Cert) (hok : okCert p.dag.nodes c) (hct : c.tiny) (hf : Fine p.dag p.late) (hroom : p.dag.certs.length + p.late.length < 60000) (hs : risingC p.late) (src : Int) :
    ACalls Tryz.prog 153 [.ptr 0 0, c.av, .d (.int .i64 src)] (p.st out) (fun av L => av = .tup [] ∧ ∃ j, L = (inP p c).sj j (out ++ inO p c src)) := by
  have hrd := hok.head.round
  have hau := hok.head.author
  have hnn := of_decide_eq_true hf.valid.nodes
  have hr := hf.room
  have hput := put_dag p.dag hf.valid.fit (by omega) hf.valid.low c hct ⟨by omega, by omega⟩ hrd.1 ⟨by omega, by omega⟩
  have hcl := certsD_length p.late
  have hfew : few p.late := by unfold few; omega
  have hpl := hok.head.pars.1
  have hlk : (lackI p.dag c).length ≤ 1000000 := by
    unfold lackI
    split
    · exact Nat.zero_le _
    · exact Nat.le_trans (List.length_filter_le ..) (by omega)
  have hlack := lack_ok p.dag hf.valid.fit c hct.pars ⟨by omega, by omega⟩ hrd.1 hf.valid.low
  refine acalls_seals2 ?_
  refine acalls_go ttOk zOk foOk Tryz.func153 rfl Tryz.ntmps153 rfl true rfl ?_
  conv => whnf
  refine rdw ?_; repeat' ((with_reducible apply tw) <;> intro _)
  ((with_reducible refine draw_pl ttOk zOk foOk mixedOk pl153x1 ?_ ?_); (focus kernel_rfl); (conv => whnf))
  repeat' (first | (first | ((with_reducible first | apply rd_intro | apply gd_and); (focus ((conv => whnf) <;> first | rfl | (intro K hK; (conv => whnf); first | exact hK | exact z_wrap (by omega) hK))); conv => whnf) | ((with_reducible apply z_wrap); (focus omega); conv => whnf) | ((with_reducible first | apply mt_dec | apply mt_eq | apply mt_ne | apply mt_not | apply mt_any) <;> (intro _; conv => whnf))) | ((with_reducible apply rd_intro); (focus (intro K hK; (conv => whnf); refine (hput).mono ?_; rintro _ _ ⟨rfl, rfl⟩; (conv => whnf); exact hK)); (conv => whnf)) | ((with_reducible apply gd_and); (focus ((conv => whnf); intro K hK; (conv => whnf); refine (hput).mono ?_; rintro _ _ ⟨rfl, rfl⟩; (conv => whnf); exact hK)); (conv => whnf)))
  · rename_i h0
    have hfp : Fine (putD p.dag c) p.late := ⟨putD_valid hf.valid hok (by omega), by have := putD_len p.dag c; omega, fun x hx => by rw [putD_nodes]; exact hf.late x hx⟩
    have hag := again_ok (p.withDL (putD p.dag c, p.late)) out hfp
    refine hag.mono ?_
    rintro _ _ ⟨rfl, rfl⟩
    conv => whnf
    refine rdw ?_; repeat' ((with_reducible apply tw) <;> intro _)
    refine ⟨2, [], _, _, _, Nat.le_refl _, rfl, rfl, rfl, rfl, false, ?_⟩
    rw [inP, if_pos h0, inO, if_neg (fun h => by have := h.1; omega), List.append_nil]
    rfl
  · rename_i h0 h7
    refine (lateAt_ok p false out (by unfold few; omega) hs c.digest).mono ?_
    rintro _ _ ⟨rfl, rfl⟩
    conv => whnf
    refine rdw ?_; repeat' ((with_reducible apply tw) <;> intro _)
    · rename_i hb hlt
      have hi := lateI_le p.late c.digest
      have hlp : lateP p.late c = p.late.take (lateI p.late c.digest) ++ c :: p.late.drop (lateI p.late c.digest) := by
        rw [lateP, if_pos ⟨by revert hb; cases isLate p.late c.digest <;> simp, by have h2 := hlt; rw [hcl] at h2; omega⟩]
      ((with_reducible refine draw_pl ttOk zOk foOk mixedOk pl153x9 ?_ ?_); (focus kernel_rfl); (conv => whnf))
      refine rdw ?_; repeat' ((with_reducible apply tw) <;> intro _)
      refine (cloneC_ok p.late (by omega)).mono ?_
      rintro _ _ ⟨rfl, rfl⟩
      conv => whnf
      refine rdw ?_; repeat' ((with_reducible apply tw) <;> intro _)
      refine (ownCert_ok c hct).mono ?_
      rintro _ _ ⟨rfl, rfl⟩
      conv => whnf
      refine rdw ?_; repeat' ((with_reducible apply tw) <;> intro _)
      (refine Or.inr ?_; (conv => whnf))
      refine (insertC_ok p.late c (lateI p.late c.digest) hi (by omega)).mono ?_
      rintro _ _ ⟨rfl, rfl⟩
      rw [← hlp]
      have hris2 : risingC (lateP p.late c) := lateP_rising hs c
      have hfew2 : few (lateP p.late c) := by unfold few; have := lateP_len p.late c; omega
      conv => whnf
      refine rdw ?_; repeat' ((with_reducible apply tw) <;> intro _)
      · rename_i hsrc
        refine adraw_sealC [(0, 15)] rfl ?_
        ((with_reducible refine draw_pl ttOk zOk foOk mixedOk pl153x11 ?_ ?_); (focus kernel_rfl); (conv => whnf))
        refine rdw ?_; repeat' ((with_reducible apply tw) <;> intro _)
        refine hlack.mono ?_
        rintro _ _ ⟨rfl, rfl⟩
        conv => whnf
        refine rdw ?_; repeat' ((with_reducible apply tw) <;> intro _)
        refine (fresh_ok { p with late := lateP p.late c } out hfew2 hris2 (lackI p.dag c) hlk).mono ?_
        rintro _ _ ⟨rfl, rfl⟩
        conv => whnf
        refine rdw ?_; repeat' ((with_reducible apply tw) <;> intro _)
        refine (want_ok { p with late := lateP p.late c } out (by omega) src 8 (freshI (lateP p.late c) (lackI p.dag c)) (by unfold freshI; exact Nat.le_trans (List.length_filter_le ..) hlk)).mono ?_
        rintro _ _ ⟨rfl, j, rfl⟩
        cases j
        · conv => whnf
          refine rdw ?_; repeat' ((with_reducible apply tw) <;> intro _)
          refine ⟨2, [], _, _, _, Nat.le_refl _, rfl, rfl, rfl, rfl, false, ?_⟩
          rw [inP, if_neg h0, if_pos h7, inO, if_pos ⟨h7, hsrc⟩]
          rfl
        · conv => whnf
          refine rdw ?_; repeat' ((with_reducible apply tw) <;> intro _)
          refine ⟨3, [], _, _, _, by show 2 ≤ 3; omega, rfl, rfl, rfl, rfl, true, ?_⟩
          rw [inP, if_neg h0, if_pos h7, inO, if_pos ⟨h7, hsrc⟩]
          rfl
      · rename_i hsrc
        refine ⟨2, [(0, 15)], _, _, _, Nat.le_refl _, rfl, rfl, rfl, rfl, false, ?_⟩
        rw [inP, if_neg h0, if_pos h7, inO, if_neg (fun h => hsrc h.2), List.append_nil]
        rfl
    · rename_i hb hlt hsrc
      have hlp : lateP p.late c = p.late := by rw [lateP, if_neg (fun h => hlt (by have := h.2; rw [hcl]; omega))]
      ((with_reducible refine draw_pl ttOk zOk foOk mixedOk pl153x11 ?_ ?_); (focus kernel_rfl); (conv => whnf))
      refine rdw ?_; repeat' ((with_reducible apply tw) <;> intro _)
      refine hlack.mono ?_
      rintro _ _ ⟨rfl, rfl⟩
      conv => whnf
      refine rdw ?_; repeat' ((with_reducible apply tw) <;> intro _)
      refine (fresh_ok p out hfew hs (lackI p.dag c) hlk).mono ?_
      rintro _ _ ⟨rfl, rfl⟩
      conv => whnf
      refine rdw ?_; repeat' ((with_reducible apply tw) <;> intro _)
      refine (want_ok p out (by omega) src 8 (freshI (p).late (lackI p.dag c)) (by unfold freshI; exact Nat.le_trans (List.length_filter_le ..) hlk)).mono ?_
      rintro _ _ ⟨rfl, j, rfl⟩
      cases j
      · conv => whnf
        refine rdw ?_; repeat' ((with_reducible apply tw) <;> intro _)
        refine ⟨2, [], _, _, _, Nat.le_refl _, rfl, rfl, rfl, rfl, false, ?_⟩
        rw [inP, if_neg h0, if_pos h7, inO, if_pos ⟨h7, hsrc⟩, hlp]
        rfl
      · conv => whnf
        refine rdw ?_; repeat' ((with_reducible apply tw) <;> intro _)
        refine ⟨3, [], _, _, _, by show 2 ≤ 3; omega, rfl, rfl, rfl, rfl, true, ?_⟩
        rw [inP, if_neg h0, if_pos h7, inO, if_pos ⟨h7, hsrc⟩, hlp]
        rfl
    · rename_i hb hlt hsrc
      have hlp : lateP p.late c = p.late := by rw [lateP, if_neg (fun h => hlt (by have := h.2; rw [hcl]; omega))]
      refine ⟨2, [], _, _, _, Nat.le_refl _, rfl, rfl, rfl, rfl, false, ?_⟩
      rw [inP, if_neg h0, if_pos h7, inO, if_neg (fun h => hsrc h.2), hlp, List.append_nil]
      rfl
    · rename_i hb hsrc
      have hlp : lateP p.late c = p.late := by rw [lateP, if_neg (fun h => by rw [h.1] at hb; exact absurd hb (by decide))]
      ((with_reducible refine draw_pl ttOk zOk foOk mixedOk pl153x11 ?_ ?_); (focus kernel_rfl); (conv => whnf))
      refine rdw ?_; repeat' ((with_reducible apply tw) <;> intro _)
      refine hlack.mono ?_
      rintro _ _ ⟨rfl, rfl⟩
      conv => whnf
      refine rdw ?_; repeat' ((with_reducible apply tw) <;> intro _)
      refine (fresh_ok p out hfew hs (lackI p.dag c) hlk).mono ?_
      rintro _ _ ⟨rfl, rfl⟩
      conv => whnf
      refine rdw ?_; repeat' ((with_reducible apply tw) <;> intro _)
      refine (want_ok p out (by omega) src 8 (freshI (p).late (lackI p.dag c)) (by unfold freshI; exact Nat.le_trans (List.length_filter_le ..) hlk)).mono ?_
      rintro _ _ ⟨rfl, j, rfl⟩
      cases j
      · conv => whnf
        refine rdw ?_; repeat' ((with_reducible apply tw) <;> intro _)
        refine ⟨2, [], _, _, _, Nat.le_refl _, rfl, rfl, rfl, rfl, false, ?_⟩
        rw [inP, if_neg h0, if_pos h7, inO, if_pos ⟨h7, hsrc⟩, hlp]
        rfl
      · conv => whnf
        refine rdw ?_; repeat' ((with_reducible apply tw) <;> intro _)
        refine ⟨3, [], _, _, _, by show 2 ≤ 3; omega, rfl, rfl, rfl, rfl, true, ?_⟩
        rw [inP, if_neg h0, if_pos h7, inO, if_pos ⟨h7, hsrc⟩, hlp]
        rfl
    · rename_i hb hsrc
      have hlp : lateP p.late c = p.late := by rw [lateP, if_neg (fun h => by rw [h.1] at hb; exact absurd hb (by decide))]
      refine ⟨2, [], _, _, _, Nat.le_refl _, rfl, rfl, rfl, rfl, false, ?_⟩
      rw [inP, if_neg h0, if_pos h7, inO, if_neg (fun h => hsrc h.2), hlp, List.append_nil]
      rfl
  · rename_i h0 h7
    refine ⟨2, [], _, _, _, Nat.le_refl _, rfl, rfl, rfl, rfl, false, ?_⟩
    rw [inP, if_neg h0, if_neg h7, inO, if_neg (fun h => h7 h.1), List.append_nil]
    rfl
theorem equal_ok (xs ys : List Int) (hm : few xs) : ACalls Tryz.prog 125 [.d (.sl 1 (nums xs)), .d (.sl 1 (nums ys))] [] (fun av L => av = .d (.bool (decide (xs = ys))) ∧ L = []) := by
  have hx := nums_length xs
  have hy := nums_length ys
  unfold few at hm
  refine acalls_go ttOk zOk foOk Tryz.func125 rfl Tryz.ntmps125 rfl false rfl ?_
  conv => whnf
  rw [hx, hy]
  refine rdw ?_; repeat' ((with_reducible apply tw) <;> intro _)
  · rename_i h
    rw [decide_eq_false (fun e => h (by rw [e]))]
    exact ⟨rfl, rfl⟩
  · rename_i h
    have hl : xs.length = ys.length := by omega
    refine loop_go ttOk zOk foOk (σ := Nat) (fun k => ([(0, .d (.sl 1 (nums xs))), (1, .d (.sl 1 (nums ys))), (12, .d (.int .i64 xs.length)), (13, .d (.int .i64 k))], [])) (fun k => k ≤ xs.length ∧ xs.take k = ys.take k) (fun k => xs.length - k) [0, 1, 12, 13] ?_ ?_
    · conv => whnf
      exact ⟨0, by rw [hx]; rfl, rfl, by simp⟩
    · rintro k ⟨hk, he⟩
      conv => whnf
      refine rdw ?_; repeat' ((with_reducible apply tw) <;> intro _)
      · rename_i h
        refine Exists.elim (⟨_, List.getElem?_eq_getElem (by omega)⟩ : ∃ a, xs[k]? = some a) fun a ha => ?_
        refine Exists.elim (⟨_, List.getElem?_eq_getElem (by omega)⟩ : ∃ b, ys[k]? = some b) fun b hb => ?_
        ((with_reducible refine draw_pl ttOk zOk foOk mixedOk pl125x6 ?_ ?_); (focus kernel_rfl); (conv => whnf))
        refine rdw ?_; repeat' ((with_reducible apply tw) <;> intro _)
        ((with_reducible apply rd_intro); (focus (intro K hK; (conv => whnf); exact ⟨by omega, [.int .i64 a], nums_at ha, hK⟩)); (conv => whnf))
        refine rdw ?_; repeat' ((with_reducible apply tw) <;> intro _)
        ((with_reducible apply rd_intro); (focus (intro K hK; (conv => whnf); exact ⟨by omega, [.int .i64 b], nums_at hb, hK⟩)); (conv => whnf))
        refine rdw ?_; repeat' ((with_reducible apply tw) <;> intro _)
        · rename_i h
          rw [decide_eq_false (fun e => by subst e; rw [ha] at hb; cases hb; exact h rfl)]
          exact ⟨rfl, rfl⟩
        · rename_i h
          exact ⟨k + 1, rfl, rfl, ⟨by omega, (take_succ_eq ha hb he).2 (by omega)⟩, by omega⟩
      · rename_i h
        obtain rfl : k = xs.length := by omega
        rw [decide_eq_true (by rw [List.take_length, hl, List.take_length] at he; exact he)]
        exact ⟨rfl, rfl⟩
def inC (l : List Int) (x : Int) : Option Nat := l.findIdx? fun y => decide (y = x)
def inI (l : List Int) (x : Int) : Int := (inC l x).elim (-1) fun i => (i : Int)
theorem inC_no {l : List Int} {x : Int} (h : ∀ c ∈ l, c ≠ x) : inC l x = none := by
  unfold inC
  rw [List.findIdx?_eq_none_iff]
  intro c hc
  simp [h c hc]
theorem inC_here {l : List Int} {x : Int} {j : Nat} (hc : l[j]? = some x) (h : ∀ c ∈ l.take j, c ≠ x) : inC l x = some j := by
  unfold inC
  rw [List.findIdx?_eq_some_iff_getElem]
  obtain ⟨hj, rfl⟩ := List.getElem?_eq_some_iff.1 hc
  refine ⟨hj, by simp, fun i hi => ?_⟩
  have := h l[i] (List.mem_take_iff_getElem.2 ⟨i, by omega, rfl⟩)
  simpa using this
theorem inI_not {l : List Int} {x : Int} (h : x ∉ l) : inI l x = -1 := by
  rw [inI, inC_no (l := l) (x := x) fun c hc e => h (by rw [← e]; exact hc)]; rfl
theorem in_ok (l : List Int) (hl : few l) (x : Int) : ACalls Tryz.prog 75 [.d (.sl 1 (nums l)), .d (.int .i64 x)] [] (fun av L => av = .d (.int .i64 (inI l x)) ∧ L = []) := by
  have hcl := nums_length l
  unfold few at hl
  refine acalls_go ttOk zOk foOk Tryz.func75 rfl Tryz.ntmps75 rfl false rfl ?_
  conv => whnf
  refine loop_go ttOk zOk foOk (σ := Nat) (fun j => ([(0, .d (.sl 1 (nums l))), (1, .d (.int .i64 x)), (5, .d (.int .i64 j))], [])) (fun j => j ≤ l.length ∧ ∀ c ∈ l.take j, c ≠ x) (fun j => l.length - j) [0, 1, 5] ?_ ?_
  · conv => whnf
    exact ⟨0, rfl, rfl, Nat.zero_le _, by simp⟩
  · rintro j ⟨hj, hall⟩
    conv => whnf
    rw [hcl]
    refine rdz ?_; repeat' ((with_reducible apply tw) <;> intro _)
    · rename_i h
      refine Exists.elim (⟨_, List.getElem?_eq_getElem (by omega)⟩ : ∃ c, l[j]? = some c) fun c hc => ?_
      refine ⟨by omega, [.int .i64 c], nums_at hc, ?_⟩
      conv => whnf
      refine rdz ?_; repeat' ((with_reducible apply tw) <;> intro _)
      · rename_i h2
        rw [inI, inC_here (by rw [hc, h2]) hall]
        exact ⟨rfl, rfl⟩
      · rename_i h2
        refine ⟨j + 1, rfl, rfl, ⟨by omega, fun y hy => ?_⟩, by omega⟩
        rw [List.take_add_one, hc] at hy
        rcases List.mem_append.1 hy with hy | hy
        · exact hall y hy
        · simp at hy; rw [hy]; exact h2
    · rename_i h
      rw [List.take_of_length_le (by omega)] at hall
      rw [inI, inC_no hall]
      exact ⟨rfl, rfl⟩
theorem take_snoc' {α : Type} {l : List α} {j : Nat} {c : α} (hc : l[j]? = some c) : l.take (j + 1) = l.take j ++ [c] := by rw [List.take_add_one, hc]; rfl
end Go.Proofs.YtpgnaajkeeenbaaGreat
