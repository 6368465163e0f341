/- PrimaryGoes: contracts. -/
import Derived.Test.YtdlfmgcmfoehdaaGreatPrimaryGoesCodD
set_option linter.unusedVariables false
set_option linter.unusedSimpArgs false
namespace Go.Proofs.YtdlfmgcmfoehdaaGreat
open Go.Ab Go.RowKit Go.MapKept
attribute [local irreducible] ACalls AW ADraw Into fltB fnear
set_option maxRecDepth 100000
theorem take_snoc {α : Type} {l : List α} {j : Nat} {c : α} (hc : l[j]? = some c) : l.take (j + 1) = l.take j ++ [c] := by rw [List.take_add_one, hc]; rfl
theorem ok_fewL {c : Cert} (h : c.ok) : fewL c := ⟨h.bats.1, h.pars.1, h.sigs.1⟩
end Go.Proofs.YtdlfmgcmfoehdaaGreat
namespace Go.Proofs.YtdlfmgcmfoehdaaGreat
open Go.Ab Go.RowKit
end Go.Proofs.YtdlfmgcmfoehdaaGreat
namespace Go.Proofs.YtdlfmgcmfoehdaaGreat
open Go.Ab Go.RowKit Go.MapKept
attribute [local irreducible] ACalls AW ADraw Into fltB fnear
set_option maxRecDepth 100000
theorem rise_len2 {l : List Int} (h : riseB l 1 65536) : l.length ≤ 65536 := by
  have := sub_len (m := (List.range 65536).map fun n : Nat => (n : Int) + 1) (rising_nodup h.1) fun x hx => by
    have := h.2 x hx
    exact List.mem_map.2 ⟨(x - 1).toNat, by simp; omega, by omega⟩
  simpa using this
end Go.Proofs.YtdlfmgcmfoehdaaGreat
namespace Go.Proofs.YtdlfmgcmfoehdaaGreat
open Go.Ab Go.RowKit
end Go.Proofs.YtdlfmgcmfoehdaaGreat
namespace Go.Proofs.YtdlfmgcmfoehdaaGreat
open Go.Ab Go.RowKit Go.MapKept
attribute [local irreducible] ACalls AW ADraw Into fltB fnear
set_option maxRecDepth 100000
noncomputable def isV (d : Dag) : Bool := @decide (Valid d) (Classical.propDecidable _)
theorem isV_yes {d : Dag} (h : Valid d) : isV d = true := by unfold isV; exact @decide_eq_true _ (Classical.propDecidable _) h
theorem isV_no {d : Dag} (h : ¬ Valid d) : isV d = false := by unfold isV; exact @decide_eq_false _ (Classical.propDecidable _) h
structure mayD (d : Dag) (j : Nat) : Prop where
  ok : ∀ c ∈ d.certs.take j, okCert d.nodes c ∧ d.low < c.round
  sorted : sortedC (d.certs.take j)
  dig : ((d.certs.take j).map (·.digest)).Nodup
  here : ∀ c ∈ d.certs.take j, c.round > d.low + 1 → ∀ x ∈ c.pars, ∃ c' ∈ d.certs.take j, c'.digest = x ∧ c'.round = c.round - 1
theorem mayD.next {d : Dag} {j : Nat} (h : mayD d j) {c : Cert} (hc : d.certs[j]? = some c) (h1 : okCert d.nodes c) (h2 : d.low < c.round) (h3 : c.round > d.low + 1 → ∀ x ∈ c.pars, ∃ c' ∈ d.certs.take j, c'.digest = x ∧ c'.round = c.round - 1) (h4 : ∀ c0, 0 < j → d.certs[j - 1]? = some c0 → c0.before c.round c.author = true) (h5 : ∀ x ∈ d.certs.take j, x.digest ≠ c.digest) : mayD d (j + 1) := by
  have e := take_snoc hc
  refine ⟨?_, ?_, ?_, ?_⟩
  · rw [e]
    intro y hy
    rcases List.mem_append.1 hy with hy | hy
    · exact h.ok y hy
    · simp at hy; rw [hy]; exact ⟨h1, h2⟩
  · rw [e]
    refine List.pairwise_append.2 ⟨h.sorted, by simp, fun x hx y hy => ?_⟩
    simp at hy
    rw [hy]
    obtain ⟨i, hi, rfl⟩ := List.mem_take_iff_getElem.1 hx
    have hil : i < j := by omega
    have hjl := (List.getElem?_eq_some_iff.1 hc).1
    have hp : d.certs[j - 1]? = some d.certs[j - 1] := List.getElem?_eq_getElem (by omega)
    have hb := h4 _ (by omega) hp
    rcases Nat.lt_or_ge i (j - 1) with hlt | hge
    · have h6 := List.pairwise_iff_getElem.1 h.sorted i (j - 1) (by rw [List.length_take]; omega) (by rw [List.length_take]; omega) hlt
      rw [List.getElem_take, List.getElem_take] at h6
      have h7 := before_iff.1 h6
      have h8 := before_iff.1 hb
      exact before_iff.2 (by omega)
    · have : i = j - 1 := by omega
      subst this
      exact hb
  · rw [e, List.map_append, List.nodup_append]
    refine ⟨h.dig, by simp, fun a ha b hb => ?_⟩
    obtain ⟨x, hx, rfl⟩ := List.mem_map.1 ha
    simp at hb
    rw [hb]
    exact h5 x hx
  · rw [e]
    intro y hy hr x hx
    rcases List.mem_append.1 hy with hy | hy
    · obtain ⟨c', k1, k2⟩ := h.here y hy hr x hx
      exact ⟨c', List.mem_append_left _ k1, k2⟩
    · simp at hy
      rw [hy] at hr hx ⊢
      obtain ⟨c', k1, k2⟩ := h3 hr x hx
      exact ⟨c', List.mem_append_left _ k1, k2⟩
theorem mayD.valid {d : Dag} (h : mayD d d.certs.length) (h1 : isN d.nodes = true) (h2 : 0 ≤ d.low ∧ d.low ≤ 1099511627776) (h3 : d.certs.length ≤ 65536) : Valid d := by
  obtain ⟨a, b, c, e⟩ := h
  rw [List.take_length] at a b c e
  exact ⟨h1, h2, h3, fun c hc => (a c hc).1, fun c hc => (a c hc).2, b, c, fun c hc hr x hx => e c hc hr x hx⟩
theorem look_mem {k v : Int} : ∀ {ps : List (Int × Int)}, lookP k ps = some v → (k, v) ∈ ps
  | [], h => by cases h
  | p :: r, h => by
    rw [lookP] at h
    split at h
    · rename_i e
      cases h
      rw [← e]; simp
    · exact List.mem_cons_of_mem _ (look_mem h)
theorem seen_some {l : List Cert} {x v : Int} (h : lookP x (seenP l) = some v) : ∃ c ∈ l, c.digest = x ∧ c.round = v := by
  obtain ⟨c, hc, e⟩ := List.mem_map.1 (look_mem h)
  exact ⟨c, hc, congrArg Prod.fst e, congrArg Prod.snd e⟩
theorem look_no {k : Int} : ∀ {ps : List (Int × Int)}, lookP k ps = none → ∀ p ∈ ps, p.1 ≠ k
  | p :: r, h, q, hq => by
    rw [lookP] at h
    split at h
    · cases h
    · rename_i e
      rcases List.mem_cons.1 hq with rfl | hq
      · exact e
      · exact look_no h q hq
theorem seen_none {l : List Cert} {x : Int} (h : lookP x (seenP l) = none) : ∀ c ∈ l, c.digest ≠ x := fun c hc => look_no h (c.digest, c.round) (List.mem_map.2 ⟨c, hc, rfl⟩)
theorem mapP_look (k : Int) (ps : List (Int × Int)) : ∃ r, mfind (.one (.int .i64 k)) (mapP ps) 0 = some r ∧ ((∃ v, lookP k ps = some v ∧ ∃ i, r = some (i, .v (.one (.int .i64 v)))) ∨ (lookP k ps = none ∧ r = none)) := by
  obtain ⟨r, h1, ⟨v, i, h2, h3⟩ | h2⟩ := mapP_find k ps 0
  · exact ⟨r, h1, .inl ⟨v, h2, i, h3⟩⟩
  · exact ⟨r, h1, .inr h2⟩
def outM (av : AV) (L : List AB) (d : Dag) : Prop := (∃ b, av = .d (.bool b) ∧ (b = true → Valid d)) ∧ L = []
theorem outM_no (d : Dag) : outM (.d (.bool false)) [] d := ⟨⟨false, rfl, by intro h; cases h⟩, rfl⟩
set_option maxHeartbeats 2000000 in
theorem dagMay_any (d : Dag) (h : d.ok) : ACalls Tryz.prog 75 [d.av] [] (fun av L => outM av L d) := by
  have hcl := certsD_length d.certs
  have hfd := h.certs.1
  refine acalls_go ttOk zOk foOk Tryz.func75 rfl Tryz.ntmps75 rfl false rfl ?_
  conv => whnf
  refine (is_ok d.nodes).mono ?_
  rintro _ _ ⟨rfl, rfl⟩
  cases hn : isN d.nodes with
  | false =>
    conv => whnf
    exact outM_no d
  | true =>
    have hnn := of_decide_eq_true hn
    conv => whnf
    refine rdw ?_; repeat' ((with_reducible apply tw) <;> intro _)
    · exact outM_no d
    · exact outM_no d
    · exact outM_no d
    · rename_i h1 h2 h3
      refine loop_go ttOk zOk foOk (σ := Nat) (mayS d) (fun j => j ≤ d.certs.length ∧ mayD d j) (fun j => d.certs.length - j) [1, 3, 30, 31, 32] ?_ ?_
      · conv => whnf
        exact ⟨0, by rw [hcl]; rfl, rfl, Nat.zero_le _, by simp, by simp [sortedC], by simp, by simp⟩
      · rintro j ⟨hj, hinv⟩
        conv => whnf
        refine rdw ?_; repeat' ((with_reducible apply tw) <;> intro _)
        · rename_i hjl
          have hjn : j < d.certs.length := Int.ofNat_lt.1 hjl
          refine Exists.elim (⟨_, List.getElem?_eq_getElem hjn⟩ : ∃ c, d.certs[j]? = some c) fun c hc => ?_
          have hcm := List.mem_of_getElem? hc
          have hfl := ok_fewL (h.certs.2 c hcm)
          have hpl := nums_length c.pars
          have hmc := mayCert_ok c hfl d.nodes
          refine ⟨by omega, c.cs, certsD_at hc, ?_⟩
          conv => whnf
          refine rdw ?_; repeat' ((with_reducible apply tw) <;> intro _)
          ((with_reducible refine draw_pl ttOk zOk foOk mixedOk pl75x7 ?_ ?_); (focus kernel_rfl); (conv => whnf))
          refine rdw ?_; repeat' ((with_reducible apply tw) <;> intro _)
          refine hmc.mono ?_
          rintro _ _ ⟨rfl, rfl⟩
          by_cases hok : okCert d.nodes c
          · rw [@decide_eq_true _ (Classical.propDecidable _) hok]
            have hrb := hok.head.round
            have hau := hok.head.author
            conv => whnf
            refine rdw ?_; repeat' ((with_reducible apply tw) <;> intro _)
            · exact outM_no d
            · rename_i hab
              replace hab : d.low < c.round := by omega
              refine Exists.elim (mapP_look c.digest (seenP (d.certs.take j))) fun q hq => ?_
              have hq1 := hq.1
              refine hq.2.elim (fun hv => Exists.elim hv fun v hv => Exists.elim hv.2 fun i hqe => ?_) fun hn2 => ?_
              · rw [hqe] at hq1
                have hvp : v > 0 := Exists.elim (seen_some hv.1) fun c' k => by
                  have := (hinv.ok c' k.1).1.head.round
                  have := k.2.2
                  omega
                ((with_reducible apply rd_intro); (focus (intro K hK; (conv => whnf); exact ⟨_, hq1, hK⟩)); (conv => whnf))
                refine rdw ?_; repeat' ((with_reducible apply tw) <;> intro _)
                · exact outM_no d
                · exfalso; omega
                · exfalso; omega
              · have hfr := hn2.1
                rw [hn2.2] at hq1
                ((with_reducible apply rd_intro); (focus (intro K hK; (conv => whnf); exact ⟨_, hq1, hK⟩)); (conv => whnf))
                refine rdw ?_; repeat' ((with_reducible apply tw) <;> intro _)
                · rename_i hj0
                  refine Exists.elim (⟨_, List.getElem?_eq_getElem (show j - 1 < d.certs.length by omega)⟩ : ∃ c, d.certs[j - 1]? = some c) fun c0 hc0 => ?_
                  have hc0m : c0 ∈ d.certs.take j := List.mem_take_iff_getElem.2 ⟨j - 1, by omega, (List.getElem?_eq_some_iff.1 hc0).2⟩
                  have hok0 := (hinv.ok c0 hc0m).1
                  have hrb0 := hok0.head.round
                  have hau0 := hok0.head.author
                  have hft : isF c.round ∧ isF c.author := ⟨⟨by omega, by omega⟩, ⟨by omega, by omega⟩⟩
                  have hft0 : isF c0.round ∧ isF c0.author := ⟨⟨by omega, by omega⟩, ⟨by omega, by omega⟩⟩
                  have hpl1 := placeLess_ok hft0.1 hft0.2 hft.1 hft.2
                  ((with_reducible apply rd_intro); (focus (intro K hK; (conv => whnf); exact ⟨by omega, c0.cs, (by rw [show ((j : Int) - 1).toNat = j - 1 by omega]; exact certsD_at hc0), hK⟩)); (conv => whnf))
                  refine rdw ?_; repeat' ((with_reducible apply tw) <;> intro _)
                  refine (dagPlace_ok c0).mono ?_
                  rintro _ _ ⟨rfl, rfl⟩
                  conv => whnf
                  refine rdw ?_; repeat' ((with_reducible apply tw) <;> intro _)
                  refine (dagPlace_ok c).mono ?_
                  rintro _ _ ⟨rfl, rfl⟩
                  conv => whnf
                  refine rdw ?_; repeat' ((with_reducible apply tw) <;> intro _)
                  refine hpl1.mono ?_
                  rintro _ _ ⟨rfl, rfl⟩
                  by_cases hb : c0.before c.round c.author = true
                  · rw [show decide (c0.round < c.round ∨ c0.round = c.round ∧ c0.author < c.author) = true from hb]
                    have h4 : ∀ c0, 0 < j → d.certs[j - 1]? = some c0 → c0.before c.round c.author = true := by
                      intro c1 _ hc1
                      rw [hc0] at hc1; cases hc1; exact hb
                    conv => whnf
                    refine rdw ?_; repeat' ((with_reducible apply tw) <;> intro _)
                    refine loop_go ttOk zOk foOk (σ := Nat) (mayI d j c) (fun m => m ≤ c.pars.length ∧ (c.round > d.low + 1 → ∀ x ∈ c.pars.take m, ∃ c' ∈ d.certs.take j, c'.digest = x ∧ c'.round = c.round - 1)) (fun m => c.pars.length - m) [1, 3, 5, 30, 31, 32, 76, 77, 78] ?_ ?_
                    · conv => whnf
                      exact ⟨0, by rw [hpl]; rfl, rfl, Nat.zero_le _, by simp⟩
                    · rintro m ⟨hm, hall⟩
                      conv => whnf
                      refine rdw ?_; repeat' ((with_reducible apply tw) <;> intro _)
                      · rename_i hml
                        have hmn : m < c.pars.length := Int.ofNat_lt.1 hml
                        have hpf := hfl.pars
                        unfold few at hpf
                        refine Exists.elim (⟨_, List.getElem?_eq_getElem hmn⟩ : ∃ x, c.pars[m]? = some x) fun x hx => ?_
                        refine ⟨by omega, [.int .i64 x], nums_at hx, ?_⟩
                        conv => whnf
                        refine rdw ?_; repeat' ((with_reducible apply tw) <;> intro _)
                        · rename_i hrl
                          refine Exists.elim (mapP_look x (seenP (d.certs.take j))) fun q hq => ?_
                          have hq1 := hq.1
                          refine hq.2.elim (fun hv => Exists.elim hv fun v hv => Exists.elim hv.2 fun i hqe => ?_) fun hn => ?_
                          · rw [hqe] at hq1
                            refine ⟨_, hq1, ?_⟩
                            conv => whnf
                            refine rdw ?_; repeat' ((with_reducible apply tw) <;> intro _)
                            · exact outM_no d
                            · rename_i hve
                              refine ⟨m + 1, rfl, rfl, ⟨by omega, fun hr y hy => ?_⟩, by omega⟩
                              rw [take_snoc hx] at hy
                              rcases List.mem_append.1 hy with hy | hy
                              · exact hall hr y hy
                              · simp at hy
                                obtain ⟨c', k1, k2, k3⟩ := seen_some hv.1
                                exact ⟨c', k1, by rw [k2, hy], by rw [k3]; exact hve⟩
                          · rw [hn.2] at hq1
                            refine ⟨_, hq1, ?_⟩
                            conv => whnf
                            refine rdw ?_; repeat' ((with_reducible apply tw) <;> intro _)
                            · exact outM_no d
                            · rename_i hve
                              exfalso
                              omega
                        · rename_i hrl
                          exact ⟨m + 1, rfl, rfl, ⟨by omega, fun hr => absurd hr hrl⟩, by omega⟩
                      · rename_i hml
                        rw [List.take_of_length_le (by omega)] at hall
                        refine Exists.elim (mapP_new (v := c.round) hfr) fun q hq => ?_
                        refine ⟨q, hq.1, ?_⟩
                        have hnew : mputAt (mapP (seenP (d.certs.take j))) q (.one (.int .i64 c.digest)) (.v (.one (.int .i64 c.round))) = mapP (seenP (d.certs.take (j + 1))) := by
                          rw [hq.2, List.take_add_one, hc]; simp [seenP]
                        rw [hnew]
                        conv => whnf
                        refine rdw ?_; repeat' ((with_reducible apply tw) <;> intro _)
                        exact ⟨j + 1, rfl, rfl, ⟨by omega, hinv.next hc hok hab hall h4 (seen_none hfr)⟩, by omega⟩
                  · rw [show decide (c0.round < c.round ∨ c0.round = c.round ∧ c0.author < c.author) = false from by simpa [Cert.before] using hb]
                    conv => whnf
                    refine rdw ?_; repeat' ((with_reducible apply tw) <;> intro _)
                    exact outM_no d
                · rename_i hj0
                  have h4 : ∀ c0, 0 < j → d.certs[j - 1]? = some c0 → c0.before c.round c.author = true := by
                    intro c1 h _
                    omega
                  refine loop_go ttOk zOk foOk (σ := Nat) (mayI d j c) (fun m => m ≤ c.pars.length ∧ (c.round > d.low + 1 → ∀ x ∈ c.pars.take m, ∃ c' ∈ d.certs.take j, c'.digest = x ∧ c'.round = c.round - 1)) (fun m => c.pars.length - m) [1, 3, 5, 30, 31, 32, 76, 77, 78] ?_ ?_
                  · conv => whnf
                    exact ⟨0, by rw [hpl]; rfl, rfl, Nat.zero_le _, by simp⟩
                  · rintro m ⟨hm, hall⟩
                    conv => whnf
                    refine rdw ?_; repeat' ((with_reducible apply tw) <;> intro _)
                    · rename_i hml
                      have hmn : m < c.pars.length := Int.ofNat_lt.1 hml
                      have hpf := hfl.pars
                      unfold few at hpf
                      refine Exists.elim (⟨_, List.getElem?_eq_getElem hmn⟩ : ∃ x, c.pars[m]? = some x) fun x hx => ?_
                      refine ⟨by omega, [.int .i64 x], nums_at hx, ?_⟩
                      conv => whnf
                      refine rdw ?_; repeat' ((with_reducible apply tw) <;> intro _)
                      · rename_i hrl
                        refine Exists.elim (mapP_look x (seenP (d.certs.take j))) fun q hq => ?_
                        have hq1 := hq.1
                        refine hq.2.elim (fun hv => Exists.elim hv fun v hv => Exists.elim hv.2 fun i hqe => ?_) fun hn => ?_
                        · rw [hqe] at hq1
                          refine ⟨_, hq1, ?_⟩
                          conv => whnf
                          refine rdw ?_; repeat' ((with_reducible apply tw) <;> intro _)
                          · exact outM_no d
                          · rename_i hve
                            refine ⟨m + 1, rfl, rfl, ⟨by omega, fun hr y hy => ?_⟩, by omega⟩
                            rw [take_snoc hx] at hy
                            rcases List.mem_append.1 hy with hy | hy
                            · exact hall hr y hy
                            · simp at hy
                              obtain ⟨c', k1, k2, k3⟩ := seen_some hv.1
                              exact ⟨c', k1, by rw [k2, hy], by rw [k3]; exact hve⟩
                        · rw [hn.2] at hq1
                          refine ⟨_, hq1, ?_⟩
                          conv => whnf
                          refine rdw ?_; repeat' ((with_reducible apply tw) <;> intro _)
                          · exact outM_no d
                          · rename_i hve
                            exfalso
                            omega
                      · rename_i hrl
                        exact ⟨m + 1, rfl, rfl, ⟨by omega, fun hr => absurd hr hrl⟩, by omega⟩
                    · rename_i hml
                      rw [List.take_of_length_le (by omega)] at hall
                      refine Exists.elim (mapP_new (v := c.round) hfr) fun q hq => ?_
                      refine ⟨q, hq.1, ?_⟩
                      have hnew : mputAt (mapP (seenP (d.certs.take j))) q (.one (.int .i64 c.digest)) (.v (.one (.int .i64 c.round))) = mapP (seenP (d.certs.take (j + 1))) := by
                        rw [hq.2, List.take_add_one, hc]; simp [seenP]
                      rw [hnew]
                      conv => whnf
                      refine rdw ?_; repeat' ((with_reducible apply tw) <;> intro _)
                      exact ⟨j + 1, rfl, rfl, ⟨by omega, hinv.next hc hok hab hall h4 (seen_none hfr)⟩, by omega⟩
          · rw [@decide_eq_false _ (Classical.propDecidable _) hok]
            conv => whnf
            refine rdw ?_; repeat' ((with_reducible apply tw) <;> intro _)
            exact outM_no d
        · rename_i hjl
          have : j = d.certs.length := by omega
          subst this
          exact ⟨⟨_, rfl, fun _ => hinv.valid hn ⟨by omega, by omega⟩ (by omega)⟩, rfl⟩
theorem dagMay_full (d : Dag) (h : d.ok) : ACalls Tryz.prog 75 [d.av] [] (fun av L => av = .d (.bool (isV d)) ∧ L = []) := by
  by_cases hv : Valid d
  · rw [isV_yes hv]; exact dagMay_ok d hv
  · rw [isV_no hv]
    refine (dagMay_any d h).mono ?_
    rintro _ _ ⟨⟨b, rfl, hb⟩, rfl⟩
    cases b with
    | true => exact absurd (hb rfl) hv
    | false => exact ⟨rfl, rfl⟩
end Go.Proofs.YtdlfmgcmfoehdaaGreat
