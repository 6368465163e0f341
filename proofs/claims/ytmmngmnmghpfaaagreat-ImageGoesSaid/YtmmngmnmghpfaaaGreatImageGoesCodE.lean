/- ImageGoes: contracts. -/
import Derived.Test.YtmmngmnmghpfaaaGreatImageGoesCodD
set_option linter.unusedVariables false
set_option linter.unusedSimpArgs false
namespace Go.Proofs.YtmmngmnmghpfaaaGreat
open Go.Ab Go.RowKit
theorem putL_okay {d : Dag} (hw : d.well) {w : Wk} {l : List Int} (h : Chain d w l) (hok : w.okay d) : (w.putL d l).okay d := by
  have : ∀ j, j ≤ l.length → goInI d [] w l false (w.putL d (l.take j)) j := by
    intro j
    induction j with
    | zero =>
      intro _
      exact goInI.start hw h hok (done0 := []) (b := false) (by intro h; cases h)
    | succ j ih =>
      intro hj
      obtain ⟨x, i, c, h1, h2, h3, h4⟩ := h.at hw (show j < l.length by omega)
      have h5 := goInI.step hw h (ih (by omega)) (by omega) h1 h2 h3 h4
      have e := h5.is
      rw [e] at h5
      exact h5
  have := (this l.length (Nat.le_refl _)).okay
  rwa [List.take_length] at this
theorem goF_okay {d : Dag} (h : Valid d) : ∀ (n : Nat) (w : Wk), w.okay d → 0 ≤ w.c.round → w.c.round % 2 = 0 → (Wk.goF d n w).okay d ∧ 0 ≤ (Wk.goF d n w).c.round ∧ (Wk.goF d n w).c.round % 2 = 0 ∧ (Wk.goF d n w).c.round ≤ max w.c.round (topR d.certs) := by
  intro n
  induction n with
  | zero => intro w h1 h2 h3; exact ⟨h1, h2, h3, by show w.c.round ≤ _; omega⟩
  | succ n ih =>
    intro w h1 h2 h3
    rw [Wk.goF]
    split
    · rename_i hp
      have hsp := nextC_spec h.well h2 h3 hp
      have hall := backI_all h.well hsp.1 hsp.2.2.2.2.1
      have hr : (w.putL d (backI d w.c.round (nextC d w.c.round))).c.round = nextC d w.c.round := putL_round h hsp.2.2.2.2.1 hall.2.2
      obtain ⟨i1, i2, i3, i4⟩ := ih _ (putL_okay h.well ⟨hall.1, hall.2.1, hall.2.2⟩ h1) (by rw [hr]; omega) (by rw [hr]; exact hsp.2.2.2.1)
      exact ⟨i1, i2, i3, by rw [hr] at i4; omega⟩
    · exact ⟨h1, h2, h3, by omega⟩
theorem sub_fin {A D : Dag} (h : Sub A D) {c : Cursor} (hc : inDag A ⟨c, []⟩) (h0 : 0 ≤ c.round) (h2 : c.round % 2 = 0) : run D (finW A c) = finW D c ∧ inDag A (finW A c) := sub_run h _ _ hc h0 h2
def Wk.pre (o : List Int) (w : Wk) : Wk := ⟨w.c, o ++ w.outs⟩
theorem putA_pre (d : Dag) (o : List Int) (w : Wk) (a : Int) : (w.pre o).putA d a = (w.putA d a).pre o := by
  unfold Wk.putA
  split
  · split
    · unfold Wk.put Wk.pre
      simp
    · rfl
  · rfl
theorem putL_pre (d : Dag) (o : List Int) : ∀ (l : List Int) (w : Wk), (w.pre o).putL d l = (w.putL d l).pre o
  | [], w => rfl
  | a :: l, w => by
    show ((w.pre o).putA d a).putL d l = ((w.putA d a).putL d l).pre o
    rw [putA_pre, putL_pre d o l]
theorem goF_pre (d : Dag) (o : List Int) : ∀ (n : Nat) (w : Wk), Wk.goF d n (w.pre o) = (Wk.goF d n w).pre o
  | 0, w => rfl
  | n + 1, w => by
    rw [Wk.goF, Wk.goF]
    show (if nextC d w.c.round > 0 then _ else _) = _
    split
    · show Wk.goF d n ((w.pre o).putL d (backI d w.c.round (nextC d w.c.round))) = _
      rw [putL_pre, goF_pre d o n]
    · rfl
theorem fin_on {A D : Dag} (h : Sub A D) {c : Cursor} (hc : inDag A ⟨c, []⟩) (h0 : 0 ≤ c.round) (h2 : c.round % 2 = 0) : (finW D (finW A c).c).c = (finW D c).c ∧ (finW D c).outs = (finW A c).outs ++ (finW D (finW A c).c).outs := by
  have h1 := (sub_fin h hc h0 h2).1
  have h3 : finW A c = (Wk.mk (finW A c).c []).pre (finW A c).outs := by unfold Wk.pre; rw [List.append_nil]
  have h4 : finW D c = (finW D (finW A c).c).pre (finW A c).outs := by
    rw [← h1]
    have := goF_pre D (finW A c).outs (topR D.certs).toNat (Wk.mk (finW A c).c [])
    rw [← h3] at this
    exact this
  exact ⟨by rw [h4]; rfl, by rw [h4]; rfl⟩
theorem Sub.refl {d : Dag} (h : Valid d) (h0 : d.low = 0) : Sub d d := ⟨h, h, h0, h0, rfl, List.Sublist.refl _⟩
end Go.Proofs.YtmmngmnmghpfaaaGreat
namespace Go.Proofs.YtmmngmnmghpfaaaGreat
open Go.Ab Go.RowKit Go.MapKept
attribute [local irreducible] ACalls AW ADraw Into fltB fnear
set_option maxRecDepth 100000
theorem take_snoc' {α : Type} {l : List α} {j : Nat} {c : α} (hc : l[j]? = some c) : l.take (j + 1) = l.take j ++ [c] := by rw [List.take_add_one, hc]; rfl
def mayS (d : Dag) (j : Nat) : AF × List AB :=
  ([(1, .ptr 0 0), (3, .map 1), (30, .d (.sl 6 (certsD d.certs))), (31, .d (.int .i64 d.certs.length)), (32, .d (.int .i64 j))], [.cells d.cells, .map (mapP (seenP (d.certs.take j)))])
def mayI (d : Dag) (j : Nat) (c : Cert) (m : Nat) : AF × List AB :=
  ([(1, .ptr 0 0), (3, .map 1), (5, .ptr 2 0), (30, .d (.sl 6 (certsD d.certs))), (31, .d (.int .i64 d.certs.length)), (32, .d (.int .i64 j)), (76, .d (.sl 1 (nums c.pars))), (77, .d (.int .i64 c.pars.length)), (78, .d (.int .i64 m))], [.cells d.cells, .map (mapP (seenP (d.certs.take j))), .cells c.cells])
set_option maxHeartbeats 2000000 in
theorem dagMay_ok (d : Dag) (h : Valid d) : ACalls Tryz.prog 49 [d.av] [] (fun av L => av = .d (.bool true) ∧ L = []) := by
  have hcl := certsD_length d.certs
  have hn := of_decide_eq_true h.nodes
  have hlow := h.low
  have hlen := h.len
  have hwell := h.well
  (refine acalls_go ttOk zOk foOk Tryz.func49 rfl Tryz.ntmps49 rfl false rfl ?_); (conv => whnf)
  refine (is_ok d.nodes).mono ?_
  rintro _ _ ⟨rfl, rfl⟩
  rw [h.nodes]
  conv => whnf
  refine rdw ?_; repeat' ((with_reducible apply tw) <;> intro _)
  · rename_i h1; omega
  · rename_i h1 h2; omega
  · rename_i h1 h2 h3; omega
  · skip
    refine loop_go ttOk zOk foOk (σ := Nat) (mayS d) (fun j => j ≤ d.certs.length) (fun j => d.certs.length - j) [1, 3, 30, 31, 32] ?_ ?_
    · conv => whnf
      exact ⟨0, by rw [hcl]; rfl, rfl, Nat.zero_le _⟩
    · intro j hj
      conv => whnf
      refine rdw ?_; repeat' ((with_reducible apply tw) <;> intro _)
      · rename_i hjl
        have hjn : j < d.certs.length := Int.ofNat_lt.1 hjl
        refine Exists.elim (⟨_, List.getElem?_eq_getElem hjn⟩ : ∃ c, d.certs[j]? = some c) fun c hc => ?_
        have hcm := List.mem_of_getElem? hc
        have hok := h.certs c hcm
        have hfl := h.fewL hcm
        have hab := h.above c hcm
        have hft := hwell.fit.fit c hcm
        have hrb := hok.head.round
        have hpl := nums_length c.pars
        refine ⟨by omega, c.cs, certsD_at hc, ?_⟩
        conv => whnf
        refine rdw ?_; repeat' ((with_reducible apply tw) <;> intro _)
        ((with_reducible refine draw_pl ttOk zOk foOk mixedOk pl49x7 ?_ ?_); (focus kernel_rfl); (conv => whnf))
        refine rdw ?_; repeat' ((with_reducible apply tw) <;> intro _)
        refine (mayCert_ok c hfl d.nodes).mono ?_
        rintro _ _ ⟨rfl, rfl⟩
        rw [@decide_eq_true _ (Classical.propDecidable _) hok]
        conv => whnf
        refine rdw ?_; repeat' ((with_reducible apply tw) <;> intro _)
        · rename_i h1; exact absurd hab (by omega)
        · rename_i h1
          obtain ⟨q, hq, hq2⟩ := mapP_find c.digest (seenP (d.certs.take j)) 0
          have hqn : q = none := by
            rcases hq2 with ⟨v, i, hv, _⟩ | ⟨_, hv⟩
            · rw [h.fresh hc] at hv; cases hv
            · exact hv
          subst hqn
          ((with_reducible apply rd_intro); (focus (intro K hK; (conv => whnf); exact ⟨none, hq, hK⟩)); (conv => whnf))
          refine rdw ?_; repeat' ((with_reducible apply tw) <;> intro _)
          · rename_i hj0
            refine Exists.elim (⟨_, List.getElem?_eq_getElem (show j - 1 < d.certs.length by omega)⟩ : ∃ c, d.certs[j - 1]? = some c) fun c0 hc0 => ?_
            have hft0 := hwell.fit.fit c0 (List.mem_of_getElem? hc0)
            have hbef : c0.before c.round c.author = true := by
              have := List.pairwise_iff_getElem.1 h.sorted (j - 1) j (by omega) hjn (by omega)
              rw [List.getElem?_eq_getElem hjn] at hc
              rw [List.getElem?_eq_getElem (by omega)] at hc0
              rw [← Option.some.inj hc, ← Option.some.inj hc0]
              exact this
            have hls : decide (c0.round < c.round ∨ c0.round = c.round ∧ c0.author < c.author) = true := hbef
            ((with_reducible apply rd_intro); (focus (intro K hK; (conv => whnf); exact ⟨by omega, c0.cs, (by rw [show ((j : Int) - 1).toNat = j - 1 by omega]; exact certsD_at hc0), hK⟩)); (conv => whnf))
            refine rdw ?_; repeat' ((with_reducible apply tw) <;> intro _)
            refine (dagPlace_ok c0).mono ?_
            rintro _ _ ⟨rfl, rfl⟩
            conv => whnf
            refine rdw ?_; repeat' ((with_reducible apply tw) <;> intro _)
            refine (dagPlace_ok c).mono ?_
            rintro _ _ ⟨rfl, rfl⟩
            conv => whnf
            refine rdw ?_; repeat' ((with_reducible apply tw) <;> intro _)
            refine (placeLess_ok hft0.1 hft0.2 hft.1 hft.2).mono ?_
            rintro _ _ ⟨rfl, rfl⟩
            rw [hls]
            conv => whnf
            refine rdw ?_; repeat' ((with_reducible apply tw) <;> intro _)
            refine loop_go ttOk zOk foOk (σ := Nat) (mayI d j c) (fun m => m ≤ c.pars.length) (fun m => c.pars.length - m) [1, 3, 5, 30, 31, 32, 76, 77, 78] ?_ ?_
            · conv => whnf
              exact ⟨0, by rw [hpl]; rfl, rfl, Nat.zero_le _⟩
            · intro m hm
              conv => whnf
              refine rdw ?_; repeat' ((with_reducible apply tw) <;> intro _)
              · rename_i hml
                have hmn : m < c.pars.length := Int.ofNat_lt.1 hml
                have hpf := hfl.pars
                unfold few at hpf
                refine Exists.elim (⟨_, List.getElem?_eq_getElem hmn⟩ : ∃ x, c.pars[m]? = some x) fun x hx => ?_
                refine ⟨by omega, [.int .i64 x], nums_at hx, ?_⟩
                conv => whnf
                refine rdw ?_; repeat' ((with_reducible apply tw) <;> intro _)
                · rename_i hrl
                  have hpa := h.parent hc (by omega) (List.mem_of_getElem? hx)
                  refine Exists.elim (mapP_find x (seenP (d.certs.take j)) 0) fun q hq => ?_
                  have hqs : ∃ i, q = some (i, .v (.one (.int .i64 (c.round - 1)))) := by
                    rcases hq.2 with ⟨v, i, hv, e⟩ | ⟨hv, _⟩
                    · rw [hpa] at hv; cases hv; exact ⟨i, e⟩
                    · rw [hpa] at hv; cases hv
                  refine Exists.elim hqs fun i hqe => ?_
                  have hq1 := hq.1
                  rw [hqe] at hq1
                  refine ⟨_, hq1, ?_⟩
                  conv => whnf
                  refine rdw ?_; repeat' ((with_reducible apply tw) <;> intro _)
                  · rename_i hne
                    exfalso
                    revert hne
                    simp
                  · exact ⟨m + 1, rfl, rfl, by omega, by omega⟩
                · exact ⟨m + 1, rfl, rfl, by omega, by omega⟩
              · rename_i hml
                refine Exists.elim (mapP_new (v := c.round) (h.fresh hc)) fun q hq => ?_
                refine ⟨q, hq.1, ?_⟩
                have hnew : mputAt (mapP (seenP (d.certs.take j))) q (.one (.int .i64 c.digest)) (.v (.one (.int .i64 c.round))) = mapP (seenP (d.certs.take (j + 1))) := by
                  rw [hq.2, List.take_add_one, hc]; simp [seenP]
                rw [hnew]
                conv => whnf
                refine rdw ?_; repeat' ((with_reducible apply tw) <;> intro _)
                exact ⟨j + 1, rfl, rfl, by omega, by omega⟩
          · rename_i hj0
            refine loop_go ttOk zOk foOk (σ := Nat) (mayI d j c) (fun m => m ≤ c.pars.length) (fun m => c.pars.length - m) [1, 3, 5, 30, 31, 32, 76, 77, 78] ?_ ?_
            · conv => whnf
              exact ⟨0, by rw [hpl]; rfl, rfl, Nat.zero_le _⟩
            · intro m hm
              conv => whnf
              refine rdw ?_; repeat' ((with_reducible apply tw) <;> intro _)
              · rename_i hml
                have hmn : m < c.pars.length := Int.ofNat_lt.1 hml
                have hpf := hfl.pars
                unfold few at hpf
                refine Exists.elim (⟨_, List.getElem?_eq_getElem hmn⟩ : ∃ x, c.pars[m]? = some x) fun x hx => ?_
                refine ⟨by omega, [.int .i64 x], nums_at hx, ?_⟩
                conv => whnf
                refine rdw ?_; repeat' ((with_reducible apply tw) <;> intro _)
                · rename_i hrl
                  have hpa := h.parent hc (by omega) (List.mem_of_getElem? hx)
                  refine Exists.elim (mapP_find x (seenP (d.certs.take j)) 0) fun q hq => ?_
                  have hqs : ∃ i, q = some (i, .v (.one (.int .i64 (c.round - 1)))) := by
                    rcases hq.2 with ⟨v, i, hv, e⟩ | ⟨hv, _⟩
                    · rw [hpa] at hv; cases hv; exact ⟨i, e⟩
                    · rw [hpa] at hv; cases hv
                  refine Exists.elim hqs fun i hqe => ?_
                  have hq1 := hq.1
                  rw [hqe] at hq1
                  refine ⟨_, hq1, ?_⟩
                  conv => whnf
                  refine rdw ?_; repeat' ((with_reducible apply tw) <;> intro _)
                  · rename_i hne
                    exfalso
                    revert hne
                    simp
                  · exact ⟨m + 1, rfl, rfl, by omega, by omega⟩
                · exact ⟨m + 1, rfl, rfl, by omega, by omega⟩
              · rename_i hml
                refine Exists.elim (mapP_new (v := c.round) (h.fresh hc)) fun q hq => ?_
                refine ⟨q, hq.1, ?_⟩
                have hnew : mputAt (mapP (seenP (d.certs.take j))) q (.one (.int .i64 c.digest)) (.v (.one (.int .i64 c.round))) = mapP (seenP (d.certs.take (j + 1))) := by
                  rw [hq.2, List.take_add_one, hc]; simp [seenP]
                rw [hnew]
                conv => whnf
                refine rdw ?_; repeat' ((with_reducible apply tw) <;> intro _)
                exact ⟨j + 1, rfl, rfl, by omega, by omega⟩
      · exact ⟨rfl, rfl⟩
end Go.Proofs.YtmmngmnmghpfaaaGreat
namespace Go.Ab
noncomputable section
open Go.RowKit
def deepK (x : AV) (L : List AB) (K : AV → List AB → Prop) : Prop :=
  match x with
  | .agg xs => argsK xs L fun ys L' => K (.agg ys) L'
  | x => argK x L K
noncomputable def deepsK (xs : List AV) : List AB → (List AV → List AB → Prop) → Prop :=
  List.rec (motive := fun _ => List AB → (List AV → List AB → Prop) → Prop) (fun L K => K [] L) (fun x _ ih L K => deepK x L fun y L1 => ih L1 fun l L2 => K (y :: l) L2) xs
theorem argsS_ok {c : Ctx} (hc : c.wf) {E : Nat → Option Nat} {w : World} : ∀ {xs : List AV} {L : List AB} {K : List AV → List AB → Prop} {us : List Value}, SimH c E L w → argsK xs L K → VRs (rcOf c.M0 E L w) xs us →
    ∃ ys L', K ys L' ∧ SimH c E L' w ∧ (rcOf c.M0 E L w).le (rcOf c.M0 E L' w) ∧ VRs (rcOf c.M0 E L' w) ys us
  | [], L, K, us, hs, h, hv => ⟨[], L, h, hs, .refl _, by simpa [VRs] using hv⟩
  | x :: xs, L, K, us, hs, h, hv => by
    simp only [VRs] at hv
    obtain ⟨u, us', rfl, h0, h1, h2⟩ := hv
    obtain ⟨y, L1, k1, k2, k3, k4⟩ := argK_ok hc hs (show argK x L fun y L1 => argsK xs L1 fun l L2 => K (y :: l) L2 from h) h1
    obtain ⟨ys, L2, m1, m2, m3, m4⟩ := argsS_ok hc (xs := xs) k2 k1 (VRs.mono k3 _ _ h2)
    exact ⟨y :: ys, L2, m1, m2, k3.trans m3, by simp only [VRs]; exact ⟨u, us', rfl, h0, VR.mono m3 _ _ k4, m4⟩⟩
theorem deepK_ok {c : Ctx} (hc : c.wf) {E : Nat → Option Nat} {L : List AB} {w : World} (hs : SimH c E L w) {x : AV} {K : AV → List AB → Prop} (h : deepK x L K) {v : Value} (hv : VR (rcOf c.M0 E L w) x v) :
    ∃ y L', K y L' ∧ SimH c E L' w ∧ (rcOf c.M0 E L w).le (rcOf c.M0 E L' w) ∧ VR (rcOf c.M0 E L' w) y v := by
  unfold deepK at h
  split at h
  · rename_i xs
    simp only [VR] at hv
    obtain ⟨us, rfl, hv⟩ := hv
    obtain ⟨ys, L', h1, h2, h3, h4⟩ := argsS_ok hc hs h hv
    exact ⟨_, L', h1, h2, h3, by simp only [VR]; exact ⟨us, rfl, h4⟩⟩
  · exact argK_ok hc hs h hv
theorem deepsK_ok {c : Ctx} (hc : c.wf) {E : Nat → Option Nat} {w : World} : ∀ {xs : List AV} {L : List AB} {K : List AV → List AB → Prop} {us : List Value}, SimH c E L w → deepsK xs L K → VRt (rcOf c.M0 E L w) xs us →
    ∃ ys L', K ys L' ∧ SimH c E L' w ∧ (rcOf c.M0 E L w).le (rcOf c.M0 E L' w) ∧ VRt (rcOf c.M0 E L' w) ys us
  | [], L, K, us, hs, h, hv => ⟨[], L, h, hs, .refl _, by simpa [VRt] using hv⟩
  | x :: xs, L, K, us, hs, h, hv => by
    simp only [VRt] at hv
    obtain ⟨u, us', rfl, h1, h2⟩ := hv
    obtain ⟨y, L1, k1, k2, k3, k4⟩ := deepK_ok hc hs (show deepK x L fun y L1 => deepsK xs L1 fun l L2 => K (y :: l) L2 from h) h1
    obtain ⟨ys, L2, m1, m2, m3, m4⟩ := deepsK_ok hc (xs := xs) k2 k1 (VRt.mono k3 _ _ h2)
    exact ⟨y :: ys, L2, m1, m2, k3.trans m3, by simp only [VRt]; exact ⟨u, us', rfl, VR.mono m3 _ _ k4, m4⟩⟩
theorem acalls_deep {P : Program} {f : FuncId} {avs : List AV} {L : List AB} {post : AV → List AB → Prop} (h : deepsK avs L fun avs1 L1 => callRawK P f avs1 L1 post) : ACalls P f avs L post := by
  intro c vs hc hL hs hv
  subst hL
  obtain ⟨avs1, L1, h1, h2, h3, h4⟩ := deepsK_ok hc hs h hv
  refine (callRawK_ok hc h2 h1 h4).mono ?_
  rintro e w' ⟨v, av, E', L', k1, k2, k3, k4, k5⟩
  exact ⟨v, av, L', E', k1, k2, k3, k5⟩
def dataK (x : AV) (L : List AB) (K : AV → List AB → Prop) : Prop :=
  match x with
  | .tup xs => deepsK xs L fun ys L' => K (.tup ys) L'
  | x => deepK x L K
theorem dataK_ok {c : Ctx} (hc : c.wf) {E : Nat → Option Nat} {L : List AB} {w : World} (hs : SimH c E L w) {x : AV} {K : AV → List AB → Prop} (h : dataK x L K) {v : Value} (hv : VR (rcOf c.M0 E L w) x v) :
    ∃ y L', K y L' ∧ SimH c E L' w ∧ (rcOf c.M0 E L w).le (rcOf c.M0 E L' w) ∧ VR (rcOf c.M0 E L' w) y v := by
  unfold dataK at h
  split at h
  · rename_i xs
    simp only [VR] at hv
    obtain ⟨us, rfl, hv⟩ := hv
    obtain ⟨ys, L', h1, h2, h3, h4⟩ := deepsK_ok hc hs h hv
    exact ⟨_, L', h1, h2, h3, by simp only [VR]; exact ⟨us, rfl, h4⟩⟩
  · exact deepK_ok hc hs h hv
theorem acalls_data {P : Program} {f : FuncId} {avs : List AV} {Lin : List AB} {post post' : AV → List AB → Prop} (h : ACalls P f avs Lin post) (hp : ∀ av L, post av L → dataK av L fun av' L' => finK Lin.length av' L' post') : ACalls P f avs Lin post' := by
  intro c vs hc hL hs hv
  refine (h c vs hc hL hs hv).mono ?_
  rintro e w' ⟨v, av, L', E', rfl, k2, k3, k4⟩
  obtain ⟨y, L2, h1, h2, h3, h4⟩ := dataK_ok hc k3 (hp _ _ k2) k4
  obtain ⟨E3, av3, L3, m1, m2, m3⟩ := finK_ok h1 (by rw [hL]) h2 h4
  exact ⟨v, av3, L3, E3, rfl, m1, m2, m3⟩
end
end Go.Ab
namespace Go.Proofs.YtmmngmnmghpfaaaGreat
open Go.Ab Go.RowKit Go.MapKept
attribute [local irreducible] ACalls AW ADraw Into fltB fnear
set_option maxRecDepth 100000
def c0 : Cursor := ⟨0, [], 0⟩
theorem c0_may : curMay c0 := by
  exact ⟨by decide, ⟨List.Pairwise.nil, by simp [c0]⟩, by decide⟩
theorem Valid.tiny {d : Dag} (h : Valid d) : Go.Proofs.YtmmngmnmghpfaaaGreat.tiny d.certs ∧ ∀ c ∈ d.certs, c.tiny := by
  have hn := of_decide_eq_true h.nodes
  refine ⟨by have := h.len; unfold Go.Proofs.YtmmngmnmghpfaaaGreat.tiny; omega, fun c hc => ?_⟩
  have h1 := h.certs c hc
  refine ⟨?_, ?_, ?_⟩
  · have := h1.head.bats.1; unfold Go.Proofs.YtmmngmnmghpfaaaGreat.tiny; omega
  · have := h1.head.pars.1; unfold Go.Proofs.YtmmngmnmghpfaaaGreat.tiny; omega
  · have := rise_len2 (show riseB c.sigs 1 65536 from ⟨h1.sigs.1, fun x hx => by have := h1.sigs.2 x hx; omega⟩)
    unfold Go.Proofs.YtmmngmnmghpfaaaGreat.tiny; omega
theorem Valid.part {d : Dag} (h : Valid d) (h0 : d.low = 0) (n : Nat) : Valid ⟨d.nodes, 0, d.certs.take n⟩ := by
  have hm : ∀ c ∈ d.certs.take n, c ∈ d.certs := fun c hc => List.mem_of_mem_take hc
  refine ⟨h.nodes, by show (0 : Int) ≤ 0 ∧ (0 : Int) ≤ 1099511627776; decide, by show (d.certs.take n).length ≤ 65536; have := h.len; have := List.length_take_le' n d.certs; omega, fun c hc => h.certs c (hm c hc), fun c hc => by have := h.above c (hm c hc); rw [h0] at this; exact this, h.sorted.sublist (List.take_sublist ..), h.dig.sublist ((List.take_sublist ..).map _), ?_⟩
  intro c hc hr x hx
  obtain ⟨c', h1, h2, h3⟩ := h.here c (hm c hc) (by rw [h0]; exact hr) x hx
  refine ⟨c', ?_, h2, h3⟩
  obtain ⟨i, hi, rfl⟩ := List.mem_take_iff_getElem.1 hc
  obtain ⟨k, hk⟩ := List.getElem?_of_mem h1
  obtain ⟨hkl, rfl⟩ := List.getElem?_eq_some_iff.1 hk
  refine List.mem_take_iff_getElem.2 ⟨k, ?_, rfl⟩
  rcases Nat.lt_trichotomy k i with h4 | h4 | h4
  · omega
  · subst h4; omega
  · have := List.pairwise_iff_getElem.1 h.sorted i k (by omega) hkl h4
    have := before_iff.1 this
    omega
theorem c0_in (A : Dag) : inDag A ⟨c0, []⟩ := by intro x hx; cases hx
theorem Dag.eta {d : Dag} {l : Int} (h : d.low = l) : d = ⟨d.nodes, l, d.certs⟩ := by cases d; cases h; rfl
theorem goF_up {d : Dag} (h : Valid d) : ∀ (n : Nat) (w : Wk), 0 ≤ w.c.round → w.c.round % 2 = 0 → w.c.round ≤ (Wk.goF d n w).c.round
  | 0, w, _, _ => Int.le_refl _
  | n + 1, w, h2, h3 => by
    rw [Wk.goF]
    split
    · rename_i hp
      have hsp := nextC_spec h.well h2 h3 hp
      have hall := backI_all h.well hsp.1 hsp.2.2.2.2.1
      have hr : (w.putL d (backI d w.c.round (nextC d w.c.round))).c.round = nextC d w.c.round := putL_round h hsp.2.2.2.2.1 hall.2.2
      have := goF_up h n (w.putL d (backI d w.c.round (nextC d w.c.round))) (by rw [hr]; omega) (by rw [hr]; exact hsp.2.2.2.1)
      rw [hr] at this
      omega
    · exact Int.le_refl _
theorem putA_count {d : Dag} {w : Wk} (hw : w.c.count = w.outs.length) (a : Int) (hl : (w.putA d a).outs.length ≤ 1099511627776) : (w.putA d a).c.count = (w.putA d a).outs.length := by
  unfold Wk.putA at hl ⊢
  split at hl
  · split at hl
    · rename_i i _ _ c _
      have e : (w.put d i c).outs.length = w.outs.length + (behindI d i c.round w.c.done).length := List.length_append ..
      rw [e] at hl
      show min (w.c.count + ((behindI d i c.round w.c.done).length : Int)) 1099511627776 = ((w.put d i c).outs.length : Int)
      rw [e]
      omega
    · exact hw
  · exact hw
theorem putL_count {d : Dag} : ∀ (l : List Int) (w : Wk), w.c.count = w.outs.length → (w.putL d l).outs.length ≤ 1099511627776 → (w.putL d l).c.count = (w.putL d l).outs.length
  | [], w, h, _ => h
  | a :: l, w, h, hl => by
    have h1 := (putL_outs d l (w.putA d a)).length_le
    have h2 : ((w.putA d a).putL d l).outs.length ≤ 1099511627776 := hl
    exact putL_count l (w.putA d a) (putA_count h a (by omega)) h2
theorem goF_count {d : Dag} : ∀ (n : Nat) (w : Wk), w.c.count = w.outs.length → (Wk.goF d n w).outs.length ≤ 1099511627776 → (Wk.goF d n w).c.count = (Wk.goF d n w).outs.length
  | 0, w, h, _ => h
  | n + 1, w, h, hl => by
    rw [Wk.goF] at hl ⊢
    split at hl
    · rename_i hp
      rw [if_pos hp]
      have h1 := (goF_outs d n (w.putL d (backI d w.c.round (nextC d w.c.round)))).length_le
      exact goF_count n _ (putL_count _ w h (by omega)) hl
    · rename_i hp
      rw [if_neg hp]; exact h
theorem fin_count {d : Dag} (h : Valid d) : (finW d c0).c.count = (finW d c0).outs.length := by
  have h1 := (goF_okay h (topR d.certs).toNat ⟨c0, []⟩ (start_okay c0_may) (by decide) (by decide)).1.outs' h.well
  exact goF_count _ ⟨c0, []⟩ rfl (by omega)
theorem fin_len {d : Dag} (h : Valid d) : (finW d c0).outs.length ≤ 4294967296 := (goF_okay h (topR d.certs).toNat ⟨c0, []⟩ (start_okay c0_may) (by decide) (by decide)).1.outs' h.well
theorem goF_in {d : Dag} (h : Valid d) (h0 : d.low = 0) (n : Nat) (w : Wk) (hw : inDag d w) (h2 : 0 ≤ w.c.round) (h3 : w.c.round % 2 = 0) : inDag d (Wk.goF d n w) := (sub_run (Sub.refl h h0) n w hw h2 h3).2
theorem fin_may {d : Dag} (h : Valid d) (h0 : d.low = 0) : curMay (finW d c0).c := by
  obtain ⟨h1, h2, h3, h4⟩ := goF_okay h (topR d.certs).toNat ⟨c0, []⟩ (start_okay c0_may) (by decide) (by decide)
  have h5 := goF_in h h0 (topR d.certs).toNat ⟨c0, []⟩ (c0_in d) (by decide) (by decide)
  have h6 := fin_count h
  have h7 := h1.outs' h.well
  have htop := h.well.top
  refine ⟨⟨h2, ?_, h3⟩, ⟨h1.fine.rising, fun x hx => ?_⟩, ?_⟩
  · have h8 : (finW d c0).c.round ≤ max 0 (topR d.certs) := h4
    omega
  · obtain ⟨c, hc, rfl⟩ := List.mem_map.1 (h5 x hx)
    have := (h.certs c hc).digest
    omega
  · rw [h6]
    have h8 : (finW d c0).outs.length ≤ 4294967296 := h7
    omega
theorem any_ok (d : Dag) (h : Valid d) (h0 : d.low = 0) (c : Cursor) (dn : DV) (hdn : isDone dn c.done) (hc : curMay c) : ACalls Tryz.prog 25 [d.av, .agg [.d (.int .i64 c.round), .d dn, .d (.int .i64 c.count)]] [] (fun av L => av = (finW d c).res ∧ L = [.row 3 1 (nums (finW d c).c.done) false]) := by
  refine (step_ok d h.well (dagMay_ok d h) c dn hdn hc).mono ?_
  rintro av L (⟨h, _⟩ | ⟨_, rfl, rfl⟩)
  · exact absurd h.1 (by omega)
  · exact ⟨rfl, rfl⟩
def Wk.out (w : Wk) : AV := .tup [.agg [.d (.int .i64 w.c.round), .d (.sl 1 (nums w.c.done)), .d (.int .i64 w.c.count)], .d (.sl 1 (nums w.outs)), .d (.int .i64 0)]
theorem any_data (d : Dag) (h : Valid d) (h0 : d.low = 0) (c : Cursor) (dn : DV) (hdn : isDone dn c.done) (hc : curMay c) : ACalls Tryz.prog 25 [d.av, .agg [.d (.int .i64 c.round), .d dn, .d (.int .i64 c.count)]] [] (fun av L => av = (finW d c).out ∧ L = []) := by
  refine acalls_data (any_ok d h h0 c dn hdn hc) ?_
  rintro _ _ ⟨rfl, rfl⟩
  rw [Wk.res]
  conv => whnf
  exact ⟨rfl, rfl⟩
def pt (d : Dag) (n : Nat) : Dag := ⟨d.nodes, 0, d.certs.take n⟩
theorem pt_valid {d : Dag} (h : Valid d) (h0 : d.low = 0) (n : Nat) : Valid (pt d n) := h.part h0 n
theorem pt_all {d : Dag} (h0 : d.low = 0) {n : Nat} (hn : d.certs.length ≤ n) : pt d n = d := by
  unfold pt
  rw [List.take_of_length_le hn]
  exact (Dag.eta h0).symm
theorem pt_sub {d : Dag} (h : Valid d) (h0 : d.low = 0) {m n : Nat} (hmn : m ≤ n) : Sub (pt d m) (pt d n) := by
  refine ⟨pt_valid h h0 m, pt_valid h h0 n, rfl, rfl, rfl, ?_⟩
  show (d.certs.take m).Sublist (d.certs.take n)
  rw [show d.certs.take m = (d.certs.take n).take m by rw [List.take_take, Nat.min_eq_left hmn]]
  exact List.take_sublist ..
theorem fin_in {A : Dag} (h : Valid A) (h0 : A.low = 0) : inDag A ⟨(finW A c0).c, []⟩ := goF_in h h0 (topR A.certs).toNat ⟨c0, []⟩ (c0_in A) (by decide) (by decide)
theorem part_on {A D : Dag} (h : Sub A D) : (finW D (finW A c0).c).c = (finW D c0).c ∧ (finW D c0).outs = (finW A c0).outs ++ (finW D (finW A c0).c).outs ∧ (finW A c0).c.round ≤ (finW D c0).c.round := by
  obtain ⟨h1, h2⟩ := fin_on h (c0_in A) (show 0 ≤ c0.round by decide) (by decide)
  refine ⟨h1, h2, ?_⟩
  rw [← h1]
  have hm := fin_may h.va h.la
  exact goF_up h.vd (topR D.certs).toNat ⟨(finW A c0).c, []⟩ hm.round.1 hm.round.2.2
theorem eqCursor_ok (r q : Int) (xs ys : List Int) (a b : Int) (hm : few xs) : ACalls Tryz.prog 37 [.agg [.d (.int .i64 r), .d (.sl 1 (nums xs)), .d (.int .i64 a)], .agg [.d (.int .i64 q), .d (.sl 1 (nums ys)), .d (.int .i64 b)]] [] (fun av L => av = .d (.bool (decide (r = q ∧ xs = ys ∧ a = b))) ∧ L = []) := by
  (refine acalls_go ttOk zOk foOk Tryz.func37 rfl Tryz.ntmps37 rfl false rfl ?_); (conv => whnf)
  refine rdz ?_; repeat' ((with_reducible apply tw) <;> intro _)
  · rename_i h1
    refine (eqNumbers_ok xs ys hm).mono ?_
    rintro _ _ ⟨rfl, rfl⟩
    by_cases h2 : xs = ys
    · rw [decide_eq_true h2]
      conv => whnf
      refine rdz ?_; repeat' ((with_reducible apply tw) <;> intro _)
      exact ⟨by by_cases h3 : a = b <;> simp [h1, h2, h3], rfl⟩
    · rw [decide_eq_false h2]
      conv => whnf
      exact ⟨by rw [decide_eq_false (fun h => h2 h.2.1)]; rfl, rfl⟩
  · rename_i h1
    exact ⟨by rw [decide_eq_false (fun h => h1 h.1)]; rfl, rfl⟩
end Go.Proofs.YtmmngmnmghpfaaaGreat
