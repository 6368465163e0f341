/- Part of the proof of PrimaryWaits: the contracts of the functions. -/
import Derived.Test.YtdlfmgcmfoehdaaGreatPrimaryWaitsCodE

set_option linter.unusedVariables false
set_option linter.unusedSimpArgs false
namespace Go.Proofs.YtdlfmgcmfoehdaaGreat
open Go.Ab Go.RowKit Go.MapKept
attribute [local irreducible] ACalls AW ADraw Into fltB fnear
set_option maxRecDepth 100000
/-! ## again -/
def stepD (s : Dag × List Cert) (c : Cert) : Dag × List Cert := (putD s.1 c, if putE s.1 c = 7 then s.2 ++ [c] else s.2)
def passD (d : Dag) (l : List Cert) : Dag × List Cert := l.foldl stepD (d, [])
theorem passD_snoc {d : Dag} {l : List Cert} {j : Nat} {c : Cert} (hc : l[j]? = some c) : passD d (l.take (j + 1)) = stepD (passD d (l.take j)) c := by
  rw [List.take_add_one, hc]
  simp [passD, List.foldl_append]
theorem pass_len (d : Dag) (l : List Cert) : ∀ j, (passD d (l.take j)).2.length ≤ j
  | 0 => by simp [passD]
  | j + 1 => by
    have ih := pass_len d l j
    cases hc : l[j]? with
    | none =>
      have hl : l.length ≤ j := by simpa using hc
      rw [List.take_of_length_le (by omega)] at ih ⊢
      omega
    | some c =>
      rw [passD_snoc hc]
      unfold stepD
      simp only
      split
      · simp; omega
      · omega
def againF : Nat → Dag → List Cert → Dag × List Cert
  | 0, d, l => (d, l)
  | n + 1, d, l => if (passD d l).2.length < l.length then againF n (passD d l).1 (passD d l).2 else ((passD d l).1, l)
theorem againF_fuel : ∀ (m n : Nat) (d : Dag) (l : List Cert), l.length < m → l.length < n → againF m d l = againF n d l
  | 0, n, d, l, h1, h2 => by omega
  | m + 1, 0, d, l, h1, h2 => by omega
  | m + 1, n + 1, d, l, h1, h2 => by
    unfold againF
    split
    · exact againF_fuel m n _ _ (by omega) (by omega)
    · rfl
def againD (d : Dag) (l : List Cert) : Dag × List Cert := againF (l.length + 1) d l
/-- what a step's DAG and its certificates that lack parents keep -/
structure Fine (d : Dag) (l : List Cert) : Prop where
  valid : Valid d
  room : d.certs.length + l.length ≤ 60000
  late : ∀ c ∈ l, okCert d.nodes c ∧ c.tiny
theorem Valid.fit {d : Dag} (h : Valid d) : d.fit := h.well.fit
theorem putD_nodes (d : Dag) (c : Cert) : (putD d c).nodes = d.nodes := by unfold putD; split <;> rfl
theorem putD_low (d : Dag) (c : Cert) : (putD d c).low = d.low := by unfold putD; split <;> rfl
theorem putD_valid {d : Dag} (h : Valid d) {c : Cert} (hc : okCert d.nodes c) (hl : d.certs.length < 65536) : Valid (putD d c) := by
  unfold putD
  split
  · rename_i hp; exact insC_valid h hc hp hl
  · exact h
theorem putD_len (d : Dag) (c : Cert) : (putD d c).certs.length ≤ d.certs.length + 1 := by
  unfold putD
  split
  · rw [insC_len]; omega
  · omega
theorem pass_fine {d : Dag} {l : List Cert} (h : Fine d l) : ∀ j, j ≤ l.length → Valid (passD d (l.take j)).1 ∧ (passD d (l.take j)).1.nodes = d.nodes ∧ (passD d (l.take j)).1.low = d.low ∧ (passD d (l.take j)).1.certs.length + (passD d (l.take j)).2.length ≤ d.certs.length + j ∧ (∀ c ∈ (passD d (l.take j)).2, c ∈ l)
  | 0, _ => ⟨h.valid, rfl, rfl, Nat.le_refl _, by simp [passD]⟩
  | j + 1, hj => by
    obtain ⟨h1, h2, h3, h4, h5⟩ := pass_fine h j (by omega)
    have hr := h.room
    obtain ⟨c, hc⟩ : ∃ c, l[j]? = some c := ⟨_, List.getElem?_eq_getElem (by omega)⟩
    have hcl := List.mem_of_getElem? hc
    rw [passD_snoc hc]
    generalize passD d (l.take j) = s at h1 h2 h3 h4 h5 ⊢
    unfold stepD
    refine ⟨putD_valid h1 (by rw [h2]; exact (h.late c hcl).1) (by omega), by rw [putD_nodes, h2], by rw [putD_low, h3], ?_, ?_⟩
    · simp only
      split
      · rename_i hp
        have : putD s.1 c = s.1 := by unfold putD; rw [if_neg (by omega)]
        rw [this]; simp; omega
      · have := putD_len s.1 c
        omega
    · simp only
      split
      · intro x hx
        rcases List.mem_append.1 hx with hx | hx
        · exact h5 x hx
        · rw [List.mem_singleton.1 hx]; exact hcl
      · exact h5
def Prim.withDL (p : Prim) (s : Dag × List Cert) : Prim := { p with dag := s.1, late := s.2 }
def agSt (p : Prim) (out : List Msg) (d : Dag) (l : List Cert) (j : Nat) : AF × List AB := ([(0, .ptr 0 0), (11, .d (.sl 6 (certsD l))), (12, .d (.int .i64 l.length)), (13, .d (.int .i64 j)), (2, .arr 2)], (p.withDL ((passD d (l.take j)).1, l)).st out ++ [.row 41 6 (certsD (passD d (l.take j)).2) false])
set_option maxHeartbeats 4000000 in
theorem again_ok (p : Prim) (out : List Msg) (hf : Fine p.dag p.late) : ACalls Tryz.prog 125 [.ptr 0 0] (p.st out) (fun av L => av = .tup [] ∧ L = (p.withDL (againD p.dag p.late)).st out) := by
  refine acalls_go ttOk zOk foOk Tryz.func125 rfl Tryz.ntmps125 rfl false rfl ?_
  conv => whnf
  refine scope_go ttOk zOk foOk (σ := Dag × List Cert) (fun s => ([(0, .ptr 0 0)], (p.withDL s).st out)) (fun k s => k = 0 ∧ Fine s.1 s.2 ∧ againD s.1 s.2 = againD p.dag p.late) (fun _ s => s.2.length) ?_ ?_
  · rintro k rest hk ⟨d, l⟩ ⟨rfl, hfd, hag⟩
    have e := Option.some.inj (show some _ = some rest from hk)
    subst e
    clear hk
    replace hfd : Fine d l := hfd
    replace hag : againD d l = againD p.dag p.late := hag
    have hcl := certsD_length l
    conv => whnf
    repeat' (first | ((with_reducible apply rd_intro); (focus (intro K hK; (conv => whnf); first | exact hK | (intro z hz; rw [wrapI (by omega)] at hz; subst hz; exact hK))); (conv => whnf)) | ((with_reducible apply gd_and); (focus ((conv => whnf) <;> first | rfl | (intro K hK; (conv => whnf); first | exact hK | (intro z hz; rw [wrapI (by omega)] at hz; subst hz; exact hK)))); (conv => whnf)) | ((with_reducible apply z_wrap); (focus omega); (conv => whnf)) | ((with_reducible first | apply mt_dec | apply mt_eq | apply mt_ne | apply mt_not | apply mt_any) <;> (intro _; conv => whnf)))
    have hr := hfd.room
    refine loop_go ttOk zOk foOk (σ := Nat) (agSt p out d l) (fun j => j ≤ l.length) (fun j => l.length - j) [0, 11, 12, 13, 2] ?_ ?_
    · conv => whnf
      exact ⟨0, by rw [show (certsD (p.withDL (d, l)).late).length = l.length from hcl]; rfl, rfl, Nat.zero_le _⟩
    · intro j hj
      obtain ⟨k1, k2, k3, k4, k5⟩ := pass_fine hfd j hj
      have hpl := pass_len d l j
      have hl2 := certsD_length (passD d (l.take j)).2
      conv => whnf
      repeat' (first | ((with_reducible apply rd_intro); (focus (intro K hK; (conv => whnf); first | exact hK | (intro z hz; rw [wrapI (by omega)] at hz; subst hz; exact hK))); (conv => whnf)) | ((with_reducible apply gd_and); (focus ((conv => whnf) <;> first | rfl | (intro K hK; (conv => whnf); first | exact hK | (intro z hz; rw [wrapI (by omega)] at hz; subst hz; exact hK)))); (conv => whnf)) | ((with_reducible apply z_wrap); (focus omega); (conv => whnf)) | ((with_reducible first | apply mt_dec | apply mt_eq | apply mt_ne | apply mt_not | apply mt_any) <;> (intro _; conv => whnf)))
      · rename_i hjl
        refine Exists.elim (⟨_, List.getElem?_eq_getElem (by omega)⟩ : ∃ c, l[j]? = some c) fun c hc => ?_
        obtain ⟨hok, hct⟩ := hfd.late c (List.mem_of_getElem? hc)
        have hsn := passD_snoc (d := d) hc
        have hrd := hok.head.round
        have hau := hok.head.author
        have hnn := of_decide_eq_true hfd.valid.nodes
        have hput := put_dag (passD d (l.take j)).1 k1.fit (by omega) k1.low c hct ⟨by omega, by omega⟩ hrd.1 ⟨by omega, by omega⟩
        refine ⟨by omega, c.cs, certsD_at hc, ?_⟩
        conv => whnf
        repeat' (first | ((with_reducible apply rd_intro); (focus (intro K hK; (conv => whnf); first | exact hK | (intro z hz; rw [wrapI (by omega)] at hz; subst hz; exact hK))); (conv => whnf)) | ((with_reducible apply gd_and); (focus ((conv => whnf) <;> first | rfl | (intro K hK; (conv => whnf); first | exact hK | (intro z hz; rw [wrapI (by omega)] at hz; subst hz; exact hK)))); (conv => whnf)) | ((with_reducible apply z_wrap); (focus omega); (conv => whnf)) | ((with_reducible first | apply mt_dec | apply mt_eq | apply mt_ne | apply mt_not | apply mt_any) <;> (intro _; conv => whnf)))
        ((with_reducible refine draw_pl ttOk zOk foOk mixedOk pl125x5 ?_ ?_); (focus kernel_rfl); (conv => whnf))
        repeat' (first | ((with_reducible apply rd_intro); (focus (intro K hK; (conv => whnf); first | exact hK | (intro z hz; rw [wrapI (by omega)] at hz; subst hz; exact hK))); (conv => whnf)) | ((with_reducible apply gd_and); (focus ((conv => whnf) <;> first | rfl | (intro K hK; (conv => whnf); first | exact hK | (intro z hz; rw [wrapI (by omega)] at hz; subst hz; exact hK)))); (conv => whnf)) | ((with_reducible apply z_wrap); (focus omega); (conv => whnf)) | ((with_reducible first | apply mt_dec | apply mt_eq | apply mt_ne | apply mt_not | apply mt_any) <;> (intro _; conv => whnf)))
        ((with_reducible apply rd_intro); (focus (intro K hK; (conv => whnf); refine (hput).mono ?_; rintro _ _ ⟨rfl, rfl⟩; (conv => whnf); exact hK)); (conv => whnf))
        repeat' (first | (first | ((with_reducible apply rd_intro); (focus (intro K hK; (conv => whnf); first | exact hK | (intro z hz; rw [wrapI (by omega)] at hz; subst hz; exact hK))); (conv => whnf)) | ((with_reducible apply gd_and); (focus ((conv => whnf) <;> first | rfl | (intro K hK; (conv => whnf); first | exact hK | (intro z hz; rw [wrapI (by omega)] at hz; subst hz; exact hK)))); (conv => whnf)) | ((with_reducible apply z_wrap); (focus omega); (conv => whnf)) | ((with_reducible first | apply mt_dec | apply mt_eq | apply mt_ne | apply mt_not | apply mt_any) <;> (intro _; conv => whnf))) | ((with_reducible apply gd_and); (focus ((conv => whnf); intro K hK; (conv => whnf); refine (hput).mono ?_; rintro _ _ ⟨rfl, rfl⟩; (conv => whnf); exact hK)); (conv => whnf)))
        · rename_i h7
          refine ⟨by simp; omega, ?_⟩
          conv => whnf
          repeat' (first | ((with_reducible apply rd_intro); (focus (intro K hK; (conv => whnf); first | exact hK | (intro z hz; rw [wrapI (by omega)] at hz; subst hz; exact hK))); (conv => whnf)) | ((with_reducible apply gd_and); (focus ((conv => whnf) <;> first | rfl | (intro K hK; (conv => whnf); first | exact hK | (intro z hz; rw [wrapI (by omega)] at hz; subst hz; exact hK)))); (conv => whnf)) | ((with_reducible apply z_wrap); (focus omega); (conv => whnf)) | ((with_reducible first | apply mt_dec | apply mt_eq | apply mt_ne | apply mt_not | apply mt_any) <;> (intro _; conv => whnf)))
          refine ⟨j + 1, rfl, ?_, by omega, by omega⟩
          simp only [agSt]
          rw [hsn, stepD]
          simp only
          rw [if_pos h7, show certsD ((passD d (l.take j)).2 ++ [c]) = certsD (passD d (l.take j)).2 ++ [c.cs] by simp [certsD]]
          rfl
        · rename_i h7
          refine ⟨j + 1, rfl, ?_, by omega, by omega⟩
          simp only [agSt]
          rw [hsn, stepD]
          simp only
          rw [if_neg h7]
          rfl
      · rename_i hjl hlt
        have hjl2 : j = l.length := by omega
        subst hjl2
        rw [List.take_length] at k1 k2 k3 k4 k5 hpl hl2
        replace hlt : ((certsD (passD d (l.take l.length)).2).length : Int) < ((certsD l).length : Int) := hlt
        rw [List.take_length, hl2, hcl] at hlt
        have hlt2 : (passD d l).2.length < l.length := by omega
        refine into_seal [(0, 15)] rfl ?_
        refine into_of [0] ?_
        conv => whnf
        refine ⟨((passD d l).1, (passD d l).2), rfl, by rw [List.take_length]; rfl, ⟨rfl, ⟨k1, by show (passD d l).1.certs.length + (passD d l).2.length ≤ _; omega, fun c hc => by rw [k2]; exact hfd.late c (k5 c hc)⟩, ?_⟩, hlt2⟩
        show againD (passD d l).1 (passD d l).2 = _
        have e1 : againD d l = againF l.length (passD d l).1 (passD d l).2 := by
          rw [againD, againF, if_pos hlt2]
        rw [← hag, e1, againD]
        exact againF_fuel _ _ _ _ (by omega) (by omega)
      · rename_i hjl hlt
        have hjl2 : j = l.length := by omega
        subst hjl2
        rw [List.take_length] at k1 k2 k3 k4 k5 hpl hl2
        replace hlt : ¬ ((certsD (passD d (l.take l.length)).2).length : Int) < ((certsD l).length : Int) := hlt
        rw [List.take_length, hl2, hcl] at hlt
        have : againD p.dag p.late = ((passD d l).1, l) := by
          rw [← hag, againD, againF, if_neg (by omega)]
        rw [this, List.take_length]
        exact ⟨rfl, rfl⟩
  · intro pass
    conv => whnf
    refine aw_at (σ := Unit) (fun _ => ([(0, .ptr 0 0)], (p.withDL (p.dag, p.late)).st out)) (fun _ => True) [0] ?_ ?_
    · conv => whnf
      exact ⟨(), rfl, rfl, trivial⟩
    · intro _ _
      exact pass 0 _ rfl (p.dag, p.late) ⟨rfl, hf, rfl⟩
end Go.Proofs.YtdlfmgcmfoehdaaGreat

namespace Go.Proofs.YtdlfmgcmfoehdaaGreat
open Go.Ab Go.RowKit Go.MapKept
attribute [local irreducible] ACalls AW ADraw Into fltB fnear
set_option maxRecDepth 100000
/-! ## a certificate comes -/
def lateP (l : List Cert) (c : Cert) : List Cert := if isLate l c.digest = false ∧ l.length < 256 then l.take (lateI l c.digest) ++ c :: l.drop (lateI l c.digest) else l
theorem lateP_len (l : List Cert) (c : Cert) : (lateP l c).length ≤ l.length + 1 := by
  unfold lateP
  split
  · simp; omega
  · omega
theorem mem_lateP {l : List Cert} {c x : Cert} (h : x ∈ lateP l c) : x = c ∨ x ∈ l := by
  unfold lateP at h
  split at h
  · rcases List.mem_append.1 h with h | h
    · exact .inr (List.mem_of_mem_take h)
    · rcases List.mem_cons.1 h with h | h
      · exact .inl h
      · exact .inr (List.mem_of_mem_drop h)
  · exact .inr h
theorem lateP_rising {l : List Cert} (hs : risingC l) (c : Cert) : risingC (lateP l c) := by
  unfold lateP
  split
  · rename_i h
    have hne : ∀ x ∈ l, x.digest ≠ c.digest := by
      intro x hx e
      have := h.1
      rw [isLate, List.any_eq_false] at this
      exact this x hx (by simp [e])
    have hsp := hs
    rw [risingC, ← List.take_append_drop (lateI l c.digest) l, List.pairwise_append] at hsp
    rw [risingC, List.pairwise_append]
    refine ⟨hsp.1, List.pairwise_cons.2 ⟨fun y hy => ?_, hsp.2.1⟩, fun x hx y hy => ?_⟩
    · obtain ⟨j, hj⟩ := List.getElem?_of_mem hy
      rw [List.getElem?_drop] at hj
      have h1 := (lateI_iff (d := c.digest) hs hj)
      have h2 := hne y (List.mem_of_mem_drop hy)
      have : ¬ y.digest < c.digest := fun h => by have := h1.1 h; omega
      omega
    · have hxc : x.digest < c.digest := by
        obtain ⟨j, hj⟩ := List.getElem?_of_mem hx
        rw [List.getElem?_take] at hj
        split at hj
        · rename_i hlt
          exact (lateI_iff (d := c.digest) hs hj).2 hlt
        · cases hj
      rcases List.mem_cons.1 hy with rfl | hy
      · exact hxc
      · exact hsp.2.2 x hx y hy
  · exact hs
def inP (p : Prim) (c : Cert) : Prim := if putE p.dag c = 0 then p.withDL (againD (putD p.dag c) p.late) else if putE p.dag c = 7 then { p with late := lateP p.late c } else p
def inO (p : Prim) (c : Cert) (src : Int) : List Msg := if putE p.dag c = 7 ∧ 0 < src then wantO p src 8 (freshI (lateP p.late c) (lackI p.dag c)) else []
set_option maxHeartbeats 4000000 in
theorem stepIn_ok (p : Prim) (out : List Msg) (ho : out.length ≤ 1000000) (c : Cert) (hok : okCert p.dag.nodes c) (hct : c.tiny) (hf : Fine p.dag p.late) (hroom : p.dag.certs.length + p.late.length < 60000) (hs : risingC p.late) (src : Int) :
    ACalls Tryz.prog 83 [.ptr 0 0, c.av, .d (.int .i64 src)] (p.st out) (fun av L => av = .tup [] ∧ ∃ j, L = (inP p c).sj j (out ++ inO p c src)) := by
  have hrd := hok.head.round
  have hau := hok.head.author
  have hnn := of_decide_eq_true hf.valid.nodes
  have hr := hf.room
  have hput := put_dag p.dag hf.valid.fit (by omega) hf.valid.low c hct ⟨by omega, by omega⟩ hrd.1 ⟨by omega, by omega⟩
  have hcl := certsD_length p.late
  have hfew : few p.late := by unfold few; omega
  have hpl := hok.head.pars.1
  have hlk : (lackI p.dag c).length ≤ 1000000 := by
    unfold lackI
    split
    · exact Nat.zero_le _
    · exact Nat.le_trans (List.length_filter_le ..) (by omega)
  have hlack := lack_ok p.dag hf.valid.fit c hct.pars ⟨by omega, by omega⟩ hrd.1 hf.valid.low
  refine acalls_seals2 ?_
  refine acalls_go ttOk zOk foOk Tryz.func83 rfl Tryz.ntmps83 rfl true rfl ?_
  conv => whnf
  repeat' (first | ((with_reducible apply rd_intro); (focus (intro K hK; (conv => whnf); first | exact hK | (intro z hz; rw [wrapI (by omega)] at hz; subst hz; exact hK))); (conv => whnf)) | ((with_reducible apply gd_and); (focus ((conv => whnf) <;> first | rfl | (intro K hK; (conv => whnf); first | exact hK | (intro z hz; rw [wrapI (by omega)] at hz; subst hz; exact hK)))); (conv => whnf)) | ((with_reducible apply z_wrap); (focus omega); (conv => whnf)) | ((with_reducible first | apply mt_dec | apply mt_eq | apply mt_ne | apply mt_not | apply mt_any) <;> (intro _; conv => whnf)))
  ((with_reducible refine draw_pl ttOk zOk foOk mixedOk pl83x1 ?_ ?_); (focus kernel_rfl); (conv => whnf))
  repeat' (first | (first | ((with_reducible apply rd_intro); (focus (intro K hK; (conv => whnf); first | exact hK | (intro z hz; rw [wrapI (by omega)] at hz; subst hz; exact hK))); (conv => whnf)) | ((with_reducible apply gd_and); (focus ((conv => whnf) <;> first | rfl | (intro K hK; (conv => whnf); first | exact hK | (intro z hz; rw [wrapI (by omega)] at hz; subst hz; exact hK)))); (conv => whnf)) | ((with_reducible apply z_wrap); (focus omega); (conv => whnf)) | ((with_reducible first | apply mt_dec | apply mt_eq | apply mt_ne | apply mt_not | apply mt_any) <;> (intro _; conv => whnf))) | ((with_reducible apply rd_intro); (focus (intro K hK; (conv => whnf); refine (hput).mono ?_; rintro _ _ ⟨rfl, rfl⟩; (conv => whnf); exact hK)); (conv => whnf)) | ((with_reducible apply gd_and); (focus ((conv => whnf); intro K hK; (conv => whnf); refine (hput).mono ?_; rintro _ _ ⟨rfl, rfl⟩; (conv => whnf); exact hK)); (conv => whnf)))
  · rename_i h0
    have hfp : Fine (putD p.dag c) p.late := ⟨putD_valid hf.valid hok (by omega), by have := putD_len p.dag c; omega, fun x hx => by rw [putD_nodes]; exact hf.late x hx⟩
    have hag := again_ok (p.withDL (putD p.dag c, p.late)) out hfp
    refine hag.mono ?_
    rintro _ _ ⟨rfl, rfl⟩
    conv => whnf
    repeat' (first | ((with_reducible apply rd_intro); (focus (intro K hK; (conv => whnf); first | exact hK | (intro z hz; rw [wrapI (by omega)] at hz; subst hz; exact hK))); (conv => whnf)) | ((with_reducible apply gd_and); (focus ((conv => whnf) <;> first | rfl | (intro K hK; (conv => whnf); first | exact hK | (intro z hz; rw [wrapI (by omega)] at hz; subst hz; exact hK)))); (conv => whnf)) | ((with_reducible apply z_wrap); (focus omega); (conv => whnf)) | ((with_reducible first | apply mt_dec | apply mt_eq | apply mt_ne | apply mt_not | apply mt_any) <;> (intro _; conv => whnf)))
    refine ⟨2, [], _, _, _, Nat.le_refl _, rfl, rfl, rfl, rfl, false, ?_⟩
    rw [inP, if_pos h0, inO, if_neg (fun h => by have := h.1; omega), List.append_nil]
    rfl
  · rename_i h0 h7
    refine (lateAt_ok p false out (by unfold few; omega) hs c.digest).mono ?_
    rintro _ _ ⟨rfl, rfl⟩
    conv => whnf
    repeat' (first | ((with_reducible apply rd_intro); (focus (intro K hK; (conv => whnf); first | exact hK | (intro z hz; rw [wrapI (by omega)] at hz; subst hz; exact hK))); (conv => whnf)) | ((with_reducible apply gd_and); (focus ((conv => whnf) <;> first | rfl | (intro K hK; (conv => whnf); first | exact hK | (intro z hz; rw [wrapI (by omega)] at hz; subst hz; exact hK)))); (conv => whnf)) | ((with_reducible apply z_wrap); (focus omega); (conv => whnf)) | ((with_reducible first | apply mt_dec | apply mt_eq | apply mt_ne | apply mt_not | apply mt_any) <;> (intro _; conv => whnf)))
    · rename_i hb hlt
      have hi := lateI_le p.late c.digest
      have hlp : lateP p.late c = p.late.take (lateI p.late c.digest) ++ c :: p.late.drop (lateI p.late c.digest) := by
        rw [lateP, if_pos ⟨by revert hb; cases isLate p.late c.digest <;> simp, by have h2 := hlt; rw [hcl] at h2; omega⟩]
      ((with_reducible refine draw_pl ttOk zOk foOk mixedOk pl83x9 ?_ ?_); (focus kernel_rfl); (conv => whnf))
      repeat' (first | ((with_reducible apply rd_intro); (focus (intro K hK; (conv => whnf); first | exact hK | (intro z hz; rw [wrapI (by omega)] at hz; subst hz; exact hK))); (conv => whnf)) | ((with_reducible apply gd_and); (focus ((conv => whnf) <;> first | rfl | (intro K hK; (conv => whnf); first | exact hK | (intro z hz; rw [wrapI (by omega)] at hz; subst hz; exact hK)))); (conv => whnf)) | ((with_reducible apply z_wrap); (focus omega); (conv => whnf)) | ((with_reducible first | apply mt_dec | apply mt_eq | apply mt_ne | apply mt_not | apply mt_any) <;> (intro _; conv => whnf)))
      refine (cloneC_ok p.late (by omega)).mono ?_
      rintro _ _ ⟨rfl, rfl⟩
      conv => whnf
      repeat' (first | ((with_reducible apply rd_intro); (focus (intro K hK; (conv => whnf); first | exact hK | (intro z hz; rw [wrapI (by omega)] at hz; subst hz; exact hK))); (conv => whnf)) | ((with_reducible apply gd_and); (focus ((conv => whnf) <;> first | rfl | (intro K hK; (conv => whnf); first | exact hK | (intro z hz; rw [wrapI (by omega)] at hz; subst hz; exact hK)))); (conv => whnf)) | ((with_reducible apply z_wrap); (focus omega); (conv => whnf)) | ((with_reducible first | apply mt_dec | apply mt_eq | apply mt_ne | apply mt_not | apply mt_any) <;> (intro _; conv => whnf)))
      refine (ownCert_ok c hct).mono ?_
      rintro _ _ ⟨rfl, rfl⟩
      conv => whnf
      repeat' (first | ((with_reducible apply rd_intro); (focus (intro K hK; (conv => whnf); first | exact hK | (intro z hz; rw [wrapI (by omega)] at hz; subst hz; exact hK))); (conv => whnf)) | ((with_reducible apply gd_and); (focus ((conv => whnf) <;> first | rfl | (intro K hK; (conv => whnf); first | exact hK | (intro z hz; rw [wrapI (by omega)] at hz; subst hz; exact hK)))); (conv => whnf)) | ((with_reducible apply z_wrap); (focus omega); (conv => whnf)) | ((with_reducible first | apply mt_dec | apply mt_eq | apply mt_ne | apply mt_not | apply mt_any) <;> (intro _; conv => whnf)))
      (refine Or.inr ?_; (conv => whnf))
      refine (insertC_ok p.late c (lateI p.late c.digest) hi (by omega)).mono ?_
      rintro _ _ ⟨rfl, rfl⟩
      rw [← hlp]
      have hris2 : risingC (lateP p.late c) := lateP_rising hs c
      have hfew2 : few (lateP p.late c) := by unfold few; have := lateP_len p.late c; omega
      conv => whnf
      repeat' (first | ((with_reducible apply rd_intro); (focus (intro K hK; (conv => whnf); first | exact hK | (intro z hz; rw [wrapI (by omega)] at hz; subst hz; exact hK))); (conv => whnf)) | ((with_reducible apply gd_and); (focus ((conv => whnf) <;> first | rfl | (intro K hK; (conv => whnf); first | exact hK | (intro z hz; rw [wrapI (by omega)] at hz; subst hz; exact hK)))); (conv => whnf)) | ((with_reducible apply z_wrap); (focus omega); (conv => whnf)) | ((with_reducible first | apply mt_dec | apply mt_eq | apply mt_ne | apply mt_not | apply mt_any) <;> (intro _; conv => whnf)))
      · rename_i hsrc
        refine adraw_sealC [(0, 15)] rfl ?_
        ((with_reducible refine draw_pl ttOk zOk foOk mixedOk pl83x11 ?_ ?_); (focus kernel_rfl); (conv => whnf))
        repeat' (first | ((with_reducible apply rd_intro); (focus (intro K hK; (conv => whnf); first | exact hK | (intro z hz; rw [wrapI (by omega)] at hz; subst hz; exact hK))); (conv => whnf)) | ((with_reducible apply gd_and); (focus ((conv => whnf) <;> first | rfl | (intro K hK; (conv => whnf); first | exact hK | (intro z hz; rw [wrapI (by omega)] at hz; subst hz; exact hK)))); (conv => whnf)) | ((with_reducible apply z_wrap); (focus omega); (conv => whnf)) | ((with_reducible first | apply mt_dec | apply mt_eq | apply mt_ne | apply mt_not | apply mt_any) <;> (intro _; conv => whnf)))
        refine hlack.mono ?_
        rintro _ _ ⟨rfl, rfl⟩
        conv => whnf
        repeat' (first | ((with_reducible apply rd_intro); (focus (intro K hK; (conv => whnf); first | exact hK | (intro z hz; rw [wrapI (by omega)] at hz; subst hz; exact hK))); (conv => whnf)) | ((with_reducible apply gd_and); (focus ((conv => whnf) <;> first | rfl | (intro K hK; (conv => whnf); first | exact hK | (intro z hz; rw [wrapI (by omega)] at hz; subst hz; exact hK)))); (conv => whnf)) | ((with_reducible apply z_wrap); (focus omega); (conv => whnf)) | ((with_reducible first | apply mt_dec | apply mt_eq | apply mt_ne | apply mt_not | apply mt_any) <;> (intro _; conv => whnf)))
        refine (fresh_ok { p with late := lateP p.late c } out hfew2 hris2 (lackI p.dag c) hlk).mono ?_
        rintro _ _ ⟨rfl, rfl⟩
        conv => whnf
        repeat' (first | ((with_reducible apply rd_intro); (focus (intro K hK; (conv => whnf); first | exact hK | (intro z hz; rw [wrapI (by omega)] at hz; subst hz; exact hK))); (conv => whnf)) | ((with_reducible apply gd_and); (focus ((conv => whnf) <;> first | rfl | (intro K hK; (conv => whnf); first | exact hK | (intro z hz; rw [wrapI (by omega)] at hz; subst hz; exact hK)))); (conv => whnf)) | ((with_reducible apply z_wrap); (focus omega); (conv => whnf)) | ((with_reducible first | apply mt_dec | apply mt_eq | apply mt_ne | apply mt_not | apply mt_any) <;> (intro _; conv => whnf)))
        refine (want_ok { p with late := lateP p.late c } out (by omega) src 8 (freshI (lateP p.late c) (lackI p.dag c)) (by unfold freshI; exact Nat.le_trans (List.length_filter_le ..) hlk)).mono ?_
        rintro _ _ ⟨rfl, j, rfl⟩
        cases j
        · conv => whnf
          repeat' (first | ((with_reducible apply rd_intro); (focus (intro K hK; (conv => whnf); first | exact hK | (intro z hz; rw [wrapI (by omega)] at hz; subst hz; exact hK))); (conv => whnf)) | ((with_reducible apply gd_and); (focus ((conv => whnf) <;> first | rfl | (intro K hK; (conv => whnf); first | exact hK | (intro z hz; rw [wrapI (by omega)] at hz; subst hz; exact hK)))); (conv => whnf)) | ((with_reducible apply z_wrap); (focus omega); (conv => whnf)) | ((with_reducible first | apply mt_dec | apply mt_eq | apply mt_ne | apply mt_not | apply mt_any) <;> (intro _; conv => whnf)))
          refine ⟨2, [], _, _, _, Nat.le_refl _, rfl, rfl, rfl, rfl, false, ?_⟩
          rw [inP, if_neg h0, if_pos h7, inO, if_pos ⟨h7, hsrc⟩]
          rfl
        · conv => whnf
          repeat' (first | ((with_reducible apply rd_intro); (focus (intro K hK; (conv => whnf); first | exact hK | (intro z hz; rw [wrapI (by omega)] at hz; subst hz; exact hK))); (conv => whnf)) | ((with_reducible apply gd_and); (focus ((conv => whnf) <;> first | rfl | (intro K hK; (conv => whnf); first | exact hK | (intro z hz; rw [wrapI (by omega)] at hz; subst hz; exact hK)))); (conv => whnf)) | ((with_reducible apply z_wrap); (focus omega); (conv => whnf)) | ((with_reducible first | apply mt_dec | apply mt_eq | apply mt_ne | apply mt_not | apply mt_any) <;> (intro _; conv => whnf)))
          refine ⟨3, [], _, _, _, by show 2 ≤ 3; omega, rfl, rfl, rfl, rfl, true, ?_⟩
          rw [inP, if_neg h0, if_pos h7, inO, if_pos ⟨h7, hsrc⟩]
          rfl
      · rename_i hsrc
        refine ⟨2, [(0, 15)], _, _, _, Nat.le_refl _, rfl, rfl, rfl, rfl, false, ?_⟩
        rw [inP, if_neg h0, if_pos h7, inO, if_neg (fun h => hsrc h.2), List.append_nil]
        rfl
    · rename_i hb hlt hsrc
      have hlp : lateP p.late c = p.late := by rw [lateP, if_neg (fun h => hlt (by have := h.2; rw [hcl]; omega))]
      ((with_reducible refine draw_pl ttOk zOk foOk mixedOk pl83x11 ?_ ?_); (focus kernel_rfl); (conv => whnf))
      repeat' (first | ((with_reducible apply rd_intro); (focus (intro K hK; (conv => whnf); first | exact hK | (intro z hz; rw [wrapI (by omega)] at hz; subst hz; exact hK))); (conv => whnf)) | ((with_reducible apply gd_and); (focus ((conv => whnf) <;> first | rfl | (intro K hK; (conv => whnf); first | exact hK | (intro z hz; rw [wrapI (by omega)] at hz; subst hz; exact hK)))); (conv => whnf)) | ((with_reducible apply z_wrap); (focus omega); (conv => whnf)) | ((with_reducible first | apply mt_dec | apply mt_eq | apply mt_ne | apply mt_not | apply mt_any) <;> (intro _; conv => whnf)))
      refine hlack.mono ?_
      rintro _ _ ⟨rfl, rfl⟩
      conv => whnf
      repeat' (first | ((with_reducible apply rd_intro); (focus (intro K hK; (conv => whnf); first | exact hK | (intro z hz; rw [wrapI (by omega)] at hz; subst hz; exact hK))); (conv => whnf)) | ((with_reducible apply gd_and); (focus ((conv => whnf) <;> first | rfl | (intro K hK; (conv => whnf); first | exact hK | (intro z hz; rw [wrapI (by omega)] at hz; subst hz; exact hK)))); (conv => whnf)) | ((with_reducible apply z_wrap); (focus omega); (conv => whnf)) | ((with_reducible first | apply mt_dec | apply mt_eq | apply mt_ne | apply mt_not | apply mt_any) <;> (intro _; conv => whnf)))
      refine (fresh_ok p out hfew hs (lackI p.dag c) hlk).mono ?_
      rintro _ _ ⟨rfl, rfl⟩
      conv => whnf
      repeat' (first | ((with_reducible apply rd_intro); (focus (intro K hK; (conv => whnf); first | exact hK | (intro z hz; rw [wrapI (by omega)] at hz; subst hz; exact hK))); (conv => whnf)) | ((with_reducible apply gd_and); (focus ((conv => whnf) <;> first | rfl | (intro K hK; (conv => whnf); first | exact hK | (intro z hz; rw [wrapI (by omega)] at hz; subst hz; exact hK)))); (conv => whnf)) | ((with_reducible apply z_wrap); (focus omega); (conv => whnf)) | ((with_reducible first | apply mt_dec | apply mt_eq | apply mt_ne | apply mt_not | apply mt_any) <;> (intro _; conv => whnf)))
      refine (want_ok p out (by omega) src 8 (freshI (p).late (lackI p.dag c)) (by unfold freshI; exact Nat.le_trans (List.length_filter_le ..) hlk)).mono ?_
      rintro _ _ ⟨rfl, j, rfl⟩
      cases j
      · conv => whnf
        repeat' (first | ((with_reducible apply rd_intro); (focus (intro K hK; (conv => whnf); first | exact hK | (intro z hz; rw [wrapI (by omega)] at hz; subst hz; exact hK))); (conv => whnf)) | ((with_reducible apply gd_and); (focus ((conv => whnf) <;> first | rfl | (intro K hK; (conv => whnf); first | exact hK | (intro z hz; rw [wrapI (by omega)] at hz; subst hz; exact hK)))); (conv => whnf)) | ((with_reducible apply z_wrap); (focus omega); (conv => whnf)) | ((with_reducible first | apply mt_dec | apply mt_eq | apply mt_ne | apply mt_not | apply mt_any) <;> (intro _; conv => whnf)))
        refine ⟨2, [], _, _, _, Nat.le_refl _, rfl, rfl, rfl, rfl, false, ?_⟩
        rw [inP, if_neg h0, if_pos h7, inO, if_pos ⟨h7, hsrc⟩, hlp]
        rfl
      · conv => whnf
        repeat' (first | ((with_reducible apply rd_intro); (focus (intro K hK; (conv => whnf); first | exact hK | (intro z hz; rw [wrapI (by omega)] at hz; subst hz; exact hK))); (conv => whnf)) | ((with_reducible apply gd_and); (focus ((conv => whnf) <;> first | rfl | (intro K hK; (conv => whnf); first | exact hK | (intro z hz; rw [wrapI (by omega)] at hz; subst hz; exact hK)))); (conv => whnf)) | ((with_reducible apply z_wrap); (focus omega); (conv => whnf)) | ((with_reducible first | apply mt_dec | apply mt_eq | apply mt_ne | apply mt_not | apply mt_any) <;> (intro _; conv => whnf)))
        refine ⟨3, [], _, _, _, by show 2 ≤ 3; omega, rfl, rfl, rfl, rfl, true, ?_⟩
        rw [inP, if_neg h0, if_pos h7, inO, if_pos ⟨h7, hsrc⟩, hlp]
        rfl
    · rename_i hb hlt hsrc
      have hlp : lateP p.late c = p.late := by rw [lateP, if_neg (fun h => hlt (by have := h.2; rw [hcl]; omega))]
      refine ⟨2, [], _, _, _, Nat.le_refl _, rfl, rfl, rfl, rfl, false, ?_⟩
      rw [inP, if_neg h0, if_pos h7, inO, if_neg (fun h => hsrc h.2), hlp, List.append_nil]
      rfl
    · rename_i hb hsrc
      have hlp : lateP p.late c = p.late := by rw [lateP, if_neg (fun h => by rw [h.1] at hb; exact absurd hb (by decide))]
      ((with_reducible refine draw_pl ttOk zOk foOk mixedOk pl83x11 ?_ ?_); (focus kernel_rfl); (conv => whnf))
      repeat' (first | ((with_reducible apply rd_intro); (focus (intro K hK; (conv => whnf); first | exact hK | (intro z hz; rw [wrapI (by omega)] at hz; subst hz; exact hK))); (conv => whnf)) | ((with_reducible apply gd_and); (focus ((conv => whnf) <;> first | rfl | (intro K hK; (conv => whnf); first | exact hK | (intro z hz; rw [wrapI (by omega)] at hz; subst hz; exact hK)))); (conv => whnf)) | ((with_reducible apply z_wrap); (focus omega); (conv => whnf)) | ((with_reducible first | apply mt_dec | apply mt_eq | apply mt_ne | apply mt_not | apply mt_any) <;> (intro _; conv => whnf)))
      refine hlack.mono ?_
      rintro _ _ ⟨rfl, rfl⟩
      conv => whnf
      repeat' (first | ((with_reducible apply rd_intro); (focus (intro K hK; (conv => whnf); first | exact hK | (intro z hz; rw [wrapI (by omega)] at hz; subst hz; exact hK))); (conv => whnf)) | ((with_reducible apply gd_and); (focus ((conv => whnf) <;> first | rfl | (intro K hK; (conv => whnf); first | exact hK | (intro z hz; rw [wrapI (by omega)] at hz; subst hz; exact hK)))); (conv => whnf)) | ((with_reducible apply z_wrap); (focus omega); (conv => whnf)) | ((with_reducible first | apply mt_dec | apply mt_eq | apply mt_ne | apply mt_not | apply mt_any) <;> (intro _; conv => whnf)))
      refine (fresh_ok p out hfew hs (lackI p.dag c) hlk).mono ?_
      rintro _ _ ⟨rfl, rfl⟩
      conv => whnf
      repeat' (first | ((with_reducible apply rd_intro); (focus (intro K hK; (conv => whnf); first | exact hK | (intro z hz; rw [wrapI (by omega)] at hz; subst hz; exact hK))); (conv => whnf)) | ((with_reducible apply gd_and); (focus ((conv => whnf) <;> first | rfl | (intro K hK; (conv => whnf); first | exact hK | (intro z hz; rw [wrapI (by omega)] at hz; subst hz; exact hK)))); (conv => whnf)) | ((with_reducible apply z_wrap); (focus omega); (conv => whnf)) | ((with_reducible first | apply mt_dec | apply mt_eq | apply mt_ne | apply mt_not | apply mt_any) <;> (intro _; conv => whnf)))
      refine (want_ok p out (by omega) src 8 (freshI (p).late (lackI p.dag c)) (by unfold freshI; exact Nat.le_trans (List.length_filter_le ..) hlk)).mono ?_
      rintro _ _ ⟨rfl, j, rfl⟩
      cases j
      · conv => whnf
        repeat' (first | ((with_reducible apply rd_intro); (focus (intro K hK; (conv => whnf); first | exact hK | (intro z hz; rw [wrapI (by omega)] at hz; subst hz; exact hK))); (conv => whnf)) | ((with_reducible apply gd_and); (focus ((conv => whnf) <;> first | rfl | (intro K hK; (conv => whnf); first | exact hK | (intro z hz; rw [wrapI (by omega)] at hz; subst hz; exact hK)))); (conv => whnf)) | ((with_reducible apply z_wrap); (focus omega); (conv => whnf)) | ((with_reducible first | apply mt_dec | apply mt_eq | apply mt_ne | apply mt_not | apply mt_any) <;> (intro _; conv => whnf)))
        refine ⟨2, [], _, _, _, Nat.le_refl _, rfl, rfl, rfl, rfl, false, ?_⟩
        rw [inP, if_neg h0, if_pos h7, inO, if_pos ⟨h7, hsrc⟩, hlp]
        rfl
      · conv => whnf
        repeat' (first | ((with_reducible apply rd_intro); (focus (intro K hK; (conv => whnf); first | exact hK | (intro z hz; rw [wrapI (by omega)] at hz; subst hz; exact hK))); (conv => whnf)) | ((with_reducible apply gd_and); (focus ((conv => whnf) <;> first | rfl | (intro K hK; (conv => whnf); first | exact hK | (intro z hz; rw [wrapI (by omega)] at hz; subst hz; exact hK)))); (conv => whnf)) | ((with_reducible apply z_wrap); (focus omega); (conv => whnf)) | ((with_reducible first | apply mt_dec | apply mt_eq | apply mt_ne | apply mt_not | apply mt_any) <;> (intro _; conv => whnf)))
        refine ⟨3, [], _, _, _, by show 2 ≤ 3; omega, rfl, rfl, rfl, rfl, true, ?_⟩
        rw [inP, if_neg h0, if_pos h7, inO, if_pos ⟨h7, hsrc⟩, hlp]
        rfl
    · rename_i hb hsrc
      have hlp : lateP p.late c = p.late := by rw [lateP, if_neg (fun h => by rw [h.1] at hb; exact absurd hb (by decide))]
      refine ⟨2, [], _, _, _, Nat.le_refl _, rfl, rfl, rfl, rfl, false, ?_⟩
      rw [inP, if_neg h0, if_pos h7, inO, if_neg (fun h => hsrc h.2), hlp, List.append_nil]
      rfl
  · rename_i h0 h7
    refine ⟨2, [], _, _, _, Nat.le_refl _, rfl, rfl, rfl, rfl, false, ?_⟩
    rw [inP, if_neg h0, if_neg h7, inO, if_neg (fun h => h7 h.1), List.append_nil]
    rfl
end Go.Proofs.YtdlfmgcmfoehdaaGreat

namespace Go.Proofs.YtdlfmgcmfoehdaaGreat
open Go.Ab Go.RowKit Go.MapKept
attribute [local irreducible] ACalls AW ADraw Into fltB fnear
set_option maxRecDepth 100000
structure bdInv (n : Int) (fin : Dag) (s : Dag × List Cert) : Prop where
  val : Valid s.1
  nodes : s.1.nodes = n
  ok : ∀ c ∈ s.2, okCert n c ∧ c.tiny
  len : s.1.certs.length + s.2.length ≤ 60000
  fin : buildF s.2.length s.1 s.2 = fin
theorem bdInv.stop {n : Int} {fin : Dag} {s : Dag × List Cert} (h : bdInv n fin s) (hno : ∀ (j : Nat) c, j < s.2.length → s.2[j]? = some c → putE s.1 c ≠ 0) : fin = s.1 := by
  rw [← h.fin]
  exact build_stop (fun c hc => by
    obtain ⟨j, hj⟩ := List.getElem?_of_mem hc
    exact hno j c (List.getElem?_eq_some_iff.1 hj).1 hj) _
theorem bdInv.next {n : Int} {fin : Dag} {s : Dag × List Cert} (h : bdInv n fin s) {i : Nat} {c : Cert} (hc : s.2[i]? = some c) (hp : putE s.1 c = 0) (hno : ∀ (j : Nat) c, j < i → s.2[j]? = some c → putE s.1 c ≠ 0) : bdInv n fin (insC s.1 c, s.2.take i ++ s.2.drop (i + 1)) ∧ (s.2.take i ++ s.2.drop (i + 1)).length < s.2.length := by
  have hi := (List.getElem?_eq_some_iff.1 hc).1
  have hlen : (s.2.take i ++ s.2.drop (i + 1)).length = s.2.length - 1 := by simp; omega
  have hl := h.len
  refine ⟨⟨insC_valid h.val (by rw [h.nodes]; exact (h.ok c (List.mem_of_getElem? hc)).1) hp (by omega), h.nodes, fun y hy => ?_, ?_, ?_⟩, by omega⟩
  · rcases List.mem_append.1 hy with hy | hy
    · exact h.ok y (List.mem_of_mem_take hy)
    · exact h.ok y (List.mem_of_mem_drop hy)
  · show (insC s.1 c).certs.length + (s.2.take i ++ s.2.drop (i + 1)).length ≤ 60000
    rw [insC_len, hlen]; omega
  · show buildF (s.2.take i ++ s.2.drop (i + 1)).length _ _ = _
    rw [hlen, ← h.fin]
    obtain ⟨m, hm⟩ : ∃ m, s.2.length = m + 1 := ⟨s.2.length - 1, by omega⟩
    rw [hm, build_next hc hp hno]
    rfl
end Go.Proofs.YtdlfmgcmfoehdaaGreat

namespace Go.Proofs.YtdlfmgcmfoehdaaGreat
open Go.Ab Go.RowKit Go.MapKept
attribute [local irreducible] ACalls AW ADraw Into fltB fnear
set_option maxRecDepth 100000
def Wk.cur (w : Wk) : AV := .agg [.d (.int .i64 w.c.round), .d (.sl 1 (nums w.c.done)), .d (.int .i64 w.c.count)]
theorem equal_ok (xs ys : List Int) (hm : few xs) : ACalls Tryz.prog 98 [.d (.sl 1 (nums xs)), .d (.sl 1 (nums ys))] [] (fun av L => av = .d (.bool (decide (xs = ys))) ∧ L = []) := by
  have hx := nums_length xs
  have hy := nums_length ys
  unfold few at hm
  refine acalls_go ttOk zOk foOk Tryz.func98 rfl Tryz.ntmps98 rfl false rfl ?_
  conv => whnf
  rw [hx, hy]
  repeat' (first | ((with_reducible apply rd_intro); (focus (intro K hK; (conv => whnf); first | exact hK | (intro z hz; rw [wrapI (by omega)] at hz; subst hz; exact hK))); (conv => whnf)) | ((with_reducible apply gd_and); (focus ((conv => whnf) <;> first | rfl | (intro K hK; (conv => whnf); first | exact hK | (intro z hz; rw [wrapI (by omega)] at hz; subst hz; exact hK)))); (conv => whnf)) | ((with_reducible apply z_wrap); (focus omega); (conv => whnf)) | ((with_reducible first | apply mt_dec | apply mt_eq | apply mt_ne | apply mt_not | apply mt_any) <;> (intro _; conv => whnf)))
  · rename_i h
    rw [decide_eq_false (fun e => h (by rw [e]))]
    exact ⟨rfl, rfl⟩
  · rename_i h
    have hl : xs.length = ys.length := by omega
    refine loop_go ttOk zOk foOk (σ := Nat) (fun k => ([(0, .d (.sl 1 (nums xs))), (1, .d (.sl 1 (nums ys))), (12, .d (.int .i64 xs.length)), (13, .d (.int .i64 k))], [])) (fun k => k ≤ xs.length ∧ xs.take k = ys.take k) (fun k => xs.length - k) [0, 1, 12, 13] ?_ ?_
    · conv => whnf
      exact ⟨0, by rw [hx]; rfl, rfl, by simp⟩
    · rintro k ⟨hk, he⟩
      conv => whnf
      repeat' (first | ((with_reducible apply rd_intro); (focus (intro K hK; (conv => whnf); first | exact hK | (intro z hz; rw [wrapI (by omega)] at hz; subst hz; exact hK))); (conv => whnf)) | ((with_reducible apply gd_and); (focus ((conv => whnf) <;> first | rfl | (intro K hK; (conv => whnf); first | exact hK | (intro z hz; rw [wrapI (by omega)] at hz; subst hz; exact hK)))); (conv => whnf)) | ((with_reducible apply z_wrap); (focus omega); (conv => whnf)) | ((with_reducible first | apply mt_dec | apply mt_eq | apply mt_ne | apply mt_not | apply mt_any) <;> (intro _; conv => whnf)))
      · rename_i h
        refine Exists.elim (⟨_, List.getElem?_eq_getElem (by omega)⟩ : ∃ a, xs[k]? = some a) fun a ha => ?_
        refine Exists.elim (⟨_, List.getElem?_eq_getElem (by omega)⟩ : ∃ b, ys[k]? = some b) fun b hb => ?_
        ((with_reducible refine draw_pl ttOk zOk foOk mixedOk pl98x6 ?_ ?_); (focus kernel_rfl); (conv => whnf))
        repeat' (first | ((with_reducible apply rd_intro); (focus (intro K hK; (conv => whnf); first | exact hK | (intro z hz; rw [wrapI (by omega)] at hz; subst hz; exact hK))); (conv => whnf)) | ((with_reducible apply gd_and); (focus ((conv => whnf) <;> first | rfl | (intro K hK; (conv => whnf); first | exact hK | (intro z hz; rw [wrapI (by omega)] at hz; subst hz; exact hK)))); (conv => whnf)) | ((with_reducible apply z_wrap); (focus omega); (conv => whnf)) | ((with_reducible first | apply mt_dec | apply mt_eq | apply mt_ne | apply mt_not | apply mt_any) <;> (intro _; conv => whnf)))
        ((with_reducible apply rd_intro); (focus (intro K hK; (conv => whnf); exact ⟨by omega, [.int .i64 a], nums_at ha, hK⟩)); (conv => whnf))
        repeat' (first | ((with_reducible apply rd_intro); (focus (intro K hK; (conv => whnf); first | exact hK | (intro z hz; rw [wrapI (by omega)] at hz; subst hz; exact hK))); (conv => whnf)) | ((with_reducible apply gd_and); (focus ((conv => whnf) <;> first | rfl | (intro K hK; (conv => whnf); first | exact hK | (intro z hz; rw [wrapI (by omega)] at hz; subst hz; exact hK)))); (conv => whnf)) | ((with_reducible apply z_wrap); (focus omega); (conv => whnf)) | ((with_reducible first | apply mt_dec | apply mt_eq | apply mt_ne | apply mt_not | apply mt_any) <;> (intro _; conv => whnf)))
        ((with_reducible apply rd_intro); (focus (intro K hK; (conv => whnf); exact ⟨by omega, [.int .i64 b], nums_at hb, hK⟩)); (conv => whnf))
        repeat' (first | ((with_reducible apply rd_intro); (focus (intro K hK; (conv => whnf); first | exact hK | (intro z hz; rw [wrapI (by omega)] at hz; subst hz; exact hK))); (conv => whnf)) | ((with_reducible apply gd_and); (focus ((conv => whnf) <;> first | rfl | (intro K hK; (conv => whnf); first | exact hK | (intro z hz; rw [wrapI (by omega)] at hz; subst hz; exact hK)))); (conv => whnf)) | ((with_reducible apply z_wrap); (focus omega); (conv => whnf)) | ((with_reducible first | apply mt_dec | apply mt_eq | apply mt_ne | apply mt_not | apply mt_any) <;> (intro _; conv => whnf)))
        · rename_i h
          rw [decide_eq_false (fun e => by subst e; rw [ha] at hb; cases hb; exact h rfl)]
          exact ⟨rfl, rfl⟩
        · rename_i h
          exact ⟨k + 1, rfl, rfl, ⟨by omega, (take_succ_eq ha hb he).2 (by omega)⟩, by omega⟩
      · rename_i h
        obtain rfl : k = xs.length := by omega
        rw [decide_eq_true (by rw [List.take_length, hl, List.take_length] at he; exact he)]
        exact ⟨rfl, rfl⟩
end Go.Proofs.YtdlfmgcmfoehdaaGreat

namespace Go.Proofs.YtdlfmgcmfoehdaaGreat
open Go.Ab Go.RowKit Go.MapKept
attribute [local irreducible] ACalls AW ADraw Into fltB fnear
set_option maxRecDepth 100000
end Go.Proofs.YtdlfmgcmfoehdaaGreat

namespace Go.Proofs.YtdlfmgcmfoehdaaGreat
open Go.Ab Go.RowKit Go.MapKept
attribute [local irreducible] ACalls AW ADraw Into fltB fnear
set_option maxRecDepth 100000
end Go.Proofs.YtdlfmgcmfoehdaaGreat

namespace Go.Proofs.YtdlfmgcmfoehdaaGreat
open Go.Ab Go.RowKit Go.MapKept
attribute [local irreducible] ACalls AW ADraw Into fltB fnear
set_option maxRecDepth 100000
theorem take_snoc' {α : Type} {l : List α} {j : Nat} {c : α} (hc : l[j]? = some c) : l.take (j + 1) = l.take j ++ [c] := by rw [List.take_add_one, hc]; rfl
end Go.Proofs.YtdlfmgcmfoehdaaGreat

namespace Go.Proofs.YtdlfmgcmfoehdaaGreat
open Go.Ab Go.RowKit Go.MapKept
attribute [local irreducible] ACalls AW ADraw Into fltB fnear
set_option maxRecDepth 100000
end Go.Proofs.YtdlfmgcmfoehdaaGreat

namespace Go.Proofs.YtdlfmgcmfoehdaaGreat
open Go.Ab Go.RowKit Go.MapKept
attribute [local irreducible] ACalls AW ADraw Into fltB fnear
set_option maxRecDepth 100000
end Go.Proofs.YtdlfmgcmfoehdaaGreat

namespace Go.Proofs.YtdlfmgcmfoehdaaGreat
open Go.Ab Go.RowKit Go.MapKept
attribute [local irreducible] ACalls AW ADraw Into fltB fnear
set_option maxRecDepth 100000
end Go.Proofs.YtdlfmgcmfoehdaaGreat

namespace Go.Proofs.YtdlfmgcmfoehdaaGreat
open Go.Ab Go.RowKit Go.MapKept
attribute [local irreducible] ACalls AW ADraw Into fltB fnear
set_option maxRecDepth 100000
def c0 : Cursor := ⟨0, [], 0⟩
end Go.Proofs.YtdlfmgcmfoehdaaGreat

namespace Go.Proofs.YtdlfmgcmfoehdaaGreat
open Go.Ab Go.RowKit Go.MapKept
attribute [local irreducible] ACalls AW ADraw Into fltB fnear
set_option maxRecDepth 100000
end Go.Proofs.YtdlfmgcmfoehdaaGreat

namespace Go.Proofs.YtdlfmgcmfoehdaaGreat
open Go.Ab Go.RowKit Go.MapKept
attribute [local irreducible] ACalls AW ADraw Into fltB fnear
set_option maxRecDepth 100000
theorem Valid.tiny {d : Dag} (h : Valid d) : Go.Proofs.YtdlfmgcmfoehdaaGreat.tiny d.certs ∧ ∀ c ∈ d.certs, c.tiny := by
  have hn := of_decide_eq_true h.nodes
  refine ⟨by have := h.len; unfold Go.Proofs.YtdlfmgcmfoehdaaGreat.tiny; omega, fun c hc => ?_⟩
  have h1 := h.certs c hc
  refine ⟨?_, ?_, ?_⟩
  · have := h1.head.bats.1; unfold Go.Proofs.YtdlfmgcmfoehdaaGreat.tiny; omega
  · have := h1.head.pars.1; unfold Go.Proofs.YtdlfmgcmfoehdaaGreat.tiny; omega
  · have := rise_len2 (show riseB c.sigs 1 65536 from ⟨h1.sigs.1, fun x hx => by have := h1.sigs.2 x hx; omega⟩)
    unfold Go.Proofs.YtdlfmgcmfoehdaaGreat.tiny; omega
end Go.Proofs.YtdlfmgcmfoehdaaGreat

namespace Go.Proofs.YtdlfmgcmfoehdaaGreat
open Go.Ab Go.RowKit Go.MapKept
attribute [local irreducible] ACalls AW ADraw Into fltB fnear
set_option maxRecDepth 100000
/-! ## cursor.Step of a DAG that may be, its low 0 -/
def outs (d : Dag) : List Int := (finW d c0).outs
theorem Valid.part {d : Dag} (h : Valid d) (h0 : d.low = 0) (n : Nat) : Valid ⟨d.nodes, 0, d.certs.take n⟩ := by
  have hm : ∀ c ∈ d.certs.take n, c ∈ d.certs := fun c hc => List.mem_of_mem_take hc
  refine ⟨h.nodes, by show (0 : Int) ≤ 0 ∧ (0 : Int) ≤ 1099511627776; decide, by show (d.certs.take n).length ≤ 65536; have := h.len; have := List.length_take_le' n d.certs; omega, fun c hc => h.certs c (hm c hc), fun c hc => by have := h.above c (hm c hc); rw [h0] at this; exact this, h.sorted.sublist (List.take_sublist ..), h.dig.sublist ((List.take_sublist ..).map _), ?_⟩
  intro c hc hr x hx
  obtain ⟨c', h1, h2, h3⟩ := h.here c (hm c hc) (by rw [h0]; exact hr) x hx
  refine ⟨c', ?_, h2, h3⟩
  obtain ⟨i, hi, rfl⟩ := List.mem_take_iff_getElem.1 hc
  obtain ⟨k, hk⟩ := List.getElem?_of_mem h1
  obtain ⟨hkl, rfl⟩ := List.getElem?_eq_some_iff.1 hk
  refine List.mem_take_iff_getElem.2 ⟨k, ?_, rfl⟩
  rcases Nat.lt_trichotomy k i with h4 | h4 | h4
  · omega
  · subst h4; omega
  · have := List.pairwise_iff_getElem.1 h.sorted i k (by omega) hkl h4
    have := before_iff.1 this
    omega
theorem Sub.part {d : Dag} (h : Valid d) (h0 : d.low = 0) (n : Nat) : Sub ⟨d.nodes, 0, d.certs.take n⟩ d := ⟨h.part h0 n, h, rfl, h0, rfl, List.take_sublist ..⟩
end Go.Proofs.YtdlfmgcmfoehdaaGreat

namespace Go.Proofs.YtdlfmgcmfoehdaaGreat
open Go.Ab Go.RowKit Go.MapKept
attribute [local irreducible] ACalls AW ADraw Into fltB fnear
set_option maxRecDepth 100000
/-- what a step hands back, as data -/
def Wk.out (w : Wk) : AV := .tup [.agg [.d (.int .i64 w.c.round), .d (.sl 1 (nums w.c.done)), .d (.int .i64 w.c.count)], .d (.sl 1 (nums w.outs)), .d (.int .i64 0)]
/-- the first certificates -/
def pt (d : Dag) (n : Nat) : Dag := ⟨d.nodes, 0, d.certs.take n⟩
end Go.Proofs.YtdlfmgcmfoehdaaGreat

namespace Go.Proofs.YtdlfmgcmfoehdaaGreat
open Go.Ab Go.RowKit Go.MapKept
attribute [local irreducible] ACalls AW ADraw Into fltB fnear
set_option maxRecDepth 100000
/-! ## the page's step -/
theorem before_take' {d : Dag} (h : Valid d) {j : Nat} {c : Cert} (hc : d.certs[j]? = some c) : (∀ y ∈ d.certs.take j, y.before c.round c.author = true) ∧ (∀ y ∈ d.certs.take j, y.digest ≠ c.digest) := by
  obtain ⟨hj, rfl⟩ := List.getElem?_eq_some_iff.1 hc
  refine ⟨fun y hy => ?_, fun y hy e => ?_⟩
  · obtain ⟨i, hi, rfl⟩ := List.mem_take_iff_getElem.1 hy
    exact List.pairwise_iff_getElem.1 h.sorted i j (by omega) hj (by omega)
  · obtain ⟨i, hi, rfl⟩ := List.mem_take_iff_getElem.1 hy
    have := List.pairwise_iff_getElem.1 h.dig i j (by simp; omega) (by simp; omega) (by omega)
    simp at this
    exact this e
theorem keepB_eq' (d : Dag) (r x : Int) : keepB d r x = (match certOf d x with | some c => decide (c.round > r - 8) | none => false) := rfl
theorem rising_ext : ∀ {a b : List Int}, risingI a → risingI b → (∀ x, x ∈ a ↔ x ∈ b) → a = b := by
  intro a b ha hb h
  have hp : a.Perm b := (List.perm_ext_iff_of_nodup (rising_nodup ha) (rising_nodup hb)).2 h
  exact hp.eq_of_pairwise (fun x y _ _ h1 h2 => by omega) ha hb
/-- what is kept of the first certificates -/
structure keptK (d : Dag) (r : Int) (S : List Int) (k : Nat) (dn : List Int) : Prop where
  rise : risingI dn
  mem : ∀ x, x ∈ dn ↔ ∃ y ∈ d.certs.take k, y.digest = x ∧ y.round > r - 8 ∧ x ∈ S
  len : dn.length ≤ k
theorem keptK.zero (d : Dag) (r : Int) (S : List Int) : keptK d r S 0 [] := ⟨List.Pairwise.nil, by simp, Nat.le_refl _⟩
theorem keptK.new {d : Dag} (h : Valid d) {r : Int} {S : List Int} {k : Nat} {dn : List Int} (hk : keptK d r S k dn) {y : Cert} (hy : d.certs[k]? = some y) : y.digest ∉ dn := by
  intro hin
  obtain ⟨z, h1, h2, _⟩ := (hk.mem _).1 hin
  exact (before_take' h hy).2 z h1 h2
theorem keptK.no {d : Dag} {r : Int} {S : List Int} {k : Nat} {dn : List Int} (hk : keptK d r S k dn) {y : Cert} (hy : d.certs[k]? = some y) (h1 : ¬ (y.round > r - 8 ∧ y.digest ∈ S)) : keptK d r S (k + 1) dn := by
  refine ⟨hk.rise, fun x => ?_, by have := hk.len; omega⟩
  rw [hk.mem, take_snoc' hy]
  constructor
  · rintro ⟨z, k1, k2⟩
    exact ⟨z, List.mem_append_left _ k1, k2⟩
  · rintro ⟨z, k1, k2, k3, k4⟩
    rcases List.mem_append.1 k1 with k1 | k1
    · exact ⟨z, k1, k2, k3, k4⟩
    · simp at k1; subst k1; subst k2; exact absurd ⟨k3, k4⟩ h1
theorem keptK.done {d : Dag} (h : Valid d) {r : Int} {S : List Int} {dn : List Int} (hk : keptK d r S d.certs.length dn) (hs : risingI (sortI (keepI d r S))) : dn = sortI (keepI d r S) := by
  refine rising_ext hk.rise hs fun x => ?_
  rw [hk.mem, List.take_length, sortI, List.mem_mergeSort, keepI, List.mem_filter, keepB_eq']
  constructor
  · rintro ⟨y, k1, rfl, k2, k3⟩
    refine ⟨k3, ?_⟩
    rw [certOf_mem h.dig k1]
    simpa using k2
  · rintro ⟨k1, k2⟩
    cases hc : certOf d x with
    | none => rw [hc] at k2; cases k2
    | some c =>
      rw [hc] at k2
      obtain ⟨m1, m2, _⟩ := certOf_some hc
      exact ⟨c, m1, m2, by simpa using k2, k1⟩
end Go.Proofs.YtdlfmgcmfoehdaaGreat

namespace Go.Proofs.YtdlfmgcmfoehdaaGreat
open Go.Ab Go.RowKit Go.MapKept
attribute [local irreducible] ACalls AW ADraw Into fltB fnear
set_option maxRecDepth 100000
end Go.Proofs.YtdlfmgcmfoehdaaGreat

namespace Go.Proofs.YtdlfmgcmfoehdaaGreat
open Go.Ab Go.RowKit Go.MapKept
attribute [local irreducible] ACalls AW ADraw Into fltB fnear
set_option maxRecDepth 100000
/-! ## the page's Dag -/
inductive Lft (d : Dag) : List Cert → List Cert → Prop where
  | nil : Lft d [] []
  | keep (c : Cert) {l left : List Cert} : Lft d l left → Lft d (c :: l) (c :: left)
  | skip (c : Cert) {l left : List Cert} : c ∈ d.certs → Lft d l left → Lft d (c :: l) left
theorem Lft.all (d : Dag) : ∀ l : List Cert, Lft d l l
  | [] => .nil
  | c :: l => .keep c (Lft.all d l)
theorem Lft.mono {d d' : Dag} (h : ∀ c ∈ d.certs, c ∈ d'.certs) {l left : List Cert} (k : Lft d l left) : Lft d' l left := by
  induction k with
  | nil => exact .nil
  | keep c _ ih => exact .keep c ih
  | skip c hc _ ih => exact .skip c (h c hc) ih
theorem mem_putE {d : Dag} {c : Cert} (h : c ∈ d.certs) : putE d c ≠ 0 := fun e => (putE_ok e).2.2.1 c h rfl
theorem Lft.none {d : Dag} {l left : List Cert} (k : Lft d l left) (h : ∀ c ∈ l, putE d c ≠ 0) : ∀ c ∈ left, putE d c ≠ 0 := by
  induction k with
  | nil => simp
  | keep c _ ih =>
    intro x hx
    rcases List.mem_cons.1 hx with rfl | hx
    · exact h _ (List.mem_cons_self ..)
    · exact ih (fun y hy => h y (List.mem_cons_of_mem _ hy)) x hx
  | skip c hc _ ih => exact ih (fun y hy => h y (List.mem_cons_of_mem _ hy))
theorem Lft.first {d : Dag} {l left : List Cert} (k : Lft d l left) : ∀ {i : Nat} {c : Cert}, l[i]? = some c → putE d c = 0 → (∀ (j : Nat) y, j < i → l[j]? = some y → putE d y ≠ 0) →
    ∃ m, left[m]? = some c ∧ (∀ (j : Nat) y, j < m → left[j]? = some y → putE d y ≠ 0) ∧ Lft (insC d c) l (left.take m ++ left.drop (m + 1)) := by
  have hup : ∀ (c : Cert), ∀ y ∈ d.certs, y ∈ (insC d c).certs := fun c y hy => mem_insC.2 (.inr hy)
  induction k with
  | nil => intro i c h; simp at h
  | keep x k ih =>
    intro i c h hp hno
    cases i with
    | zero =>
      simp at h
      subst h
      exact ⟨0, by simp, fun j y hj => absurd hj (by omega), by simpa using Lft.skip x (mem_insC.2 (.inl rfl)) (k.mono (hup x))⟩
    | succ i =>
      obtain ⟨m, h1, h2, h3⟩ := ih (by simpa using h) hp (fun j y hj hy => hno (j + 1) y (by omega) (by simpa using hy))
      refine ⟨m + 1, by simpa using h1, fun j y hj hy => ?_, by simpa using Lft.keep x h3⟩
      cases j with
      | zero => exact hno 0 y (by omega) (by simpa using hy)
      | succ j => exact h2 j y (by omega) (by simpa using hy)
  | skip x hx k ih =>
    intro i c h hp hno
    cases i with
    | zero =>
      simp at h
      subst h
      exact absurd hp (mem_putE hx)
    | succ i =>
      obtain ⟨m, h1, h2, h3⟩ := ih (by simpa using h) hp (fun j y hj hy => hno (j + 1) y (by omega) (by simpa using hy))
      exact ⟨m, h1, h2, .skip x (hup c x hx) h3⟩
end Go.Proofs.YtdlfmgcmfoehdaaGreat

namespace Go.Proofs.YtdlfmgcmfoehdaaGreat
open Go.Ab Go.RowKit Go.MapKept
attribute [local irreducible] ACalls AW ADraw Into fltB fnear
set_option maxRecDepth 100000
/-! ## weights -/
def Cert.light (c : Cert) : Prop := c.bats.length ≤ 3000 ∧ c.pars.length ≤ 3000 ∧ c.sigs.length ≤ 3000
end Go.Proofs.YtdlfmgcmfoehdaaGreat
