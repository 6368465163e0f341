/- Part of the proof of PrimaryWaits: the contracts of the functions. -/
import Derived.Test.YtdlfmgcmfoehdaaGreatPrimaryWaitsCodF

set_option linter.unusedVariables false
set_option linter.unusedSimpArgs false
namespace Go.Proofs.YtdlfmgcmfoehdaaGreat
open Go.Ab Go.RowKit Go.MapKept
attribute [local irreducible] ACalls AW ADraw Into fltB fnear
set_option maxRecDepth 100000
/-! ## what is asked -/
structure AskA where
  n : Int
  l : List Cert
  outs : List Int
def AskA.cells (p : AskA) : List AV := [.d (.int .i64 p.n), .d (.sl 6 (certsD p.l)), .d (.sl 1 (nums p.outs))]
def AskA.av (p : AskA) : AV := .agg p.cells
structure AskA.ok (p : AskA) : Prop where
  n : i64 p.n
  l : few p.l ∧ ∀ c ∈ p.l, c.ok
  outs : few p.outs ∧ ∀ x ∈ p.outs, i64 x
structure AskA.light (p : AskA) : Prop where
  len : p.l.length ≤ 60
  light : ∀ c ∈ p.l, c.light
  outs : p.outs.length ≤ 200
theorem Cert.light.all {c : Cert} (h : c.light) : fewL c ∧ c.tiny := by
  obtain ⟨h1, h2, h3⟩ := h
  exact ⟨⟨by unfold few; omega, by unfold few; omega, by unfold few; omega⟩, ⟨by show c.bats.length ≤ _; omega, by show c.pars.length ≤ _; omega, by show c.sigs.length ≤ _; omega⟩⟩
theorem AskA.light.all {p : AskA} (h : p.light) : ∀ c ∈ p.l, fewL c ∧ c.tiny := fun c hc => (h.light c hc).all
/-! ## audit.Dag, as data -/
theorem ownCerts_row (l : List Cert) (hl : tiny l) (h : ∀ c ∈ l, c.tiny) : ACalls Tryz.prog 89 [.d (.sl 6 (certsD l))] [] (fun av L => av = .arr 0 ∧ L = [.row 41 6 (certsD l) false]) := by
  have hx := certsD_length l
  unfold tiny at hl
  refine acalls_go ttOk zOk foOk Tryz.func89 rfl Tryz.ntmps89 rfl true rfl ?_
  conv => whnf
  refine loop_go ttOk zOk foOk (σ := Nat) (fun k => ([(5, .d (.sl 6 (certsD l))), (6, .d (.int .i64 l.length)), (7, .d (.int .i64 k)), (2, .arr 0)], [.row 41 6 (certsD (l.take k)) false])) (fun k => k ≤ l.length) (fun k => l.length - k) [5, 6, 7, 2] ?_ ?_
  · conv => whnf
    exact ⟨0, by rw [hx]; rfl, rfl, by omega⟩
  · intro k hk
    conv => whnf
    repeat' (first | ((with_reducible apply z_wrap); (focus omega); (conv => whnf)) | ((with_reducible first | apply mt_dec | apply mt_eq | apply mt_ne | apply mt_not | apply mt_any) <;> (intro _; conv => whnf)))
    · rename_i h2
      refine Exists.elim (⟨_, List.getElem?_eq_getElem (by omega)⟩ : ∃ a, l[k]? = some a) fun a ha => ?_
      have hkn := certsD_length (l.take k)
      refine ⟨by omega, a.cs, certsD_at ha, ?_⟩
      conv => whnf
      repeat' (first | ((with_reducible apply z_wrap); (focus omega); (conv => whnf)) | ((with_reducible first | apply mt_dec | apply mt_eq | apply mt_ne | apply mt_not | apply mt_any) <;> (intro _; conv => whnf)))
      refine (ownCert_ok a (h a (List.mem_of_getElem? ha))).mono ?_
      rintro _ _ ⟨rfl, rfl⟩
      conv => whnf
      repeat' (first | ((with_reducible apply z_wrap); (focus omega); (conv => whnf)) | ((with_reducible first | apply mt_dec | apply mt_eq | apply mt_ne | apply mt_not | apply mt_any) <;> (intro _; conv => whnf)))
      refine ⟨by simp [hkn]; omega, ?_⟩
      conv => whnf
      repeat' (first | ((with_reducible apply z_wrap); (focus omega); (conv => whnf)) | ((with_reducible first | apply mt_dec | apply mt_eq | apply mt_ne | apply mt_not | apply mt_any) <;> (intro _; conv => whnf)))
      refine ⟨k + 1, rfl, ?_, by omega, by omega⟩
      rw [List.take_add_one, ha]
      simp [certsD, Cert.cs]
    · rename_i h2
      rw [List.take_of_length_le (by omega)]
      exact ⟨rfl, rfl⟩
theorem dagOwn_row (d : Dag) (hl : tiny d.certs) (h : ∀ c ∈ d.certs, c.tiny) : ACalls Tryz.prog 88 [d.av] [] (fun av L => av = .agg [.d (.int .i64 d.nodes), .d (.int .i64 d.low), .arr 0] ∧ L = [.row 41 6 (certsD d.certs) false]) := by
  have h1 := ownCerts_row d.certs hl h
  refine acalls_go ttOk zOk foOk Tryz.func88 rfl Tryz.ntmps88 rfl true rfl ?_
  conv => whnf
  refine h1.mono ?_
  rintro _ _ ⟨rfl, rfl⟩
  conv => whnf
  repeat' (first | ((with_reducible apply z_wrap); (focus omega); (conv => whnf)) | ((with_reducible first | apply mt_dec | apply mt_eq | apply mt_ne | apply mt_not | apply mt_any) <;> (intro _; conv => whnf)))
  exact ⟨rfl, rfl⟩
theorem dagOwn_ok (d : Dag) (hl : tiny d.certs) (h : ∀ c ∈ d.certs, c.tiny) : ACalls Tryz.prog 88 [d.av] [] (fun av L => av = d.av ∧ L = []) := by
  refine acalls_data (dagOwn_row d hl h) ?_
  rintro _ _ ⟨rfl, rfl⟩
  conv => whnf
  exact ⟨rfl, rfl⟩
theorem few_nil {α : Type} : few ([] : List α) := Nat.zero_le _
end Go.Proofs.YtdlfmgcmfoehdaaGreat

namespace Go.Proofs.YtdlfmgcmfoehdaaGreat
open Go.Ab Go.RowKit Go.MapKept
attribute [local irreducible] ACalls AW ADraw Into fltB fnear
set_option maxRecDepth 100000
/-! ## a primary's copy -/
theorem cloneV_row (l : List Vote) (hl : l.length ≤ 1099511627776) : ACalls Tryz.prog 87 [.d (.sl 3 (votesD l))] [] (fun av L => av = .arr 0 ∧ L = [.row 65 3 (votesD l) false]) := by
  have hll := votesD_length l
  refine acalls_go ttOk zOk foOk Tryz.func87 rfl Tryz.ntmps87 rfl true rfl ?_
  conv => whnf
  intro b hb
  conv => whnf
  repeat' (first | ((with_reducible apply rd_intro); (focus (intro K hK; (conv => whnf); first | exact hK | (intro z hz; rw [wrapI (by omega)] at hz; subst hz; exact hK))); (conv => whnf)) | ((with_reducible apply gd_and); (focus ((conv => whnf) <;> first | rfl | (intro K hK; (conv => whnf); first | exact hK | (intro z hz; rw [wrapI (by omega)] at hz; subst hz; exact hK)))); (conv => whnf)) | ((with_reducible apply z_wrap); (focus omega); (conv => whnf)) | ((with_reducible first | apply mt_dec | apply mt_eq | apply mt_ne | apply mt_not | apply mt_any) <;> (intro _; conv => whnf)))
  · rename_i h
    have : l = [] := by simpa [votesD] using hb h
    subst this
    exact ⟨rfl, rfl⟩
  · rename_i h
    refine ⟨by rw [hll]; show (0 + l.length) * 24 ≤ _; omega, ?_⟩
    conv => whnf
    exact ⟨rfl, rfl⟩
theorem cloneV_ok (l : List Vote) (hl : l.length ≤ 1099511627776) : ACalls Tryz.prog 87 [.d (.sl 3 (votesD l))] [] (fun av L => av = .d (.sl 3 (votesD l)) ∧ L = []) := by
  refine acalls_data (cloneV_row l hl) ?_
  rintro _ _ ⟨rfl, rfl⟩
  conv => whnf
  exact ⟨rfl, rfl⟩
theorem ownCerts_ok (l : List Cert) (hl : tiny l) (h : ∀ c ∈ l, c.tiny) : ACalls Tryz.prog 89 [.d (.sl 6 (certsD l))] [] (fun av L => av = .d (.sl 6 (certsD l)) ∧ L = []) := by
  refine acalls_data (ownCerts_row l hl h) ?_
  rintro _ _ ⟨rfl, rfl⟩
  conv => whnf
  exact ⟨rfl, rfl⟩
structure Prim.tiny (p : Prim) : Prop where
  mine : p.mine.tiny
  acks : p.acks.length ≤ 1099511627776
  votes : p.votes.length ≤ 1099511627776
  dag : Go.Proofs.YtdlfmgcmfoehdaaGreat.tiny p.dag.certs ∧ ∀ c ∈ p.dag.certs, c.tiny
  late : Go.Proofs.YtdlfmgcmfoehdaaGreat.tiny p.late ∧ ∀ c ∈ p.late, c.tiny
theorem primOwn_ok (p : Prim) (h : p.tiny) : ACalls Tryz.prog 41 [p.av] [] (fun av L => av = p.av ∧ L = []) := by
  refine acalls_go ttOk zOk foOk Tryz.func41 rfl Tryz.ntmps41 rfl false rfl ?_
  conv => whnf
  ((with_reducible refine draw_pl ttOk zOk foOk mixedOk pl41x1 ?_ ?_); (focus kernel_rfl); (conv => whnf))
  repeat' (first | ((with_reducible apply rd_intro); (focus (intro K hK; (conv => whnf); first | exact hK | (intro z hz; rw [wrapI (by omega)] at hz; subst hz; exact hK))); (conv => whnf)) | ((with_reducible apply gd_and); (focus ((conv => whnf) <;> first | rfl | (intro K hK; (conv => whnf); first | exact hK | (intro z hz; rw [wrapI (by omega)] at hz; subst hz; exact hK)))); (conv => whnf)) | ((with_reducible apply z_wrap); (focus omega); (conv => whnf)) | ((with_reducible first | apply mt_dec | apply mt_eq | apply mt_ne | apply mt_not | apply mt_any) <;> (intro _; conv => whnf)))
  refine (own_ok p.mine h.mine).mono ?_
  rintro _ _ ⟨rfl, rfl⟩
  conv => whnf
  repeat' (first | ((with_reducible apply rd_intro); (focus (intro K hK; (conv => whnf); first | exact hK | (intro z hz; rw [wrapI (by omega)] at hz; subst hz; exact hK))); (conv => whnf)) | ((with_reducible apply gd_and); (focus ((conv => whnf) <;> first | rfl | (intro K hK; (conv => whnf); first | exact hK | (intro z hz; rw [wrapI (by omega)] at hz; subst hz; exact hK)))); (conv => whnf)) | ((with_reducible apply z_wrap); (focus omega); (conv => whnf)) | ((with_reducible first | apply mt_dec | apply mt_eq | apply mt_ne | apply mt_not | apply mt_any) <;> (intro _; conv => whnf)))
  refine (cloneI_ok p.acks h.acks).mono ?_
  rintro _ _ ⟨rfl, rfl⟩
  conv => whnf
  repeat' (first | ((with_reducible apply rd_intro); (focus (intro K hK; (conv => whnf); first | exact hK | (intro z hz; rw [wrapI (by omega)] at hz; subst hz; exact hK))); (conv => whnf)) | ((with_reducible apply gd_and); (focus ((conv => whnf) <;> first | rfl | (intro K hK; (conv => whnf); first | exact hK | (intro z hz; rw [wrapI (by omega)] at hz; subst hz; exact hK)))); (conv => whnf)) | ((with_reducible apply z_wrap); (focus omega); (conv => whnf)) | ((with_reducible first | apply mt_dec | apply mt_eq | apply mt_ne | apply mt_not | apply mt_any) <;> (intro _; conv => whnf)))
  refine (cloneV_ok p.votes h.votes).mono ?_
  rintro _ _ ⟨rfl, rfl⟩
  conv => whnf
  repeat' (first | ((with_reducible apply rd_intro); (focus (intro K hK; (conv => whnf); first | exact hK | (intro z hz; rw [wrapI (by omega)] at hz; subst hz; exact hK))); (conv => whnf)) | ((with_reducible apply gd_and); (focus ((conv => whnf) <;> first | rfl | (intro K hK; (conv => whnf); first | exact hK | (intro z hz; rw [wrapI (by omega)] at hz; subst hz; exact hK)))); (conv => whnf)) | ((with_reducible apply z_wrap); (focus omega); (conv => whnf)) | ((with_reducible first | apply mt_dec | apply mt_eq | apply mt_ne | apply mt_not | apply mt_any) <;> (intro _; conv => whnf)))
  ((with_reducible refine draw_pl ttOk zOk foOk mixedOk pl41x2 ?_ ?_); (focus kernel_rfl); (conv => whnf))
  repeat' (first | ((with_reducible apply rd_intro); (focus (intro K hK; (conv => whnf); first | exact hK | (intro z hz; rw [wrapI (by omega)] at hz; subst hz; exact hK))); (conv => whnf)) | ((with_reducible apply gd_and); (focus ((conv => whnf) <;> first | rfl | (intro K hK; (conv => whnf); first | exact hK | (intro z hz; rw [wrapI (by omega)] at hz; subst hz; exact hK)))); (conv => whnf)) | ((with_reducible apply z_wrap); (focus omega); (conv => whnf)) | ((with_reducible first | apply mt_dec | apply mt_eq | apply mt_ne | apply mt_not | apply mt_any) <;> (intro _; conv => whnf)))
  refine (dagOwn_ok p.dag h.dag.1 h.dag.2).mono ?_
  rintro _ _ ⟨rfl, rfl⟩
  conv => whnf
  repeat' (first | ((with_reducible apply rd_intro); (focus (intro K hK; (conv => whnf); first | exact hK | (intro z hz; rw [wrapI (by omega)] at hz; subst hz; exact hK))); (conv => whnf)) | ((with_reducible apply gd_and); (focus ((conv => whnf) <;> first | rfl | (intro K hK; (conv => whnf); first | exact hK | (intro z hz; rw [wrapI (by omega)] at hz; subst hz; exact hK)))); (conv => whnf)) | ((with_reducible apply z_wrap); (focus omega); (conv => whnf)) | ((with_reducible first | apply mt_dec | apply mt_eq | apply mt_ne | apply mt_not | apply mt_any) <;> (intro _; conv => whnf)))
  refine (ownCerts_ok p.late h.late.1 h.late.2).mono ?_
  rintro _ _ ⟨rfl, rfl⟩
  conv => whnf
  repeat' (first | ((with_reducible apply rd_intro); (focus (intro K hK; (conv => whnf); first | exact hK | (intro z hz; rw [wrapI (by omega)] at hz; subst hz; exact hK))); (conv => whnf)) | ((with_reducible apply gd_and); (focus ((conv => whnf) <;> first | rfl | (intro K hK; (conv => whnf); first | exact hK | (intro z hz; rw [wrapI (by omega)] at hz; subst hz; exact hK)))); (conv => whnf)) | ((with_reducible apply z_wrap); (focus omega); (conv => whnf)) | ((with_reducible first | apply mt_dec | apply mt_eq | apply mt_ne | apply mt_not | apply mt_any) <;> (intro _; conv => whnf)))
  exact ⟨rfl, rfl⟩
end Go.Proofs.YtdlfmgcmfoehdaaGreat

namespace Go.Proofs.YtdlfmgcmfoehdaaGreat
open Go.Ab Go.RowKit Go.MapKept
attribute [local irreducible] ACalls AW ADraw Into fltB fnear
set_option maxRecDepth 100000
/-! ## certified -/
def certP (p : Prim) : Cert := ⟨p.mine.author, p.mine.round, p.mine.bats, p.mine.pars, p.dig, p.acks⟩
def clearP (p : Prim) : Prim := { p with mine := cz0, dig := 0, acks := [] }
def doneP (p : Prim) : Bool := !(decide (p.dig = 0) || decide ((p.acks.length : Int) < quo p.nodes))
def certdP (p : Prim) : Prim := if doneP p then inP (clearP p) (certP p) else p
def certMsg (c : Cert) : Msg := ⟨6, 0, 0, 0, 0, 0, [], cz0, c, []⟩
set_option maxHeartbeats 4000000 in
theorem certified_ok (p : Prim) (out : List Msg) (ho : out.length ≤ 100000) (hn : isN p.nodes = true) (hd : doneP p = true → okCert p.dag.nodes (certP p) ∧ (certP p).tiny ∧ Fine p.dag p.late ∧ p.dag.certs.length + p.late.length < 60000 ∧ risingC p.late) : ACalls Tryz.prog 101 [.ptr 0 0] (p.st out) (fun av L => av = .tup [] ∧ ∃ j, L = (certdP p).sj j (out ++ if doneP p then tellO (clearP p) (certMsg (certP p)) [] p.nodes.toNat else [])) := by
  refine acalls_go ttOk zOk foOk Tryz.func101 rfl Tryz.ntmps101 rfl false rfl ?_
  conv => whnf
  ((with_reducible refine draw_pl ttOk zOk foOk mixedOk pl101x0 ?_ ?_); (focus kernel_rfl); (conv => whnf))
  repeat' (first | ((with_reducible apply rd_intro); (focus (intro K hK; (conv => whnf); first | exact hK | (intro z hz; rw [wrapI (by omega)] at hz; subst hz; exact hK))); (conv => whnf)) | ((with_reducible apply gd_and); (focus ((conv => whnf) <;> first | rfl | (intro K hK; (conv => whnf); first | exact hK | (intro z hz; rw [wrapI (by omega)] at hz; subst hz; exact hK)))); (conv => whnf)) | ((with_reducible apply z_wrap); (focus omega); (conv => whnf)) | ((with_reducible first | apply mt_dec | apply mt_eq | apply mt_ne | apply mt_not | apply mt_any) <;> (intro _; conv => whnf)))
  · rename_i h0
    have hd : doneP p = false := by simp [doneP, h0]
    refine ⟨rfl, false, ?_⟩
    rw [certdP, hd]
    simp only [Bool.false_eq_true, if_false, List.append_nil]
    rfl
  · rename_i h0
    have hnn := of_decide_eq_true hn
    refine (q_ok p.nodes ⟨by omega, by omega⟩).mono ?_
    rintro _ _ ⟨rfl, rfl⟩
    conv => whnf
    repeat' (first | ((with_reducible apply rd_intro); (focus (intro K hK; (conv => whnf); first | exact hK | (intro z hz; rw [wrapI (by omega)] at hz; subst hz; exact hK))); (conv => whnf)) | ((with_reducible apply gd_and); (focus ((conv => whnf) <;> first | rfl | (intro K hK; (conv => whnf); first | exact hK | (intro z hz; rw [wrapI (by omega)] at hz; subst hz; exact hK)))); (conv => whnf)) | ((with_reducible apply z_wrap); (focus omega); (conv => whnf)) | ((with_reducible first | apply mt_dec | apply mt_eq | apply mt_ne | apply mt_not | apply mt_any) <;> (intro _; conv => whnf)))
    · rename_i hq
      replace hq : ((nums p.acks).length : Int) < quo p.nodes := hq
      rw [nums_length] at hq
      have hd : doneP p = false := by simp [doneP, h0, hq]
      refine ⟨rfl, false, ?_⟩
      rw [certdP, hd]
      simp only [Bool.false_eq_true, if_false, List.append_nil]
      rfl
    · rename_i hq
      replace hq : ¬ ((nums p.acks).length : Int) < quo p.nodes := hq
      rw [nums_length] at hq
      have hdn : doneP p = true := by simp [doneP, h0]; omega
      obtain ⟨hok, hct, hf, hroom, hris⟩ := hd hdn
      have htl := tellO_len (clearP p) (certMsg (certP p)) [] p.nodes.toNat
      have htell := tell_ok (clearP p) (by show 0 ≤ p.nodes ∧ p.nodes ≤ 16; omega) out (by omega) (certMsg (certP p)) cz0_tiny hct [] few_nil
      have hin := stepIn_ok (clearP p) (out ++ tellO (clearP p) (certMsg (certP p)) [] p.nodes.toNat) (by rw [List.length_append]; omega) (certP p) hok hct hf hroom hris 0
      rw [certdP, if_pos hdn, if_pos hdn]
      rw [inO, if_neg (fun h => by have := h.2; omega), List.append_nil] at hin
      ((with_reducible refine draw_pl ttOk zOk foOk mixedOk pl101x1 ?_ ?_); (focus kernel_rfl); (conv => whnf))
      repeat' (first | ((with_reducible apply rd_intro); (focus (intro K hK; (conv => whnf); first | exact hK | (intro z hz; rw [wrapI (by omega)] at hz; subst hz; exact hK))); (conv => whnf)) | ((with_reducible apply gd_and); (focus ((conv => whnf) <;> first | rfl | (intro K hK; (conv => whnf); first | exact hK | (intro z hz; rw [wrapI (by omega)] at hz; subst hz; exact hK)))); (conv => whnf)) | ((with_reducible apply z_wrap); (focus omega); (conv => whnf)) | ((with_reducible first | apply mt_dec | apply mt_eq | apply mt_ne | apply mt_not | apply mt_any) <;> (intro _; conv => whnf)))
      refine (acalls_nilsL [(0, 7, 1), (0, 8, 1), (0, 10, 1)] rfl (acalls_nw htell (.cons (.refl _) (.cons (.agg ?_) (.cons (.refl _) .nil))))).mono ?_
      · repeat (first | exact .nil | refine .cons (.refl _) ?_ | refine .cons (.nils _ (by decide)) ?_)
      · rintro _ _ ⟨rfl, j, rfl⟩
        cases j
        all_goals
          conv => whnf
          repeat' (first | ((with_reducible apply rd_intro); (focus (intro K hK; (conv => whnf); first | exact hK | (intro z hz; rw [wrapI (by omega)] at hz; subst hz; exact hK))); (conv => whnf)) | ((with_reducible apply gd_and); (focus ((conv => whnf) <;> first | rfl | (intro K hK; (conv => whnf); first | exact hK | (intro z hz; rw [wrapI (by omega)] at hz; subst hz; exact hK)))); (conv => whnf)) | ((with_reducible apply z_wrap); (focus omega); (conv => whnf)) | ((with_reducible first | apply mt_dec | apply mt_eq | apply mt_ne | apply mt_not | apply mt_any) <;> (intro _; conv => whnf)))
          refine hin.mono ?_
          rintro _ _ ⟨rfl, j, rfl⟩
          cases j
          all_goals
            conv => whnf
            repeat' (first | ((with_reducible apply rd_intro); (focus (intro K hK; (conv => whnf); first | exact hK | (intro z hz; rw [wrapI (by omega)] at hz; subst hz; exact hK))); (conv => whnf)) | ((with_reducible apply gd_and); (focus ((conv => whnf) <;> first | rfl | (intro K hK; (conv => whnf); first | exact hK | (intro z hz; rw [wrapI (by omega)] at hz; subst hz; exact hK)))); (conv => whnf)) | ((with_reducible apply z_wrap); (focus omega); (conv => whnf)) | ((with_reducible first | apply mt_dec | apply mt_eq | apply mt_ne | apply mt_not | apply mt_any) <;> (intro _; conv => whnf)))
            first
              | exact ⟨rfl, false, rfl⟩
              | exact ⟨rfl, true, rfl⟩
end Go.Proofs.YtdlfmgcmfoehdaaGreat

namespace Go.Proofs.YtdlfmgcmfoehdaaGreat
open Go.Ab Go.RowKit Go.MapKept
attribute [local irreducible] ACalls AW ADraw Into fltB fnear
set_option maxRecDepth 100000
/-! ## Got: a certificate -/
set_option maxHeartbeats 4000000 in
theorem gotCert_ok (p : Prim) (m : Msg) (hk : m.kind = 6) (held : List Int) (hok : okCert p.dag.nodes m.cert) (hct : m.cert.tiny) (hf : Fine p.dag p.late) (hroom : p.dag.certs.length + p.late.length < 60000) (hs : risingC p.late) :
    ACalls Tryz.prog 40 [p.av, m.av, .d (.sl 1 (nums held))] [] (fun av L => av = .tup [(inP p m.cert).av, .d (.sl 18 (msgsD (inO p m.cert m.src)))] ∧ L = []) := by
  have hin := stepIn_ok p [] (by simp) m.cert hok hct hf hroom hs m.src
  refine acalls_go ttOk zOk foOk Tryz.func40 rfl Tryz.ntmps40 rfl false rfl ?_
  conv => whnf
  rw [hk]
  repeat' (first | ((with_reducible apply rd_intro); (focus (intro K hK; (conv => whnf); first | exact hK | (intro z hz; rw [wrapI (by omega)] at hz; subst hz; exact hK))); (conv => whnf)) | ((with_reducible apply gd_and); (focus ((conv => whnf) <;> first | rfl | (intro K hK; (conv => whnf); first | exact hK | (intro z hz; rw [wrapI (by omega)] at hz; subst hz; exact hK)))); (conv => whnf)) | ((with_reducible apply z_wrap); (focus omega); (conv => whnf)) | ((with_reducible first | apply mt_dec | apply mt_eq | apply mt_ne | apply mt_not | apply mt_any) <;> (intro _; conv => whnf)))
  · rename_i h
    exact absurd (show (6 : Int) = 4 from h) (by decide)
  · refine hin.mono ?_
    rintro _ _ ⟨rfl, j, rfl⟩
    rw [List.nil_append]
    cases j
    all_goals
      conv => whnf
      repeat' (first | ((with_reducible apply rd_intro); (focus (intro K hK; (conv => whnf); first | exact hK | (intro z hz; rw [wrapI (by omega)] at hz; subst hz; exact hK))); (conv => whnf)) | ((with_reducible apply gd_and); (focus ((conv => whnf) <;> first | rfl | (intro K hK; (conv => whnf); first | exact hK | (intro z hz; rw [wrapI (by omega)] at hz; subst hz; exact hK)))); (conv => whnf)) | ((with_reducible apply z_wrap); (focus omega); (conv => whnf)) | ((with_reducible first | apply mt_dec | apply mt_eq | apply mt_ne | apply mt_not | apply mt_any) <;> (intro _; conv => whnf)))
      ((with_reducible refine draw_pl ttOk zOk foOk mixedOk pl40x10 ?_ ?_); (focus kernel_rfl); (conv => whnf))
      repeat' (first | ((with_reducible apply rd_intro); (focus (intro K hK; (conv => whnf); first | exact hK | (intro z hz; rw [wrapI (by omega)] at hz; subst hz; exact hK))); (conv => whnf)) | ((with_reducible apply gd_and); (focus ((conv => whnf) <;> first | rfl | (intro K hK; (conv => whnf); first | exact hK | (intro z hz; rw [wrapI (by omega)] at hz; subst hz; exact hK)))); (conv => whnf)) | ((with_reducible apply z_wrap); (focus omega); (conv => whnf)) | ((with_reducible first | apply mt_dec | apply mt_eq | apply mt_ne | apply mt_not | apply mt_any) <;> (intro _; conv => whnf)))
      exact ⟨rfl, rfl⟩
end Go.Proofs.YtdlfmgcmfoehdaaGreat

namespace Go.Proofs.YtdlfmgcmfoehdaaGreat
open Go.Ab Go.RowKit Go.MapKept
attribute [local irreducible] ACalls AW ADraw Into fltB fnear
set_option maxRecDepth 100000
/-! ## a primary that may be: its certificates that lack parents -/
set_option maxHeartbeats 4000000 in
theorem lateMay_true (n : Int) (l : List Cert) (hl : l.length ≤ 256) (hs : risingC l) (hok : ∀ c ∈ l, okCert n c ∧ fewL c) : ACalls Tryz.prog 76 [.d (.sl 6 (certsD l)), .d (.int .i64 n)] [] (fun av L => av = .d (.bool true) ∧ L = []) := by
  have hcl := certsD_length l
  refine acalls_go ttOk zOk foOk Tryz.func76 rfl Tryz.ntmps76 rfl false rfl ?_
  conv => whnf
  refine loop_go ttOk zOk foOk (σ := Nat) (fun j => ([(0, .d (.sl 6 (certsD l))), (1, .d (.int .i64 n)), (7, .d (.sl 6 (certsD l))), (8, .d (.int .i64 l.length)), (9, .d (.int .i64 j))], [])) (fun j => j ≤ l.length) (fun j => l.length - j) [0, 1, 7, 8, 9] ?_ ?_
  · conv => whnf
    exact ⟨0, by rw [hcl]; rfl, rfl, Nat.zero_le _⟩
  · intro j hj
    conv => whnf
    repeat' (first | ((with_reducible apply rd_intro); (focus (intro K hK; (conv => whnf); first | exact hK | (intro z hz; rw [wrapI (by omega)] at hz; subst hz; exact hK))); (conv => whnf)) | ((with_reducible apply gd_and); (focus ((conv => whnf) <;> first | rfl | (intro K hK; (conv => whnf); first | exact hK | (intro z hz; rw [wrapI (by omega)] at hz; subst hz; exact hK)))); (conv => whnf)) | ((with_reducible apply z_wrap); (focus omega); (conv => whnf)) | ((with_reducible first | apply mt_dec | apply mt_eq | apply mt_ne | apply mt_not | apply mt_any) <;> (intro _; conv => whnf)))
    · rename_i hjl
      refine Exists.elim (⟨_, List.getElem?_eq_getElem (by omega)⟩ : ∃ c, l[j]? = some c) fun c hc => ?_
      obtain ⟨h1, h2⟩ := hok c (List.mem_of_getElem? hc)
      have hm : ACalls Tryz.prog 112 [c.av, .d (.int .i64 n)] [] (fun av L => av = .d (.bool true) ∧ L = []) := (mayCert_ok c h2 n).mono (by rintro _ _ ⟨rfl, rfl⟩; exact ⟨by simp [h1], rfl⟩)
      refine ⟨by omega, c.cs, certsD_at hc, ?_⟩
      conv => whnf
      repeat' (first | ((with_reducible apply rd_intro); (focus (intro K hK; (conv => whnf); first | exact hK | (intro z hz; rw [wrapI (by omega)] at hz; subst hz; exact hK))); (conv => whnf)) | ((with_reducible apply gd_and); (focus ((conv => whnf) <;> first | rfl | (intro K hK; (conv => whnf); first | exact hK | (intro z hz; rw [wrapI (by omega)] at hz; subst hz; exact hK)))); (conv => whnf)) | ((with_reducible apply z_wrap); (focus omega); (conv => whnf)) | ((with_reducible first | apply mt_dec | apply mt_eq | apply mt_ne | apply mt_not | apply mt_any) <;> (intro _; conv => whnf)))
      ((with_reducible refine draw_pl ttOk zOk foOk mixedOk pl76x4 ?_ ?_); (focus kernel_rfl); (conv => whnf))
      repeat' (first | ((with_reducible apply rd_intro); (focus (intro K hK; (conv => whnf); first | exact hK | (intro z hz; rw [wrapI (by omega)] at hz; subst hz; exact hK))); (conv => whnf)) | ((with_reducible apply gd_and); (focus ((conv => whnf) <;> first | rfl | (intro K hK; (conv => whnf); first | exact hK | (intro z hz; rw [wrapI (by omega)] at hz; subst hz; exact hK)))); (conv => whnf)) | ((with_reducible apply z_wrap); (focus omega); (conv => whnf)) | ((with_reducible first | apply mt_dec | apply mt_eq | apply mt_ne | apply mt_not | apply mt_any) <;> (intro _; conv => whnf)))
      refine hm.mono ?_
      rintro _ _ ⟨rfl, rfl⟩
      conv => whnf
      repeat' (first | ((with_reducible apply rd_intro); (focus (intro K hK; (conv => whnf); first | exact hK | (intro z hz; rw [wrapI (by omega)] at hz; subst hz; exact hK))); (conv => whnf)) | ((with_reducible apply gd_and); (focus ((conv => whnf) <;> first | rfl | (intro K hK; (conv => whnf); first | exact hK | (intro z hz; rw [wrapI (by omega)] at hz; subst hz; exact hK)))); (conv => whnf)) | ((with_reducible apply z_wrap); (focus omega); (conv => whnf)) | ((with_reducible first | apply mt_dec | apply mt_eq | apply mt_ne | apply mt_not | apply mt_any) <;> (intro _; conv => whnf)))
      · rename_i hj0
        replace hj0 : (j : Int) > 0 := hj0
        refine Exists.elim (⟨_, List.getElem?_eq_getElem (by omega)⟩ : ∃ b, l[j - 1]? = some b) fun b hb => ?_
        have hbc : b.digest < c.digest := by
          have := List.pairwise_iff_getElem.1 hs (j - 1) j (by omega) (by omega) (by omega)
          rw [List.getElem?_eq_getElem (by omega)] at hb hc
          cases hb; cases hc; exact this
        ((with_reducible apply rd_intro); (focus (intro K hK; (conv => whnf); exact ⟨by omega, b.cs, (by rw [show ((j : Int) - 1).toNat = j - 1 by omega]; exact certsD_at hb), hK⟩)); (conv => whnf))
        repeat' (first | (first | ((with_reducible apply rd_intro); (focus (intro K hK; (conv => whnf); first | exact hK | (intro z hz; rw [wrapI (by omega)] at hz; subst hz; exact hK))); (conv => whnf)) | ((with_reducible apply gd_and); (focus ((conv => whnf) <;> first | rfl | (intro K hK; (conv => whnf); first | exact hK | (intro z hz; rw [wrapI (by omega)] at hz; subst hz; exact hK)))); (conv => whnf)) | ((with_reducible apply z_wrap); (focus omega); (conv => whnf)) | ((with_reducible first | apply mt_dec | apply mt_eq | apply mt_ne | apply mt_not | apply mt_any) <;> (intro _; conv => whnf))) | ((with_reducible apply gd_and); (focus ((conv => whnf); intro K hK; (conv => whnf); exact ⟨by omega, b.cs, (by rw [show ((j : Int) - 1).toNat = j - 1 by omega]; exact certsD_at hb), hK⟩)); (conv => whnf)))
        · rename_i h
          exact absurd (show b.digest ≥ c.digest from h) (by omega)
        · exact ⟨j + 1, rfl, rfl, by omega, by omega⟩
      · exact ⟨j + 1, rfl, rfl, by omega, by omega⟩
    · rename_i hjl
      refine ⟨?_, rfl⟩
      rw [decide_eq_true (show ((certsD l).length : Int) ≤ 256 by omega)]
end Go.Proofs.YtdlfmgcmfoehdaaGreat

namespace Go.Proofs.YtdlfmgcmfoehdaaGreat
open Go.Ab Go.RowKit Go.MapKept
attribute [local irreducible] ACalls AW ADraw Into fltB fnear
set_option maxRecDepth 100000
/-! ## a primary that may be, without a header of its own and without votes -/
structure Bare (p : Prim) : Prop where
  mine : p.mine.author = 0 ∧ p.mine.round = 0 ∧ p.mine.bats = [] ∧ p.mine.pars = []
  dig : p.dig = 0
  acks : p.acks = []
theorem mine0_ok (p : Prim) (h : Bare p) : ACalls Tryz.prog 73 [p.av] [] (fun av L => av = .d (.bool true) ∧ L = []) := by
  obtain ⟨⟨a1, a2, a3, a4⟩, a5, a6⟩ := h
  obtain ⟨id, nodes, round, age, said, ⟨ma, mr, mb, mp, md, ms⟩, dig, acks, votes, dag, late⟩ := p
  simp only at a1 a2 a3 a4 a5 a6
  subst a1 a2 a3 a4 a5 a6
  refine acalls_go ttOk zOk foOk Tryz.func73 rfl Tryz.ntmps73 rfl false rfl ?_
  conv => whnf
  repeat' (first | ((with_reducible apply z_wrap); (focus omega); (conv => whnf)) | ((with_reducible first | apply mt_dec | apply mt_eq | apply mt_ne | apply mt_not | apply mt_any) <;> (intro _; conv => whnf)))
  intro z hz
  have hz0 : z = 0 := by rw [hz]; rfl
  subst hz0
  conv => whnf
  repeat' (first | ((with_reducible apply z_wrap); (focus omega); (conv => whnf)) | ((with_reducible first | apply mt_dec | apply mt_eq | apply mt_ne | apply mt_not | apply mt_any) <;> (intro _; conv => whnf)))
  intro z2 hz2
  have hz0 : z2 = 0 := by rw [hz2]; rfl
  subst hz0
  conv => whnf
  repeat' (first | ((with_reducible apply z_wrap); (focus omega); (conv => whnf)) | ((with_reducible first | apply mt_dec | apply mt_eq | apply mt_ne | apply mt_not | apply mt_any) <;> (intro _; conv => whnf)))
  exact ⟨rfl, rfl⟩
theorem voteMay_nil : ACalls Tryz.prog 74 [.d (.sl 3 [])] [] (fun av L => av = .d (.bool true) ∧ L = []) := by
  refine acalls_go ttOk zOk foOk Tryz.func74 rfl Tryz.ntmps74 rfl false rfl ?_
  conv => whnf
  refine scope_go ttOk zOk foOk (σ := Unit) (fun _ => ([(0, .d (.sl 3 [])), (3, .d (.int .i64 0))], [])) (fun k _ => k = 1) (fun _ _ => 0) ?_ ?_
  · rintro k rest hk _ rfl
    have e := Option.some.inj (show some _ = some rest from hk)
    subst e
    clear hk
    conv => whnf
    repeat' (first | ((with_reducible apply z_wrap); (focus omega); (conv => whnf)) | ((with_reducible first | apply mt_dec | apply mt_eq | apply mt_ne | apply mt_not | apply mt_any) <;> (intro _; conv => whnf)))
    exact ⟨rfl, rfl⟩
  · intro pass
    conv => whnf
    refine aw_at (σ := Unit) (fun _ => ([(0, .d (.sl 3 [])), (3, .d (.int .i64 0))], [])) (fun _ => True) [0, 3] ?_ ?_
    · conv => whnf
      exact ⟨(), rfl, rfl, trivial⟩
    · intro _ _
      exact pass 1 _ rfl () rfl
end Go.Proofs.YtdlfmgcmfoehdaaGreat

namespace Go.Proofs.YtdlfmgcmfoehdaaGreat
open Go.Ab Go.RowKit Go.MapKept
attribute [local irreducible] ACalls AW ADraw Into fltB fnear
set_option maxRecDepth 100000
/-! ## primary.May -/
structure BareMay (p : Prim) : Prop where
  bare : Bare p
  isn : isN p.nodes = true
  id : 1 ≤ p.id ∧ p.id ≤ p.nodes
  round : 1 ≤ p.round ∧ p.round ≤ 1099511627776
  age : 0 ≤ p.age ∧ p.age ≤ 1099511627776
  said : 0 ≤ p.said ∧ p.said ≤ p.round
  votes : p.votes = []
  dag : Valid p.dag
  same : p.dag.nodes = p.nodes
  late : p.late.length ≤ 256 ∧ risingC p.late ∧ ∀ c ∈ p.late, okCert p.nodes c ∧ fewL c
end Go.Proofs.YtdlfmgcmfoehdaaGreat

namespace Go.Proofs.YtdlfmgcmfoehdaaGreat
open Go.Ab Go.RowKit Go.MapKept
attribute [local irreducible] ACalls AW ADraw Into fltB fnear
set_option maxRecDepth 100000
/-! ## AuditShuffles: the plain law -/
def clear2 (l : List Cert) : Prop := l.Pairwise fun a b => a.digest ≠ b.digest ∧ ¬ (a.round = b.round ∧ a.author = b.author)
theorem clear_eq {l : List Cert} (h : clear2 l) {a b : Cert} (ha : a ∈ l) (hb : b ∈ l) (he : a.digest = b.digest ∨ a.round = b.round ∧ a.author = b.author) : a = b := by
  induction l with
  | nil => cases ha
  | cons x r ih =>
    obtain ⟨h1, h2⟩ := List.pairwise_cons.1 h
    rcases List.mem_cons.1 ha with ha2 | ha2 <;> rcases List.mem_cons.1 hb with hb2 | hb2
    · rw [ha2, hb2]
    · subst ha2
      have := h1 b hb2
      rcases he with e | e
      · exact absurd e this.1
      · exact absurd e this.2
    · subst hb2
      have := h1 a ha2
      rcases he with e | ⟨e1, e2⟩
      · exact absurd e.symm this.1
      · exact absurd ⟨e1.symm, e2.symm⟩ this.2
    · exact ih h2 ha2 hb2
/-- nothing more can be added -/
def full (d : Dag) (l : List Cert) : Prop := ∀ c ∈ l, putE d c ≠ 0
theorem sorted_sub : ∀ {m l : List Cert}, sortedC m → sortedC l → (∀ c ∈ l, c ∈ m) → l.Sublist m
  | [], l, _, _, h => by
    cases l with
    | nil => exact List.Sublist.refl _
    | cons x r => exact absurd (h x (List.mem_cons_self ..)) (by simp)
  | y :: m, l, hm, hl, h => by
    obtain ⟨hm1, hm2⟩ := List.pairwise_cons.1 hm
    cases l with
    | nil => exact List.nil_sublist _
    | cons x r =>
      obtain ⟨hl1, hl2⟩ := List.pairwise_cons.1 hl
      rcases List.mem_cons.1 (h x (List.mem_cons_self ..)) with rfl | hx
      · refine List.Sublist.cons_cons _ (sorted_sub hm2 hl2 fun c hc => ?_)
        rcases List.mem_cons.1 (h c (List.mem_cons_of_mem _ hc)) with rfl | hc2
        · have := before_iff.1 (hl1 c hc); omega
        · exact hc2
      · refine List.Sublist.cons _ (sorted_sub hm2 hl fun c hc => ?_)
        rcases List.mem_cons.1 (h c hc) with rfl | hc2
        · have h1 := before_iff.1 (hm1 x hx)
          rcases List.mem_cons.1 hc with rfl | hc3
          · omega
          · have h2 := before_iff.1 (hl1 c hc3); omega
        · exact hc2
theorem sorted_ext {m l : List Cert} (hm : sortedC m) (hl : sortedC l) (h : ∀ c, c ∈ l ↔ c ∈ m) : l = m :=
  have h1 := sorted_sub hm hl fun c hc => (h c).1 hc
  h1.eq_of_length_le (sorted_sub hl hm fun c hc => (h c).2 hc).length_le
end Go.Proofs.YtdlfmgcmfoehdaaGreat

namespace Go.Proofs.YtdlfmgcmfoehdaaGreat
open Go.Ab Go.RowKit Go.MapKept
attribute [local irreducible] ACalls AW ADraw Into fltB fnear
set_option maxRecDepth 100000
/-! ## certificates that come in any order: the plain law -/
theorem putE_07 {l : List Cert} (hl : clear2 l) {d : Dag} (hd0 : d.low = 0) (hds : ∀ c ∈ d.certs, c ∈ l) {c : Cert} (hc : c ∈ l) (hr : 1 ≤ c.round) (hn : c ∉ d.certs) : putE d c = if lackI d c = [] then 0 else 7 := by
  have h1 : ∀ y ∈ d.certs, y.digest ≠ c.digest ∧ ¬ (y.round = c.round ∧ y.author = c.author) := by
    intro y hy
    constructor
    · intro h
      have := clear_eq hl (hds y hy) hc (.inl h)
      exact hn (this ▸ hy)
    · intro h
      have := clear_eq hl (hds y hy) hc (.inr h)
      exact hn (this ▸ hy)
  have ha : atC d.certs c.round c.author = none := by
    unfold atC
    rw [List.find?_eq_none]
    intro y hy
    simpa using (h1 y hy).2
  have hb : (d.certs.any fun y => y.digest == c.digest) = false := by
    rw [List.any_eq_false]
    intro y hy
    simpa using (h1 y hy).1
  rw [putE, if_neg (by omega), ha]
  simp [hb]
theorem mem_putD {d : Dag} {c y : Cert} (h : y ∈ d.certs) : y ∈ (putD d c).certs := by
  unfold putD
  split
  · exact mem_insC.2 (.inr h)
  · exact h
theorem putD_sub {d : Dag} {c y : Cert} (h : y ∈ (putD d c).certs) : y = c ∨ y ∈ d.certs := by
  unfold putD at h
  split at h
  · exact mem_insC.1 h
  · exact .inr h
/-- what a pass over certificates comes to -/
structure PassR (l : List Cert) (s : Dag × List Cert) (cs : List Cert) (t : Dag × List Cert) : Prop where
  valid : Valid t.1
  nodes : t.1.nodes = s.1.nodes
  low : t.1.low = 0
  dsub : ∀ c ∈ t.1.certs, c ∈ l
  keep : ∀ c ∈ s.1.certs, c ∈ t.1.certs
  left : ∃ sub, t.2 = s.2 ++ sub ∧ sub.Sublist cs
  cov : ∀ c ∈ cs, c ∈ t.1.certs ∨ c ∈ t.2
  len : t.1.certs.length ≤ s.1.certs.length + cs.length
theorem pass_r {l : List Cert} (hl : clear2 l) {n : Int} (hok : ∀ c ∈ l, okCert n c) : ∀ (cs : List Cert) (s : Dag × List Cert), Valid s.1 → s.1.nodes = n → s.1.low = 0 → (∀ c ∈ s.1.certs, c ∈ l) → (∀ c ∈ cs, c ∈ l) → s.1.certs.length + cs.length ≤ 60000 → PassR l s cs (cs.foldl stepD s)
  | [], s, hv, hn, h0, hd, hc, hr => ⟨hv, rfl, h0, hd, fun c h => h, ⟨[], by simp, List.Sublist.refl _⟩, fun c h => (by cases h), by simp⟩
  | c :: cs, s, hv, hn, h0, hd, hc, hr => by
    simp only [List.length_cons] at hr
    have hcl := hc c (by simp)
    have hlen := putD_len s.1 c
    have ih := pass_r hl hok cs (stepD s c) (putD_valid hv (by rw [hn]; exact hok c hcl) (by omega)) (by show (putD s.1 c).nodes = n; rw [putD_nodes, hn]) (by show (putD s.1 c).low = 0; rw [putD_low, h0])
      (fun y hy => by rcases putD_sub (show y ∈ (putD s.1 c).certs from hy) with rfl | h; exact hcl; exact hd y h) (fun y hy => hc y (by simp [hy])) (by show (putD s.1 c).certs.length + cs.length ≤ _; omega)
    obtain ⟨sub, e1, e2⟩ := ih.left
    refine ⟨ih.valid, ih.nodes.trans (putD_nodes ..), ih.low, ih.dsub, fun y hy => ih.keep y (mem_putD hy), ?_, fun y hy => ?_, ?_⟩
    · by_cases h7 : putE s.1 c = 7
      · refine ⟨c :: sub, ?_, e2.cons_cons c⟩
        rw [List.foldl_cons, e1]
        simp [stepD, h7]
      · refine ⟨sub, ?_, e2.cons c⟩
        rw [List.foldl_cons, e1]
        simp [stepD, h7]
    · rcases List.mem_cons.1 hy with rfl | hy
      · by_cases hin : y ∈ s.1.certs
        · exact .inl (ih.keep y (mem_putD hin))
        · have hp := putE_07 hl h0 hd hcl ((hok y hcl).head.round.1) hin
          by_cases hk : lackI s.1 y = []
          · rw [if_pos hk] at hp
            refine .inl (ih.keep y ?_)
            show y ∈ (putD s.1 y).certs
            rw [putD, if_pos hp]
            exact mem_insC.2 (.inl rfl)
          · rw [if_neg hk] at hp
            refine .inr ?_
            rw [List.foldl_cons, e1]
            simp [stepD, hp]
      · exact ih.cov y hy
    · have := ih.len
      have h2 : (stepD s c).1.certs.length ≤ s.1.certs.length + 1 := hlen
      rw [List.foldl_cons, List.length_cons]
      omega
theorem pass_stay : ∀ (cs : List Cert) (s : Dag × List Cert), (cs.foldl stepD s).2.length ≤ s.2.length + cs.length ∧ ((cs.foldl stepD s).2.length = s.2.length + cs.length → (cs.foldl stepD s).1 = s.1 ∧ ∀ c ∈ cs, putE s.1 c = 7)
  | [], s => ⟨by simp, fun _ => ⟨rfl, fun c h => (by cases h)⟩⟩
  | c :: cs, s => by
    obtain ⟨h1, h2⟩ := pass_stay cs (stepD s c)
    rw [List.foldl_cons, List.length_cons]
    by_cases h7 : putE s.1 c = 7
    · have e1 : (stepD s c).2.length = s.2.length + 1 := by simp [stepD, h7]
      have e2 : (stepD s c).1 = s.1 := by show putD s.1 c = s.1; rw [putD, if_neg (by omega)]
      refine ⟨by omega, fun h => ?_⟩
      obtain ⟨k1, k2⟩ := h2 (by omega)
      rw [e2] at k1 k2
      exact ⟨k1, fun y hy => by rcases List.mem_cons.1 hy with rfl | hy; exact h7; exact k2 y hy⟩
    · have e1 : (stepD s c).2.length = s.2.length := by simp [stepD, h7]
      exact ⟨by omega, fun h => by omega⟩
/-- .. till none can be added -/
structure AgR (l : List Cert) (d : Dag) (cs : List Cert) (t : Dag × List Cert) : Prop where
  valid : Valid t.1
  nodes : t.1.nodes = d.nodes
  low : t.1.low = 0
  dsub : ∀ c ∈ t.1.certs, c ∈ l
  keep : ∀ c ∈ d.certs, c ∈ t.1.certs
  left : t.2.Sublist cs
  cov : ∀ c ∈ cs, c ∈ t.1.certs ∨ c ∈ t.2
  stuck : ∀ c ∈ t.2, putE t.1 c = 7
theorem again_r {l : List Cert} (hl : clear2 l) {n : Int} (hok : ∀ c ∈ l, okCert n c) (hln : l.length ≤ 20000) (hnd : ∀ d : Dag, Valid d → (∀ c ∈ d.certs, c ∈ l) → d.certs.length ≤ l.length) : ∀ (m : Nat) (d : Dag) (cs : List Cert), cs.length < m → Valid d → d.nodes = n → d.low = 0 → (∀ c ∈ d.certs, c ∈ l) → (∀ c ∈ cs, c ∈ l) → cs.length ≤ 20000 → AgR l d cs (againF m d cs)
  | 0, d, cs, hm, _, _, _, _, _, _ => by omega
  | m + 1, d, cs, hm, hv, hn, h0, hd, hc, hr => by
    have hdl := hnd d hv hd
    have hp := pass_r hl hok cs (d, []) hv hn h0 hd hc (by show d.certs.length + cs.length ≤ _; omega)
    have hs := pass_stay cs (d, [])
    obtain ⟨sub, e1, e2⟩ := hp.left
    unfold againF
    change PassR l (d, []) cs (passD d cs) at hp
    change (passD d cs).2.length ≤ 0 + cs.length ∧ ((passD d cs).2.length = 0 + cs.length → (passD d cs).1 = d ∧ ∀ c ∈ cs, putE d c = 7) at hs
    change (passD d cs).2 = [] ++ sub at e1
    rw [List.nil_append] at e1
    split
    · rename_i hlt
      have hsub : (passD d cs).2.Sublist cs := by rw [e1]; exact e2
      have ih := again_r hl hok hln hnd m (passD d cs).1 (passD d cs).2 (by omega) hp.valid (hp.nodes.trans hn) hp.low hp.dsub (fun c h => hc c (hsub.subset h)) (by omega)
      refine ⟨ih.valid, ih.nodes.trans hp.nodes, ih.low, ih.dsub, fun c h => ih.keep c (hp.keep c h), ih.left.trans hsub, fun c h => ?_, ih.stuck⟩
      rcases hp.cov c h with h | h
      · exact .inl (ih.keep c h)
      · exact ih.cov c h
    · rename_i hlt
      obtain ⟨k1, k2⟩ := hs.2 (by omega)
      rw [k1]
      exact ⟨hv, rfl, h0, hd, fun c h => h, List.Sublist.refl _, fun c h => .inr h, k2⟩
/-- the state behind some certificates of a DAG -/
structure LateI (D : Dag) (done : List Cert) (p : Prim) : Prop where
  valid : Valid p.dag
  nodes : p.dag.nodes = D.nodes
  low : p.dag.low = 0
  dsub : ∀ c ∈ p.dag.certs, c ∈ D.certs
  lsub : ∀ c ∈ p.late, c ∈ D.certs
  cov : ∀ c ∈ done, c ∈ p.dag.certs ∨ c ∈ p.late
  stuck : ∀ c ∈ p.late, putE p.dag c = 7
  ris : risingC p.late
theorem clear_dag {D : Dag} (h : Valid D) : clear2 D.certs := by
  have h1 := h.sorted
  have h2 := h.dig
  unfold clear2
  rw [List.pairwise_iff_getElem]
  intro i j hi hj hij
  have k1 := before_iff.1 (List.pairwise_iff_getElem.1 h1 i j hi hj hij)
  refine ⟨fun e => ?_, fun e => by omega⟩
  have := (List.pairwise_iff_getElem.1 h2) i j (by simpa using hi) (by simpa using hj) hij
  simp at this
  exact this e
theorem sub_few {D d : Dag} (h : Valid d) (hs : ∀ c ∈ d.certs, c ∈ D.certs) : d.certs.length ≤ D.certs.length := by
  have := sub_len (l := d.certs.map (·.digest)) (m := D.certs.map (·.digest)) h.dig fun x hx => by
    obtain ⟨c, hc, rfl⟩ := List.mem_map.1 hx
    exact List.mem_map.2 ⟨c, hs c hc, rfl⟩
  simpa using this
theorem late_few {D : Dag} {l : List Cert} (h : risingC l) (hs : ∀ c ∈ l, c ∈ D.certs) : l.length ≤ D.certs.length := by
  have hn : (l.map (·.digest)).Nodup := by
    refine List.pairwise_map.2 (h.imp fun h => ?_)
    omega
  have := sub_len (l := l.map (·.digest)) (m := D.certs.map (·.digest)) hn fun x hx => by
    obtain ⟨c, hc, rfl⟩ := List.mem_map.1 hx
    exact List.mem_map.2 ⟨c, hs c hc, rfl⟩
  simpa using this
theorem in_r {D : Dag} (hD : Valid D) (hD0 : D.low = 0) (hlen : D.certs.length ≤ 200) {done : List Cert} {p : Prim} (h : LateI D done p) {c : Cert} (hc : c ∈ D.certs) : LateI D (c :: done) (inP p c) := by
  have hcl := clear_dag hD
  have hok := hD.certs
  have hdl := sub_few h.valid h.dsub
  have hll := late_few h.ris h.lsub
  have hnn := h.nodes
  unfold inP
  by_cases h0 : putE p.dag c = 0
  · rw [if_pos h0]
    have hins : ∀ y ∈ (putD p.dag c).certs, y ∈ D.certs := fun y hy => by
      rcases putD_sub hy with rfl | hy
      · exact hc
      · exact h.dsub y hy
    have hag := again_r hcl (n := D.nodes) hok (by omega) (fun d hv hs => sub_few hv hs) (p.late.length + 1) (putD p.dag c) p.late (by omega) (putD_valid h.valid (by rw [hnn]; exact hok c hc) (by omega)) (by rw [putD_nodes, hnn]) (by rw [putD_low, h.low]) hins h.lsub (by omega)
    refine ⟨hag.valid, hag.nodes.trans ((putD_nodes ..).trans hnn), hag.low, hag.dsub, fun y hy => h.lsub y (hag.left.subset hy), fun y hy => ?_, hag.stuck, List.Pairwise.sublist hag.left h.ris⟩
    rcases List.mem_cons.1 hy with rfl | hy
    · refine .inl (hag.keep y ?_)
      rw [putD, if_pos h0]
      exact mem_insC.2 (.inl rfl)
    · rcases h.cov y hy with hy | hy
      · exact .inl (hag.keep y (mem_putD hy))
      · exact hag.cov y hy
  · rw [if_neg h0]
    by_cases h7 : putE p.dag c = 7
    · rw [if_pos h7]
      have hmem : ∀ y, (y = c ∨ y ∈ p.late) → y ∈ lateP p.late c := by
        intro y hy
        unfold lateP
        split
        · rcases hy with rfl | hy
          · simp
          · rw [← List.take_append_drop (lateI p.late c.digest) p.late] at hy
            rcases List.mem_append.1 hy with hy | hy
            · exact List.mem_append_left _ hy
            · exact List.mem_append_right _ (List.mem_cons_of_mem _ hy)
        · rename_i hno
          rcases hy with rfl | hy
          · have hlt : isLate p.late y.digest = true := by
              cases hb : isLate p.late y.digest with
              | true => rfl
              | false => exact absurd ⟨hb, by omega⟩ hno
            rw [isLate, List.any_eq_true] at hlt
            obtain ⟨z, hz, e⟩ := hlt
            have := clear_eq hcl (h.lsub z hz) hc (.inl (by simpa using e))
            exact this ▸ hz
          · exact hy
      refine ⟨h.valid, hnn, h.low, h.dsub, fun y hy => ?_, fun y hy => ?_, fun y hy => ?_, lateP_rising h.ris c⟩
      · rcases mem_lateP hy with rfl | hy
        · exact hc
        · exact h.lsub y hy
      · rcases List.mem_cons.1 hy with rfl | hy
        · exact .inr (hmem _ (.inl rfl))
        · rcases h.cov y hy with hy | hy
          · exact .inl hy
          · exact .inr (hmem _ (.inr hy))
      · rcases mem_lateP hy with rfl | hy
        · exact h7
        · exact h.stuck y hy
    · rw [if_neg h7]
      have hin : c ∈ p.dag.certs := Classical.byContradiction fun hn => by
        have := putE_07 hcl h.low h.dsub hc (hok c hc).head.round.1 hn
        split at this
        · exact h0 this
        · exact h7 this
      refine ⟨h.valid, hnn, h.low, h.dsub, h.lsub, fun y hy => ?_, h.stuck, h.ris⟩
      rcases List.mem_cons.1 hy with rfl | hy
      · exact .inl hin
      · exact h.cov y hy
theorem lack_of {d : Dag} {c : Cert} (h : putE d c = 7) : lackI d c ≠ [] := by
  unfold putE at h
  split at h
  · cases h
  · split at h
    · split at h <;> cases h
    · split at h
      · cases h
      · split at h
        · cases h
        · assumption
theorem late_no {D : Dag} (hD : Valid D) (hD0 : D.low = 0) {done : List Cert} {p : Prim} (h : LateI D done p) (hall : ∀ c ∈ D.certs, c ∈ done) : ∀ (n : Nat) (c : Cert), c.round ≤ n → c ∉ p.late
  | 0, c, hr, hc => by have := (hD.certs c (h.lsub c hc)).head.round.1; omega
  | n + 1, c, hr, hc => by
    have hcD := h.lsub c hc
    obtain ⟨x, hx⟩ := List.exists_mem_of_ne_nil _ (lack_of (h.stuck c hc))
    unfold lackI at hx
    split at hx
    · cases hx
    · rename_i hr1
      rw [h.low] at hr1
      obtain ⟨hx1, hx2⟩ := List.mem_filter.1 hx
      obtain ⟨y, hy, e1, e2⟩ := hD.here c hcD (by rw [hD0]; omega) x hx1
      rcases h.cov y (hall y hy) with hy2 | hy2
      · have : ((ofR p.dag.certs (c.round - 1)).any fun y => y.digest == x) = true := by
          rw [List.any_eq_true]
          exact ⟨y, List.mem_filter.2 ⟨hy2, by simpa using e2⟩, by simpa using e1⟩
        rw [this] at hx2
        cases hx2
      · exact late_no hD hD0 h hall n y (by omega) hy2
theorem late_end {D : Dag} (hD : Valid D) (hD0 : D.low = 0) {done : List Cert} {p : Prim} (h : LateI D done p) (hall : ∀ c ∈ D.certs, c ∈ done) : p.late = [] ∧ p.dag.certs = D.certs := by
  have hno : p.late = [] := List.eq_nil_iff_forall_not_mem.2 fun c hc => late_no hD hD0 h hall c.round.toNat c (by omega) hc
  refine ⟨hno, sorted_ext hD.sorted h.valid.sorted fun c => ⟨h.dsub c, fun hc => ?_⟩⟩
  rcases h.cov c (hall c hc) with h1 | h1
  · exact h1
  · rw [hno] at h1; cases h1
end Go.Proofs.YtdlfmgcmfoehdaaGreat

namespace Go.Proofs.YtdlfmgcmfoehdaaGreat
open Go.Ab Go.RowKit Go.MapKept
attribute [local irreducible] ACalls AW ADraw Into fltB fnear
set_option maxRecDepth 100000
/-! ## primary.May, message.May, Take -/
theorem i64_of {n : Int} (h : 0 ≤ n ∧ n ≤ 1099511627776) : i64 n := ⟨by omega, by omega⟩
theorem riseN_len {l : List Int} {m : Int} (h : riseB l 1 m) (hm : 0 ≤ m ∧ m ≤ 65536) : l.length ≤ 65536 := rise_len2 ⟨h.1, fun x hx => by have := h.2 x hx; omega⟩
theorem certOk_of {n : Int} (hn : isN n = true) {c : Cert} (h : okCert n c) : c.ok := by
  have hnn := of_decide_eq_true hn
  have h1 := h.head.author
  have h2 := h.head.round
  have h3 := h.head.bats
  have h4 := h.head.pars
  have h5 := h.digest
  have h6 := riseN_len h.sigs (by omega)
  refine ⟨i64_of (by omega), i64_of (by omega), ⟨by unfold few; omega, fun x hx => i64_of (by have := h3.2.2 x hx; omega)⟩, ⟨by unfold few; omega, fun x hx => i64_of (by have := h4.2.2 x hx; omega)⟩, i64_of (by omega), ⟨by unfold few; omega, fun x hx => i64_of (by have := h.sigs.2 x hx; omega)⟩⟩
theorem certTiny_of {n : Int} (hn : isN n = true) {c : Cert} (h : okCert n c) : c.tiny := by
  have hnn := of_decide_eq_true hn
  have h3 := h.head.bats
  have h4 := h.head.pars
  have h6 := riseN_len h.sigs (by omega)
  exact ⟨by unfold tiny; omega, by unfold tiny; omega, by unfold tiny; omega⟩
theorem certFew_of {n : Int} (hn : isN n = true) {c : Cert} (h : okCert n c) : fewL c := by
  have hnn := of_decide_eq_true hn
  have h3 := h.head.bats
  have h4 := h.head.pars
  have h6 := riseN_len h.sigs (by omega)
  exact ⟨by unfold few; omega, by unfold few; omega, by unfold few; omega⟩
theorem Valid.dok {d : Dag} (h : Valid d) : d.ok := by
  have hn := of_decide_eq_true h.nodes
  have hl := h.len
  exact ⟨i64_of (by omega), i64_of h.low, by unfold few; omega, fun c hc => certOk_of h.nodes (h.certs c hc)⟩
theorem dagMay_true (d : Dag) (h : Valid d) : ACalls Tryz.prog 75 [d.av] [] (fun av L => av = .d (.bool true) ∧ L = []) := by
  have := dagMay_full d h.dok
  rw [isV_yes h] at this
  exact this
set_option maxHeartbeats 4000000 in
theorem primMay_true (p : Prim) (h : BareMay p) : ACalls Tryz.prog 36 [p.av] [] (fun av L => av = .d (.bool true) ∧ L = []) := by
  have hi := is_ok p.nodes
  rw [h.isn] at hi
  obtain ⟨h1, h2⟩ := h.id
  obtain ⟨h3, h4⟩ := h.round
  obtain ⟨h5, h6⟩ := h.age
  obtain ⟨h7, h8⟩ := h.said
  have hm := mine0_ok p h.bare
  have hv := h.votes
  have hd := dagMay_true p.dag h.dag
  have hlt := lateMay_true p.nodes p.late h.late.1 h.late.2.1 h.late.2.2
  have hsm := h.same
  have hvm : ACalls Tryz.prog 74 [.d (.sl 3 (votesD p.votes))] [] (fun av L => av = .d (.bool true) ∧ L = []) := by rw [hv]; exact voteMay_nil
  refine acalls_go ttOk zOk foOk Tryz.func36 rfl Tryz.ntmps36 rfl false rfl ?_
  conv => whnf
  repeat' (first | ((with_reducible apply rd_intro); (focus (intro K hK; (conv => whnf); first | exact hK | (intro z hz; rw [wrapI (by omega)] at hz; subst hz; exact hK))); (conv => whnf)) | ((with_reducible apply gd_and); (focus ((conv => whnf) <;> first | rfl | (intro K hK; (conv => whnf); first | exact hK | (intro z hz; rw [wrapI (by omega)] at hz; subst hz; exact hK)))); (conv => whnf)) | ((with_reducible apply z_wrap); (focus omega); (conv => whnf)) | ((with_reducible first | apply mt_dec | apply mt_eq | apply mt_ne | apply mt_not | apply mt_any) <;> (intro _; conv => whnf)))
  refine hi.mono ?_
  rintro _ _ ⟨rfl, rfl⟩
  conv => whnf
  repeat' (first | ((with_reducible apply rd_intro); (focus (intro K hK; (conv => whnf); first | exact hK | (intro z hz; rw [wrapI (by omega)] at hz; subst hz; exact hK))); (conv => whnf)) | ((with_reducible apply gd_and); (focus ((conv => whnf) <;> first | rfl | (intro K hK; (conv => whnf); first | exact hK | (intro z hz; rw [wrapI (by omega)] at hz; subst hz; exact hK)))); (conv => whnf)) | ((with_reducible apply z_wrap); (focus omega); (conv => whnf)) | ((with_reducible first | apply mt_dec | apply mt_eq | apply mt_ne | apply mt_not | apply mt_any) <;> (intro _; conv => whnf)))
  all_goals first | (exfalso; omega) | skip
  refine hm.mono ?_
  rintro _ _ ⟨rfl, rfl⟩
  conv => whnf
  repeat' (first | ((with_reducible apply rd_intro); (focus (intro K hK; (conv => whnf); first | exact hK | (intro z hz; rw [wrapI (by omega)] at hz; subst hz; exact hK))); (conv => whnf)) | ((with_reducible apply gd_and); (focus ((conv => whnf) <;> first | rfl | (intro K hK; (conv => whnf); first | exact hK | (intro z hz; rw [wrapI (by omega)] at hz; subst hz; exact hK)))); (conv => whnf)) | ((with_reducible apply z_wrap); (focus omega); (conv => whnf)) | ((with_reducible first | apply mt_dec | apply mt_eq | apply mt_ne | apply mt_not | apply mt_any) <;> (intro _; conv => whnf)))
  refine hvm.mono ?_
  rintro _ _ ⟨rfl, rfl⟩
  conv => whnf
  repeat' (first | ((with_reducible apply rd_intro); (focus (intro K hK; (conv => whnf); first | exact hK | (intro z hz; rw [wrapI (by omega)] at hz; subst hz; exact hK))); (conv => whnf)) | ((with_reducible apply gd_and); (focus ((conv => whnf) <;> first | rfl | (intro K hK; (conv => whnf); first | exact hK | (intro z hz; rw [wrapI (by omega)] at hz; subst hz; exact hK)))); (conv => whnf)) | ((with_reducible apply z_wrap); (focus omega); (conv => whnf)) | ((with_reducible first | apply mt_dec | apply mt_eq | apply mt_ne | apply mt_not | apply mt_any) <;> (intro _; conv => whnf)))
  refine hd.mono ?_
  rintro _ _ ⟨rfl, rfl⟩
  conv => whnf
  repeat' (first | ((with_reducible apply rd_intro); (focus (intro K hK; (conv => whnf); first | exact hK | (intro z hz; rw [wrapI (by omega)] at hz; subst hz; exact hK))); (conv => whnf)) | ((with_reducible apply gd_and); (focus ((conv => whnf) <;> first | rfl | (intro K hK; (conv => whnf); first | exact hK | (intro z hz; rw [wrapI (by omega)] at hz; subst hz; exact hK)))); (conv => whnf)) | ((with_reducible apply z_wrap); (focus omega); (conv => whnf)) | ((with_reducible first | apply mt_dec | apply mt_eq | apply mt_ne | apply mt_not | apply mt_any) <;> (intro _; conv => whnf)))
  · refine hlt.mono ?_
    rintro _ _ ⟨rfl, rfl⟩
    conv => whnf
    exact ⟨rfl, rfl⟩
  · rename_i e
    exact absurd hsm e
/-! ## a certificate's message -/
def cMsg (f t : Int) (c : Cert) : Msg := ⟨6, f, t, 0, 0, 0, [], cz0, c, []⟩
/-- as it is made by a literal: nil slices -/
def cMsgN (f t : Int) (c : Cert) : AV := .agg [.d (.int .i64 6), .d (.int .i64 f), .d (.int .i64 t), .d (.int .i64 0), .d (.int .i64 0), .d (.int .i64 0), .d .nils, .d (.int .i64 0), .d (.int .i64 0), .d .nils, .d .nils, .d (.int .i64 c.author), .d (.int .i64 c.round), .d (.sl 1 (nums c.bats)), .d (.sl 1 (nums c.pars)), .d (.int .i64 c.digest), .d (.sl 1 (nums c.sigs)), .d .nils]
set_option maxHeartbeats 4000000 in
theorem msgOnly_ok (f t : Int) (c : Cert) (n : Int) (hn : isN n = true) (hok : okCert n c) : ACalls Tryz.prog 77 [(cMsg f t c).av, .d (.int .i64 n)] [] (fun av L => av = .tup [cMsgN f t c, .d (.bool true)] ∧ L = []) := by
  have hm := (mayCert_ok c (certFew_of hn hok) n).mono (post' := fun av L => av = .d (.bool true) ∧ L = []) (by rintro _ _ ⟨rfl, rfl⟩; exact ⟨by simp [hok], rfl⟩)
  refine acalls_go ttOk zOk foOk Tryz.func77 rfl Tryz.ntmps77 rfl false rfl ?_
  conv => whnf
  repeat' (first | ((with_reducible apply rd_intro); (focus (intro K hK; (conv => whnf); first | exact hK | (intro z hz; rw [wrapI (by omega)] at hz; subst hz; exact hK))); (conv => whnf)) | ((with_reducible apply gd_and); (focus ((conv => whnf) <;> first | rfl | (intro K hK; (conv => whnf); first | exact hK | (intro z hz; rw [wrapI (by omega)] at hz; subst hz; exact hK)))); (conv => whnf)) | ((with_reducible apply z_wrap); (focus omega); (conv => whnf)) | ((with_reducible first | apply mt_dec | apply mt_eq | apply mt_ne | apply mt_not | apply mt_any) <;> (intro _; conv => whnf)))
  refine ACalls.mono (post := fun av L => av = .d (.bool true) ∧ L = []) hm ?_
  rintro _ _ ⟨rfl, rfl⟩
  conv => whnf
  repeat' (first | ((with_reducible apply rd_intro); (focus (intro K hK; (conv => whnf); first | exact hK | (intro z hz; rw [wrapI (by omega)] at hz; subst hz; exact hK))); (conv => whnf)) | ((with_reducible apply gd_and); (focus ((conv => whnf) <;> first | rfl | (intro K hK; (conv => whnf); first | exact hK | (intro z hz; rw [wrapI (by omega)] at hz; subst hz; exact hK)))); (conv => whnf)) | ((with_reducible apply z_wrap); (focus omega); (conv => whnf)) | ((with_reducible first | apply mt_dec | apply mt_eq | apply mt_ne | apply mt_not | apply mt_any) <;> (intro _; conv => whnf)))
  exact ⟨rfl, rfl⟩
theorem headSame_ok (a : Cert) : ACalls Tryz.prog 78 [a.hav, a.hav] [] (fun av L => av = .d (.bool true) ∧ L = []) := by
  refine acalls_go ttOk zOk foOk Tryz.func78 rfl Tryz.ntmps78 rfl false rfl ?_
  conv => whnf
  repeat' (first | ((with_reducible apply rd_intro); (focus (intro K hK; (conv => whnf); first | exact hK | (intro z hz; rw [wrapI (by omega)] at hz; subst hz; exact hK))); (conv => whnf)) | ((with_reducible apply gd_and); (focus ((conv => whnf) <;> first | rfl | (intro K hK; (conv => whnf); first | exact hK | (intro z hz; rw [wrapI (by omega)] at hz; subst hz; exact hK)))); (conv => whnf)) | ((with_reducible apply z_wrap); (focus omega); (conv => whnf)) | ((with_reducible first | apply mt_dec | apply mt_eq | apply mt_ne | apply mt_not | apply mt_any) <;> (intro _; conv => whnf)))
  · exact ⟨by simp, rfl⟩
  all_goals (rename_i e; exact absurd rfl e)
theorem head0_ok : ACalls Tryz.prog 78 [cz0.hav, .agg [.d (.int .i64 0), .d (.int .i64 0), .d .nils, .d .nils]] [] (fun av L => av = .d (.bool true) ∧ L = []) :=
  acalls_nw (headSame_ok cz0) (.cons (.refl _) (.cons (.agg (.cons (.refl _) (.cons (.refl _) (.cons (.nils 1 (by decide)) (.cons (.nils 1 (by decide)) .nil))))) .nil))
set_option maxHeartbeats 4000000 in
theorem msgMay_true (f t : Int) (c : Cert) (n : Int) (hn : isN n = true) (hok : okCert n c) (hf : 1 ≤ f ∧ f ≤ n) (ht : 1 ≤ t ∧ t ≤ n) (hft : f ≠ t) : ACalls Tryz.prog 37 [(cMsg f t c).av, .d (.int .i64 n)] [] (fun av L => av = .d (.bool true) ∧ L = []) := by
  have hi := is_ok n
  rw [hn] at hi
  have ho := msgOnly_ok f t c n hn hok
  have hs := headSame_ok c
  have h0 := head0_ok
  have e1 : (cMsg f t c).src = f := rfl
  have e2 : (cMsg f t c).dst = t := rfl
  refine acalls_go ttOk zOk foOk Tryz.func37 rfl Tryz.ntmps37 rfl false rfl ?_
  conv => whnf
  repeat' (first | ((with_reducible apply rd_intro); (focus (intro K hK; (conv => whnf); first | exact hK | (intro z hz; rw [wrapI (by omega)] at hz; subst hz; exact hK))); (conv => whnf)) | ((with_reducible apply gd_and); (focus ((conv => whnf) <;> first | rfl | (intro K hK; (conv => whnf); first | exact hK | (intro z hz; rw [wrapI (by omega)] at hz; subst hz; exact hK)))); (conv => whnf)) | ((with_reducible apply z_wrap); (focus omega); (conv => whnf)) | ((with_reducible first | apply mt_dec | apply mt_eq | apply mt_ne | apply mt_not | apply mt_any) <;> (intro _; conv => whnf)))
  refine hi.mono ?_
  rintro _ _ ⟨rfl, rfl⟩
  conv => whnf
  repeat' (first | ((with_reducible apply rd_intro); (focus (intro K hK; (conv => whnf); first | exact hK | (intro z hz; rw [wrapI (by omega)] at hz; subst hz; exact hK))); (conv => whnf)) | ((with_reducible apply gd_and); (focus ((conv => whnf) <;> first | rfl | (intro K hK; (conv => whnf); first | exact hK | (intro z hz; rw [wrapI (by omega)] at hz; subst hz; exact hK)))); (conv => whnf)) | ((with_reducible apply z_wrap); (focus omega); (conv => whnf)) | ((with_reducible first | apply mt_dec | apply mt_eq | apply mt_ne | apply mt_not | apply mt_any) <;> (intro _; conv => whnf)))
  all_goals first | (exfalso; omega) | skip
  refine ho.mono ?_
  rintro _ _ ⟨rfl, rfl⟩
  conv => whnf
  repeat' (first | ((with_reducible apply rd_intro); (focus (intro K hK; (conv => whnf); first | exact hK | (intro z hz; rw [wrapI (by omega)] at hz; subst hz; exact hK))); (conv => whnf)) | ((with_reducible apply gd_and); (focus ((conv => whnf) <;> first | rfl | (intro K hK; (conv => whnf); first | exact hK | (intro z hz; rw [wrapI (by omega)] at hz; subst hz; exact hK)))); (conv => whnf)) | ((with_reducible apply z_wrap); (focus omega); (conv => whnf)) | ((with_reducible first | apply mt_dec | apply mt_eq | apply mt_ne | apply mt_not | apply mt_any) <;> (intro _; conv => whnf)))
  refine ACalls.mono (post := fun av L => av = .d (.bool true) ∧ L = []) h0 ?_
  rintro _ _ ⟨rfl, rfl⟩
  conv => whnf
  repeat' (first | ((with_reducible apply rd_intro); (focus (intro K hK; (conv => whnf); first | exact hK | (intro z hz; rw [wrapI (by omega)] at hz; subst hz; exact hK))); (conv => whnf)) | ((with_reducible apply gd_and); (focus ((conv => whnf) <;> first | rfl | (intro K hK; (conv => whnf); first | exact hK | (intro z hz; rw [wrapI (by omega)] at hz; subst hz; exact hK)))); (conv => whnf)) | ((with_reducible apply z_wrap); (focus omega); (conv => whnf)) | ((with_reducible first | apply mt_dec | apply mt_eq | apply mt_ne | apply mt_not | apply mt_any) <;> (intro _; conv => whnf)))
  refine ACalls.mono (post := fun av L => av = .d (.bool true) ∧ L = []) hs ?_
  rintro _ _ ⟨rfl, rfl⟩
  conv => whnf
  repeat' (first | ((with_reducible apply rd_intro); (focus (intro K hK; (conv => whnf); first | exact hK | (intro z hz; rw [wrapI (by omega)] at hz; subst hz; exact hK))); (conv => whnf)) | ((with_reducible apply gd_and); (focus ((conv => whnf) <;> first | rfl | (intro K hK; (conv => whnf); first | exact hK | (intro z hz; rw [wrapI (by omega)] at hz; subst hz; exact hK)))); (conv => whnf)) | ((with_reducible apply z_wrap); (focus omega); (conv => whnf)) | ((with_reducible first | apply mt_dec | apply mt_eq | apply mt_ne | apply mt_not | apply mt_any) <;> (intro _; conv => whnf)))
  · exact ⟨rfl, rfl⟩
  all_goals (rename_i e; exact absurd rfl e)
theorem takes6 : ACalls Tryz.prog 39 [.d (.int .i64 6)] [] (fun av L => av = .d (.bool true) ∧ L = []) := by
  have h := contains_ok [4, 5, 6, 8] (by simp [few]) 6
  refine acalls_go ttOk zOk foOk Tryz.func39 rfl Tryz.ntmps39 rfl false rfl ?_
  conv => whnf
  repeat' (first | ((with_reducible apply rd_intro); (focus (intro K hK; (conv => whnf); first | exact hK | (intro z hz; rw [wrapI (by omega)] at hz; subst hz; exact hK))); (conv => whnf)) | ((with_reducible apply gd_and); (focus ((conv => whnf) <;> first | rfl | (intro K hK; (conv => whnf); first | exact hK | (intro z hz; rw [wrapI (by omega)] at hz; subst hz; exact hK)))); (conv => whnf)) | ((with_reducible apply z_wrap); (focus omega); (conv => whnf)) | ((with_reducible first | apply mt_dec | apply mt_eq | apply mt_ne | apply mt_not | apply mt_any) <;> (intro _; conv => whnf)))
  (refine Or.inl ?_; (conv => whnf))
  refine h.mono ?_
  rintro _ _ ⟨rfl, rfl⟩
  conv => whnf
  exact ⟨rfl, rfl⟩
open Classical in
theorem digests_nil : ACalls Tryz.prog 38 [.d (.sl 1 [])] [] (fun av L => av = .d (.bool true) ∧ L = []) := by
  have h := digests_ok [] (by simp [few])
  rw [decide_eq_true (show riseB [] 1 65536 from ⟨List.Pairwise.nil, fun x h => by cases h⟩)] at h
  exact h
/-- what Take does with a certificate -/
def takeAV (p : Prim) (f t : Int) (c : Cert) : AV := .tup [(inP p c).av, .d (.sl 18 (msgsD (inO p c f))), .d (.int .i64 0)]
structure TakeOk (p : Prim) : Prop where
  may : BareMay p
  tiny : p.tiny
  fine : Fine p.dag p.late
  room : p.dag.certs.length + p.late.length < 60000
set_option maxHeartbeats 4000000 in
theorem take_ok (p : Prim) (h : TakeOk p) (f t : Int) (c : Cert) (hok : okCert p.nodes c) (hf : 1 ≤ f ∧ f ≤ p.nodes) (hft : f ≠ t) (ht : t = p.id) :
    ACalls Tryz.prog 12 [p.av, (cMsg f t c).av, .d (.sl 1 [])] [] (fun av L => av = takeAV p f t c ∧ L = []) := by
  have hn := h.may.isn
  have hid := h.may.id
  have hm := primMay_true p h.may
  have hmm := msgMay_true f t c p.nodes hn hok hf (by omega) hft
  have hd := digests_nil
  have hown := primOwn_ok p h.tiny
  have hgot := gotCert_ok p (cMsg f t c) rfl [] (by rw [h.may.same]; exact hok) (certTiny_of hn hok) h.fine h.room h.may.late.2.1
  have e1 : (cMsg f t c).dst = p.id := ht
  refine acalls_go ttOk zOk foOk Tryz.func12 rfl Tryz.ntmps12 rfl false rfl ?_
  conv => whnf
  repeat' (first | ((with_reducible apply rd_intro); (focus (intro K hK; (conv => whnf); first | exact hK | (intro z hz; rw [wrapI (by omega)] at hz; subst hz; exact hK))); (conv => whnf)) | ((with_reducible apply gd_and); (focus ((conv => whnf) <;> first | rfl | (intro K hK; (conv => whnf); first | exact hK | (intro z hz; rw [wrapI (by omega)] at hz; subst hz; exact hK)))); (conv => whnf)) | ((with_reducible apply z_wrap); (focus omega); (conv => whnf)) | ((with_reducible first | apply mt_dec | apply mt_eq | apply mt_ne | apply mt_not | apply mt_any) <;> (intro _; conv => whnf)))
  refine ACalls.mono (post := fun av L => av = .d (.bool true) ∧ L = []) hm ?_
  rintro _ _ ⟨rfl, rfl⟩
  conv => whnf
  repeat' (first | ((with_reducible apply rd_intro); (focus (intro K hK; (conv => whnf); first | exact hK | (intro z hz; rw [wrapI (by omega)] at hz; subst hz; exact hK))); (conv => whnf)) | ((with_reducible apply gd_and); (focus ((conv => whnf) <;> first | rfl | (intro K hK; (conv => whnf); first | exact hK | (intro z hz; rw [wrapI (by omega)] at hz; subst hz; exact hK)))); (conv => whnf)) | ((with_reducible apply z_wrap); (focus omega); (conv => whnf)) | ((with_reducible first | apply mt_dec | apply mt_eq | apply mt_ne | apply mt_not | apply mt_any) <;> (intro _; conv => whnf)))
  refine ACalls.mono (post := fun av L => av = .d (.bool true) ∧ L = []) hmm ?_
  rintro _ _ ⟨rfl, rfl⟩
  conv => whnf
  repeat' (first | ((with_reducible apply rd_intro); (focus (intro K hK; (conv => whnf); first | exact hK | (intro z hz; rw [wrapI (by omega)] at hz; subst hz; exact hK))); (conv => whnf)) | ((with_reducible apply gd_and); (focus ((conv => whnf) <;> first | rfl | (intro K hK; (conv => whnf); first | exact hK | (intro z hz; rw [wrapI (by omega)] at hz; subst hz; exact hK)))); (conv => whnf)) | ((with_reducible apply z_wrap); (focus omega); (conv => whnf)) | ((with_reducible first | apply mt_dec | apply mt_eq | apply mt_ne | apply mt_not | apply mt_any) <;> (intro _; conv => whnf)))
  · rename_i e
    exact absurd e1 e
  refine hd.mono ?_
  rintro _ _ ⟨rfl, rfl⟩
  conv => whnf
  repeat' (first | ((with_reducible apply rd_intro); (focus (intro K hK; (conv => whnf); first | exact hK | (intro z hz; rw [wrapI (by omega)] at hz; subst hz; exact hK))); (conv => whnf)) | ((with_reducible apply gd_and); (focus ((conv => whnf) <;> first | rfl | (intro K hK; (conv => whnf); first | exact hK | (intro z hz; rw [wrapI (by omega)] at hz; subst hz; exact hK)))); (conv => whnf)) | ((with_reducible apply z_wrap); (focus omega); (conv => whnf)) | ((with_reducible first | apply mt_dec | apply mt_eq | apply mt_ne | apply mt_not | apply mt_any) <;> (intro _; conv => whnf)))
  refine takes6.mono ?_
  rintro _ _ ⟨rfl, rfl⟩
  conv => whnf
  repeat' (first | ((with_reducible apply rd_intro); (focus (intro K hK; (conv => whnf); first | exact hK | (intro z hz; rw [wrapI (by omega)] at hz; subst hz; exact hK))); (conv => whnf)) | ((with_reducible apply gd_and); (focus ((conv => whnf) <;> first | rfl | (intro K hK; (conv => whnf); first | exact hK | (intro z hz; rw [wrapI (by omega)] at hz; subst hz; exact hK)))); (conv => whnf)) | ((with_reducible apply z_wrap); (focus omega); (conv => whnf)) | ((with_reducible first | apply mt_dec | apply mt_eq | apply mt_ne | apply mt_not | apply mt_any) <;> (intro _; conv => whnf)))
  ((with_reducible refine draw_pl ttOk zOk foOk mixedOk pl12x5 ?_ ?_); (focus kernel_rfl); (conv => whnf))
  repeat' (first | ((with_reducible apply rd_intro); (focus (intro K hK; (conv => whnf); first | exact hK | (intro z hz; rw [wrapI (by omega)] at hz; subst hz; exact hK))); (conv => whnf)) | ((with_reducible apply gd_and); (focus ((conv => whnf) <;> first | rfl | (intro K hK; (conv => whnf); first | exact hK | (intro z hz; rw [wrapI (by omega)] at hz; subst hz; exact hK)))); (conv => whnf)) | ((with_reducible apply z_wrap); (focus omega); (conv => whnf)) | ((with_reducible first | apply mt_dec | apply mt_eq | apply mt_ne | apply mt_not | apply mt_any) <;> (intro _; conv => whnf)))
  refine ACalls.mono (post := fun av L => av = p.av ∧ L = []) hown ?_
  rintro _ _ ⟨rfl, rfl⟩
  conv => whnf
  repeat' (first | ((with_reducible apply rd_intro); (focus (intro K hK; (conv => whnf); first | exact hK | (intro z hz; rw [wrapI (by omega)] at hz; subst hz; exact hK))); (conv => whnf)) | ((with_reducible apply gd_and); (focus ((conv => whnf) <;> first | rfl | (intro K hK; (conv => whnf); first | exact hK | (intro z hz; rw [wrapI (by omega)] at hz; subst hz; exact hK)))); (conv => whnf)) | ((with_reducible apply z_wrap); (focus omega); (conv => whnf)) | ((with_reducible first | apply mt_dec | apply mt_eq | apply mt_ne | apply mt_not | apply mt_any) <;> (intro _; conv => whnf)))
  refine ACalls.mono (post := fun av L => av = .tup [(inP p c).av, .d (.sl 18 (msgsD (inO p c f)))] ∧ L = []) hgot ?_
  rintro _ _ ⟨rfl, rfl⟩
  conv => whnf
  repeat' (first | ((with_reducible apply rd_intro); (focus (intro K hK; (conv => whnf); first | exact hK | (intro z hz; rw [wrapI (by omega)] at hz; subst hz; exact hK))); (conv => whnf)) | ((with_reducible apply gd_and); (focus ((conv => whnf) <;> first | rfl | (intro K hK; (conv => whnf); first | exact hK | (intro z hz; rw [wrapI (by omega)] at hz; subst hz; exact hK)))); (conv => whnf)) | ((with_reducible apply z_wrap); (focus omega); (conv => whnf)) | ((with_reducible first | apply mt_dec | apply mt_eq | apply mt_ne | apply mt_not | apply mt_any) <;> (intro _; conv => whnf)))
  exact ⟨rfl, rfl⟩
end Go.Proofs.YtdlfmgcmfoehdaaGreat

namespace Go.Proofs.YtdlfmgcmfoehdaaGreat
open Go.Ab Go.RowKit Go.MapKept
attribute [local irreducible] ACalls AW ADraw Into fltB fnear
set_option maxRecDepth 100000
/-! ## a new primary -/
def newP (i n : Int) : Prim := ⟨i, n, 1, 0, 0, cz0, 0, [], [], ⟨n, 0, []⟩, []⟩
theorem new_bare {i n : Int} (hn : isN n = true) (hi : 1 ≤ i ∧ i ≤ n) : BareMay (newP i n) :=
  ⟨⟨⟨rfl, rfl, rfl, rfl⟩, rfl, rfl⟩, hn, hi, ⟨by show (1 : Int) ≤ 1; decide, by show (1 : Int) ≤ 1099511627776; decide⟩, ⟨by show (0 : Int) ≤ 0; decide, by show (0 : Int) ≤ 1099511627776; decide⟩, ⟨by show (0 : Int) ≤ 0; decide, by show (0 : Int) ≤ 1; decide⟩, rfl,
   ⟨hn, ⟨by show (0 : Int) ≤ 0; decide, by show (0 : Int) ≤ 1099511627776; decide⟩, Nat.zero_le _, fun c h => (by cases h), fun c h => (by cases h), List.Pairwise.nil, List.nodup_nil, fun c h => (by cases h)⟩, rfl, ⟨Nat.zero_le _, List.Pairwise.nil, fun c h => (by cases h)⟩⟩
/-- .. its slices nil -/
def newN (i n : Int) : AV := .agg [.d (.int .i64 i), .d (.int .i64 n), .d (.int .i64 1), .d (.int .i64 0), .d (.int .i64 0), .d (.int .i64 0), .d (.int .i64 0), .d .nils, .d .nils, .d (.int .i64 0), .d .nils, .d .nils, .d (.int .i64 n), .d (.int .i64 0), .d .nils, .d .nils]
theorem newNW (i n : Int) : NW (newN i n) (newP i n).av :=
  .agg (.cons (.refl _) (.cons (.refl _) (.cons (.refl _) (.cons (.refl _) (.cons (.refl _) (.cons (.refl _) (.cons (.refl _) (.cons (.nils 1 (by decide)) (.cons (.nils 1 (by decide)) (.cons (.refl _) (.cons (.nils 1 (by decide)) (.cons (.nils 3 (by decide)) (.cons (.refl _) (.cons (.refl _) (.cons (.nils 6 (by decide)) (.cons (.nils 6 (by decide)) .nil))))))))))))))))
theorem newN_ok (i n : Int) (hn : isN n = true) (hi : 1 ≤ i ∧ i ≤ n) : ACalls Tryz.prog 10 [.d (.int .i64 i), .d (.int .i64 n)] [] (fun av L => av = .tup [newN i n, .d (.int .i64 0)] ∧ L = []) := by
  have hm := primMay_true (newP i n) (new_bare hn hi)
  have hm2 := acalls_nw hm (.cons (newNW i n) .nil)
  refine acalls_go ttOk zOk foOk Tryz.func10 rfl Tryz.ntmps10 rfl false rfl ?_
  conv => whnf
  repeat' (first | ((with_reducible apply z_wrap); (focus omega); (conv => whnf)) | ((with_reducible first | apply mt_dec | apply mt_eq | apply mt_ne | apply mt_not | apply mt_any) <;> (intro _; conv => whnf)))
  refine ACalls.mono (post := fun av L => av = .d (.bool true) ∧ L = []) hm2 ?_
  rintro _ _ ⟨rfl, rfl⟩
  conv => whnf
  repeat' (first | ((with_reducible apply z_wrap); (focus omega); (conv => whnf)) | ((with_reducible first | apply mt_dec | apply mt_eq | apply mt_ne | apply mt_not | apply mt_any) <;> (intro _; conv => whnf)))
  exact ⟨rfl, rfl⟩
theorem new_ok (i n : Int) (hn : isN n = true) (hi : 1 ≤ i ∧ i ≤ n) : ACalls Tryz.prog 10 [.d (.int .i64 i), .d (.int .i64 n)] [] (fun av L => av = .tup [(newP i n).av, .d (.int .i64 0)] ∧ L = []) := by
  refine acalls_post3 (newN_ok i n hn hi) ?_
  rintro av L ⟨rfl, rfl⟩
  refine ⟨_, ⟨rfl, rfl⟩, fun R v h => ?_⟩
  simp only [VR, VRt] at h ⊢
  obtain ⟨us, rfl, u, us', h1, h2, h3⟩ := h
  exact ⟨us, rfl, u, us', h1, by have := NW.ok (newNW i n) u (by simpa only [VR] using h2); simpa only [VR] using this, h3⟩
end Go.Proofs.YtdlfmgcmfoehdaaGreat

namespace Go.Proofs.YtdlfmgcmfoehdaaGreat
open Go.Ab Go.RowKit Go.MapKept
attribute [local irreducible] ACalls AW ADraw Into fltB fnear
set_option maxRecDepth 100000
/-! ## may it propose, and which header -/
def fullB (p : Prim) (r : Int) : Bool := decide (((ofR p.dag.certs r).length : Int) ≥ quo p.nodes)
theorem full_ok (p : Prim) (hf : p.dag.fit) (hn : isN p.nodes = true) (r : Int) (hr : isF r) : ACalls Tryz.prog 93 [p.av, .d (.int .i64 r)] [] (fun av L => av = .d (.bool (fullB p r)) ∧ L = []) := by
  have hnn := of_decide_eq_true hn
  have hcl := certsD_length (ofR p.dag.certs r)
  have h1 := dagOf_ok p.dag hf r hr
  have h2 := q_ok p.nodes ⟨by omega, by omega⟩
  refine acalls_go ttOk zOk foOk Tryz.func93 rfl Tryz.ntmps93 rfl false rfl ?_
  conv => whnf
  ((with_reducible refine draw_pl ttOk zOk foOk mixedOk pl93x1 ?_ ?_); (focus kernel_rfl); (conv => whnf))
  repeat' (first | ((with_reducible apply rd_intro); (focus (intro K hK; (conv => whnf); first | exact hK | (intro z hz; rw [wrapI (by omega)] at hz; subst hz; exact hK))); (conv => whnf)) | ((with_reducible apply gd_and); (focus ((conv => whnf) <;> first | rfl | (intro K hK; (conv => whnf); first | exact hK | (intro z hz; rw [wrapI (by omega)] at hz; subst hz; exact hK)))); (conv => whnf)) | ((with_reducible apply z_wrap); (focus omega); (conv => whnf)) | ((with_reducible first | apply mt_dec | apply mt_eq | apply mt_ne | apply mt_not | apply mt_any) <;> (intro _; conv => whnf)))
  refine ACalls.mono (post := fun av L => av = .d (.sl 6 (certsD (ofR p.dag.certs r))) ∧ L = []) h1 ?_
  rintro _ _ ⟨rfl, rfl⟩
  conv => whnf
  repeat' (first | ((with_reducible apply rd_intro); (focus (intro K hK; (conv => whnf); first | exact hK | (intro z hz; rw [wrapI (by omega)] at hz; subst hz; exact hK))); (conv => whnf)) | ((with_reducible apply gd_and); (focus ((conv => whnf) <;> first | rfl | (intro K hK; (conv => whnf); first | exact hK | (intro z hz; rw [wrapI (by omega)] at hz; subst hz; exact hK)))); (conv => whnf)) | ((with_reducible apply z_wrap); (focus omega); (conv => whnf)) | ((with_reducible first | apply mt_dec | apply mt_eq | apply mt_ne | apply mt_not | apply mt_any) <;> (intro _; conv => whnf)))
  refine ACalls.mono (post := fun av L => av = .d (.int .i64 (2 * ((p.nodes - 1) / 3) + 1)) ∧ L = []) h2 ?_
  rintro _ _ ⟨rfl, rfl⟩
  conv => whnf
  repeat' (first | ((with_reducible apply rd_intro); (focus (intro K hK; (conv => whnf); first | exact hK | (intro z hz; rw [wrapI (by omega)] at hz; subst hz; exact hK))); (conv => whnf)) | ((with_reducible apply gd_and); (focus ((conv => whnf) <;> first | rfl | (intro K hK; (conv => whnf); first | exact hK | (intro z hz; rw [wrapI (by omega)] at hz; subst hz; exact hK)))); (conv => whnf)) | ((with_reducible apply z_wrap); (focus omega); (conv => whnf)) | ((with_reducible first | apply mt_dec | apply mt_eq | apply mt_ne | apply mt_not | apply mt_any) <;> (intro _; conv => whnf)))
  refine ⟨congrArg (fun b => AV.d (.bool b)) ?_, rfl⟩
  unfold fullB quo
  rw [decide_eq_decide]
  show (((certsD (ofR p.dag.certs r)).length : Nat) : Int) ≥ _ ↔ _
  rw [hcl]
def readyB (p : Prim) : Bool := decide (p.said < p.round) && (decide (p.round = 1) || fullB p (p.round - 1))
theorem ready_ok (p : Prim) (hf : p.dag.fit) (hn : isN p.nodes = true) (hr : 1 ≤ p.round ∧ p.round ≤ 1099511627776) : ACalls Tryz.prog 59 [p.av] [] (fun av L => av = .d (.bool (readyB p)) ∧ L = []) := by
  have h1 := full_ok p hf hn (p.round - 1) ⟨by omega, by omega⟩
  unfold readyB
  refine acalls_go ttOk zOk foOk Tryz.func59 rfl Tryz.ntmps59 rfl false rfl ?_
  conv => whnf
  repeat' (first | ((with_reducible apply rd_intro); (focus (intro K hK; (conv => whnf); first | exact hK | (intro z hz; rw [wrapI (by omega)] at hz; subst hz; exact hK))); (conv => whnf)) | ((with_reducible apply gd_and); (focus ((conv => whnf) <;> first | rfl | (intro K hK; (conv => whnf); first | exact hK | (intro z hz; rw [wrapI (by omega)] at hz; subst hz; exact hK)))); (conv => whnf)) | ((with_reducible apply z_wrap); (focus omega); (conv => whnf)) | ((with_reducible first | apply mt_dec | apply mt_eq | apply mt_ne | apply mt_not | apply mt_any) <;> (intro _; conv => whnf)))
  · rename_i e1 e2
    replace e1 : p.said < p.round := e1
    replace e2 : p.round = 1 := e2
    exact ⟨congrArg (fun b => AV.d (.bool b)) (by rw [decide_eq_true e1, decide_eq_true e2]; rfl), rfl⟩
  · rename_i e1 e2
    replace e1 : p.said < p.round := e1
    replace e2 : p.round ≠ 1 := e2
    refine ACalls.mono (post := fun av L => av = .d (.bool (fullB p (p.round - 1))) ∧ L = []) h1 ?_
    rintro _ _ ⟨rfl, rfl⟩
    conv => whnf
    exact ⟨congrArg (fun b => AV.d (.bool b)) (by rw [decide_eq_true e1, decide_eq_false e2]; simp), rfl⟩
  · rename_i e1
    replace e1 : ¬ p.said < p.round := e1
    exact ⟨congrArg (fun b => AV.d (.bool b)) (by rw [decide_eq_false e1]; rfl), rfl⟩
theorem makef_ok (d : Int) : ACalls Tryz.prog 57 [.d (.int .i64 d)] [] (fun av L => av = .d (.bool (!decide (1 ≤ d ∧ d ≤ 65536))) ∧ L = []) := by
  refine acalls_go ttOk zOk foOk Tryz.func57 rfl Tryz.ntmps57 rfl false rfl ?_
  conv => whnf
  repeat' (first | ((with_reducible apply rd_intro); (focus (intro K hK; (conv => whnf); first | exact hK | (intro z hz; rw [wrapI (by omega)] at hz; subst hz; exact hK))); (conv => whnf)) | ((with_reducible apply gd_and); (focus ((conv => whnf) <;> first | rfl | (intro K hK; (conv => whnf); first | exact hK | (intro z hz; rw [wrapI (by omega)] at hz; subst hz; exact hK)))); (conv => whnf)) | ((with_reducible apply z_wrap); (focus omega); (conv => whnf)) | ((with_reducible first | apply mt_dec | apply mt_eq | apply mt_ne | apply mt_not | apply mt_any) <;> (intro _; conv => whnf)))
  refine (digest_ok d).mono ?_
  rintro _ _ ⟨rfl, rfl⟩
  conv => whnf
  exact ⟨rfl, rfl⟩
def digsB (l : List Int) : Bool := l.all fun d => decide (1 ≤ d ∧ d ≤ 65536)
theorem indexMk_ok (l : List Int) (hl : few l) : ACalls Tryz.prog 92 [.d (.sl 1 (nums l)), .fn 57 []] [] (fun av L => (∃ z : Int, av = .d (.int .i64 z) ∧ (z ≥ 0 ↔ digsB l = false)) ∧ L = []) := by
  have hll := nums_length l
  unfold few at hl
  refine acalls_go ttOk zOk foOk Tryz.func92 rfl Tryz.ntmps92 rfl false rfl ?_
  conv => whnf
  refine loop_go ttOk zOk foOk (σ := Nat) (fun j => ([(0, .d (.sl 1 (nums l))), (1, .fn 57 []), (7, .d (.int .i64 l.length)), (8, .d (.int .i64 j))], [])) (fun j => j ≤ l.length ∧ ∀ d ∈ l.take j, 1 ≤ d ∧ d ≤ 65536) (fun j => l.length - j) [0, 1, 7, 8] ?_ ?_
  · conv => whnf
    exact ⟨0, by rw [hll]; rfl, rfl, Nat.zero_le _, by simp⟩
  · rintro j ⟨hj, hall⟩
    conv => whnf
    repeat' (first | ((with_reducible apply rd_intro); (focus (intro K hK; (conv => whnf); first | exact hK | (intro z hz; rw [wrapI (by omega)] at hz; subst hz; exact hK))); (conv => whnf)) | ((with_reducible apply gd_and); (focus ((conv => whnf) <;> first | rfl | (intro K hK; (conv => whnf); first | exact hK | (intro z hz; rw [wrapI (by omega)] at hz; subst hz; exact hK)))); (conv => whnf)) | ((with_reducible apply z_wrap); (focus omega); (conv => whnf)) | ((with_reducible first | apply mt_dec | apply mt_eq | apply mt_ne | apply mt_not | apply mt_any) <;> (intro _; conv => whnf)))
    · rename_i h
      replace h : (j : Int) < l.length := h
      refine Exists.elim (⟨_, List.getElem?_eq_getElem (by omega)⟩ : ∃ c, l[j]? = some c) fun d hd => ?_
      refine ⟨by omega, [.int .i64 d], nums_at hd, ?_⟩
      conv => whnf
      repeat' (first | ((with_reducible apply rd_intro); (focus (intro K hK; (conv => whnf); first | exact hK | (intro z hz; rw [wrapI (by omega)] at hz; subst hz; exact hK))); (conv => whnf)) | ((with_reducible apply gd_and); (focus ((conv => whnf) <;> first | rfl | (intro K hK; (conv => whnf); first | exact hK | (intro z hz; rw [wrapI (by omega)] at hz; subst hz; exact hK)))); (conv => whnf)) | ((with_reducible apply z_wrap); (focus omega); (conv => whnf)) | ((with_reducible first | apply mt_dec | apply mt_eq | apply mt_ne | apply mt_not | apply mt_any) <;> (intro _; conv => whnf)))
      refine (makef_ok d).mono ?_
      rintro _ _ ⟨rfl, rfl⟩
      by_cases hdd : 1 ≤ d ∧ d ≤ 65536
      · rw [decide_eq_true hdd]
        conv => whnf
        repeat' (first | ((with_reducible apply rd_intro); (focus (intro K hK; (conv => whnf); first | exact hK | (intro z hz; rw [wrapI (by omega)] at hz; subst hz; exact hK))); (conv => whnf)) | ((with_reducible apply gd_and); (focus ((conv => whnf) <;> first | rfl | (intro K hK; (conv => whnf); first | exact hK | (intro z hz; rw [wrapI (by omega)] at hz; subst hz; exact hK)))); (conv => whnf)) | ((with_reducible apply z_wrap); (focus omega); (conv => whnf)) | ((with_reducible first | apply mt_dec | apply mt_eq | apply mt_ne | apply mt_not | apply mt_any) <;> (intro _; conv => whnf)))
        refine ⟨j + 1, rfl, rfl, ⟨by omega, fun x hx => ?_⟩, by omega⟩
        rw [List.take_add_one, hd] at hx
        rcases List.mem_append.1 hx with hx | hx
        · exact hall x hx
        · simp at hx; rw [hx]; exact hdd
      · rw [decide_eq_false hdd]
        conv => whnf
        repeat' (first | ((with_reducible apply rd_intro); (focus (intro K hK; (conv => whnf); first | exact hK | (intro z hz; rw [wrapI (by omega)] at hz; subst hz; exact hK))); (conv => whnf)) | ((with_reducible apply gd_and); (focus ((conv => whnf) <;> first | rfl | (intro K hK; (conv => whnf); first | exact hK | (intro z hz; rw [wrapI (by omega)] at hz; subst hz; exact hK)))); (conv => whnf)) | ((with_reducible apply z_wrap); (focus omega); (conv => whnf)) | ((with_reducible first | apply mt_dec | apply mt_eq | apply mt_ne | apply mt_not | apply mt_any) <;> (intro _; conv => whnf)))
        refine ⟨⟨_, rfl, fun _ => ?_, fun _ => by show (j : Int) ≥ 0; omega⟩, rfl⟩
        unfold digsB
        rw [List.all_eq_false]
        exact ⟨d, List.mem_of_getElem? hd, by simpa using hdd⟩
    · rename_i h
      replace h : ¬ (j : Int) < l.length := h
      rw [List.take_of_length_le (by omega)] at hall
      have hb : digsB l = true := by unfold digsB; rw [List.all_eq_true]; intro x hx; simpa using hall x hx
      refine ⟨⟨_, rfl, fun h => absurd h (by decide), fun h => ?_⟩, rfl⟩
      rw [hb] at h; cases h
theorem containsMk_ok (l : List Int) (hl : few l) : ACalls Tryz.prog 56 [.d (.sl 1 (nums l)), .fn 57 []] [] (fun av L => av = .d (.bool (!digsB l)) ∧ L = []) := by
  refine acalls_go ttOk zOk foOk Tryz.func56 rfl Tryz.ntmps56 rfl false rfl ?_
  conv => whnf
  refine (indexMk_ok l hl).mono ?_
  rintro _ _ ⟨⟨z, rfl, hz⟩, rfl⟩
  conv => whnf
  refine ⟨congrArg (fun b => AV.d (.bool b)) ?_, rfl⟩
  cases hb : digsB l with
  | true => exact decide_eq_false fun h => by have := hz.1 h; rw [hb] at this; cases this
  | false => exact decide_eq_true (hz.2 hb)
/-- the batches of a header: the first eight, each once -/
def batsF (l : List Int) : List Int := l.foldl (fun acc d => if acc.length < 8 ∧ d ∉ acc then acc ++ [d] else acc) []
theorem batsF_snoc (l : List Int) (d : Int) : batsF (l ++ [d]) = if (batsF l).length < 8 ∧ d ∉ batsF l then batsF l ++ [d] else batsF l := by
  unfold batsF
  rw [List.foldl_append]; rfl
theorem bats_fold_len : ∀ (l acc : List Int), acc.length ≤ 8 → (l.foldl (fun acc d => if acc.length < 8 ∧ d ∉ acc then acc ++ [d] else acc) acc).length ≤ 8
  | [], acc, h => h
  | d :: l, acc, h => by
    rw [List.foldl_cons]
    refine bats_fold_len l _ ?_
    split
    · rename_i h2; simp; omega
    · exact h
theorem batsF_len (l : List Int) : (batsF l).length ≤ 8 := bats_fold_len l [] (Nat.zero_le _)
def parsF (p : Prim) : List Int := (ofR p.dag.certs (p.round - 1)).map (·.digest)
def headC (p : Prim) (l : List Int) : Cert := ⟨p.id, p.round, sortI (batsF l), sortI (parsF p), 0, []⟩
end Go.Proofs.YtdlfmgcmfoehdaaGreat
