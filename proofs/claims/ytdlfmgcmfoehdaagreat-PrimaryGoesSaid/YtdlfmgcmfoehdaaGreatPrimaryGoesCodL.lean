/- PrimaryGoes: contracts. -/
import Derived.Test.YtdlfmgcmfoehdaaGreatPrimaryGoesCodK
set_option linter.unusedVariables false
set_option linter.unusedSimpArgs false
namespace Go.Proofs.YtdlfmgcmfoehdaaGreat
open Go.Ab Go.RowKit Go.MapKept
attribute [local irreducible] ACalls AW ADraw Into fltB fnear
set_option maxRecDepth 100000
def errH (e : Int) : AV := .tup [.agg [.d (.int .i64 0), .d (.int .i64 0), .d .nils, .d .nils], .d (.int .i64 e)]
open Classical in
theorem make_full (p : Prim) (hok : p.ok) (hdl : p.dag.certs.length ≤ 100000) (l : List Int) (hl : few l) : ACalls Tryz.prog 19 [p.av, .d (.sl 1 (nums l))] [] (fun av L => (((May p ∧ digsB l = true) ∧ readyB p = true ∧ av = .tup [(headC p l).hav, .d (.int .i64 0)]) ∨ ((May p ∧ digsB l = true) ∧ readyB p = false ∧ av = errH 10) ∨ (¬ (May p ∧ digsB l = true) ∧ av = errH 1)) ∧ L = []) := by
  have h1 := primMay_full p hok
  have h2 := containsMk_ok l hl
  refine acalls_go ttOk zOk foOk Tryz.func19 rfl Tryz.ntmps19 rfl false rfl ?_
  conv => whnf
  refine rdw ?_; repeat' ((with_reducible apply tw) <;> intro _)
  refine h1.mono ?_
  rintro _ _ ⟨rfl, rfl⟩
  by_cases k1 : May p
  · rw [decide_eq_true k1]
    have h3 := ready_ok p k1.dag.fit k1.isn k1.round
    have h4 := headP_ok p k1.dag.fit k1.round hdl l hl
    conv => whnf
    refine rdw ?_; repeat' ((with_reducible apply tw) <;> intro _)
    refine h2.mono ?_
    rintro _ _ ⟨rfl, rfl⟩
    cases k2 : digsB l with
    | false =>
      conv => whnf
      refine rdw ?_; repeat' ((with_reducible apply tw) <;> intro _)
      exact ⟨.inr (.inr ⟨fun h => (by cases h.2), rfl⟩), rfl⟩
    | true =>
      conv => whnf
      refine rdw ?_; repeat' ((with_reducible apply tw) <;> intro _)
      refine h3.mono ?_
      rintro _ _ ⟨rfl, rfl⟩
      cases k3 : readyB p with
      | false =>
        conv => whnf
        refine rdw ?_; repeat' ((with_reducible apply tw) <;> intro _)
        exact ⟨.inr (.inl ⟨⟨k1, rfl⟩, rfl, rfl⟩), rfl⟩
      | true =>
        conv => whnf
        refine rdw ?_; repeat' ((with_reducible apply tw) <;> intro _)
        (refine (h4).mono ?_; rintro _ _ ⟨rfl, rfl⟩; (conv => whnf))
        refine rdw ?_; repeat' ((with_reducible apply tw) <;> intro _)
        exact ⟨.inl ⟨⟨k1, rfl⟩, rfl, rfl⟩, rfl⟩
  · rw [decide_eq_false k1]
    conv => whnf
    refine rdw ?_; repeat' ((with_reducible apply tw) <;> intro _)
    exact ⟨.inr (.inr ⟨fun h => k1 h.1, rfl⟩), rfl⟩
def hdr (h : Cert) : Cert := ⟨h.author, h.round, h.bats, h.pars, 0, []⟩
def propP (p : Prim) (h : Cert) (d : Int) : Prim := { p with votes := putV p.votes ⟨h.round, p.id, d⟩, said := p.round, mine := hdr h, dig := d, acks := [p.id] }
def sayP (p : Prim) (h : Cert) (d : Int) : Prim := certdP (propP p h d)
def sayO (p : Prim) (h : Cert) (d : Int) : List Msg := tellO (propP p h d) (askMsg (propP p h d)) [] p.nodes.toNat ++ (if doneP (propP p h d) then tellO (clearP (propP p h d)) (certMsg (certP (propP p h d))) [] p.nodes.toNat else [])
structure sayC (p : Prim) (h : Cert) : Prop where
  ready : readyB p = true
  round : h.round = p.round
  pars : h.pars = sortI (parsF p)
def errS (e : Int) : AV := .tup [.agg zPrim, .d (.sl 1 []), .d (.sl 18 []), .d (.int .i64 e)]
def doneS (q : Prim) (b : List Int) (o : List Msg) : AV := .tup [q.av, .d (.sl 1 (nums b)), .d (.sl 18 (msgsD o)), .d (.int .i64 0)]
theorem prop_certd {p : Prim} (hm : May p) (hr : p.dag.certs.length + p.late.length < 60000) {h : Cert} (hh : okHead p.nodes h) {d : Int} (hd : 1 ≤ d ∧ d ≤ 65536) (hdn : doneP (propP p h d) = true) : CertdOk (propP p h d) := by
  have hnn := of_decide_eq_true hm.isn
  have hid := hm.id
  have hok : okCert p.nodes (certP (propP p h d)) := by
    refine ⟨⟨hh.isn, hh.author, hh.round, hh.bats, hh.pars, hh.one, hh.many⟩, hd, ⟨List.pairwise_singleton .., fun x hx => by have := List.mem_singleton.1 hx; subst this; exact hid⟩, ?_⟩
    simp only [doneP, Bool.not_eq_true', Bool.or_eq_false_iff, decide_eq_false_iff_not] at hdn
    have := hdn.2
    show (([p.id] : List Int).length : Int) ≥ quo p.nodes
    have h2 : (propP p h d).acks.length = 1 := rfl
    have h3 : (propP p h d).nodes = p.nodes := rfl
    rw [h2, h3] at this
    show ((1 : Nat) : Int) ≥ _
    omega
  exact ⟨by rw [show (propP p h d).dag.nodes = p.nodes from hm.same]; exact hok, certTiny_of hm.isn hok, hm.fine (Nat.le_of_lt hr), hr, hm.late.ris⟩
theorem few_le {α : Type} {l : List α} (n : Nat) (h : l.length ≤ n) (hn : n ≤ 140737488355328 := by decide) : few l := by unfold few; omega
set_option maxHeartbeats 8000000 in
open Classical in
theorem say_full (p : Prim) (hm : May p) (hs : p.mine.sigs.length ≤ 1099511627776) (hr : p.dag.certs.length + p.late.length < 60000) (h : Cert) (hh : okHead p.nodes h) (hht : h.tiny) (d : Int) (hd : 1 ≤ d ∧ d ≤ 65536) :
    ACalls Tryz.prog 62 [p.av, h.hav, .d (.int .i64 d)] [] (fun av L => ((sayC p h ∧ giveE p.votes ⟨h.round, p.id, d⟩ ≠ 5 ∧ giveE p.votes ⟨h.round, p.id, d⟩ ≠ 8 ∧ av = doneS (sayP p h d) p.mine.bats (sayO p h d)) ∨ (sayC p h ∧ (giveE p.votes ⟨h.round, p.id, d⟩ = 5 ∨ giveE p.votes ⟨h.round, p.id, d⟩ = 8) ∧ av = errS (giveE p.votes ⟨h.round, p.id, d⟩)) ∨ (¬ sayC p h ∧ av = errS 10)) ∧ L = []) := by
  have hnn := of_decide_eq_true hm.isn
  have hid := hm.id
  have hrd := hh.round
  have h1 := ready_ok p hm.dag.fit hm.isn hm.round
  have h2 := headP_ok p hm.dag.fit hm.round (by have := hm.dag.len; omega) [] few_nil
  have hpl := hh.pars.1
  have h3 := equal_ok h.pars (sortI (parsF p)) (few_le 16 (by omega))
  have h4 := votePut_ok p.votes hm.votes ⟨h.round, p.id, d⟩ ⟨⟨by show 0 ≤ h.round; omega, by show h.round < _; omega⟩, ⟨by show 0 ≤ p.id; omega, by show p.id < _; omega⟩⟩
  have ht := hm.tiny hs
  have h5 := own_ok h hht
  have h6 := tell_ok (propP p h d) ⟨by show 0 ≤ p.nodes; omega, by show p.nodes ≤ 16; omega⟩ [] (by decide) (askMsg (propP p h d)) (show (hdr h).tiny from ⟨hht.bats, hht.pars, tiny_nil⟩) cz0_tiny [] few_nil
  rw [List.nil_append] at h6
  have htl := tellO_len (propP p h d) (askMsg (propP p h d)) [] (propP p h d).nodes.toNat
  have hpn : (propP p h d).nodes = p.nodes := rfl
  have h7 := certified_ok (propP p h d) (tellO (propP p h d) (askMsg (propP p h d)) [] (propP p h d).nodes.toNat) (by rw [hpn] at htl ⊢; omega) hm.isn (fun k => ⟨(prop_certd hm hr hh hd k).cert, (prop_certd hm hr hh hd k).tiny, (prop_certd hm hr hh hd k).fine, (prop_certd hm hr hh hd k).room, (prop_certd hm hr hh hd k).ris⟩)
  refine acalls_go ttOk zOk foOk Tryz.func62 rfl Tryz.ntmps62 rfl false rfl ?_
  conv => whnf
  ((with_reducible refine draw_pl ttOk zOk foOk mixedOk pl62x1 ?_ ?_); (focus kernel_rfl); (conv => whnf))
  refine rdw ?_; repeat' ((with_reducible apply tw) <;> intro _)
  refine h1.mono ?_
  rintro _ _ ⟨rfl, rfl⟩
  cases k1 : readyB p with
  | false =>
    conv => whnf
    refine rdw ?_; repeat' ((with_reducible apply tw) <;> intro _)
    exact ⟨.inr (.inr ⟨fun hh => (by have := hh.ready; rw [k1] at this; cases this), rfl⟩), rfl⟩
  | true =>
    conv => whnf
    refine rdw ?_; repeat' ((with_reducible apply tw) <;> intro _)
    · rename_i k2
      exact ⟨.inr (.inr ⟨fun hh => k2 hh.round, rfl⟩), rfl⟩
    · rename_i k2
      (refine (h2).mono ?_; rintro _ _ ⟨rfl, rfl⟩; (conv => whnf))
      refine rdw ?_; repeat' ((with_reducible apply tw) <;> intro _)
      refine h3.mono ?_
      rintro _ _ ⟨rfl, rfl⟩
      by_cases k3 : h.pars = sortI (parsF p)
      · rw [decide_eq_true k3]
        have hC : sayC p h := ⟨k1, k2, k3⟩
        conv => whnf
        refine rdw ?_; repeat' ((with_reducible apply tw) <;> intro _)
        (refine (h4).mono ?_; rintro _ _ ⟨rfl, rfl⟩; (conv => whnf))
        refine rdw ?_; repeat' ((with_reducible apply tw) <;> intro _)
        · rename_i k4
          replace k4 : giveE p.votes ⟨h.round, p.id, d⟩ = 5 := k4
          exact ⟨.inr (.inl ⟨hC, .inl k4, rfl⟩), rfl⟩
        · rename_i k4 k5
          replace k5 : giveE p.votes ⟨h.round, p.id, d⟩ = 8 := k5
          exact ⟨.inr (.inl ⟨hC, .inr k5, rfl⟩), rfl⟩
        · rename_i k4 k5
          replace k4 : giveE p.votes ⟨h.round, p.id, d⟩ ≠ 5 := k4
          replace k5 : giveE p.votes ⟨h.round, p.id, d⟩ ≠ 8 := k5
          (refine (cloneI_ok p.mine.bats ht.mine.bats).mono ?_; rintro _ _ ⟨rfl, rfl⟩; (conv => whnf))
          refine rdw ?_; repeat' ((with_reducible apply tw) <;> intro _)
          (with_reducible refine draw_pl ttOk zOk foOk mixedOk plSay8 ?_ ?_)
          focus kernel_rfl
          conv => whnf
          refine rdw ?_; repeat' ((with_reducible apply tw) <;> intro _)
          (refine (h5).mono ?_; rintro _ _ ⟨rfl, rfl⟩; (conv => whnf))
          refine rdw ?_; repeat' ((with_reducible apply tw) <;> intro _)
          refine (acalls_nw h6 (.cons (.refl _) (.cons (.agg ?_) (.cons (.refl _) .nil)))).mono ?_
          · repeat (first | exact .nil | refine .cons (.refl _) ?_ | refine .cons (.nils _ (by decide)) ?_)
          rintro _ _ ⟨rfl, j, rfl⟩
          cases j
          all_goals
            conv => whnf
            refine rdw ?_; repeat' ((with_reducible apply tw) <;> intro _)
            refine h7.mono ?_
            rintro _ _ ⟨rfl, j, rfl⟩
            cases j
            all_goals
              conv => whnf
              refine rdw ?_; repeat' ((with_reducible apply tw) <;> intro _)
              ((with_reducible refine draw_pl ttOk zOk foOk mixedOk pl62x11 ?_ ?_); (focus kernel_rfl); (conv => whnf))
              refine rdw ?_; repeat' ((with_reducible apply tw) <;> intro _)
              exact ⟨.inl ⟨hC, k4, k5, rfl⟩, rfl⟩
      · rw [decide_eq_false k3]
        conv => whnf
        refine rdw ?_; repeat' ((with_reducible apply tw) <;> intro _)
        exact ⟨.inr (.inr ⟨fun hh => k3 hh.pars, rfl⟩), rfl⟩
structure propC (p : Prim) (h : Cert) (d : Int) : Prop where
  may : May p
  dig : 1 ≤ d ∧ d ≤ 65536
  head : okHead p.nodes h
  author : h.author = p.id
def proPost (p : Prim) (h : Cert) (d : Int) (av : AV) : Prop :=
  (propC p h d ∧ sayC p h ∧ giveE p.votes ⟨h.round, p.id, d⟩ ≠ 5 ∧ giveE p.votes ⟨h.round, p.id, d⟩ ≠ 8 ∧ av = doneS (sayP p h d) p.mine.bats (sayO p h d)) ∨
  (propC p h d ∧ sayC p h ∧ (giveE p.votes ⟨h.round, p.id, d⟩ = 5 ∨ giveE p.votes ⟨h.round, p.id, d⟩ = 8) ∧ av = errS (giveE p.votes ⟨h.round, p.id, d⟩)) ∨
  (propC p h d ∧ ¬ sayC p h ∧ av = errS 10) ∨ (¬ propC p h d ∧ av = errS 1)
set_option maxHeartbeats 8000000 in
open Classical in
theorem proposed_full (p : Prim) (hok : p.ok) (hr : p.dag.certs.length + p.late.length < 60000) (h : Cert) (hf : fewL h) (hht : h.tiny) (d : Int) :
    ACalls Tryz.prog 20 [p.av, h.hav, .d (.int .i64 d)] [] (fun av L => proPost p h d av ∧ L = []) := by
  have h1 := primMay_full p hok
  have h2 := hMay_ok h hf p.nodes
  have h3 := digest_ok d
  unfold proPost
  refine acalls_go ttOk zOk foOk Tryz.func20 rfl Tryz.ntmps20 rfl false rfl ?_
  conv => whnf
  refine rdw ?_; repeat' ((with_reducible apply tw) <;> intro _)
  refine h1.mono ?_
  rintro _ _ ⟨rfl, rfl⟩
  by_cases k1 : May p
  · rw [decide_eq_true k1]
    conv => whnf
    refine rdw ?_; repeat' ((with_reducible apply tw) <;> intro _)
    refine h3.mono ?_
    rintro _ _ ⟨rfl, rfl⟩
    by_cases k2 : 1 ≤ d ∧ d ≤ 65536
    · rw [decide_eq_true k2]
      conv => whnf
      refine rdw ?_; repeat' ((with_reducible apply tw) <;> intro _)
      refine h2.mono ?_
      rintro _ _ ⟨rfl, rfl⟩
      by_cases k3 : okHead p.nodes h
      · rw [decide_eq_true k3]
        conv => whnf
        refine rdw ?_; repeat' ((with_reducible apply tw) <;> intro _)
        · rename_i k4
          exact ⟨.inr (.inr (.inr ⟨fun hh => k4 hh.author, rfl⟩)), rfl⟩
        · rename_i k4
          have hC : propC p h d := ⟨k1, k2, k3, k4⟩
          have hown := primOwn_ok p (k1.tiny hok.sigs)
          have hsay := say_full p k1 hok.sigs hr h k3 hht d k2
          ((with_reducible refine draw_pl ttOk zOk foOk mixedOk pl20x3 ?_ ?_); (focus kernel_rfl); (conv => whnf))
          refine rdw ?_; repeat' ((with_reducible apply tw) <;> intro _)
          (refine (hown).mono ?_; rintro _ _ ⟨rfl, rfl⟩; (conv => whnf))
          refine rdw ?_; repeat' ((with_reducible apply tw) <;> intro _)
          refine hsay.mono ?_
          rintro _ _ ⟨⟨e1, e2, e3, rfl⟩ | ⟨e1, e2, rfl⟩ | ⟨e1, rfl⟩, rfl⟩
          · conv => whnf
            refine rdw ?_; repeat' ((with_reducible apply tw) <;> intro _)
            exact ⟨.inl ⟨hC, e1, e2, e3, rfl⟩, rfl⟩
          · conv => whnf
            refine rdw ?_; repeat' ((with_reducible apply tw) <;> intro _)
            exact ⟨.inr (.inl ⟨hC, e1, e2, rfl⟩), rfl⟩
          · conv => whnf
            refine rdw ?_; repeat' ((with_reducible apply tw) <;> intro _)
            exact ⟨.inr (.inr (.inl ⟨hC, e1, rfl⟩)), rfl⟩
      · rw [decide_eq_false k3]
        conv => whnf
        refine rdw ?_; repeat' ((with_reducible apply tw) <;> intro _)
        exact ⟨.inr (.inr (.inr ⟨fun hh => k3 hh.head, rfl⟩)), rfl⟩
    · rw [decide_eq_false k2]
      conv => whnf
      refine rdw ?_; repeat' ((with_reducible apply tw) <;> intro _)
      exact ⟨.inr (.inr (.inr ⟨fun hh => k2 hh.dig, rfl⟩)), rfl⟩
  · rw [decide_eq_false k1]
    conv => whnf
    refine rdw ?_; repeat' ((with_reducible apply tw) <;> intro _)
    exact ⟨.inr (.inr (.inr ⟨fun hh => k1 hh.may, rfl⟩)), rfl⟩
end Go.Proofs.YtdlfmgcmfoehdaaGreat
namespace Go.Ab
open Go.RowKit
end Go.Ab
namespace Go.Proofs.YtdlfmgcmfoehdaaGreat
open Go.Ab Go.RowKit Go.MapKept
attribute [local irreducible] ACalls AW ADraw Into fltB fnear
set_option maxRecDepth 100000
theorem eqHeader_same (c : Cert) (h : fewL c) : ACalls Tryz.prog 25 [c.hav, c.hav] [] (fun av L => av = .d (.bool true) ∧ L = []) := by
  have h1 := eqNumbers_ok c.bats c.bats h.bats
  have h2 := eqNumbers_ok c.pars c.pars h.pars
  rw [decide_eq_true rfl] at h1 h2
  refine acalls_go ttOk zOk foOk Tryz.func25 rfl Tryz.ntmps25 rfl false rfl ?_
  conv => whnf
  refine rdw ?_; repeat' ((with_reducible apply tw) <;> intro _)
  · refine h1.mono ?_
    rintro _ _ ⟨rfl, rfl⟩
    conv => whnf
    refine rdw ?_; repeat' ((with_reducible apply tw) <;> intro _)
    refine h2.mono ?_
    rintro _ _ ⟨rfl, rfl⟩
    conv => whnf
    exact ⟨rfl, rfl⟩
  all_goals (rename_i hx; exact absurd rfl hx)
theorem eqCert_same (c : Cert) (h : fewL c) : ACalls Tryz.prog 42 [c.av, c.av] [] (fun av L => av = .d (.bool true) ∧ L = []) := by
  have h1 := eqHeader_same c h
  have h2 := eqNumbers_ok c.sigs c.sigs h.sigs
  rw [decide_eq_true rfl] at h2
  refine acalls_go ttOk zOk foOk Tryz.func42 rfl Tryz.ntmps42 rfl false rfl ?_
  conv => whnf
  refine h1.mono ?_
  rintro _ _ ⟨rfl, rfl⟩
  conv => whnf
  refine rdw ?_; repeat' ((with_reducible apply tw) <;> intro _)
  · refine h2.mono ?_
    rintro _ _ ⟨rfl, rfl⟩
    conv => whnf
    exact ⟨rfl, rfl⟩
  all_goals (rename_i hx; exact absurd rfl hx)
theorem eqCerts_same (l : List Cert) (hl : few l) (h : ∀ c ∈ l, fewL c) : ACalls Tryz.prog 14 [.d (.sl 6 (certsD l)), .d (.sl 6 (certsD l))] [] (fun av L => av = .d (.bool true) ∧ L = []) := by
  have hcl := certsD_length l
  unfold few at hl
  refine acalls_go ttOk zOk foOk Tryz.func14 rfl Tryz.ntmps14 rfl false rfl ?_
  conv => whnf
  refine rdw ?_; repeat' ((with_reducible apply tw) <;> intro _)
  · rename_i hx; exact absurd rfl hx
  · refine loop_go ttOk zOk foOk (σ := Nat) (fun k => ([(0, .d (.sl 6 (certsD l))), (1, .d (.sl 6 (certsD l))), (5, .d (.int .i64 k))], [])) (fun k => k ≤ l.length) (fun k => l.length - k) [0, 1, 5] ?_ ?_
    · conv => whnf
      exact ⟨0, rfl, rfl, by omega⟩
    · intro k hk
      conv => whnf
      rw [hcl]
      refine rdw ?_; repeat' ((with_reducible apply tw) <;> intro _)
      · rename_i hkl
        refine Exists.elim (⟨_, List.getElem?_eq_getElem (by omega)⟩ : ∃ c, l[k]? = some c) fun c hc => ?_
        have h1 := eqCert_same c (h c (List.mem_of_getElem? hc))
        ((with_reducible refine draw_pl ttOk zOk foOk mixedOk pl14x6 ?_ ?_); (focus kernel_rfl); (conv => whnf))
        refine rdw ?_; repeat' ((with_reducible apply tw) <;> intro _)
        ((with_reducible apply rd_intro); (focus (intro K hK; (conv => whnf); exact ⟨by omega, c.cs, certsD_at hc, hK⟩)); (conv => whnf))
        refine rdw ?_; repeat' ((with_reducible apply tw) <;> intro _)
        ((with_reducible apply rd_intro); (focus (intro K hK; (conv => whnf); exact ⟨by omega, c.cs, certsD_at hc, hK⟩)); (conv => whnf))
        refine rdw ?_; repeat' ((with_reducible apply tw) <;> intro _)
        refine h1.mono ?_
        rintro _ _ ⟨rfl, rfl⟩
        conv => whnf
        refine rdw ?_; repeat' ((with_reducible apply tw) <;> intro _)
        exact ⟨k + 1, rfl, rfl, by omega, by omega⟩
      · exact ⟨rfl, rfl⟩
end Go.Proofs.YtdlfmgcmfoehdaaGreat
