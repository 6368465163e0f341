/- PrimaryGoes: contracts. -/
import Derived.Test.YtdlfmgcmfoehdaaGreatPrimaryGoesCodF
set_option linter.unusedVariables false
set_option linter.unusedSimpArgs false
namespace Go.Proofs.YtdlfmgcmfoehdaaGreat
open Go.Ab Go.RowKit Go.MapKept
attribute [local irreducible] ACalls AW ADraw Into fltB fnear
set_option maxRecDepth 100000
theorem ownCerts_row (l : List Cert) (hl : tiny l) (h : ∀ c ∈ l, c.tiny) : ACalls Tryz.prog 89 [.d (.sl 6 (certsD l))] [] (fun av L => av = .arr 0 ∧ L = [.row 41 6 (certsD l) false]) := by
  have hx := certsD_length l
  unfold tiny at hl
  refine acalls_go ttOk zOk foOk Tryz.func89 rfl Tryz.ntmps89 rfl true rfl ?_
  conv => whnf
  refine loop_go ttOk zOk foOk (σ := Nat) (fun k => ([(5, .d (.sl 6 (certsD l))), (6, .d (.int .i64 l.length)), (7, .d (.int .i64 k)), (2, .arr 0)], [.row 41 6 (certsD (l.take k)) false])) (fun k => k ≤ l.length) (fun k => l.length - k) [5, 6, 7, 2] ?_ ?_
  · conv => whnf
    exact ⟨0, by rw [hx]; rfl, rfl, by omega⟩
  · intro k hk
    conv => whnf
    refine rdz ?_; repeat' ((with_reducible apply tw) <;> intro _)
    · rename_i h2
      refine Exists.elim (⟨_, List.getElem?_eq_getElem (by omega)⟩ : ∃ a, l[k]? = some a) fun a ha => ?_
      have hkn := certsD_length (l.take k)
      refine ⟨by omega, a.cs, certsD_at ha, ?_⟩
      conv => whnf
      refine rdz ?_; repeat' ((with_reducible apply tw) <;> intro _)
      refine (ownCert_ok a (h a (List.mem_of_getElem? ha))).mono ?_
      rintro _ _ ⟨rfl, rfl⟩
      conv => whnf
      refine rdz ?_; repeat' ((with_reducible apply tw) <;> intro _)
      refine ⟨by simp [hkn]; omega, ?_⟩
      conv => whnf
      refine rdz ?_; repeat' ((with_reducible apply tw) <;> intro _)
      refine ⟨k + 1, rfl, ?_, by omega, by omega⟩
      rw [List.take_add_one, ha]
      simp [certsD, Cert.cs]
    · rename_i h2
      rw [List.take_of_length_le (by omega)]
      exact ⟨rfl, rfl⟩
theorem dagOwn_row (d : Dag) (hl : tiny d.certs) (h : ∀ c ∈ d.certs, c.tiny) : ACalls Tryz.prog 88 [d.av] [] (fun av L => av = .agg [.d (.int .i64 d.nodes), .d (.int .i64 d.low), .arr 0] ∧ L = [.row 41 6 (certsD d.certs) false]) := by
  have h1 := ownCerts_row d.certs hl h
  refine acalls_go ttOk zOk foOk Tryz.func88 rfl Tryz.ntmps88 rfl true rfl ?_
  conv => whnf
  refine h1.mono ?_
  rintro _ _ ⟨rfl, rfl⟩
  conv => whnf
  refine rdz ?_; repeat' ((with_reducible apply tw) <;> intro _)
  exact ⟨rfl, rfl⟩
theorem dagOwn_ok (d : Dag) (hl : tiny d.certs) (h : ∀ c ∈ d.certs, c.tiny) : ACalls Tryz.prog 88 [d.av] [] (fun av L => av = d.av ∧ L = []) := by
  refine acalls_data (dagOwn_row d hl h) ?_
  rintro _ _ ⟨rfl, rfl⟩
  conv => whnf
  exact ⟨rfl, rfl⟩
theorem few_nil {α : Type} : few ([] : List α) := Nat.zero_le _
theorem cloneV_row (l : List Vote) (hl : l.length ≤ 1099511627776) : ACalls Tryz.prog 87 [.d (.sl 3 (votesD l))] [] (fun av L => av = .arr 0 ∧ L = [.row 65 3 (votesD l) false]) := by
  have hll := votesD_length l
  refine acalls_go ttOk zOk foOk Tryz.func87 rfl Tryz.ntmps87 rfl true rfl ?_
  conv => whnf
  intro b hb
  conv => whnf
  refine rdw ?_; repeat' ((with_reducible apply tw) <;> intro _)
  · rename_i h
    have : l = [] := by simpa [votesD] using hb h
    subst this
    exact ⟨rfl, rfl⟩
  · rename_i h
    refine ⟨by rw [hll]; show (0 + l.length) * 24 ≤ _; omega, ?_⟩
    conv => whnf
    exact ⟨rfl, rfl⟩
theorem cloneV_ok (l : List Vote) (hl : l.length ≤ 1099511627776) : ACalls Tryz.prog 87 [.d (.sl 3 (votesD l))] [] (fun av L => av = .d (.sl 3 (votesD l)) ∧ L = []) := by
  refine acalls_data (cloneV_row l hl) ?_
  rintro _ _ ⟨rfl, rfl⟩
  conv => whnf
  exact ⟨rfl, rfl⟩
theorem ownCerts_ok (l : List Cert) (hl : tiny l) (h : ∀ c ∈ l, c.tiny) : ACalls Tryz.prog 89 [.d (.sl 6 (certsD l))] [] (fun av L => av = .d (.sl 6 (certsD l)) ∧ L = []) := by
  refine acalls_data (ownCerts_row l hl h) ?_
  rintro _ _ ⟨rfl, rfl⟩
  conv => whnf
  exact ⟨rfl, rfl⟩
structure Prim.tiny (p : Prim) : Prop where
  mine : p.mine.tiny
  acks : p.acks.length ≤ 1099511627776
  votes : p.votes.length ≤ 1099511627776
  dag : Go.Proofs.YtdlfmgcmfoehdaaGreat.tiny p.dag.certs ∧ ∀ c ∈ p.dag.certs, c.tiny
  late : Go.Proofs.YtdlfmgcmfoehdaaGreat.tiny p.late ∧ ∀ c ∈ p.late, c.tiny
theorem primOwn_ok (p : Prim) (h : p.tiny) : ACalls Tryz.prog 41 [p.av] [] (fun av L => av = p.av ∧ L = []) := by
  refine acalls_go ttOk zOk foOk Tryz.func41 rfl Tryz.ntmps41 rfl false rfl ?_
  conv => whnf
  ((with_reducible refine draw_pl ttOk zOk foOk mixedOk pl41x1 ?_ ?_); (focus kernel_rfl); (conv => whnf))
  refine rdw ?_; repeat' ((with_reducible apply tw) <;> intro _)
  refine (own_ok p.mine h.mine).mono ?_
  rintro _ _ ⟨rfl, rfl⟩
  conv => whnf
  refine rdw ?_; repeat' ((with_reducible apply tw) <;> intro _)
  refine (cloneI_ok p.acks h.acks).mono ?_
  rintro _ _ ⟨rfl, rfl⟩
  conv => whnf
  refine rdw ?_; repeat' ((with_reducible apply tw) <;> intro _)
  refine (cloneV_ok p.votes h.votes).mono ?_
  rintro _ _ ⟨rfl, rfl⟩
  conv => whnf
  refine rdw ?_; repeat' ((with_reducible apply tw) <;> intro _)
  ((with_reducible refine draw_pl ttOk zOk foOk mixedOk pl41x2 ?_ ?_); (focus kernel_rfl); (conv => whnf))
  refine rdw ?_; repeat' ((with_reducible apply tw) <;> intro _)
  refine (dagOwn_ok p.dag h.dag.1 h.dag.2).mono ?_
  rintro _ _ ⟨rfl, rfl⟩
  conv => whnf
  refine rdw ?_; repeat' ((with_reducible apply tw) <;> intro _)
  refine (ownCerts_ok p.late h.late.1 h.late.2).mono ?_
  rintro _ _ ⟨rfl, rfl⟩
  conv => whnf
  refine rdw ?_; repeat' ((with_reducible apply tw) <;> intro _)
  exact ⟨rfl, rfl⟩
def certP (p : Prim) : Cert := ⟨p.mine.author, p.mine.round, p.mine.bats, p.mine.pars, p.dig, p.acks⟩
def clearP (p : Prim) : Prim := { p with mine := cz0, dig := 0, acks := [] }
def doneP (p : Prim) : Bool := !(decide (p.dig = 0) || decide ((p.acks.length : Int) < quo p.nodes))
def certdP (p : Prim) : Prim := if doneP p then inP (clearP p) (certP p) else p
def certMsg (c : Cert) : Msg := ⟨6, 0, 0, 0, 0, 0, [], cz0, c, []⟩
set_option maxHeartbeats 4000000 in
theorem certified_ok (p : Prim) (out : List Msg) (ho : out.length ≤ 100000) (hn : isN p.nodes = true) (hd : doneP p = true → okCert p.dag.nodes (certP p) ∧ (certP p).tiny ∧ Fine p.dag p.late ∧ p.dag.certs.length + p.late.length < 60000 ∧ risingC p.late) : ACalls Tryz.prog 101 [.ptr 0 0] (p.st out) (fun av L => av = .tup [] ∧ ∃ j, L = (certdP p).sj j (out ++ if doneP p then tellO (clearP p) (certMsg (certP p)) [] p.nodes.toNat else [])) := by
  refine acalls_go ttOk zOk foOk Tryz.func101 rfl Tryz.ntmps101 rfl false rfl ?_
  conv => whnf
  ((with_reducible refine draw_pl ttOk zOk foOk mixedOk pl101x0 ?_ ?_); (focus kernel_rfl); (conv => whnf))
  refine rdw ?_; repeat' ((with_reducible apply tw) <;> intro _)
  · rename_i h0
    have hd : doneP p = false := by simp [doneP, h0]
    refine ⟨rfl, false, ?_⟩
    rw [certdP, hd]
    simp only [Bool.false_eq_true, if_false, List.append_nil]
    rfl
  · rename_i h0
    have hnn := of_decide_eq_true hn
    refine (q_ok p.nodes ⟨by omega, by omega⟩).mono ?_
    rintro _ _ ⟨rfl, rfl⟩
    conv => whnf
    refine rdw ?_; repeat' ((with_reducible apply tw) <;> intro _)
    · rename_i hq
      replace hq : ((nums p.acks).length : Int) < quo p.nodes := hq
      rw [nums_length] at hq
      have hd : doneP p = false := by simp [doneP, h0, hq]
      refine ⟨rfl, false, ?_⟩
      rw [certdP, hd]
      simp only [Bool.false_eq_true, if_false, List.append_nil]
      rfl
    · rename_i hq
      replace hq : ¬ ((nums p.acks).length : Int) < quo p.nodes := hq
      rw [nums_length] at hq
      have hdn : doneP p = true := by simp [doneP, h0]; omega
      obtain ⟨hok, hct, hf, hroom, hris⟩ := hd hdn
      have htl := tellO_len (clearP p) (certMsg (certP p)) [] p.nodes.toNat
      have htell := tell_ok (clearP p) (by show 0 ≤ p.nodes ∧ p.nodes ≤ 16; omega) out (by omega) (certMsg (certP p)) cz0_tiny hct [] few_nil
      have hin := stepIn_ok (clearP p) (out ++ tellO (clearP p) (certMsg (certP p)) [] p.nodes.toNat) (by rw [List.length_append]; omega) (certP p) hok hct hf hroom hris 0
      rw [certdP, if_pos hdn, if_pos hdn]
      rw [inO, if_neg (fun h => by have := h.2; omega), List.append_nil] at hin
      ((with_reducible refine draw_pl ttOk zOk foOk mixedOk pl101x1 ?_ ?_); (focus kernel_rfl); (conv => whnf))
      refine rdw ?_; repeat' ((with_reducible apply tw) <;> intro _)
      refine (acalls_nilsL [(0, 7, 1), (0, 8, 1), (0, 10, 1)] rfl (acalls_nw htell (.cons (.refl _) (.cons (.agg ?_) (.cons (.refl _) .nil))))).mono ?_
      · repeat (first | exact .nil | refine .cons (.refl _) ?_ | refine .cons (.nils _ (by decide)) ?_)
      · rintro _ _ ⟨rfl, j, rfl⟩
        cases j
        all_goals
          conv => whnf
          refine rdw ?_; repeat' ((with_reducible apply tw) <;> intro _)
          refine hin.mono ?_
          rintro _ _ ⟨rfl, j, rfl⟩
          cases j
          all_goals
            conv => whnf
            refine rdw ?_; repeat' ((with_reducible apply tw) <;> intro _)
            first
              | exact ⟨rfl, false, rfl⟩
              | exact ⟨rfl, true, rfl⟩
set_option maxHeartbeats 4000000 in
theorem gotCert_ok (p : Prim) (m : Msg) (hk : m.kind = 6) (held : List Int) (hok : okCert p.dag.nodes m.cert) (hct : m.cert.tiny) (hf : Fine p.dag p.late) (hroom : p.dag.certs.length + p.late.length < 60000) (hs : risingC p.late) :
    ACalls Tryz.prog 40 [p.av, m.av, .d (.sl 1 (nums held))] [] (fun av L => av = .tup [(inP p m.cert).av, .d (.sl 18 (msgsD (inO p m.cert m.src)))] ∧ L = []) := by
  have hin := stepIn_ok p [] (by simp) m.cert hok hct hf hroom hs m.src
  refine acalls_go ttOk zOk foOk Tryz.func40 rfl Tryz.ntmps40 rfl false rfl ?_
  conv => whnf
  rw [hk]
  refine rdw ?_; repeat' ((with_reducible apply tw) <;> intro _)
  · rename_i h
    exact absurd (show (6 : Int) = 4 from h) (by decide)
  · refine hin.mono ?_
    rintro _ _ ⟨rfl, j, rfl⟩
    rw [List.nil_append]
    cases j
    all_goals
      conv => whnf
      refine rdw ?_; repeat' ((with_reducible apply tw) <;> intro _)
      ((with_reducible refine draw_pl ttOk zOk foOk mixedOk pl40x10 ?_ ?_); (focus kernel_rfl); (conv => whnf))
      refine rdw ?_; repeat' ((with_reducible apply tw) <;> intro _)
      exact ⟨rfl, rfl⟩
set_option maxHeartbeats 4000000 in
theorem lateMay_true (n : Int) (l : List Cert) (hl : l.length ≤ 256) (hs : risingC l) (hok : ∀ c ∈ l, okCert n c ∧ fewL c) : ACalls Tryz.prog 76 [.d (.sl 6 (certsD l)), .d (.int .i64 n)] [] (fun av L => av = .d (.bool true) ∧ L = []) := by
  have hcl := certsD_length l
  refine acalls_go ttOk zOk foOk Tryz.func76 rfl Tryz.ntmps76 rfl false rfl ?_
  conv => whnf
  refine loop_go ttOk zOk foOk (σ := Nat) (fun j => ([(0, .d (.sl 6 (certsD l))), (1, .d (.int .i64 n)), (7, .d (.sl 6 (certsD l))), (8, .d (.int .i64 l.length)), (9, .d (.int .i64 j))], [])) (fun j => j ≤ l.length) (fun j => l.length - j) [0, 1, 7, 8, 9] ?_ ?_
  · conv => whnf
    exact ⟨0, by rw [hcl]; rfl, rfl, Nat.zero_le _⟩
  · intro j hj
    conv => whnf
    refine rdw ?_; repeat' ((with_reducible apply tw) <;> intro _)
    · rename_i hjl
      refine Exists.elim (⟨_, List.getElem?_eq_getElem (by omega)⟩ : ∃ c, l[j]? = some c) fun c hc => ?_
      obtain ⟨h1, h2⟩ := hok c (List.mem_of_getElem? hc)
      have hm : ACalls Tryz.prog 112 [c.av, .d (.int .i64 n)] [] (fun av L => av = .d (.bool true) ∧ L = []) := (mayCert_ok c h2 n).mono (by rintro _ _ ⟨rfl, rfl⟩; exact ⟨by simp [h1], rfl⟩)
      refine ⟨by omega, c.cs, certsD_at hc, ?_⟩
      conv => whnf
      refine rdw ?_; repeat' ((with_reducible apply tw) <;> intro _)
      ((with_reducible refine draw_pl ttOk zOk foOk mixedOk pl76x4 ?_ ?_); (focus kernel_rfl); (conv => whnf))
      refine rdw ?_; repeat' ((with_reducible apply tw) <;> intro _)
      refine hm.mono ?_
      rintro _ _ ⟨rfl, rfl⟩
      conv => whnf
      refine rdw ?_; repeat' ((with_reducible apply tw) <;> intro _)
      · rename_i hj0
        replace hj0 : (j : Int) > 0 := hj0
        refine Exists.elim (⟨_, List.getElem?_eq_getElem (by omega)⟩ : ∃ b, l[j - 1]? = some b) fun b hb => ?_
        have hbc : b.digest < c.digest := by
          have := List.pairwise_iff_getElem.1 hs (j - 1) j (by omega) (by omega) (by omega)
          rw [List.getElem?_eq_getElem (by omega)] at hb hc
          cases hb; cases hc; exact this
        ((with_reducible apply rd_intro); (focus (intro K hK; (conv => whnf); exact ⟨by omega, b.cs, (by rw [show ((j : Int) - 1).toNat = j - 1 by omega]; exact certsD_at hb), hK⟩)); (conv => whnf))
        repeat' (first | (first | ((with_reducible first | apply rd_intro | apply gd_and); (focus ((conv => whnf) <;> first | rfl | (intro K hK; (conv => whnf); first | exact hK | exact z_wrap (by omega) hK))); conv => whnf) | ((with_reducible apply z_wrap); (focus omega); conv => whnf) | ((with_reducible first | apply mt_dec | apply mt_eq | apply mt_ne | apply mt_not | apply mt_any) <;> (intro _; conv => whnf))) | ((with_reducible apply gd_and); (focus ((conv => whnf); intro K hK; (conv => whnf); exact ⟨by omega, b.cs, (by rw [show ((j : Int) - 1).toNat = j - 1 by omega]; exact certsD_at hb), hK⟩)); (conv => whnf)))
        · rename_i h
          exact absurd (show b.digest ≥ c.digest from h) (by omega)
        · exact ⟨j + 1, rfl, rfl, by omega, by omega⟩
      · exact ⟨j + 1, rfl, rfl, by omega, by omega⟩
    · rename_i hjl
      refine ⟨?_, rfl⟩
      rw [decide_eq_true (show ((certsD l).length : Int) ≤ 256 by omega)]
structure Bare (p : Prim) : Prop where
  mine : p.mine.author = 0 ∧ p.mine.round = 0 ∧ p.mine.bats = [] ∧ p.mine.pars = []
  dig : p.dig = 0
  acks : p.acks = []
theorem mine0_ok (p : Prim) (h : Bare p) : ACalls Tryz.prog 73 [p.av] [] (fun av L => av = .d (.bool true) ∧ L = []) := by
  obtain ⟨⟨a1, a2, a3, a4⟩, a5, a6⟩ := h
  obtain ⟨id, nodes, round, age, said, ⟨ma, mr, mb, mp, md, ms⟩, dig, acks, votes, dag, late⟩ := p
  simp only at a1 a2 a3 a4 a5 a6
  subst a1 a2 a3 a4 a5 a6
  refine acalls_go ttOk zOk foOk Tryz.func73 rfl Tryz.ntmps73 rfl false rfl ?_
  conv => whnf
  refine rdz ?_; repeat' ((with_reducible apply tw) <;> intro _)
  intro z hz
  have hz0 : z = 0 := by rw [hz]; rfl
  subst hz0
  conv => whnf
  refine rdz ?_; repeat' ((with_reducible apply tw) <;> intro _)
  intro z2 hz2
  have hz0 : z2 = 0 := by rw [hz2]; rfl
  subst hz0
  conv => whnf
  refine rdz ?_; repeat' ((with_reducible apply tw) <;> intro _)
  exact ⟨rfl, rfl⟩
theorem voteMay_nil : ACalls Tryz.prog 74 [.d (.sl 3 [])] [] (fun av L => av = .d (.bool true) ∧ L = []) := by
  refine acalls_go ttOk zOk foOk Tryz.func74 rfl Tryz.ntmps74 rfl false rfl ?_
  conv => whnf
  refine scope_go ttOk zOk foOk (σ := Unit) (fun _ => ([(0, .d (.sl 3 [])), (3, .d (.int .i64 0))], [])) (fun k _ => k = 1) (fun _ _ => 0) ?_ ?_
  · rintro k rest hk _ rfl
    have e := Option.some.inj (show some _ = some rest from hk)
    subst e
    clear hk
    conv => whnf
    refine rdz ?_; repeat' ((with_reducible apply tw) <;> intro _)
    exact ⟨rfl, rfl⟩
  · intro pass
    conv => whnf
    refine aw_at (σ := Unit) (fun _ => ([(0, .d (.sl 3 [])), (3, .d (.int .i64 0))], [])) (fun _ => True) [0, 3] ?_ ?_
    · conv => whnf
      exact ⟨(), rfl, rfl, trivial⟩
    · intro _ _
      exact pass 1 _ rfl () rfl
structure BareMay (p : Prim) : Prop where
  bare : Bare p
  isn : isN p.nodes = true
  id : 1 ≤ p.id ∧ p.id ≤ p.nodes
  round : 1 ≤ p.round ∧ p.round ≤ 1099511627776
  age : 0 ≤ p.age ∧ p.age ≤ 1099511627776
  said : 0 ≤ p.said ∧ p.said ≤ p.round
  votes : p.votes = []
  dag : Valid p.dag
  same : p.dag.nodes = p.nodes
  late : p.late.length ≤ 256 ∧ risingC p.late ∧ ∀ c ∈ p.late, okCert p.nodes c ∧ fewL c
theorem mem_putD {d : Dag} {c y : Cert} (h : y ∈ d.certs) : y ∈ (putD d c).certs := by
  unfold putD
  split
  · exact mem_insC.2 (.inr h)
  · exact h
theorem putD_sub {d : Dag} {c y : Cert} (h : y ∈ (putD d c).certs) : y = c ∨ y ∈ d.certs := by
  unfold putD at h
  split at h
  · exact mem_insC.1 h
  · exact .inr h
theorem i64_of {n : Int} (h : 0 ≤ n ∧ n ≤ 1099511627776) : i64 n := ⟨by omega, by omega⟩
theorem riseN_len {l : List Int} {m : Int} (h : riseB l 1 m) (hm : 0 ≤ m ∧ m ≤ 65536) : l.length ≤ 65536 := rise_len2 ⟨h.1, fun x hx => by have := h.2 x hx; omega⟩
theorem certOk_of {n : Int} (hn : isN n = true) {c : Cert} (h : okCert n c) : c.ok := by
  have hnn := of_decide_eq_true hn
  have h1 := h.head.author
  have h2 := h.head.round
  have h3 := h.head.bats
  have h4 := h.head.pars
  have h5 := h.digest
  have h6 := riseN_len h.sigs (by omega)
  refine ⟨i64_of (by omega), i64_of (by omega), ⟨by unfold few; omega, fun x hx => i64_of (by have := h3.2.2 x hx; omega)⟩, ⟨by unfold few; omega, fun x hx => i64_of (by have := h4.2.2 x hx; omega)⟩, i64_of (by omega), ⟨by unfold few; omega, fun x hx => i64_of (by have := h.sigs.2 x hx; omega)⟩⟩
theorem certTiny_of {n : Int} (hn : isN n = true) {c : Cert} (h : okCert n c) : c.tiny := by
  have hnn := of_decide_eq_true hn
  have h3 := h.head.bats
  have h4 := h.head.pars
  have h6 := riseN_len h.sigs (by omega)
  exact ⟨by unfold tiny; omega, by unfold tiny; omega, by unfold tiny; omega⟩
theorem certFew_of {n : Int} (hn : isN n = true) {c : Cert} (h : okCert n c) : fewL c := by
  have hnn := of_decide_eq_true hn
  have h3 := h.head.bats
  have h4 := h.head.pars
  have h6 := riseN_len h.sigs (by omega)
  exact ⟨by unfold few; omega, by unfold few; omega, by unfold few; omega⟩
theorem Valid.dok {d : Dag} (h : Valid d) : d.ok := by
  have hn := of_decide_eq_true h.nodes
  have hl := h.len
  exact ⟨i64_of (by omega), i64_of h.low, by unfold few; omega, fun c hc => certOk_of h.nodes (h.certs c hc)⟩
theorem dagMay_true (d : Dag) (h : Valid d) : ACalls Tryz.prog 75 [d.av] [] (fun av L => av = .d (.bool true) ∧ L = []) := by
  have := dagMay_full d h.dok
  rw [isV_yes h] at this
  exact this
set_option maxHeartbeats 4000000 in
theorem primMay_true (p : Prim) (h : BareMay p) : ACalls Tryz.prog 36 [p.av] [] (fun av L => av = .d (.bool true) ∧ L = []) := by
  have hi := is_ok p.nodes
  rw [h.isn] at hi
  obtain ⟨h1, h2⟩ := h.id
  obtain ⟨h3, h4⟩ := h.round
  obtain ⟨h5, h6⟩ := h.age
  obtain ⟨h7, h8⟩ := h.said
  have hm := mine0_ok p h.bare
  have hv := h.votes
  have hd := dagMay_true p.dag h.dag
  have hlt := lateMay_true p.nodes p.late h.late.1 h.late.2.1 h.late.2.2
  have hsm := h.same
  have hvm : ACalls Tryz.prog 74 [.d (.sl 3 (votesD p.votes))] [] (fun av L => av = .d (.bool true) ∧ L = []) := by rw [hv]; exact voteMay_nil
  refine acalls_go ttOk zOk foOk Tryz.func36 rfl Tryz.ntmps36 rfl false rfl ?_
  conv => whnf
  refine rdw ?_; repeat' ((with_reducible apply tw) <;> intro _)
  refine hi.mono ?_
  rintro _ _ ⟨rfl, rfl⟩
  conv => whnf
  refine rdw ?_; repeat' ((with_reducible apply tw) <;> intro _)
  all_goals first | (exfalso; omega) | skip
  refine hm.mono ?_
  rintro _ _ ⟨rfl, rfl⟩
  conv => whnf
  refine rdw ?_; repeat' ((with_reducible apply tw) <;> intro _)
  refine hvm.mono ?_
  rintro _ _ ⟨rfl, rfl⟩
  conv => whnf
  refine rdw ?_; repeat' ((with_reducible apply tw) <;> intro _)
  refine hd.mono ?_
  rintro _ _ ⟨rfl, rfl⟩
  conv => whnf
  refine rdw ?_; repeat' ((with_reducible apply tw) <;> intro _)
  · refine hlt.mono ?_
    rintro _ _ ⟨rfl, rfl⟩
    conv => whnf
    exact ⟨rfl, rfl⟩
  · rename_i e
    exact absurd hsm e
theorem headSame_ok (a : Cert) : ACalls Tryz.prog 78 [a.hav, a.hav] [] (fun av L => av = .d (.bool true) ∧ L = []) := by
  refine acalls_go ttOk zOk foOk Tryz.func78 rfl Tryz.ntmps78 rfl false rfl ?_
  conv => whnf
  refine rdw ?_; repeat' ((with_reducible apply tw) <;> intro _)
  · exact ⟨by simp, rfl⟩
  all_goals (rename_i e; exact absurd rfl e)
def newP (i n : Int) : Prim := ⟨i, n, 1, 0, 0, cz0, 0, [], [], ⟨n, 0, []⟩, []⟩
theorem new_bare {i n : Int} (hn : isN n = true) (hi : 1 ≤ i ∧ i ≤ n) : BareMay (newP i n) :=
  ⟨⟨⟨rfl, rfl, rfl, rfl⟩, rfl, rfl⟩, hn, hi, ⟨by show (1 : Int) ≤ 1; decide, by show (1 : Int) ≤ 1099511627776; decide⟩, ⟨by show (0 : Int) ≤ 0; decide, by show (0 : Int) ≤ 1099511627776; decide⟩, ⟨by show (0 : Int) ≤ 0; decide, by show (0 : Int) ≤ 1; decide⟩, rfl,
   ⟨hn, ⟨by show (0 : Int) ≤ 0; decide, by show (0 : Int) ≤ 1099511627776; decide⟩, Nat.zero_le _, fun c h => (by cases h), fun c h => (by cases h), List.Pairwise.nil, List.nodup_nil, fun c h => (by cases h)⟩, rfl, ⟨Nat.zero_le _, List.Pairwise.nil, fun c h => (by cases h)⟩⟩
def newN (i n : Int) : AV := .agg [.d (.int .i64 i), .d (.int .i64 n), .d (.int .i64 1), .d (.int .i64 0), .d (.int .i64 0), .d (.int .i64 0), .d (.int .i64 0), .d .nils, .d .nils, .d (.int .i64 0), .d .nils, .d .nils, .d (.int .i64 n), .d (.int .i64 0), .d .nils, .d .nils]
theorem newNW (i n : Int) : NW (newN i n) (newP i n).av :=
  .agg (.cons (.refl _) (.cons (.refl _) (.cons (.refl _) (.cons (.refl _) (.cons (.refl _) (.cons (.refl _) (.cons (.refl _) (.cons (.nils 1 (by decide)) (.cons (.nils 1 (by decide)) (.cons (.refl _) (.cons (.nils 1 (by decide)) (.cons (.nils 3 (by decide)) (.cons (.refl _) (.cons (.refl _) (.cons (.nils 6 (by decide)) (.cons (.nils 6 (by decide)) .nil))))))))))))))))
theorem newN_ok (i n : Int) (hn : isN n = true) (hi : 1 ≤ i ∧ i ≤ n) : ACalls Tryz.prog 10 [.d (.int .i64 i), .d (.int .i64 n)] [] (fun av L => av = .tup [newN i n, .d (.int .i64 0)] ∧ L = []) := by
  have hm := primMay_true (newP i n) (new_bare hn hi)
  have hm2 := acalls_nw hm (.cons (newNW i n) .nil)
  refine acalls_go ttOk zOk foOk Tryz.func10 rfl Tryz.ntmps10 rfl false rfl ?_
  conv => whnf
  refine rdz ?_; repeat' ((with_reducible apply tw) <;> intro _)
  refine ACalls.mono (post := fun av L => av = .d (.bool true) ∧ L = []) hm2 ?_
  rintro _ _ ⟨rfl, rfl⟩
  conv => whnf
  refine rdz ?_; repeat' ((with_reducible apply tw) <;> intro _)
  exact ⟨rfl, rfl⟩
theorem new_ok (i n : Int) (hn : isN n = true) (hi : 1 ≤ i ∧ i ≤ n) : ACalls Tryz.prog 10 [.d (.int .i64 i), .d (.int .i64 n)] [] (fun av L => av = .tup [(newP i n).av, .d (.int .i64 0)] ∧ L = []) := by
  refine acalls_post3 (newN_ok i n hn hi) ?_
  rintro av L ⟨rfl, rfl⟩
  refine ⟨_, ⟨rfl, rfl⟩, fun R v h => ?_⟩
  simp only [VR, VRt] at h ⊢
  obtain ⟨us, rfl, u, us', h1, h2, h3⟩ := h
  exact ⟨us, rfl, u, us', h1, by have := NW.ok (newNW i n) u (by simpa only [VR] using h2); simpa only [VR] using this, h3⟩
def fullB (p : Prim) (r : Int) : Bool := decide (((ofR p.dag.certs r).length : Int) ≥ quo p.nodes)
theorem full_ok (p : Prim) (hf : p.dag.fit) (hn : isN p.nodes = true) (r : Int) (hr : isF r) : ACalls Tryz.prog 93 [p.av, .d (.int .i64 r)] [] (fun av L => av = .d (.bool (fullB p r)) ∧ L = []) := by
  have hnn := of_decide_eq_true hn
  have hcl := certsD_length (ofR p.dag.certs r)
  have h1 := dagOf_ok p.dag hf r hr
  have h2 := q_ok p.nodes ⟨by omega, by omega⟩
  refine acalls_go ttOk zOk foOk Tryz.func93 rfl Tryz.ntmps93 rfl false rfl ?_
  conv => whnf
  ((with_reducible refine draw_pl ttOk zOk foOk mixedOk pl93x1 ?_ ?_); (focus kernel_rfl); (conv => whnf))
  refine rdw ?_; repeat' ((with_reducible apply tw) <;> intro _)
  refine ACalls.mono (post := fun av L => av = .d (.sl 6 (certsD (ofR p.dag.certs r))) ∧ L = []) h1 ?_
  rintro _ _ ⟨rfl, rfl⟩
  conv => whnf
  refine rdw ?_; repeat' ((with_reducible apply tw) <;> intro _)
  refine ACalls.mono (post := fun av L => av = .d (.int .i64 (2 * ((p.nodes - 1) / 3) + 1)) ∧ L = []) h2 ?_
  rintro _ _ ⟨rfl, rfl⟩
  conv => whnf
  refine rdw ?_; repeat' ((with_reducible apply tw) <;> intro _)
  refine ⟨congrArg (fun b => AV.d (.bool b)) ?_, rfl⟩
  unfold fullB quo
  rw [decide_eq_decide]
  show (((certsD (ofR p.dag.certs r)).length : Nat) : Int) ≥ _ ↔ _
  rw [hcl]
def readyB (p : Prim) : Bool := decide (p.said < p.round) && (decide (p.round = 1) || fullB p (p.round - 1))
theorem ready_ok (p : Prim) (hf : p.dag.fit) (hn : isN p.nodes = true) (hr : 1 ≤ p.round ∧ p.round ≤ 1099511627776) : ACalls Tryz.prog 59 [p.av] [] (fun av L => av = .d (.bool (readyB p)) ∧ L = []) := by
  have h1 := full_ok p hf hn (p.round - 1) ⟨by omega, by omega⟩
  unfold readyB
  refine acalls_go ttOk zOk foOk Tryz.func59 rfl Tryz.ntmps59 rfl false rfl ?_
  conv => whnf
  refine rdw ?_; repeat' ((with_reducible apply tw) <;> intro _)
  · rename_i e1 e2
    replace e1 : p.said < p.round := e1
    replace e2 : p.round = 1 := e2
    exact ⟨congrArg (fun b => AV.d (.bool b)) (by rw [decide_eq_true e1, decide_eq_true e2]; rfl), rfl⟩
  · rename_i e1 e2
    replace e1 : p.said < p.round := e1
    replace e2 : p.round ≠ 1 := e2
    refine ACalls.mono (post := fun av L => av = .d (.bool (fullB p (p.round - 1))) ∧ L = []) h1 ?_
    rintro _ _ ⟨rfl, rfl⟩
    conv => whnf
    exact ⟨congrArg (fun b => AV.d (.bool b)) (by rw [decide_eq_true e1, decide_eq_false e2]; simp), rfl⟩
  · rename_i e1
    replace e1 : ¬ p.said < p.round := e1
    exact ⟨congrArg (fun b => AV.d (.bool b)) (by rw [decide_eq_false e1]; rfl), rfl⟩
theorem makef_ok (d : Int) : ACalls Tryz.prog 57 [.d (.int .i64 d)] [] (fun av L => av = .d (.bool (!decide (1 ≤ d ∧ d ≤ 65536))) ∧ L = []) := by
  refine acalls_go ttOk zOk foOk Tryz.func57 rfl Tryz.ntmps57 rfl false rfl ?_
  conv => whnf
  refine rdw ?_; repeat' ((with_reducible apply tw) <;> intro _)
  refine (digest_ok d).mono ?_
  rintro _ _ ⟨rfl, rfl⟩
  conv => whnf
  exact ⟨rfl, rfl⟩
def digsB (l : List Int) : Bool := l.all fun d => decide (1 ≤ d ∧ d ≤ 65536)
theorem indexMk_ok (l : List Int) (hl : few l) : ACalls Tryz.prog 92 [.d (.sl 1 (nums l)), .fn 57 []] [] (fun av L => (∃ z : Int, av = .d (.int .i64 z) ∧ (z ≥ 0 ↔ digsB l = false)) ∧ L = []) := by
  have hll := nums_length l
  unfold few at hl
  refine acalls_go ttOk zOk foOk Tryz.func92 rfl Tryz.ntmps92 rfl false rfl ?_
  conv => whnf
  refine loop_go ttOk zOk foOk (σ := Nat) (fun j => ([(0, .d (.sl 1 (nums l))), (1, .fn 57 []), (7, .d (.int .i64 l.length)), (8, .d (.int .i64 j))], [])) (fun j => j ≤ l.length ∧ ∀ d ∈ l.take j, 1 ≤ d ∧ d ≤ 65536) (fun j => l.length - j) [0, 1, 7, 8] ?_ ?_
  · conv => whnf
    exact ⟨0, by rw [hll]; rfl, rfl, Nat.zero_le _, by simp⟩
  · rintro j ⟨hj, hall⟩
    conv => whnf
    refine rdw ?_; repeat' ((with_reducible apply tw) <;> intro _)
    · rename_i h
      replace h : (j : Int) < l.length := h
      refine Exists.elim (⟨_, List.getElem?_eq_getElem (by omega)⟩ : ∃ c, l[j]? = some c) fun d hd => ?_
      refine ⟨by omega, [.int .i64 d], nums_at hd, ?_⟩
      conv => whnf
      refine rdw ?_; repeat' ((with_reducible apply tw) <;> intro _)
      refine (makef_ok d).mono ?_
      rintro _ _ ⟨rfl, rfl⟩
      by_cases hdd : 1 ≤ d ∧ d ≤ 65536
      · rw [decide_eq_true hdd]
        conv => whnf
        refine rdw ?_; repeat' ((with_reducible apply tw) <;> intro _)
        refine ⟨j + 1, rfl, rfl, ⟨by omega, fun x hx => ?_⟩, by omega⟩
        rw [List.take_add_one, hd] at hx
        rcases List.mem_append.1 hx with hx | hx
        · exact hall x hx
        · simp at hx; rw [hx]; exact hdd
      · rw [decide_eq_false hdd]
        conv => whnf
        refine rdw ?_; repeat' ((with_reducible apply tw) <;> intro _)
        refine ⟨⟨_, rfl, fun _ => ?_, fun _ => by show (j : Int) ≥ 0; omega⟩, rfl⟩
        unfold digsB
        rw [List.all_eq_false]
        exact ⟨d, List.mem_of_getElem? hd, by simpa using hdd⟩
    · rename_i h
      replace h : ¬ (j : Int) < l.length := h
      rw [List.take_of_length_le (by omega)] at hall
      have hb : digsB l = true := by unfold digsB; rw [List.all_eq_true]; intro x hx; simpa using hall x hx
      refine ⟨⟨_, rfl, fun h => absurd h (by decide), fun h => ?_⟩, rfl⟩
      rw [hb] at h; cases h
theorem containsMk_ok (l : List Int) (hl : few l) : ACalls Tryz.prog 56 [.d (.sl 1 (nums l)), .fn 57 []] [] (fun av L => av = .d (.bool (!digsB l)) ∧ L = []) := by
  refine acalls_go ttOk zOk foOk Tryz.func56 rfl Tryz.ntmps56 rfl false rfl ?_
  conv => whnf
  refine (indexMk_ok l hl).mono ?_
  rintro _ _ ⟨⟨z, rfl, hz⟩, rfl⟩
  conv => whnf
  refine ⟨congrArg (fun b => AV.d (.bool b)) ?_, rfl⟩
  cases hb : digsB l with
  | true => exact decide_eq_false fun h => by have := hz.1 h; rw [hb] at this; cases this
  | false => exact decide_eq_true (hz.2 hb)
def batsF (l : List Int) : List Int := l.foldl (fun acc d => if acc.length < 8 ∧ d ∉ acc then acc ++ [d] else acc) []
theorem batsF_snoc (l : List Int) (d : Int) : batsF (l ++ [d]) = if (batsF l).length < 8 ∧ d ∉ batsF l then batsF l ++ [d] else batsF l := by
  unfold batsF
  rw [List.foldl_append]; rfl
theorem bats_fold_len : ∀ (l acc : List Int), acc.length ≤ 8 → (l.foldl (fun acc d => if acc.length < 8 ∧ d ∉ acc then acc ++ [d] else acc) acc).length ≤ 8
  | [], acc, h => h
  | d :: l, acc, h => by
    rw [List.foldl_cons]
    refine bats_fold_len l _ ?_
    split
    · rename_i h2; simp; omega
    · exact h
theorem batsF_len (l : List Int) : (batsF l).length ≤ 8 := bats_fold_len l [] (Nat.zero_le _)
def parsF (p : Prim) : List Int := (ofR p.dag.certs (p.round - 1)).map (·.digest)
def headC (p : Prim) (l : List Int) : Cert := ⟨p.id, p.round, sortI (batsF l), sortI (parsF p), 0, []⟩
theorem contains_lend (b : List Int) (hb : few b) (x : Int) (sh : Bool) : ACalls Tryz.prog 80 [.arr 0, .d (.int .i64 x)] [.row 3 1 (nums b) sh] (fun av L => av = .d (.bool (decide (x ∈ b))) ∧ L = [.row 3 1 (nums b) sh]) :=
  acalls_lend (flat_bool _) ⟨_, _, rfl, .inl (.inr (.inl ⟨0, _, _, _, _, rfl, rfl, rfl⟩)), _, _, rfl, .inl (.inl ⟨_, rfl, rfl⟩), rfl⟩ (contains_ok b hb x)
def zHdr : AB := .cells [.d (.int .i64 0), .d (.int .i64 0), .d .nils, .d .nils]
def hL (p : Prim) (bs ps : List Int) : List AB := [.cells (p.cs.map AV.d), zHdr, .cells [.d (.int .i64 p.id), .d (.int .i64 p.round), .arr 3, .arr 4], .row 3 1 (nums bs) false, .row 3 1 (nums ps) false]
set_option maxHeartbeats 4000000 in
theorem head_row (p : Prim) (hf : p.dag.fit) (hr : 1 ≤ p.round ∧ p.round ≤ 1099511627776) (hdl : p.dag.certs.length ≤ 100000) (l : List Int) (hl : few l) :
    ACalls Tryz.prog 60 [p.av, .d (.sl 1 (nums l))] [] (fun av L => av = .agg [.d (.int .i64 p.id), .d (.int .i64 p.round), .arr 0, .arr 1] ∧ L = [.row 3 1 (nums (sortI (batsF l))) false, .row 3 1 (nums (sortI (parsF p))) false]) := by
  have hll := nums_length l
  have hl' := hl
  unfold few at hl'
  have hof := dagOf_ok p.dag hf (p.round - 1) ⟨by omega, by omega⟩
  have hol : (ofR p.dag.certs (p.round - 1)).length ≤ 100000 := Nat.le_trans (List.length_filter_le ..) hdl
  obtain ⟨ol, hoe⟩ : ∃ ol, ofR p.dag.certs (p.round - 1) = ol := ⟨_, rfl⟩
  have hpe : parsF p = ol.map (·.digest) := by unfold parsF; rw [hoe]
  rw [hoe] at hof hol
  have hcl := certsD_length ol
  refine acalls_go ttOk zOk foOk Tryz.func60 rfl Tryz.ntmps60 rfl true rfl ?_
  conv => whnf
  refine rdz ?_; repeat' ((with_reducible apply tw) <;> intro _)
  refine aw_nilrowC [(2, 2, 3, 1), (2, 3, 3, 1)] rfl ?_
  refine loop_go ttOk zOk foOk (σ := Nat) (fun j => ([(2, .ptr 0 0), (4, .ptr 1 0), (5, .ptr 2 0), (15, .d (.sl 1 (nums l))), (16, .d (.int .i64 l.length)), (17, .d (.int .i64 j))], hL p (batsF (l.take j)) [])) (fun j => j ≤ l.length) (fun j => l.length - j) [2, 4, 5, 15, 16, 17] ?_ ?_
  · conv => whnf
    exact ⟨0, by rw [hll]; rfl, rfl, Nat.zero_le _⟩
  · intro j hj
    have hbl := batsF_len (l.take j)
    obtain ⟨bs, hbs⟩ : ∃ bs, batsF (l.take j) = bs := ⟨_, rfl⟩
    rw [hbs] at hbl ⊢
    have hnb := nums_length bs
    conv => whnf
    refine rdz ?_; repeat' ((with_reducible apply tw) <;> intro _)
    · rename_i h
      replace h : (j : Int) < l.length := h
      refine Exists.elim (⟨_, List.getElem?_eq_getElem (by omega)⟩ : ∃ c, l[j]? = some c) fun d hd => ?_
      have hsn : batsF (l.take (j + 1)) = if bs.length < 8 ∧ d ∉ bs then bs ++ [d] else bs := by rw [take_snoc hd, batsF_snoc, hbs]
      refine ⟨by omega, [.int .i64 d], nums_at hd, ?_⟩
      conv => whnf
      refine rdz ?_; repeat' ((with_reducible apply tw) <;> intro _)
      · rename_i h8
        replace h8 : (((nums bs).length : Nat) : Int) < 8 := h8
        (refine Or.inr ?_; (conv => whnf))
        refine (contains_lend bs (by unfold few; omega) d false).mono ?_
        rintro _ _ ⟨rfl, rfl⟩
        by_cases hm : d ∈ bs
        · rw [decide_eq_true hm]
          rw [if_neg (fun h => h.2 hm)] at hsn
          conv => whnf
          refine rdz ?_; repeat' ((with_reducible apply tw) <;> intro _)
          exact ⟨j + 1, rfl, by rw [hsn]; rfl, by omega, by omega⟩
        · rw [decide_eq_false hm]
          rw [if_pos ⟨by omega, hm⟩] at hsn
          conv => whnf
          refine rdz ?_; repeat' ((with_reducible apply tw) <;> intro _)
          refine ⟨by show ((nums bs).length + 1) * 8 ≤ _; omega, ?_⟩
          conv => whnf
          refine rdz ?_; repeat' ((with_reducible apply tw) <;> intro _)
          refine ⟨j + 1, rfl, ?_, by omega, by omega⟩
          rw [hsn, hL, ← nums_apps]
          rfl
      · rename_i h8
        replace h8 : ¬ (((nums bs).length : Nat) : Int) < 8 := h8
        rw [if_neg (fun h => h8 (by omega))] at hsn
        exact ⟨j + 1, rfl, by rw [hsn]; rfl, by omega, by omega⟩
    · rename_i h
      replace h : ¬ (j : Int) < l.length := h
      rw [List.take_of_length_le (by omega)] at hbs
      subst hbs
      (refine Or.inr ?_; (conv => whnf))
      refine (sortI_ok (batsF l) (by omega)).mono ?_
      rintro _ _ ⟨rfl, rfl⟩
      conv => whnf
      refine rdz ?_; repeat' ((with_reducible apply tw) <;> intro _)
      refine ACalls.mono (post := fun av L => av = .d (.sl 6 (certsD ol)) ∧ L = []) hof ?_
      rintro _ _ ⟨rfl, rfl⟩
      conv => whnf
      refine rdz ?_; repeat' ((with_reducible apply tw) <;> intro _)
      refine loop_go ttOk zOk foOk (σ := Nat) (fun j => ([(2, .ptr 0 0), (4, .ptr 1 0), (5, .ptr 2 0), (47, .d (.sl 6 (certsD ol))), (48, .d (.int .i64 ol.length)), (49, .d (.int .i64 j))], hL p (sortI (batsF l)) ((ol.take j).map (·.digest)))) (fun j => j ≤ ol.length) (fun j => ol.length - j) [2, 4, 5, 47, 48, 49] ?_ ?_
      · conv => whnf
        exact ⟨0, by rw [hcl]; rfl, rfl, Nat.zero_le _⟩
      · intro i hi
        conv => whnf
        refine rdz ?_; repeat' ((with_reducible apply tw) <;> intro _)
        · rename_i e
          replace e : (i : Int) < ol.length := e
          refine Exists.elim (⟨_, List.getElem?_eq_getElem (by omega)⟩ : ∃ c, ol[i]? = some c) fun c hc => ?_
          have hnl : (nums ((ol.take i).map (·.digest))).length ≤ 100000 := by rw [nums_length]; simp; omega
          refine ⟨by omega, c.cs, certsD_at hc, ?_⟩
          conv => whnf
          refine rdz ?_; repeat' ((with_reducible apply tw) <;> intro _)
          refine ⟨by show ((nums ((ol.take i).map (·.digest))).length + 1) * 8 ≤ _; omega, ?_⟩
          conv => whnf
          refine rdz ?_; repeat' ((with_reducible apply tw) <;> intro _)
          refine ⟨i + 1, rfl, ?_, by omega, by omega⟩
          rw [take_snoc hc, hL, List.map_append, ← nums_apps]
          rfl
        · rename_i e
          replace e : ¬ (i : Int) < ol.length := e
          rw [List.take_of_length_le (by omega), ← hpe]
          have hpl : (parsF p).length < 4611686018427387904 := by rw [hpe, List.length_map]; omega
          (refine Or.inr ?_; (conv => whnf))
          refine (sortI_ok (parsF p) hpl).mono ?_
          rintro _ _ ⟨rfl, rfl⟩
          conv => whnf
          refine rdz ?_; repeat' ((with_reducible apply tw) <;> intro _)
          exact ⟨rfl, rfl⟩
theorem headP_ok (p : Prim) (hf : p.dag.fit) (hr : 1 ≤ p.round ∧ p.round ≤ 1099511627776) (hdl : p.dag.certs.length ≤ 100000) (l : List Int) (hl : few l) :
    ACalls Tryz.prog 60 [p.av, .d (.sl 1 (nums l))] [] (fun av L => av = (headC p l).hav ∧ L = []) := by
  refine acalls_data (head_row p hf hr hdl l hl) ?_
  rintro _ _ ⟨rfl, rfl⟩
  conv => whnf
  exact ⟨rfl, rfl⟩
end Go.Proofs.YtdlfmgcmfoehdaaGreat
