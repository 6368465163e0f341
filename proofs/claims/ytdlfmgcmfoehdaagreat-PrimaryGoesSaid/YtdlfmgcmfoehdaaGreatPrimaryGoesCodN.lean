/- PrimaryGoes: contracts. -/
import Derived.Test.YtdlfmgcmfoehdaaGreatPrimaryGoesCodM
set_option linter.unusedVariables false
set_option linter.unusedSimpArgs false
namespace Go.Proofs.YtdlfmgcmfoehdaaGreat
open Go.Ab Go.RowKit Go.MapKept
attribute [local irreducible] ACalls AW ADraw Into fltB fnear
set_option maxRecDepth 100000
theorem pass_sub (d : Dag) (l : List Cert) : ∀ j, (passD d (l.take j)).2.Sublist (l.take j)
  | 0 => by simp [passD]
  | j + 1 => by
    have ih := pass_sub d l j
    cases hc : l[j]? with
    | none =>
      have hl : l.length ≤ j := by simpa using hc
      rw [List.take_of_length_le (by omega)] at ih ⊢
      exact ih
    | some c =>
      rw [passD_snoc hc, List.take_add_one, hc]
      unfold stepD
      simp only
      split
      · exact List.Sublist.append ih (List.Sublist.refl _)
      · exact ih.trans (List.sublist_append_left ..)
theorem pass_mem (d : Dag) (l : List Cert) : ∀ j, ∀ c ∈ d.certs, c ∈ (passD d (l.take j)).1.certs
  | 0, c, h => by simpa [passD] using h
  | j + 1, c, h => by
    have ih := pass_mem d l j c h
    cases hc : l[j]? with
    | none =>
      have hl : l.length ≤ j := by simpa using hc
      rw [List.take_of_length_le (by omega)] at ih ⊢
      exact ih
    | some x =>
      rw [passD_snoc hc]
      exact mem_putD ih
theorem pass_all {d : Dag} {l : List Cert} (h : Fine d l) : Valid (passD d l).1 ∧ (passD d l).1.nodes = d.nodes ∧ (passD d l).1.low = d.low ∧ (passD d l).1.certs.length + (passD d l).2.length ≤ d.certs.length + l.length ∧ (passD d l).2.Sublist l ∧ ∀ c ∈ d.certs, c ∈ (passD d l).1.certs := by
  obtain ⟨h1, h2, h3, h4, h5⟩ := pass_fine h l.length (Nat.le_refl _)
  have h6 := pass_sub d l l.length
  have h7 := pass_mem d l l.length
  rw [List.take_length] at h1 h2 h3 h4 h6 h7
  exact ⟨h1, h2, h3, h4, h6, h7⟩
structure AgK (d : Dag) (l : List Cert) (t : Dag × List Cert) : Prop where
  valid : Valid t.1
  nodes : t.1.nodes = d.nodes
  low : t.1.low = d.low
  len : t.1.certs.length + t.2.length ≤ d.certs.length + l.length
  sub : t.2.Sublist l
  mem : ∀ c ∈ d.certs, c ∈ t.1.certs
theorem again_keeps : ∀ (n : Nat) (d : Dag) (l : List Cert), Fine d l → l.length < n → AgK d l (againF n d l)
  | 0, d, l, h, hn => by omega
  | n + 1, d, l, h, hn => by
    obtain ⟨h1, h2, h3, h4, h5, h6⟩ := pass_all h
    have hr := h.room
    unfold againF
    split
    · rename_i hlt
      have hf : Fine (passD d l).1 (passD d l).2 := ⟨h1, by omega, fun c hc => by rw [h2]; exact h.late c (h5.subset hc)⟩
      have ih := again_keeps n _ _ hf (by omega)
      exact ⟨ih.valid, ih.nodes.trans h2, ih.low.trans h3, Nat.le_trans ih.len h4, ih.sub.trans h5, fun c hc => ih.mem c (h6 c hc)⟩
    · rename_i hge
      exact ⟨h1, h2, h3, by show (passD d l).1.certs.length + l.length ≤ _; omega, List.Sublist.refl _, h6⟩
theorem againD_keeps {d : Dag} {l : List Cert} (h : Fine d l) : AgK d l (againD d l) := again_keeps _ d l h (Nat.lt_succ_self _)
def Prim.gh (p : Prim) : Prop := p.mine.digest = 0 ∧ p.mine.sigs = []
structure Goes (p x : Prim) : Prop where
  may : May x
  round : p.round ≤ x.round
  said : p.said ≤ x.said
  id : x.id = p.id
  nodes : x.nodes = p.nodes
  votes : ∀ v ∈ p.votes, v ∈ x.votes
  certs : ∀ c ∈ p.dag.certs, c ∈ x.dag.certs
  gh : p.gh → x.gh
  room : x.dag.certs.length + x.late.length ≤ p.dag.certs.length + p.late.length + 1
  vlen : x.votes.length ≤ p.votes.length + 1
theorem goes_refl {p : Prim} (h : May p) : Goes p p := ⟨h, Int.le_refl _, Int.le_refl _, rfl, rfl, fun _ h => h, fun _ h => h, id, by omega, by omega⟩
theorem lateP_ok {n : Int} {l : List Cert} (h : okLate n l) {c : Cert} (hc : okCert n c) : okLate n (lateP l c) := by
  refine ⟨?_, lateP_rising h.ris c, fun x hx => ?_⟩
  · have hl := h.len
    unfold lateP
    split
    · rename_i hh
      simp
      omega
    · exact hl
  · rcases mem_lateP hx with rfl | hx
    · exact hc
    · exact h.certs x hx
theorem goes_in {p : Prim} (h : May p) (hr : p.dag.certs.length + p.late.length < 60000) {c : Cert} (hc : okCert p.nodes c) : Goes p (inP p c) := by
  unfold inP
  split
  · rename_i h0
    have hf : Fine (putD p.dag c) p.late := ⟨putD_valid h.dag (by rw [h.same]; exact hc) (by omega), by have := putD_len p.dag c; omega, fun x hx => by rw [putD_nodes, h.same]; exact ⟨h.late.certs x hx, certTiny_of h.isn (h.late.certs x hx)⟩⟩
    have ha := againD_keeps hf
    have hpl := putD_len p.dag c
    refine ⟨⟨h.isn, h.id, h.round, h.age, h.said, ⟨h.mine.none, h.mine.dig, h.mine.head, h.mine.author, h.mine.round, h.mine.acks, h.mine.less⟩, h.votes, ha.valid, ?_, ?_⟩, Int.le_refl _, Int.le_refl _, rfl, rfl, fun _ h => h, fun x hx => ha.mem x (mem_putD hx), id, ?_, Nat.le_succ _⟩
    · show (againD (putD p.dag c) p.late).1.nodes = p.nodes
      rw [ha.nodes, putD_nodes, h.same]
    · exact ⟨Nat.le_trans ha.sub.length_le h.late.len, List.Pairwise.sublist ha.sub h.late.ris, fun x hx => h.late.certs x (ha.sub.subset hx)⟩
    · show (againD (putD p.dag c) p.late).1.certs.length + (againD (putD p.dag c) p.late).2.length ≤ _
      have := ha.len
      omega
  · split
    · refine ⟨⟨h.isn, h.id, h.round, h.age, h.said, ⟨h.mine.none, h.mine.dig, h.mine.head, h.mine.author, h.mine.round, h.mine.acks, h.mine.less⟩, h.votes, h.dag, h.same, lateP_ok h.late hc⟩, Int.le_refl _, Int.le_refl _, rfl, rfl, fun _ h => h, fun _ h => h, id, ?_, Nat.le_succ _⟩
      show p.dag.certs.length + (lateP p.late c).length ≤ _
      have := lateP_len p.late c
      omega
    · exact goes_refl h
theorem mem_putV {l : List Vote} {v x : Vote} (h : x ∈ l) : x ∈ putV l v := by
  unfold putV
  split
  · unfold insV
    rw [← List.take_append_drop (posV l v.round v.author) l] at h
    rcases List.mem_append.1 h with h | h
    · exact List.mem_append.2 (.inl h)
    · exact List.mem_append.2 (.inr (List.mem_cons_of_mem _ h))
  · exact h
theorem putV_mem {l : List Vote} {v x : Vote} (h : x ∈ putV l v) : x = v ∨ x ∈ l := by
  unfold putV at h
  split at h
  · unfold insV at h
    rcases List.mem_append.1 h with h | h
    · exact .inr (List.mem_of_mem_take h)
    · rcases List.mem_cons.1 h with h | h
      · exact .inl h
      · exact .inr (List.mem_of_mem_drop h)
  · exact .inr h
theorem putV_len (l : List Vote) (v : Vote) : (putV l v).length ≤ l.length + 1 := by
  unfold putV
  split
  · unfold insV; simp; omega
  · omega
theorem giveE_0 {l : List Vote} {v : Vote} (h : giveE l v = 0) : atV l v.round v.author = none ∧ l.length ≠ 65536 := by
  unfold giveE at h
  cases hat : atV l v.round v.author with
  | some y =>
    rw [hat] at h
    simp only at h
    split at h
    · exact absurd h (by decide)
    · exact absurd h (by decide)
  | none =>
    rw [hat] at h
    simp only at h
    split at h
    · exact absurd h (by decide)
    · rename_i hne
      exact ⟨rfl, hne⟩
theorem atV_none {l : List Vote} {r a : Int} (h : atV l r a = none) : ∀ v ∈ l, ¬ (v.round = r ∧ v.author = a) := by
  unfold atV at h
  rw [List.find?_eq_none] at h
  intro v hv
  have := h v hv
  simpa using this
theorem putV_ok {l : List Vote} (h : okVotes l) {v : Vote} (hv : okVote v) : okVotes (putV l v) := by
  refine ⟨?_, fun x hx => ?_, ?_⟩
  · unfold putV
    split
    · rename_i h0
      have := (giveE_0 h0).2
      have := h.len
      unfold insV
      simp
      omega
    · exact h.len
  · rcases putV_mem hx with rfl | hx
    · exact hv
    · exact h.votes x hx
  · unfold putV
    split
    · rename_i h0
      have hno := atV_none (giveE_0 h0).1
      have hs := h.sorted
      unfold insV sortedV
      have hsp := hs
      rw [sortedV, ← List.take_append_drop (posV l v.round v.author) l, List.pairwise_append] at hsp
      have h1 : ∀ y ∈ l.take (posV l v.round v.author), y.before v.round v.author = true := by
        intro y hy
        obtain ⟨j, hj⟩ := List.getElem?_of_mem hy
        rw [List.getElem?_take] at hj
        split at hj
        · rename_i hlt
          exact (posV_iff hs hj).2 hlt
        · cases hj
      rw [List.pairwise_append]
      refine ⟨hsp.1, List.pairwise_cons.2 ⟨fun y hy => ?_, hsp.2.1⟩, fun a ha y hy => ?_⟩
      · obtain ⟨j, hj⟩ := List.getElem?_of_mem hy
        rw [List.getElem?_drop] at hj
        have h2 := posV_iff (r := v.round) (a := v.author) hs hj
        have h3 := hno y (List.mem_of_getElem? hj)
        have h4 : ¬ y.before v.round v.author = true := fun h => by have := h2.1 h; omega
        rw [beforeV_iff] at h4 ⊢
        omega
      · rcases List.mem_cons.1 hy with rfl | hy
        · exact h1 a ha
        · exact hsp.2.2 a ha y hy
    · exact h.sorted
theorem goes_votes {p : Prim} (h : May p) {v : Vote} (hv : okVote v) : Goes p { p with votes := putV p.votes v } :=
  ⟨⟨h.isn, h.id, h.round, h.age, h.said, ⟨h.mine.none, h.mine.dig, h.mine.head, h.mine.author, h.mine.round, h.mine.acks, h.mine.less⟩, putV_ok h.votes hv, h.dag, h.same, h.late⟩, Int.le_refl _, Int.le_refl _, rfl, rfl, fun _ hx => mem_putV hx, fun _ h => h, id, by show p.dag.certs.length + p.late.length ≤ _; omega, putV_len ..⟩
theorem goes_asked {p : Prim} (h : May p) {m : Msg} (hm : okMsg p.nodes m) (hk : m.kind = 4) (held : List Int) : Goes p (askedP p m held) := by
  have hh := (hm.ok.head hk).1
  have hnn := of_decide_eq_true h.isn
  have hau := hh.author
  have hd := hm.ok.dig (by omega)
  unfold askedP
  split
  · exact goes_refl h
  · split
    · exact goes_refl h
    · split
      · exact goes_votes h ⟨hh.round, ⟨hau.1, by show m.head.author ≤ 16; omega⟩, hd⟩
      · exact goes_refl h
theorem certd_goes {p q : Prim} (h : May p) (hr : p.dag.certs.length + p.late.length < 60000) (hq : q = { p with mine := q.mine, dig := q.dig, acks := q.acks, votes := q.votes, said := q.said }) (hv : okVotes q.votes) (hvs : ∀ v ∈ p.votes, v ∈ q.votes) (hvl : q.votes.length ≤ p.votes.length + 1) (hsd : p.said ≤ q.said ∧ q.said ≤ p.round)
    (hsg : p.gh → q.gh) (hno : doneP q = false → okMine q) (hyes : doneP q = true → okCert p.nodes (certP q)) : Goes p (certdP q) := by
  have e1 : q.id = p.id := by rw [hq]
  have e2 : q.nodes = p.nodes := by rw [hq]
  have e3 : q.round = p.round := by rw [hq]
  have e4 : q.age = p.age := by rw [hq]
  have e5 : q.dag = p.dag := by rw [hq]
  have e6 : q.late = p.late := by rw [hq]
  have hb := h.said
  unfold certdP
  cases hd : doneP q with
  | false =>
    rw [if_neg (by decide)]
    exact ⟨⟨by rw [e2]; exact h.isn, by rw [e1, e2]; exact h.id, by rw [e3]; exact h.round, by rw [e4]; exact h.age, by rw [e3]; omega, hno hd, hv, by rw [e5]; exact h.dag, by rw [e5, e2]; exact h.same, by rw [e2, e6]; exact h.late⟩, by rw [e3]; exact Int.le_refl _, hsd.1, e1, e2, hvs, fun c hc => by rw [e5]; exact hc, hsg, by rw [e5, e6]; omega, hvl⟩
  | true =>
    rw [if_pos rfl]
    have hc : May (clearP q) := ⟨by show isN q.nodes = true; rw [e2]; exact h.isn, by show 1 ≤ q.id ∧ q.id ≤ q.nodes; rw [e1, e2]; exact h.id, by show 1 ≤ q.round ∧ q.round ≤ _; rw [e3]; exact h.round, by show 0 ≤ q.age ∧ q.age ≤ _; rw [e4]; exact h.age, by show 0 ≤ q.said ∧ q.said ≤ q.round; rw [e3]; omega, ⟨fun _ => ⟨rfl, rfl, rfl, rfl, rfl⟩, fun h => absurd rfl h, fun h => absurd rfl h, fun h => absurd rfl h, fun h => absurd rfl h, fun h => absurd rfl h, fun h => absurd rfl h⟩, hv, by show Valid q.dag; rw [e5]; exact h.dag, by show q.dag.nodes = q.nodes; rw [e5, e2]; exact h.same, by show okLate q.nodes q.late; rw [e2, e6]; exact h.late⟩
    have hg := goes_in hc (by show q.dag.certs.length + q.late.length < _; rw [e5, e6]; exact hr) (c := certP q) (by show okCert q.nodes _; rw [e2]; exact hyes hd)
    have g1 : q.round ≤ (inP (clearP q) (certP q)).round := hg.round
    have g2 : q.said ≤ (inP (clearP q) (certP q)).said := hg.said
    have g3 : (inP (clearP q) (certP q)).id = q.id := hg.id
    have g4 : (inP (clearP q) (certP q)).nodes = q.nodes := hg.nodes
    have g5 : ∀ v ∈ q.votes, v ∈ (inP (clearP q) (certP q)).votes := hg.votes
    have g6 : ∀ c ∈ q.dag.certs, c ∈ (inP (clearP q) (certP q)).dag.certs := hg.certs
    have g7 : (inP (clearP q) (certP q)).gh := hg.gh ⟨rfl, rfl⟩
    have g8 : (inP (clearP q) (certP q)).dag.certs.length + (inP (clearP q) (certP q)).late.length ≤ q.dag.certs.length + q.late.length + 1 := hg.room
    have g9 : (inP (clearP q) (certP q)).votes = q.votes := by unfold inP; split; rfl; split; rfl; rfl
    exact ⟨hg.may, by omega, by omega, by rw [g3, e1], by rw [g4, e2], fun v hv => g5 v (hvs v hv), fun c hc => g6 c (by rw [e5]; exact hc), fun _ => g7, by rw [e5, e6] at g8; exact g8, by rw [g9]; exact hvl⟩
theorem goes_voted {p : Prim} (h : May p) (hr : p.dag.certs.length + p.late.length < 60000) {m : Msg} (hm : okMsg p.nodes m) : Goes p (votedP p m) := by
  unfold votedP
  split
  · exact goes_refl h
  · rename_i hno
    have h0 : p.dig ≠ 0 := fun e => hno (.inl e)
    refine certd_goes h hr rfl h.votes (fun _ h => h) (Nat.le_succ _) ⟨Int.le_refl _, h.said.2⟩ id (fun hd => ?_) (fun hd => ?_)
    · simp only [doneP, Bool.not_eq_false', Bool.or_eq_true, decide_eq_true_iff] at hd
      refine ⟨fun e => absurd e h0, fun _ => h.mine.dig h0, fun _ => h.mine.head h0, fun _ => h.mine.author h0, fun _ => h.mine.round h0, fun _ => ackP_rise (h.mine.acks h0) hm.src, fun _ => ?_⟩
      rcases hd with hd | hd
      · exact absurd hd h0
      · exact hd
    · have := (certdOk_of h hr m.src hm.src h0 hd).cert
      rw [show ({ p with acks := ackP p.acks m.src } : Prim).dag.nodes = p.nodes from h.same] at this
      exact this
theorem goes_got {p : Prim} (h : May p) (hr : p.dag.certs.length + p.late.length < 60000) {m : Msg} (hm : okMsg p.nodes m) (held : List Int) : Goes p (gotP p m held) := by
  unfold gotP
  split
  · exact goes_asked h hm (by assumption) held
  · split
    · exact goes_voted h hr hm
    · split
      · exact goes_in h hr (hm.ok.cert (by assumption))
      · exact goes_refl h
theorem goes_beat {p : Prim} (h : May p) : Goes p (beatP p) := by
  have hag := h.age
  have hq := onP_range (p := agedP p) h.dag h.round ⟨by show 0 ≤ min (p.age + 1) 1099511627776; omega, by show min (p.age + 1) 1099511627776 ≤ _; omega⟩
  have h1 : p.round ≤ (beatP p).round := hq.1
  have hs := h.said
  exact ⟨⟨h.isn, h.id, ⟨by have := h.round; omega, hq.2.1⟩, hq.2.2, ⟨hs.1, by show p.said ≤ (beatP p).round; omega⟩, ⟨h.mine.none, h.mine.dig, h.mine.head, h.mine.author, h.mine.round, h.mine.acks, h.mine.less⟩, h.votes, h.dag, h.same, h.late⟩, h1, Int.le_refl _, rfl, rfl, fun _ h => h, fun _ h => h, id, by show p.dag.certs.length + p.late.length ≤ _; omega, by show p.votes.length ≤ _; omega⟩
theorem goes_say {p : Prim} (h : May p) (hr : p.dag.certs.length + p.late.length < 60000) {c : Cert} {d : Int} (hp : propC p c d) (hs : sayC p c) : Goes p (sayP p c d) := by
  have hnn := of_decide_eq_true h.isn
  have hid := h.id
  have hrd := h.round
  have hsaid : p.said < p.round := by
    have := hs.ready
    unfold readyB at this
    simp only [Bool.and_eq_true, decide_eq_true_iff] at this
    exact this.1
  have hv : okVote ⟨c.round, p.id, d⟩ := ⟨hp.head.round, ⟨hid.1, by show p.id ≤ 16; omega⟩, hp.dig⟩
  refine certd_goes (q := propP p c d) h hr rfl (putV_ok h.votes hv) (fun _ hx => mem_putV hx) (putV_len ..) ⟨by show p.said ≤ p.round; omega, by show p.round ≤ p.round; omega⟩ (fun _ => ⟨rfl, rfl⟩) (fun hd => ?_) (fun hd => ?_)
  · simp only [doneP, Bool.not_eq_false', Bool.or_eq_true, decide_eq_true_iff] at hd
    have hd0 : (propP p c d).dig ≠ 0 := by show d ≠ 0; have := hp.dig; omega
    refine ⟨fun e => absurd e hd0, fun _ => hp.dig, fun _ => ?_, fun _ => hp.author, fun _ => hs.round, fun _ => ⟨List.pairwise_singleton .., fun x hx => by have := List.mem_singleton.1 hx; subst this; exact hid⟩, fun _ => ?_⟩
    · exact ⟨hp.head.isn, hp.head.author, hp.head.round, hp.head.bats, hp.head.pars, hp.head.one, hp.head.many⟩
    · rcases hd with hd | hd
      · exact absurd hd hd0
      · exact hd
  · have := (prop_certd h hr hp.head hp.dig hd).cert
    rw [show (propP p c d).dag.nodes = p.nodes from h.same] at this
    exact this
theorem i64_0 : i64 0 := ⟨by decide, by decide⟩
theorem may_ok {p : Prim} (h : May p) (g : p.gh) : p.ok := by
  have hnn := of_decide_eq_true h.isn
  have ha := h.acks.2
  have hv := h.votes.len
  have hl := h.late.len
  refine ⟨?_, by rw [g.2]; exact Nat.zero_le _, few_le 65536 ha, few_le 65536 hv, h.dag.dok, few_le 256 hl, fun c hc => certOk_of h.isn (h.late.certs c hc)⟩
  by_cases h0 : p.dig = 0
  · obtain ⟨e1, e2, e3, e4, _⟩ := h.mine.none h0
    refine ⟨by rw [e1]; exact i64_0, by rw [e2]; exact i64_0, ⟨by rw [e3]; exact few_nil, by rw [e3]; simp⟩, ⟨by rw [e4]; exact few_nil, by rw [e4]; simp⟩, by rw [g.1]; exact i64_0, ⟨by rw [g.2]; exact few_nil, by rw [g.2]; simp⟩⟩
  · have hh := h.mine.head h0
    have h1 := hh.author
    have h2 := hh.round
    have h3 := hh.bats
    have h4 := hh.pars
    exact ⟨i64_of (by omega), i64_of (by omega), ⟨few_le 8 (by omega), fun x hx => i64_of (by have := h3.2.2 x hx; omega)⟩, ⟨few_le 16 (by omega), fun x hx => i64_of (by have := h4.2.2 x hx; omega)⟩, by rw [g.1]; exact i64_0, ⟨by rw [g.2]; exact few_nil, by rw [g.2]; simp⟩⟩
theorem pass_from {d : Dag} {l : List Cert} : ∀ j, ∀ c ∈ (passD d (l.take j)).1.certs, c ∈ d.certs ∨ c ∈ l
  | 0, c, h => by simpa [passD] using .inl h
  | j + 1, c, h => by
    have ih := pass_from (d := d) (l := l) j
    cases hc : l[j]? with
    | none =>
      have hl : l.length ≤ j := by simpa using hc
      rw [List.take_of_length_le (by omega)] at ih h
      exact ih c h
    | some x =>
      rw [passD_snoc hc] at h
      rcases putD_sub h with rfl | h
      · exact .inr (List.mem_of_getElem? hc)
      · exact ih c h
theorem again_from : ∀ (n : Nat) (d : Dag) (l : List Cert), (∀ c ∈ (againF n d l).1.certs, c ∈ d.certs ∨ c ∈ l) ∧ ∀ c ∈ (againF n d l).2, c ∈ l
  | 0, d, l => ⟨fun c h => .inl h, fun c h => h⟩
  | n + 1, d, l => by
    have hp := pass_from (d := d) (l := l) l.length
    have hs := (pass_sub d l l.length).subset
    rw [List.take_length] at hp hs
    unfold againF
    split
    · have ih := again_from n (passD d l).1 (passD d l).2
      refine ⟨fun c h => ?_, fun c h => hs (ih.2 c h)⟩
      rcases ih.1 c h with h | h
      · exact hp c h
      · exact .inr (hs h)
    · exact ⟨hp, fun c h => h⟩
theorem in_certs {p : Prim} {c x : Cert} (h : x ∈ (inP p c).dag.certs) : x = c ∨ x ∈ p.dag.certs ∨ x ∈ p.late := by
  unfold inP at h
  split at h
  · rcases (again_from _ _ _).1 x h with h | h
    · rcases putD_sub h with h | h
      · exact .inl h
      · exact .inr (.inl h)
    · exact .inr (.inr h)
  · split at h
    · exact .inr (.inl h)
    · exact .inr (.inl h)
theorem in_late {p : Prim} {c x : Cert} (h : x ∈ (inP p c).late) : x = c ∨ x ∈ p.late := by
  unfold inP at h
  split at h
  · exact .inr ((again_from _ _ _).2 x h)
  · split at h
    · exact mem_lateP h
    · exact .inr h
theorem in_rest (p : Prim) (c : Cert) : (inP p c).votes = p.votes ∧ (inP p c).dig = p.dig ∧ (inP p c).mine = p.mine ∧ (inP p c).acks = p.acks ∧ (inP p c).id = p.id ∧ (inP p c).nodes = p.nodes ∧ (inP p c).said = p.said := by
  unfold inP
  split
  · exact ⟨rfl, rfl, rfl, rfl, rfl, rfl, rfl⟩
  · split
    · exact ⟨rfl, rfl, rfl, rfl, rfl, rfl, rfl⟩
    · exact ⟨rfl, rfl, rfl, rfl, rfl, rfl, rfl⟩
def look (B : List Cert) (d : Int) : Option Cert := if 1 ≤ d then B[(d - 1).toNat]? else none
structure sameH (a b : Cert) : Prop where
  author : a.author = b.author
  round : a.round = b.round
  bats : a.bats = b.bats
  pars : a.pars = b.pars
theorem look_some {B : List Cert} {d : Int} {h : Cert} (e : look B d = some h) : 1 ≤ d ∧ d ≤ B.length ∧ h ∈ B := by
  unfold look at e
  split at e
  · have := (List.getElem?_eq_some_iff.1 e).1
    exact ⟨by assumption, by omega, List.mem_of_getElem? e⟩
  · cases e
theorem look_app {B : List Cert} {d : Int} {h : Cert} (x : Cert) (e : look B d = some h) : look (B ++ [x]) d = some h := by
  unfold look at e ⊢
  split at e
  · rename_i h1
    rw [if_pos h1, List.getElem?_append_left (List.getElem?_eq_some_iff.1 e).1]
    exact e
  · cases e
theorem look_new (B : List Cert) (x : Cert) : look (B ++ [x]) ((B.length : Int) + 1) = some x := by
  unfold look
  rw [if_pos (by omega), show ((B.length : Int) + 1 - 1).toNat = B.length by omega]
  simp
theorem look_cases {B : List Cert} {d : Int} {h x : Cert} (e : look (B ++ [x]) d = some h) : look B d = some h ∨ (d = (B.length : Int) + 1 ∧ h = x) := by
  unfold look at e ⊢
  split at e
  · rename_i h1
    rw [if_pos h1]
    rcases Nat.lt_or_ge (d - 1).toNat B.length with hl | hl
    · rw [List.getElem?_append_left hl] at e
      exact .inl e
    · rw [List.getElem?_append_right hl] at e
      have := (List.getElem?_eq_some_iff.1 e).1
      simp at this
      have hd : (d - 1).toNat - B.length = 0 := by omega
      rw [hd] at e
      simp at e
      exact .inr ⟨by omega, e.symm⟩
  · cases e
abbrev Votes := Int → Int → Int → Int → Prop
structure GoodC (n : Int) (V : Votes) (B : List Cert) (c : Cert) : Prop where
  ok : okCert n c
  book : ∃ h, look B c.digest = some h ∧ sameH h c
  sigs : ∀ s ∈ c.sigs, V s c.round c.author c.digest
structure GoodP (n : Int) (V : Votes) (B : List Cert) (p : Prim) : Prop where
  may : May p
  gh : p.gh
  nodes : p.nodes = n
  votes : ∀ v ∈ p.votes, ∃ h, look B v.digest = some h ∧ h.round = v.round ∧ h.author = v.author
  mine : p.dig ≠ 0 → ∃ h, look B p.dig = some h ∧ sameH h p.mine
  acks : p.dig ≠ 0 → ∀ s ∈ p.acks, V s p.mine.round p.id p.dig
  dag : ∀ c ∈ p.dag.certs, GoodC n V B c
  late : ∀ c ∈ p.late, GoodC n V B c
structure GoodM (n : Int) (V : Votes) (B : List Cert) (m : Msg) : Prop where
  ok : okMsg n m
  fine : m.fine
  kind : m.kind ∈ [(4 : Int), 5, 6, 8]
  ask : m.kind = 4 → ∃ h, look B m.digest = some h ∧ sameH h m.head
  vote : m.kind = 5 → ∃ h, look B m.digest = some h ∧ V m.src h.round h.author m.digest
  cert : m.kind = 6 → GoodC n V B m.cert
structure More (V V' : Votes) (B B' : List Cert) : Prop where
  v : ∀ s r a d, V s r a d → V' s r a d
  b : ∀ d h, look B d = some h → look B' d = some h
theorem GoodC.more {n : Int} {V V' : Votes} {B B' : List Cert} (m : More V V' B B') {c : Cert} (h : GoodC n V B c) : GoodC n V' B' c := ⟨h.ok, by obtain ⟨x, h1, h2⟩ := h.book; exact ⟨x, m.b _ _ h1, h2⟩, fun s hs => m.v _ _ _ _ (h.sigs s hs)⟩
theorem GoodP.more {n : Int} {V V' : Votes} {B B' : List Cert} (m : More V V' B B') {p : Prim} (h : GoodP n V B p) : GoodP n V' B' p :=
  ⟨h.may, h.gh, h.nodes, fun v hv => by obtain ⟨x, h1, h2⟩ := h.votes v hv; exact ⟨x, m.b _ _ h1, h2⟩, fun k => by obtain ⟨x, h1, h2⟩ := h.mine k; exact ⟨x, m.b _ _ h1, h2⟩, fun k s hs => m.v _ _ _ _ (h.acks k s hs), fun c hc => (h.dag c hc).more m, fun c hc => (h.late c hc).more m⟩
theorem GoodM.more {n : Int} {V V' : Votes} {B B' : List Cert} (m : More V V' B B') {x : Msg} (h : GoodM n V B x) : GoodM n V' B' x :=
  ⟨h.ok, h.fine, h.kind, fun k => by obtain ⟨y, h1, h2⟩ := h.ask k; exact ⟨y, m.b _ _ h1, h2⟩, fun k => by obtain ⟨y, h1, h2⟩ := h.vote k; exact ⟨y, m.b _ _ h1, m.v _ _ _ _ h2⟩, fun k => (h.cert k).more m⟩
theorem fewL_cz0 : fewL cz0 := ⟨few_nil, few_nil, few_nil⟩
theorem certMsg_good {n : Int} {V : Votes} {B : List Cert} {c : Cert} (hc : GoodC n V B c) {p : Prim} (hp : p.nodes = n) (hn : isN n = true) (hid : 1 ≤ p.id ∧ p.id ≤ n) {t : Int} (ht : 1 ≤ t ∧ t ≤ n) (hne : t ≠ p.id) : GoodM n V B ((certMsg c).told p t) := by
  have hf := certFew_of hn hc.ok
  refine ⟨⟨hn, hid, ht, fun e => hne e.symm, ⟨by show (1 : Int) ≤ 6 ∧ (6 : Int) ≤ 8; omega, fun h => ?_, fun h => ?_, fun h => ?_, fun _ => hc.ok, fun h => ?_⟩, ⟨fun _ => rfl, fun _ => ⟨rfl, rfl, rfl⟩, fun _ => ⟨rfl, rfl, rfl, rfl⟩, fun h => absurd rfl h, fun _ => rfl⟩⟩, ⟨few_nil, fewL_cz0, hf, few_nil⟩, by show (6 : Int) ∈ _; simp, fun h => ?_, fun h => ?_, fun _ => hc⟩
  · exact absurd (show (6 : Int) ≤ 5 from h) (by decide)
  · exact absurd (show (6 : Int) = 1 ∨ (6 : Int) = 3 from h) (by decide)
  · exact absurd (show (6 : Int) = 4 from h) (by decide)
  · exact absurd (show (7 : Int) ≤ 6 from h) (by decide)
  · exact absurd (show (6 : Int) = 4 from h) (by decide)
  · exact absurd (show (6 : Int) = 5 from h) (by decide)
theorem tellV_good {n : Int} {V : Votes} {B : List Cert} {m : Msg} {h : Cert} (hl : look B m.digest = some h) (hd : 1 ≤ m.digest ∧ m.digest ≤ 65536) {p : Prim} (hv : V p.id h.round h.author m.digest) (hn : isN n = true) (hid : 1 ≤ p.id ∧ p.id ≤ n) {t : Int} (ht : 1 ≤ t ∧ t ≤ n) (hne : t ≠ p.id) : GoodM n V B ((tellV m).told p t) := by
  refine ⟨⟨hn, hid, ht, fun e => hne e.symm, ⟨by show (1 : Int) ≤ 5 ∧ (5 : Int) ≤ 8; omega, fun _ => hd, fun h => ?_, fun h => ?_, fun h => ?_, fun h => ?_⟩, ⟨fun h => ?_, fun _ => ⟨rfl, rfl, rfl⟩, fun _ => ⟨rfl, rfl, rfl, rfl⟩, fun _ => ⟨rfl, rfl, rfl, rfl, rfl, rfl⟩, fun _ => rfl⟩⟩, ⟨few_nil, fewL_cz0, fewL_cz0, few_nil⟩, by show (5 : Int) ∈ _; simp, fun h => ?_, fun _ => ⟨h, hl, hv⟩, fun h => ?_⟩
  · exact absurd (show (5 : Int) = 1 ∨ (5 : Int) = 3 from h) (by decide)
  · exact absurd (show (5 : Int) = 4 from h) (by decide)
  · exact absurd (show (5 : Int) = 6 from h) (by decide)
  · exact absurd (show (7 : Int) ≤ 5 from h) (by decide)
  · exact absurd (show (6 : Int) ≤ 5 from h) (by decide)
  · exact absurd (show (5 : Int) = 4 from h) (by decide)
  · exact absurd (show (5 : Int) = 6 from h) (by decide)
theorem askMsg_good {n : Int} {V : Votes} {B : List Cert} {p : Prim} (hp : p.nodes = n) (hm : okHead n p.mine) (ha : p.mine.author = p.id) (hs : p.mine.sigs = []) (hd : 1 ≤ p.dig ∧ p.dig ≤ 65536) {h : Cert} (hl : look B p.dig = some h) (hh : sameH h p.mine) (hid : 1 ≤ p.id ∧ p.id ≤ n) {t : Int} (ht : 1 ≤ t ∧ t ≤ n) (hne : t ≠ p.id) : GoodM n V B ((askMsg p).told p t) := by
  have hnn := of_decide_eq_true hm.isn
  have hb := hm.bats.1
  have hpa := hm.pars.1
  refine ⟨⟨hm.isn, hid, ht, fun e => hne e.symm, ⟨by show (1 : Int) ≤ 4 ∧ (4 : Int) ≤ 8; omega, fun _ => hd, fun h => ?_, fun _ => ⟨hm, ha⟩, fun h => ?_, fun h => ?_⟩, ⟨fun h => ?_, fun _ => ⟨rfl, rfl, rfl⟩, fun h => absurd rfl h, fun _ => ⟨rfl, rfl, rfl, rfl, rfl, rfl⟩, fun _ => rfl⟩⟩, ⟨few_nil, ⟨few_le 8 (by show p.mine.bats.length ≤ 8; omega), few_le 16 (by show p.mine.pars.length ≤ 16; omega), by show few p.mine.sigs; rw [hs]; exact few_nil⟩, fewL_cz0, few_nil⟩, by show (4 : Int) ∈ _; simp, fun _ => ⟨h, hl, hh⟩, fun h => ?_, fun h => ?_⟩
  · exact absurd (show (4 : Int) = 1 ∨ (4 : Int) = 3 from h) (by decide)
  · exact absurd (show (4 : Int) = 6 from h) (by decide)
  · exact absurd (show (7 : Int) ≤ 4 from h) (by decide)
  · exact absurd (show (6 : Int) ≤ 4 from h) (by decide)
  · exact absurd (show (4 : Int) = 5 from h) (by decide)
  · exact absurd (show (4 : Int) = 6 from h) (by decide)
theorem chunks_mem {l x : List Int} (h : x ∈ chunksI l) : x.length ≤ 16 ∧ 1 ≤ x.length ∧ x.Sublist l := by
  obtain ⟨k, hk, rfl⟩ := List.mem_map.1 h
  rw [List.mem_range] at hk
  unfold chn at hk
  refine ⟨List.length_take_le .., ?_, (List.take_sublist ..).trans (List.drop_sublist ..)⟩
  unfold partI
  rw [List.length_take, List.length_drop]
  omega
theorem wants_good {n : Int} {V : Votes} {B : List Cert} {p : Prim} (hn : isN n = true) (hid : 1 ≤ p.id ∧ p.id ≤ n) {t : Int} (ht : 1 ≤ t ∧ t ≤ n) (hne : t ≠ p.id) {l : List Int} (hl : riseB l 1 65536) : ∀ m ∈ wantO p t 8 l, GoodM n V B m := by
  intro m hm
  obtain ⟨x, hx, rfl⟩ := List.mem_map.1 hm
  obtain ⟨h1, h2, h3⟩ := chunks_mem hx
  refine ⟨⟨hn, hid, ht, fun e => hne e.symm, ⟨by show (1 : Int) ≤ 8 ∧ (8 : Int) ≤ 8; omega, fun h => ?_, fun h => ?_, fun h => ?_, fun h => ?_, fun _ => ⟨⟨h2, h1⟩, ⟨List.Pairwise.sublist h3 hl.1, fun y hy => hl.2 y (h3.subset hy)⟩⟩⟩, ⟨fun _ => rfl, fun _ => ⟨rfl, rfl, rfl⟩, fun _ => ⟨rfl, rfl, rfl, rfl⟩, fun _ => ⟨rfl, rfl, rfl, rfl, rfl, rfl⟩, fun h => ?_⟩⟩, ⟨few_nil, fewL_cz0, fewL_cz0, few_le 16 h1⟩, by show (8 : Int) ∈ _; simp, fun h => ?_, fun h => ?_, fun h => ?_⟩
  · exact absurd (show (8 : Int) ≤ 5 from h) (by decide)
  · exact absurd (show (8 : Int) = 1 ∨ (8 : Int) = 3 from h) (by decide)
  · exact absurd (show (8 : Int) = 4 from h) (by decide)
  · exact absurd (show (8 : Int) = 6 from h) (by decide)
  · exact absurd (show (8 : Int) ≤ 6 from h) (by decide)
  · exact absurd (show (8 : Int) = 4 from h) (by decide)
  · exact absurd (show (8 : Int) = 5 from h) (by decide)
  · exact absurd (show (8 : Int) = 6 from h) (by decide)
theorem tell_good {G : Msg → Prop} {p : Prim} {m : Msg} {no : List Int} {k : Nat} (h : ∀ t, 1 ≤ t → t ≤ (k : Int) → t ≠ p.id → G (m.told p t)) : ∀ x ∈ tellO p m no k, G x := by
  intro x hx
  obtain ⟨t, ht, rfl⟩ := List.mem_map.1 hx
  unfold tellL at ht
  rw [List.mem_filter] at ht
  obtain ⟨h1, h2⟩ := ht
  simp at h1 h2
  obtain ⟨a, ha, rfl⟩ := h1
  exact h _ (by omega) (by omega) h2.1
end Go.Proofs.YtdlfmgcmfoehdaaGreat
