/- PrimaryGoes: contracts. -/
import Derived.Test.YtdlfmgcmfoehdaaGreatPrimaryGoesCodN
set_option linter.unusedVariables false
set_option linter.unusedSimpArgs false
namespace Go.Proofs.YtdlfmgcmfoehdaaGreat
open Go.Ab Go.RowKit Go.MapKept
attribute [local irreducible] ACalls AW ADraw Into fltB fnear
set_option maxRecDepth 100000
theorem voteAt_mem {l : List Vote} {r a : Int} (h : voteAt l r a > 0) : (⟨r, a, voteAt l r a⟩ : Vote) ∈ l := by
  unfold voteAt at h ⊢
  cases hat : atV l r a with
  | none => rw [hat] at h; exact absurd h (by decide)
  | some v =>
    have h1 : v ∈ l := List.mem_of_find?_eq_some hat
    have h2 := List.find?_some hat
    have h3 := of_decide_eq_true h2
    show (⟨r, a, v.digest⟩ : Vote) ∈ l
    have : (⟨r, a, v.digest⟩ : Vote) = v := by cases v; simp at h3 ⊢; exact ⟨h3.1.symm, h3.2.symm⟩
    rw [this]; exact h1
theorem insV_mem (l : List Vote) (v : Vote) : v ∈ insV l v := List.mem_append.2 (.inr (List.mem_cons_self ..))
theorem good_in {n : Int} {V : Votes} {B : List Cert} {p : Prim} (h : GoodP n V B p) (hr : p.dag.certs.length + p.late.length < 60000) {c : Cert} (hc : GoodC n V B c) : GoodP n V B (inP p c) := by
  have hn := h.nodes
  have hg := goes_in h.may hr (c := c) (by rw [hn]; exact hc.ok)
  obtain ⟨e1, e2, e3, e4, e5, e6, e7⟩ := in_rest p c
  refine ⟨hg.may, hg.gh h.gh, by rw [e6]; exact hn, by rw [e1]; exact h.votes, by rw [e2, e3]; exact h.mine, by rw [e2, e4, e3, e5]; exact h.acks, fun x hx => ?_, fun x hx => ?_⟩
  · rcases in_certs hx with rfl | hx | hx
    · exact hc
    · exact h.dag x hx
    · exact h.late x hx
  · rcases in_late hx with rfl | hx
    · exact hc
    · exact h.late x hx
theorem fresh_rise {n : Int} {d : Dag} {c : Cert} (h : okHead n c) (l : List Cert) : riseB (freshI l (lackI d c)) 1 65536 := by
  have hs : (freshI l (lackI d c)).Sublist c.pars := by
    unfold freshI lackI
    split
    · exact List.nil_sublist _
    · exact List.filter_sublist.trans List.filter_sublist
  exact ⟨List.Pairwise.sublist hs h.pars.2.1, fun x hx => h.pars.2.2 x (hs.subset hx)⟩
theorem inO_good {n : Int} {V : Votes} {B : List Cert} {p : Prim} (h : GoodP n V B p) {c : Cert} (hc : GoodC n V B c) {t : Int} (ht : 1 ≤ t ∧ t ≤ n) (hne : t ≠ p.id) : ∀ m ∈ inO p c t, GoodM n V B m := by
  intro m hm
  unfold inO at hm
  split at hm
  · exact wants_good (by rw [← h.nodes]; exact h.may.isn) (by rw [← h.nodes]; exact h.may.id) ht hne (fresh_rise hc.ok.head _) m hm
  · cases hm
theorem good_certd {n : Int} {V : Votes} {B : List Cert} {p q : Prim} (h : GoodP n V B p) (hg : Goes p (certdP q)) (hr : p.dag.certs.length + p.late.length < 60000) (hq : q = { p with mine := q.mine, dig := q.dig, acks := q.acks, votes := q.votes, said := q.said })
    (hd0 : q.dig ≠ 0) (hgh : q.gh) (hv : ∀ v ∈ q.votes, ∃ h, look B v.digest = some h ∧ h.round = v.round ∧ h.author = v.author) (hmine : ∃ h, look B q.dig = some h ∧ sameH h q.mine) (hau : q.mine.author = q.id) (hacks : ∀ s ∈ q.acks, V s q.mine.round q.id q.dig)
    (hno : doneP q = false → okMine q) (hyes : doneP q = true → okCert p.nodes (certP q)) (hvo : okVotes q.votes) (hsd : p.said ≤ q.said ∧ q.said ≤ p.round) :
    GoodP n V B (certdP q) ∧ ∀ m ∈ (if doneP q then tellO (clearP q) (certMsg (certP q)) [] p.nodes.toNat else []), GoodM n V B m := by
  have e1 : q.id = p.id := by rw [hq]
  have e2 : q.nodes = p.nodes := by rw [hq]
  have e3 : q.round = p.round := by rw [hq]
  have e4 : q.age = p.age := by rw [hq]
  have e5 : q.dag = p.dag := by rw [hq]
  have e6 : q.late = p.late := by rw [hq]
  have hn := h.nodes
  have hm := h.may
  have hid := hm.id
  have hnn := of_decide_eq_true hm.isn
  cases hd : doneP q with
  | false =>
    refine ⟨?_, by simp⟩
    have hP : certdP q = q := by rw [certdP, hd]; rfl
    rw [hP] at hg ⊢
    exact ⟨hg.may, hgh, by rw [e2]; exact hn, hv, fun _ => hmine, fun _ => hacks, by rw [e5]; exact h.dag, by rw [e6]; exact h.late⟩
  | true =>
    have hok := hyes hd
    have hc : GoodC n V B (certP q) := by
      obtain ⟨x, hx1, hx2⟩ := hmine
      refine ⟨by rw [← hn]; exact hok, ⟨x, hx1, ⟨hx2.author, hx2.round, hx2.bats, hx2.pars⟩⟩, fun s hs => ?_⟩
      have := hacks s hs
      show V s q.mine.round q.mine.author q.dig
      rw [hau]; exact this
    have hP : certdP q = inP (clearP q) (certP q) := by rw [certdP, hd]; rfl
    rw [hP]
    have hcl : GoodP n V B (clearP q) := by
      have hb := hm.said
      refine ⟨⟨by show isN q.nodes = true; rw [e2]; exact hm.isn, by show 1 ≤ q.id ∧ q.id ≤ q.nodes; rw [e1, e2]; exact hm.id, by show 1 ≤ q.round ∧ q.round ≤ _; rw [e3]; exact hm.round, by show 0 ≤ q.age ∧ q.age ≤ _; rw [e4]; exact hm.age, by show 0 ≤ q.said ∧ q.said ≤ q.round; rw [e3]; omega, ⟨fun _ => ⟨rfl, rfl, rfl, rfl, rfl⟩, fun h => absurd rfl h, fun h => absurd rfl h, fun h => absurd rfl h, fun h => absurd rfl h, fun h => absurd rfl h, fun h => absurd rfl h⟩, hvo, by show Valid q.dag; rw [e5]; exact hm.dag, by show q.dag.nodes = q.nodes; rw [e5, e2]; exact hm.same, by show okLate q.nodes q.late; rw [e2, e6]; exact hm.late⟩, ⟨rfl, rfl⟩, by show q.nodes = n; rw [e2]; exact hn, hv, fun k => absurd rfl k, fun k => absurd rfl k, by show ∀ c ∈ q.dag.certs, _; rw [e5]; exact h.dag, by show ∀ c ∈ q.late, _; rw [e6]; exact h.late⟩
    refine ⟨good_in hcl (by show q.dag.certs.length + q.late.length < _; rw [e5, e6]; exact hr) hc, fun m hx => ?_⟩
    rw [if_pos rfl] at hx
    refine tell_good (G := GoodM n V B) (fun t h1 h2 h3 => certMsg_good hc (p := clearP q) (by show q.nodes = n; rw [e2]; exact hn) (by rw [← hn]; exact hm.isn) (by show 1 ≤ q.id ∧ q.id ≤ n; rw [e1, ← hn]; exact hid) ⟨h1, by rw [← hn]; omega⟩ h3) m hx
theorem good_beat {n : Int} {V : Votes} {B : List Cert} {p : Prim} (h : GoodP n V B p) : GoodP n V B (beatP p) ∧ ∀ m ∈ beatS (beatP p), GoodM n V B m := by
  have hg := goes_beat h.may
  have hn := h.nodes
  have hid := h.may.id
  have hnn := of_decide_eq_true h.may.isn
  refine ⟨⟨hg.may, hg.gh h.gh, hn, h.votes, h.mine, h.acks, h.dag, h.late⟩, fun m hm => ?_⟩
  unfold beatS at hm
  split at hm
  · cases hm
  · rcases List.mem_append.1 hm with hm | hm
    · unfold beat1 at hm
      split at hm
      · rename_i hdg
        replace hdg : p.dig > 0 := hdg
        obtain ⟨x, hx1, hx2⟩ := h.mine (by omega)
        exact tell_good (G := GoodM n V B) (fun t h1 h2 h3 => askMsg_good (p := beatP p) hn (by rw [← hn]; exact h.may.mine.head (by omega)) (h.may.mine.author (by omega)) h.gh.2 (h.may.mine.dig (by omega)) hx1 hx2 (by rw [← hn]; exact hid) ⟨h1, by rw [← hn]; have h2 : t ≤ (p.nodes.toNat : Int) := h2; omega⟩ h3) m hm
      · cases hm
    · unfold beat2 at hm
      split at hm
      · rename_i c hc
        have hcm : c ∈ p.dag.certs := by
          have := List.mem_of_find?_eq_some hc
          rw [List.mem_reverse] at this
          exact this
        exact tell_good (G := GoodM n V B) (fun t h1 h2 h3 => certMsg_good (h.dag c hcm) (p := beatP p) hn (by rw [← hn]; exact h.may.isn) (by rw [← hn]; exact hid) ⟨h1, by rw [← hn]; have h2 : t ≤ (p.nodes.toNat : Int) := h2; omega⟩ h3) m hm
      · cases hm
theorem good_got {n : Int} {V V' : Votes} {B : List Cert} {p : Prim} (h : GoodP n V B p) (hr : p.dag.certs.length + p.late.length < 60000) {m : Msg} (hm : GoodM n V B m) (hdst : m.dst = p.id) (hbat : ∀ h ∈ B, h.bats = []) (mo : More V V' B B) (hv' : ∀ v ∈ (gotP p m []).votes, V' p.id v.round v.author v.digest) :
    GoodP n V' B (gotP p m []) ∧ ∀ x ∈ gotO p m [], GoodM n V' B x := by
  have hn := h.nodes
  have hmay := h.may
  have hid := hmay.id
  have hisn : isN n = true := by rw [← hn]; exact hmay.isn
  have hid' : 1 ≤ p.id ∧ p.id ≤ n := by rw [← hn]; exact hid
  have hsrc := hm.ok.src
  have hne : m.src ≠ p.id := fun e => hm.ok.ne (by rw [hdst]; exact e)
  have h' := h.more mo
  have hm' := hm.more mo
  have hok : okMsg p.nodes m := by rw [hn]; exact hm.ok
  have hgo := goes_got hmay hr hok []
  have hk := hm.kind
  simp at hk
  rcases hk with hk | hk | hk | hk
  · -- asked
    have e1 : gotP p m [] = askedP p m [] := by rw [gotP, if_pos hk]
    have e2 : gotO p m [] = askedO p m [] := by rw [gotO, if_pos hk]
    rw [e1] at hv' hgo ⊢
    rw [e2]
    obtain ⟨x, hx1, hx2⟩ := hm.ask hk
    have hhd := (hm.ok.ok.head hk).1
    have hdg := hm.ok.ok.dig (by omega)
    have hb : m.head.bats = [] := by rw [← hx2.bats]; exact hbat x (look_some hx1).2.2
    have hP : GoodP n V' B (askedP p m []) := by
      refine ⟨hgo.may, hgo.gh h.gh, by rw [hgo.nodes]; exact hn, ?_, ?_, ?_, ?_, ?_⟩
      · intro v hv
        unfold askedP at hv
        split at hv
        · exact h.votes v hv
        · split at hv
          · exact h.votes v hv
          · split at hv
            · rcases putV_mem hv with rfl | hv
              · exact ⟨x, hx1, hx2.round, hx2.author⟩
              · exact h.votes v hv
            · exact h.votes v hv
      all_goals
        unfold askedP
        split
        · first | exact h'.mine | exact h'.acks | exact h'.dag | exact h'.late
        · split
          · first | exact h'.mine | exact h'.acks | exact h'.dag | exact h'.late
          · split
            · first | exact h'.mine | exact h'.acks | exact h'.dag | exact h'.late
            · first | exact h'.mine | exact h'.acks | exact h'.dag | exact h'.late
    refine ⟨hP, fun y hy => ?_⟩
    unfold askedO at hy
    split at hy
    · cases hy
    · rename_i k0
      split at hy
      · rename_i k1
        split at hy
        · rename_i k2
          simp at hy
          subst hy
          have hvm := voteAt_mem k1
          have hv1 := hv' _ (hgo.votes _ hvm)
          refine tellV_good hx1 hdg (p := p) ?_ hisn hid' hsrc hne
          rw [hx2.round, hx2.author, ← k2]
          exact hv1
        · cases hy
      · rename_i k1
        rcases List.mem_append.1 hy with hy | hy
        · rcases List.mem_append.1 hy with hy | hy
          · exact wants_good hisn hid' hsrc hne (fresh_rise hhd _) y hy
          · rw [hb] at hy
            cases hy
        · split at hy
          · rename_i k2
            simp at hy
            subst hy
            refine tellV_good hx1 hdg (p := p) ?_ hisn hid' hsrc hne
            have hvp : voteOf m ∈ (askedP p m []).votes := by
              unfold askedP
              rw [if_neg k0, if_neg k1, if_pos k2.1]
              show voteOf m ∈ putV p.votes (voteOf m)
              rw [putV, if_pos k2.2]
              exact insV_mem _ _
            have := hv' _ hvp
            rw [hx2.round, hx2.author]
            exact this
          · cases hy
  · -- voted
    have k4 : ¬ m.kind = 4 := by omega
    have e1 : gotP p m [] = votedP p m := by rw [gotP, if_neg k4, if_pos hk]
    have e2 : gotO p m [] = votedO p m := by rw [gotO, if_neg k4, if_pos hk]
    rw [e1] at hv' hgo ⊢
    rw [e2]
    unfold votedP votedO
    unfold votedP at hgo
    split
    · exact ⟨h', fun y hy => by cases hy⟩
    · rename_i hno
      rw [if_neg hno] at hgo
      have h0 : p.dig ≠ 0 := fun e => hno (.inl e)
      have hdd : m.digest = p.dig := Classical.byContradiction fun e => hno (.inr e)
      obtain ⟨x, hx1, hx2⟩ := hm'.vote hk
      obtain ⟨y, hy1, hy2⟩ := h'.mine h0
      rw [hdd] at hx1 hx2
      rw [hy1] at hx1
      have hxy : y = x := Option.some.inj hx1
      subst hxy
      have hau := hmay.mine.author h0
      have hvo : V' m.src p.mine.round p.id p.dig := by rw [← hy2.round, ← hau, ← hy2.author]; exact hx2
      refine good_certd h' hgo hr rfl h0 h.gh h.votes ⟨y, hy1, hy2⟩ hau (fun s hs => ?_) (fun hd => ?_) (fun hd => ?_) hmay.votes ⟨Int.le_refl _, hmay.said.2⟩
      · rcases mem_ackP.1 hs with rfl | hs
        · exact hvo
        · exact h'.acks h0 s hs
      · simp only [doneP, Bool.not_eq_false', Bool.or_eq_true, decide_eq_true_iff] at hd
        refine ⟨fun e => absurd e h0, fun _ => hmay.mine.dig h0, fun _ => hmay.mine.head h0, fun _ => hmay.mine.author h0, fun _ => hmay.mine.round h0, fun _ => ackP_rise (hmay.mine.acks h0) hok.src, fun _ => ?_⟩
        rcases hd with hd | hd
        · exact absurd hd h0
        · exact hd
      · have := (certdOk_of hmay hr m.src hok.src h0 hd).cert
        rw [show ({ p with acks := ackP p.acks m.src } : Prim).dag.nodes = p.nodes from hmay.same] at this
        exact this
  · -- a certificate
    have k4 : ¬ m.kind = 4 := by omega
    have k5 : ¬ m.kind = 5 := by omega
    have e1 : gotP p m [] = inP p m.cert := by rw [gotP, if_neg k4, if_neg k5, if_pos hk]
    have e2 : gotO p m [] = inO p m.cert m.src := by rw [gotO, if_neg k4, if_neg k5, if_pos hk]
    rw [e1, e2]
    exact ⟨good_in h' hr (hm'.cert hk), inO_good h' (hm'.cert hk) hsrc hne⟩
  · -- wanted
    have k4 : ¬ m.kind = 4 := by omega
    have k5 : ¬ m.kind = 5 := by omega
    have k6 : ¬ m.kind = 6 := by omega
    have e1 : gotP p m [] = p := by rw [gotP, if_neg k4, if_neg k5, if_neg k6]
    have e2 : gotO p m [] = wantedO p m m.digs.length := by rw [gotO, if_neg k4, if_neg k5, if_neg k6]
    rw [e1, e2]
    refine ⟨h', fun y hy => ?_⟩
    obtain ⟨c, hc, rfl⟩ := List.mem_map.1 hy
    have hcm : c ∈ p.dag.certs := by
      unfold wantedL at hc
      obtain ⟨d, _, hd⟩ := List.mem_flatMap.1 hc
      rw [Option.mem_toList, Option.bind_eq_some_iff] at hd
      obtain ⟨i, _, hi⟩ := hd
      exact List.mem_of_getElem? hi
    exact certMsg_good (h'.dag c hcm) hn hisn hid' hsrc hne
structure Net where
  ps : List Prim
  way : List Msg
  book : List Cert
def votedN (ps : List Prim) : Votes := fun s r a d => ∃ q, 1 ≤ s ∧ ps[(s - 1).toNat]? = some q ∧ (⟨r, a, d⟩ : Vote) ∈ q.votes
structure GoodN (n : Int) (ps : List Prim) (B : List Cert) (i : Nat) (p : Prim) : Prop where
  id : p.id = (i : Int) + 1
  good : GoodP n (votedN ps) B p
  own : ∀ d h, look B d = some h → h.author = p.id → h.round ≤ p.said
structure Inv (n : Int) (N : Net) : Prop where
  isn : isN n = true
  len : (N.ps.length : Int) = n
  ps : ∀ i p, N.ps[i]? = some p → GoodN n N.ps N.book i p
  way : ∀ m ∈ N.way, GoodM n (votedN N.ps) N.book m
  book : ∀ h ∈ N.book, h.bats = []
theorem nodup_len {l : List Int} {k : Nat} (hn : l.Nodup) (h : ∀ x ∈ l, 1 ≤ x ∧ x ≤ (k : Int)) : l.length ≤ k := by
  have := sub_len (m := (List.range k).map fun i : Nat => (i : Int) + 1) hn fun x hx => by
    have := h x hx
    exact List.mem_map.2 ⟨(x - 1).toNat, by simp; omega, by omega⟩
  simpa using this
theorem good_lens {n : Int} {V : Votes} {B : List Cert} {p : Prim} (h : GoodP n V B p) : p.dag.certs.length ≤ B.length ∧ p.late.length ≤ B.length ∧ p.votes.length ≤ B.length := by
  refine ⟨?_, ?_, ?_⟩
  · have := nodup_len (k := B.length) h.may.dag.dig fun x hx => by
      obtain ⟨c, hc, rfl⟩ := List.mem_map.1 hx
      obtain ⟨y, hy, _⟩ := (h.dag c hc).book
      exact ⟨(look_some hy).1, (look_some hy).2.1⟩
    simpa using this
  · have hnd : (p.late.map (·.digest)).Nodup := by
      have := h.may.late.ris
      unfold risingC at this
      exact List.Pairwise.map _ (fun a b hab => by omega) this
    have := nodup_len (k := B.length) hnd fun x hx => by
      obtain ⟨c, hc, rfl⟩ := List.mem_map.1 hx
      obtain ⟨y, hy, _⟩ := (h.late c hc).book
      exact ⟨(look_some hy).1, (look_some hy).2.1⟩
    simpa using this
  · have hnd : (p.votes.map (·.digest)).Nodup := by
      rw [List.Nodup, List.pairwise_map]
      refine List.Pairwise.imp_of_mem (fun {a b} ha hb hab => ?_) h.may.votes.sorted
      intro e
      obtain ⟨x, hx1, hx2, hx3⟩ := h.votes a ha
      obtain ⟨y, hy1, hy2, hy3⟩ := h.votes b hb
      rw [e, hy1] at hx1
      cases hx1
      rw [beforeV_iff] at hab
      omega
    have := nodup_len (k := B.length) hnd fun x hx => by
      obtain ⟨v, hv, rfl⟩ := List.mem_map.1 hx
      obtain ⟨y, hy, _⟩ := h.votes v hv
      exact ⟨(look_some hy).1, (look_some hy).2.1⟩
    simpa using this
theorem votedN_set {ps : List Prim} {k : Nat} {p x : Prim} (hk : ps[k]? = some p) (hv : ∀ v ∈ p.votes, v ∈ x.votes) (B : List Cert) : More (votedN ps) (votedN (ps.set k x)) B B := by
  refine ⟨?_, fun _ _ h => h⟩
  rintro s r a d ⟨q, h1, h2, h3⟩
  by_cases e : (s - 1).toNat = k
  · rw [e, hk] at h2
    cases h2
    exact ⟨x, h1, by rw [e, List.getElem?_set_self (List.getElem?_eq_some_iff.1 hk).1], hv _ h3⟩
  · exact ⟨q, h1, by rw [List.getElem?_set_ne (by omega)]; exact h2, h3⟩
theorem votedN_self {ps : List Prim} {k : Nat} {p x : Prim} (hk : ps[k]? = some p) (hid : p.id = (k : Int) + 1) : ∀ v ∈ x.votes, votedN (ps.set k x) p.id v.round v.author v.digest := by
  intro v hv
  have e : (p.id - 1).toNat = k := by omega
  exact ⟨x, by omega, by rw [e, List.getElem?_set_self (List.getElem?_eq_some_iff.1 hk).1], hv⟩
theorem inv_set {n : Int} {N : Net} (h : Inv n N) {k : Nat} {p x : Prim} (hk : N.ps[k]? = some p) (hg : Goes p x) {out way : List Msg} (hx : GoodP n (votedN (N.ps.set k x)) N.book x) (ho : ∀ m ∈ out, GoodM n (votedN (N.ps.set k x)) N.book m) (hw : ∀ m ∈ way, m ∈ N.way) :
    Inv n ⟨N.ps.set k x, way ++ out, N.book⟩ := by
  have hp := h.ps k p hk
  have mo := votedN_set hk hg.votes N.book
  refine ⟨h.isn, by rw [List.length_set]; exact h.len, fun i q hi => ?_, fun m hm => ?_, h.book⟩
  · by_cases e : i = k
    · subst e
      rw [List.getElem?_set_self (List.getElem?_eq_some_iff.1 hk).1] at hi
      cases hi
      exact ⟨by rw [hg.id]; exact hp.id, hx, fun d y h1 h2 => Int.le_trans (hp.own d y h1 (by rw [h2, hg.id])) hg.said⟩
    · rw [List.getElem?_set_ne (by omega)] at hi
      have hq := h.ps i q hi
      exact ⟨hq.id, hq.good.more mo, hq.own⟩
  · rcases List.mem_append.1 hm with hm | hm
    · exact (h.way m (hw m hm)).more mo
    · exact ho m hm
theorem inv_room {n : Int} {N : Net} (h : Inv n N) (hb : N.book.length ≤ 20000) {k : Nat} {p : Prim} (hk : N.ps[k]? = some p) : p.dag.certs.length + p.late.length < 60000 := by
  have := good_lens (h.ps k p hk).good
  omega
theorem inv_tick {n : Int} {N : Net} (h : Inv n N) {k : Nat} {p : Prim} (hk : N.ps[k]? = some p) : Inv n ⟨N.ps.set k (beatP p), N.way ++ beatS (beatP p), N.book⟩ := by
  have hp := h.ps k p hk
  have mo := votedN_set (x := beatP p) hk (fun v hv => hv) N.book
  have hb := good_beat (hp.good.more mo)
  exact inv_set h hk (goes_beat hp.good.may) hb.1 hb.2 (fun _ h => h)
theorem inv_take {n : Int} {N : Net} (h : Inv n N) (hb : N.book.length ≤ 20000) {k : Nat} {p : Prim} (hk : N.ps[k]? = some p) {m : Msg} (hm : GoodM n (votedN N.ps) N.book m) (hd : m.dst = p.id) {way : List Msg} (hw : ∀ m ∈ way, m ∈ N.way) : Inv n ⟨N.ps.set k (gotP p m []), way ++ gotO p m [], N.book⟩ := by
  have hp := h.ps k p hk
  have hr := inv_room h hb hk
  have hg := goes_got hp.good.may hr (m := m) (by rw [hp.good.nodes]; exact hm.ok) []
  have mo := votedN_set (x := gotP p m []) hk hg.votes N.book
  have hgd := good_got hp.good hr hm hd h.book mo (votedN_self hk hp.id)
  exact inv_set h hk hg hgd.1 hgd.2 hw
theorem ofR_len {d : Dag} (h : Valid d) (r : Int) : ((ofR d.certs r).length : Int) ≤ d.nodes := by
  have hnn := of_decide_eq_true h.nodes
  have hnd : ((ofR d.certs r).map (·.author)).Nodup := by
    rw [List.Nodup, List.pairwise_map]
    refine List.Pairwise.imp_of_mem (fun {a b} ha hb hab => ?_) (List.Pairwise.sublist List.filter_sublist h.sorted)
    have h1 : a.round = r := by simpa [ofR] using (List.mem_filter.1 ha).2
    have h2 : b.round = r := by simpa [ofR] using (List.mem_filter.1 hb).2
    rw [before_iff] at hab
    omega
  have := nodup_len (k := d.nodes.toNat) hnd fun x hx => by
    obtain ⟨c, hc, rfl⟩ := List.mem_map.1 hx
    have := (h.certs c ((List.mem_filter.1 hc).1)).head.author
    omega
  rw [List.length_map] at this
  omega
theorem headC_ok {p : Prim} (h : May p) (hr : readyB p = true) : okHead p.nodes (headC p []) := by
  have hnn := of_decide_eq_true h.isn
  have hl := ofR_len h.dag (p.round - 1)
  rw [h.same] at hl
  have hnd : (parsF p).Nodup := List.Pairwise.sublist (List.Sublist.map _ List.filter_sublist) h.dag.dig
  have hlen : (sortI (parsF p)).length = (ofR p.dag.certs (p.round - 1)).length := by rw [sortI, List.length_mergeSort, parsF, List.length_map]
  refine ⟨h.isn, h.id, h.round, ⟨by show ((sortI (batsF [])).length : Int) ≤ 8; rw [sortI, List.length_mergeSort]; decide, ?_⟩, ⟨by show ((sortI (parsF p)).length : Int) ≤ _; rw [hlen]; exact hl, sortI_rising hnd, fun x hx => ?_⟩, fun h1 => ?_, fun h1 => ?_⟩
  · show riseB (sortI (batsF [])) 1 65536
    have : sortI (batsF []) = [] := List.eq_nil_of_length_eq_zero (by rw [sortI, List.length_mergeSort]; rfl)
    rw [this]
    exact rise_nil _ _
  · have hx : x ∈ parsF p := by
      have hx : x ∈ sortI (parsF p) := hx
      rw [sortI] at hx
      exact (List.mergeSort_perm ..).mem_iff.1 hx
    obtain ⟨c, hc, rfl⟩ := List.mem_map.1 hx
    exact (h.dag.certs c ((List.mem_filter.1 hc).1)).digest
  · show sortI (parsF p) = []
    refine List.eq_nil_of_length_eq_zero ?_
    rw [hlen]
    have hp : p.round = 1 := h1
    rw [List.length_eq_zero_iff, ofR, List.filter_eq_nil_iff]
    intro c hc
    have := (h.dag.certs c hc).head.round
    simp
    omega
  · show ((sortI (parsF p)).length : Int) ≥ _
    rw [hlen]
    unfold readyB at hr
    simp only [Bool.and_eq_true, decide_eq_true_iff, Bool.or_eq_true] at hr
    rcases hr.2 with h2 | h2
    · exact absurd h2 h1
    · unfold fullB at h2
      exact of_decide_eq_true h2
def propN (N : Net) (k : Nat) (p : Prim) : Net := ⟨N.ps.set k (sayP p (headC p []) ((N.book.length : Int) + 1)), N.way ++ sayO p (headC p []) ((N.book.length : Int) + 1), N.book ++ [headC p []]⟩
theorem certdP_said (q : Prim) : (certdP q).said = q.said ∧ (certdP q).votes = q.votes := by
  unfold certdP
  split
  · obtain ⟨e1, e2, e3, e4, e5, e6, e7⟩ := in_rest (clearP q) (certP q)
    exact ⟨e7, e1⟩
  · exact ⟨rfl, rfl⟩
theorem prop_ok {n : Int} {N : Net} (h : Inv n N) (hb : N.book.length ≤ 20000) {k : Nat} {p : Prim} (hk : N.ps[k]? = some p) (hr : readyB p = true) : propC p (headC p []) ((N.book.length : Int) + 1) ∧ sayC p (headC p []) ∧ giveE p.votes ⟨p.round, p.id, (N.book.length : Int) + 1⟩ = 0 := by
  have hp := h.ps k p hk
  have hm := hp.good.may
  have hl := good_lens hp.good
  refine ⟨⟨hm, ⟨by omega, by omega⟩, headC_ok hm hr, rfl⟩, ⟨hr, rfl, rfl⟩, ?_⟩
  have hsaid : p.said < p.round := by
    unfold readyB at hr
    simp only [Bool.and_eq_true, decide_eq_true_iff] at hr
    exact hr.1
  have hat : atV p.votes p.round p.id = none := by
    unfold atV
    rw [List.find?_eq_none]
    intro v hv
    simp only [decide_eq_true_iff]
    rintro ⟨e1, e2⟩
    obtain ⟨x, hx1, hx2, hx3⟩ := hp.good.votes v hv
    have := hp.own v.digest x hx1 (by rw [hx3, e2])
    omega
  unfold giveE
  simp only
  rw [hat]
  simp only
  rw [if_neg (by omega)]
theorem inv_prop {n : Int} {N : Net} (h : Inv n N) (hb : N.book.length ≤ 20000) {k : Nat} {p : Prim} (hk : N.ps[k]? = some p) (hr : readyB p = true) : Inv n (propN N k p) := by
  have hp := h.ps k p hk
  have hm := hp.good.may
  have hn := hp.good.nodes
  have hnn := of_decide_eq_true hm.isn
  have hid := hm.id
  have hrm := inv_room h hb hk
  obtain ⟨hpc, hsc, hgv⟩ := prop_ok h hb hk hr
  have hg := goes_say hm hrm hpc hsc
  obtain ⟨hd, hhd⟩ : ∃ hd, headC p [] = hd := ⟨_, rfl⟩
  obtain ⟨d, hdd⟩ : ∃ d, (N.book.length : Int) + 1 = d := ⟨_, rfl⟩
  have hda : hd.author = p.id := by rw [← hhd]; rfl
  have hdr : hd.round = p.round := by rw [← hhd]; rfl
  have hdb : hd.bats = [] := by rw [← hhd]; exact List.eq_nil_of_length_eq_zero (by show (sortI (batsF [])).length = 0; rw [sortI, List.length_mergeSort]; rfl)
  unfold propN
  rw [hhd] at hpc hsc hg ⊢
  rw [hdd] at hpc hg hgv ⊢
  have mo1 := votedN_set (x := sayP p hd d) hk hg.votes N.book
  have mo : More (votedN N.ps) (votedN (N.ps.set k (sayP p hd d))) N.book (N.book ++ [hd]) := ⟨mo1.v, fun x y e => look_app hd e⟩
  have hself := votedN_self (x := sayP p hd d) hk hp.id
  have hvs : (sayP p hd d).votes = putV p.votes ⟨hd.round, p.id, d⟩ := (certdP_said (propP p hd d)).2
  have hss : (sayP p hd d).said = p.round := (certdP_said (propP p hd d)).1
  have hnew : look (N.book ++ [hd]) d = some hd := by rw [← hdd]; exact look_new N.book hd
  have hgv2 : giveE p.votes ⟨hd.round, p.id, d⟩ = 0 := by rw [hdr]; exact hgv
  have hpm : (⟨hd.round, p.id, d⟩ : Vote) ∈ putV p.votes ⟨hd.round, p.id, d⟩ := by rw [putV, if_pos hgv2]; exact insV_mem _ _
  have hown : votedN (N.ps.set k (sayP p hd d)) p.id hd.round p.id d := hself ⟨hd.round, p.id, d⟩ (by rw [hvs]; exact hpm)
  have hq0 : (propP p hd d).dig ≠ 0 := by show d ≠ 0; have := hpc.dig; omega
  have hmine : okHead n (propP p hd d).mine := by rw [← hn]; exact ⟨hpc.head.isn, hpc.head.author, hpc.head.round, hpc.head.bats, hpc.head.pars, hpc.head.one, hpc.head.many⟩
  have hcd := good_certd (q := propP p hd d) (hp.good.more mo) hg hrm rfl hq0 ⟨rfl, rfl⟩ (fun v hv => by
      rcases putV_mem hv with rfl | hv
      · exact ⟨hd, hnew, rfl, hda⟩
      · exact (hp.good.more mo).votes v hv) ⟨hd, hnew, ⟨rfl, rfl, rfl, rfl⟩⟩ hda (fun s hs => by
      have := List.mem_singleton.1 hs
      subst this
      exact hown) (fun hdn => by
      simp only [doneP, Bool.not_eq_false', Bool.or_eq_true, decide_eq_true_iff] at hdn
      refine ⟨fun e => absurd e hq0, fun _ => hpc.dig, fun _ => by rw [show (propP p hd d).nodes = n from hn]; exact hmine, fun _ => hpc.author, fun _ => hsc.round, fun _ => ⟨List.pairwise_singleton .., fun x hx => by have := List.mem_singleton.1 hx; subst this; exact hid⟩, fun _ => ?_⟩
      rcases hdn with hdn | hdn
      · exact absurd hdn hq0
      · exact hdn) (fun hdn => by
      have := (prop_certd hm hrm hpc.head hpc.dig hdn).cert
      rw [show (propP p hd d).dag.nodes = p.nodes from hm.same] at this
      exact this) (putV_ok hm.votes ⟨hpc.head.round, ⟨hid.1, by show p.id ≤ 16; omega⟩, hpc.dig⟩) ⟨by show p.said ≤ p.round; exact hm.said.2, by show p.round ≤ p.round; omega⟩
  refine ⟨h.isn, by rw [List.length_set]; exact h.len, fun i q hi => ?_, fun m hmm => ?_, fun x hx => ?_⟩
  · by_cases e : i = k
    · subst e
      rw [List.getElem?_set_self (List.getElem?_eq_some_iff.1 hk).1] at hi
      have hi := Option.some.inj hi
      subst hi
      refine ⟨by rw [hg.id]; exact hp.id, hcd.1, fun x y h1 h2 => ?_⟩
      rw [hss]
      rcases look_cases h1 with h1 | ⟨_, rfl⟩
      · have := hp.own x y h1 (by rw [h2, hg.id])
        have := hm.said.2
        omega
      · omega
    · rw [List.getElem?_set_ne (by omega)] at hi
      have hq := h.ps i q hi
      refine ⟨hq.id, hq.good.more mo, fun x y h1 h2 => ?_⟩
      rcases look_cases h1 with h1 | ⟨_, rfl⟩
      · exact hq.own x y h1 h2
      · have h3 := hq.id
        have h4 := hp.id
        exfalso
        omega
  · rcases List.mem_append.1 hmm with hmm | hmm
    · exact (h.way m hmm).more mo
    · unfold sayO at hmm
      rcases List.mem_append.1 hmm with hmm | hmm
      · exact tell_good (G := GoodM n _ _) (fun t h1 h2 h3 => askMsg_good (p := propP p hd d) hn hmine hda rfl hpc.dig hnew ⟨rfl, rfl, rfl, rfl⟩ (by rw [← hn]; exact hid) ⟨h1, by rw [← hn]; omega⟩ h3) m hmm
      · exact hcd.2 m hmm
  · rcases List.mem_append.1 hx with hx | hx
    · exact h.book x hx
    · rw [List.mem_singleton.1 hx]; exact hdb
def Cert.hcs (c : Cert) : List DV := [.int .i64 c.author, .int .i64 c.round, .sl 1 (nums c.bats), .sl 1 (nums c.pars)]
def headsD (l : List Cert) : List (List DV) := l.map Cert.hcs
theorem headsD_length (l : List Cert) : (headsD l).length = l.length := List.length_map ..
def primsD (l : List Prim) : List (List DV) := l.map Prim.cs
theorem primsD_length (l : List Prim) : (primsD l).length = l.length := List.length_map ..
theorem primsD_at {l : List Prim} {i : Nat} {p : Prim} (h : l[i]? = some p) : (primsD l)[(i : Int).toNat]? = some p.cs := by
  rw [Int.toNat_natCast, primsD, List.getElem?_map, h]
  rfl
def Net.L (N : Net) : List AB := [.cells [.arr 1, .arr 2, .arr 3], .row 30 16 (primsD N.ps) false, .row 49 18 (msgsD N.way) false, .row 24 4 (headsD N.book) false]
theorem primsD_set (l : List Prim) (k : Nat) (x : Prim) : primsD (l.set k x) = (primsD l).set k x.cs := List.map_set ..
theorem msgsD_app (a b : List Msg) : msgsD (a ++ b) = msgsD a ++ msgsD b := List.map_append ..
theorem headsD_app (a b : List Cert) : headsD (a ++ b) = headsD a ++ headsD b := List.map_append ..
def Net.L1 (N : Net) : List AB := [.cells [.arr 1, .arr 4, .arr 5], .row 30 16 (primsD N.ps) false, .dead, .dead, .row 49 18 (msgsD N.way) false, .row 24 4 (headsD N.book) false]
open Classical in
theorem sayO_len {p : Prim} (hn : isN p.nodes = true) (h : Cert) (d : Int) : (sayO p h d).length ≤ 32 := by
  have hnn := of_decide_eq_true hn
  unfold sayO
  rw [List.length_append]
  have h1 := tellO_len (propP p h d) (askMsg (propP p h d)) [] p.nodes.toNat
  have h2 := tellO_len (clearP (propP p h d)) (certMsg (certP (propP p h d))) [] p.nodes.toNat
  split
  · omega
  · simp only [List.length_nil]; omega
theorem proposed_net {n : Int} {N : Net} (hI : Inv n N) (hb : N.book.length ≤ 20000) {k : Nat} {p : Prim} (hk : N.ps[k]? = some p) (hr : readyB p = true) :
    ACalls Tryz.prog 20 [p.av, (headC p []).hav, .d (.int .i64 ((N.book.length : Int) + 1))] [] (fun av L => av = doneS (sayP p (headC p []) ((N.book.length : Int) + 1)) p.mine.bats (sayO p (headC p []) ((N.book.length : Int) + 1)) ∧ L = []) := by
  have hg := (hI.ps k p hk).good
  have hpok := may_ok hg.may hg.gh
  have hlen := good_lens hg
  obtain ⟨hpc, hsc, hgv⟩ := prop_ok hI hb hk hr
  have hh := headC_ok hg.may hr
  have h1 := hh.bats.1
  have h2 := hh.pars.1
  have hnn : p.nodes ≤ 16 := by have := of_decide_eq_true hg.may.isn; omega
  have hgv2 : giveE p.votes ⟨(headC p []).round, p.id, (N.book.length : Int) + 1⟩ = 0 := hgv
  refine (proposed_full p hpok (by omega) (headC p []) ⟨few_le 8 (by omega), few_le 1000 (by omega), few_nil⟩ ⟨by unfold tiny; omega, by unfold tiny; omega, tiny_nil⟩ ((N.book.length : Int) + 1)).mono ?_
  rintro av L ⟨h, rfl⟩
  rcases h with ⟨_, _, _, _, h⟩ | ⟨_, _, h, _⟩ | ⟨_, h, _⟩ | ⟨h, _⟩
  · exact ⟨h, rfl⟩
  · rw [hgv2] at h
    omega
  · exact absurd hsc h
  · exact absurd hpc h
open Classical in
theorem proposes_ok {n : Int} {N : Net} (hI : Inv n N) (hb : N.book.length ≤ 20000) (hw : N.way.length ≤ 100000) {k : Nat} {p : Prim} (hk : N.ps[k]? = some p) :
    ACalls Tryz.prog 23 [.ptr 0 0, .d (.int .i64 k)] N.L (fun av L => av = .d (.bool true) ∧ ((readyB p = false ∧ L = N.L) ∨ (readyB p = true ∧ L = (propN N k p).L1))) := by
  have hg := (hI.ps k p hk).good
  have hpok := may_ok hg.may hg.gh
  have hlen := good_lens hg
  have hpl := primsD_length N.ps
  have hwl := msgsD_length N.way
  have hbl := headsD_length N.book
  have hkl := (List.getElem?_eq_some_iff.1 hk).1
  have hmk := make_full p hpok (by omega) [] few_nil
  refine acalls_go ttOk zOk foOk Tryz.func23 rfl Tryz.ntmps23 rfl true rfl ?_
  conv => whnf
  refine rdw ?_; repeat' ((with_reducible apply tw) <;> intro _)
  refine ⟨by omega, by omega, ?_⟩
  conv => whnf
  refine rdw ?_; repeat' ((with_reducible apply tw) <;> intro _)
  refine ⟨p.cs, primsD_at hk, ?_⟩
  conv => whnf
  refine rdw ?_; repeat' ((with_reducible apply tw) <;> intro _)
  refine hmk.mono ?_
  rintro _ _ ⟨h, rfl⟩
  have hmay : May p ∧ digsB [] = true := ⟨hg.may, by decide⟩
  rcases h with ⟨_, hr, rfl⟩ | ⟨_, hr, rfl⟩ | ⟨hn, _⟩
  · conv => whnf
    refine rdw ?_; repeat' ((with_reducible apply tw) <;> intro _)
    (refine (num20_ok 0).mono ?_; rintro _ _ ⟨rfl, rfl⟩; (conv => whnf))
    refine rdw ?_; repeat' ((with_reducible apply tw) <;> intro _)
    ((with_reducible refine draw_pl ttOk zOk foOk mixedOk pl23x4 ?_ ?_); (focus kernel_rfl); (conv => whnf))
    refine rdw ?_; repeat' ((with_reducible apply tw) <;> intro _)
    refine ⟨by show ((headsD N.book).length + 1) * 64 ≤ _; omega, ?_⟩
    conv => whnf
    refine rdw ?_; repeat' ((with_reducible apply tw) <;> intro _)
    ((with_reducible refine draw_pl ttOk zOk foOk mixedOk pl23x5 ?_ ?_); (focus kernel_rfl); (conv => whnf))
    refine rdw ?_; repeat' ((with_reducible apply tw) <;> intro _)
    ((with_reducible apply rd_intro); (focus (intro K hK; (conv => whnf); exact ⟨by omega, by omega, hK⟩)); (conv => whnf))
    refine rdw ?_; repeat' ((with_reducible apply tw) <;> intro _)
    ((with_reducible apply rd_intro); (focus (intro K hK; (conv => whnf); exact ⟨p.cs, primsD_at hk, hK⟩)); (conv => whnf))
    refine rdw ?_; repeat' ((with_reducible apply tw) <;> intro _)
    have hpn := proposed_net hI hb hk hr
    have hbl2 : (((headsD N.book ++ [[DV.int IntKind.i64 (headC p []).author, DV.int IntKind.i64 (headC p []).round, DV.sl 1 (nums (headC p []).bats), DV.sl 1 (nums (headC p []).pars)]]).length : Nat) : Int) = (N.book.length : Int) + 1 := by
      rw [List.length_append, hbl]; rfl
    ((with_reducible apply rd_intro); (focus (intro K hK; (conv => whnf); rw [hbl2]; refine hpn.mono ?_; rintro _ _ ⟨rfl, rfl⟩; (conv => whnf); exact hK)); (conv => whnf))
    refine rdw ?_; repeat' ((with_reducible apply tw) <;> intro _)
    repeat' (first | (first | ((with_reducible first | apply rd_intro | apply gd_and); (focus ((conv => whnf) <;> first | rfl | (intro K hK; (conv => whnf); first | exact hK | exact z_wrap (by omega) hK))); conv => whnf) | ((with_reducible apply z_wrap); (focus omega); conv => whnf) | ((with_reducible first | apply mt_dec | apply mt_eq | apply mt_ne | apply mt_not | apply mt_any) <;> (intro _; conv => whnf))) | ((with_reducible apply gd_and); (focus ((conv => whnf); intro K hK; (conv => whnf); exact ⟨by omega, by omega, hK⟩)); (conv => whnf)) | ((with_reducible apply gd_and); (focus ((conv => whnf); intro K hK; (conv => whnf); exact ⟨p.cs, primsD_at hk, hK⟩)); (conv => whnf)) | ((with_reducible apply gd_and); (focus ((conv => whnf); intro K hK; (conv => whnf); rw [hbl2]; refine hpn.mono ?_; rintro _ _ ⟨rfl, rfl⟩; (conv => whnf); exact hK)); (conv => whnf)))
    (refine (num20_ok 0).mono ?_; rintro _ _ ⟨rfl, rfl⟩; (conv => whnf))
    refine rdw ?_; repeat' ((with_reducible apply tw) <;> intro _)
    ((with_reducible refine draw_pl ttOk zOk foOk mixedOk pl23x8 ?_ ?_); (focus kernel_rfl); (conv => whnf))
    refine rdw ?_; repeat' ((with_reducible apply tw) <;> intro _)
    repeat' (first | (first | ((with_reducible first | apply rd_intro | apply gd_and); (focus ((conv => whnf) <;> first | rfl | (intro K hK; (conv => whnf); first | exact hK | exact z_wrap (by omega) hK))); conv => whnf) | ((with_reducible apply z_wrap); (focus omega); conv => whnf) | ((with_reducible first | apply mt_dec | apply mt_eq | apply mt_ne | apply mt_not | apply mt_any) <;> (intro _; conv => whnf))) | ((with_reducible apply rd_intro); (focus (intro K hK; (conv => whnf); exact ⟨by omega, by omega, hK⟩)); (conv => whnf)))
    refine ⟨p.cs, primsD_at hk, ?_⟩
    conv => whnf
    refine rdw ?_; repeat' ((with_reducible apply tw) <;> intro _)
    have hsl := sayO_len hg.may.isn (headC p []) ((N.book.length : Int) + 1)
    have hsl2 := msgsD_length (sayO p (headC p []) ((N.book.length : Int) + 1))
    refine ⟨by show ((msgsD N.way).length + (msgsD (sayO p (headC p []) ((N.book.length : Int) + 1))).length) * 256 ≤ _; omega, ?_⟩
    conv => whnf
    refine rdw ?_; repeat' ((with_reducible apply tw) <;> intro _)
    refine ⟨rfl, .inr ⟨hr, ?_⟩⟩
    unfold propN Net.L1
    rw [primsD_set, msgsD_app, headsD_app, Int.toNat_natCast]
    rfl
  · conv => whnf
    refine rdw ?_; repeat' ((with_reducible apply tw) <;> intro _)
    (refine (num20_ok 10).mono ?_; rintro _ _ ⟨rfl, rfl⟩; (conv => whnf))
    refine rdw ?_; repeat' ((with_reducible apply tw) <;> intro _)
    (refine (num20_ok 10).mono ?_; rintro _ _ ⟨rfl, rfl⟩; (conv => whnf))
    refine rdw ?_; repeat' ((with_reducible apply tw) <;> intro _)
    exact ⟨rfl, .inl ⟨hr, rfl⟩⟩
  · exact absurd hmay hn
theorem wantO_len (p : Prim) (to kind : Int) (l : List Int) : (wantO p to kind l).length ≤ l.length := by
  rw [wantO, List.length_map, chunksI_length]
  unfold chn
  omega
theorem lackI_len (d : Dag) (c : Cert) : (lackI d c).length ≤ c.pars.length := by
  unfold lackI
  split
  · exact Nat.zero_le _
  · exact List.length_filter_le ..
theorem beatS_len {q : Prim} (hn : isN q.nodes = true) : (beatS q).length ≤ 64 := by
  have hnn := of_decide_eq_true hn
  unfold beatS
  split
  · exact Nat.zero_le _
  · rw [List.length_append]
    have h1 : (beat1 q).length ≤ 16 := by
      unfold beat1
      split
      · have := tellO_len q (askMsg q) q.acks q.nodes.toNat
        omega
      · exact Nat.zero_le _
    have h2 : (beat2 q).length ≤ 16 := by
      unfold beat2
      split
      · rename_i c _
        have := tellO_len q (certMsg c) [] q.nodes.toNat
        omega
      · exact Nat.zero_le _
    omega
theorem gotO_len {p : Prim} {m : Msg} (hn : isN p.nodes = true) (hm : okMsg p.nodes m) : (gotO p m []).length ≤ 64 := by
  have hnn := of_decide_eq_true hn
  unfold gotO
  split
  · rename_i k
    have hh := (hm.ok.head k).1
    have h1 := hh.bats.1
    have h2 := hh.pars.1
    have a1 := lackI_len p.dag m.head
    have a2 : (freshI p.late (lackI p.dag m.head)).length ≤ (lackI p.dag m.head).length := List.length_filter_le ..
    have a3 := wantO_len p m.src 8 (freshI p.late (lackI p.dag m.head))
    have a4 : (lackA [] m.head.bats).length ≤ m.head.bats.length := List.length_filter_le ..
    have a5 := wantO_len p m.src 7 (lackA [] m.head.bats)
    unfold askedO
    split
    · exact Nat.zero_le _
    · split
      · split
        · simp
        · exact Nat.zero_le _
      · rw [List.length_append, List.length_append]
        split
        · simp only [List.length_singleton]; omega
        · simp only [List.length_nil]; omega
  · split
    · unfold votedO
      split
      · exact Nat.zero_le _
      · split
        · have := tellO_len (clearP p) (certMsg (certP { p with acks := ackP p.acks m.src })) [] p.nodes.toNat
          omega
        · exact Nat.zero_le _
    · split
      · rename_i k
        have hh := (hm.ok.cert k).head.pars.1
        have a1 := lackI_len p.dag m.cert
        have a2 : (freshI (lateP p.late m.cert) (lackI p.dag m.cert)).length ≤ (lackI p.dag m.cert).length := List.length_filter_le ..
        have a3 := wantO_len p m.src 8 (freshI (lateP p.late m.cert) (lackI p.dag m.cert))
        unfold inO
        split
        · omega
        · exact Nat.zero_le _
      · rename_i k4 k5 k6
        have hk := hm.ok.kind
        have a1 := wantedO_len p m m.digs.length
        by_cases h7 : 7 ≤ m.kind
        · have := (hm.ok.digs h7).1
          omega
        · rw [hm.only.digs (by omega)] at a1 ⊢
          simp only [List.length_nil] at a1 ⊢
          omega
theorem msgsD_at {l : List Msg} {i : Nat} {m : Msg} (h : l[i]? = some m) : (msgsD l)[(i : Int).toNat]? = some m.cs := by
  rw [Int.toNat_natCast, msgsD, List.getElem?_map, h]
  rfl
open Classical in
theorem tick_net {n : Int} {N : Net} (hI : Inv n N) {k : Nat} {p : Prim} (hk : N.ps[k]? = some p) : ACalls Tryz.prog 21 [p.av] [] (fun av L => av = doneAV (beatP p) (beatS (beatP p)) ∧ L = []) := by
  have hg := (hI.ps k p hk).good
  refine (tick_full p (may_ok hg.may hg.gh)).mono ?_
  rintro av L ⟨h, rfl⟩
  rcases h with ⟨_, h⟩ | ⟨h, _⟩
  · exact ⟨h, rfl⟩
  · exact absurd hg.may h
open Classical in
theorem take_net {n : Int} {N : Net} (hI : Inv n N) (hb : N.book.length ≤ 20000) {k : Nat} {p : Prim} (hk : N.ps[k]? = some p) {m : Msg} (hm : GoodM n (votedN N.ps) N.book m) (hd : m.dst = p.id) : ACalls Tryz.prog 12 [p.av, m.av, .d (.sl 1 [])] [] (fun av L => av = doneAV (gotP p m []) (gotO p m []) ∧ L = []) := by
  have hg := (hI.ps k p hk).good
  have hr := inv_room hI hb hk
  have htc : takeC p m [] := ⟨hg.may, by rw [hg.nodes]; exact hm.ok, hd, rise_nil _ _⟩
  refine (take_full p (may_ok hg.may hg.gh) hr m hm.fine [] few_nil).mono ?_
  rintro av L ⟨h, rfl⟩
  rcases h with ⟨_, _, h⟩ | ⟨_, h, _⟩ | ⟨h, _⟩
  · exact ⟨h, rfl⟩
  · exact absurd hm.kind h
  · exact absurd htc h
theorem meet {n : Int} (hn : isN n = true) {a b : List Int} (ha : riseB a 1 n) (hb : riseB b 1 n) (la : (a.length : Int) ≥ quo n) (lb : (b.length : Int) ≥ quo n) : ∃ s, s ∈ a ∧ s ∈ b := by
  by_cases h : ∃ s, s ∈ a ∧ s ∈ b
  · exact h
  · exfalso
    have hnn := of_decide_eq_true hn
    have n1 : a.Nodup := List.Pairwise.imp (fun h => by omega) ha.1
    have n2 : b.Nodup := List.Pairwise.imp (fun h => by omega) hb.1
    have nd : (a ++ b).Nodup := List.nodup_append.2 ⟨n1, n2, fun x hx y hy e => h ⟨x, hx, e ▸ hy⟩⟩
    have hl := nodup_len (k := n.toNat) nd fun x hx => by
      rcases List.mem_append.1 hx with hx | hx
      · have := ha.2 x hx
        omega
      · have := hb.2 x hx
        omega
    rw [List.length_append] at hl
    unfold quo at la lb
    omega
theorem new_may {i n : Int} (hn : isN n = true) (hi : 1 ≤ i ∧ i ≤ n) : May (newP i n) := by
  have b := new_bare hn hi
  refine ⟨hn, hi, b.round, b.age, b.said, ⟨fun _ => ⟨rfl, rfl, rfl, rfl, rfl⟩, fun h => absurd rfl h, fun h => absurd rfl h, fun h => absurd rfl h, fun h => absurd rfl h, fun h => absurd rfl h, fun h => absurd rfl h⟩, ⟨Nat.zero_le _, fun v h => (by cases h), List.Pairwise.nil⟩, b.dag, rfl, ⟨Nat.zero_le _, List.Pairwise.nil, fun c h => (by cases h)⟩⟩
def newsP (n : Int) (k : Nat) : List Prim := (List.range k).map fun i : Nat => newP ((i : Int) + 1) n
theorem newsP_len (n : Int) (k : Nat) : (newsP n k).length = k := by simp [newsP]
theorem newsP_succ (n : Int) (k : Nat) : newsP n (k + 1) = newsP n k ++ [newP ((k : Int) + 1) n] := by simp [newsP, List.range_succ]
theorem inv_new {n : Int} (hn : isN n = true) : Inv n ⟨newsP n n.toNat, [], []⟩ := by
  have hnn := of_decide_eq_true hn
  refine ⟨hn, by rw [newsP_len]; omega, fun i p hi => ?_, fun m h => (by cases h), fun h hh => (by cases hh)⟩
  have hi' : (newsP n n.toNat)[i]? = some p := hi
  have hlt := (List.getElem?_eq_some_iff.1 hi').1
  rw [newsP_len] at hlt
  rw [newsP, List.getElem?_map, List.getElem?_range hlt] at hi'
  have e : newP ((i : Int) + 1) n = p := by simpa using hi'
  subst e
  refine ⟨rfl, ⟨new_may hn ⟨by omega, by omega⟩, ⟨rfl, rfl⟩, rfl, fun v h => (by cases h), fun h => absurd rfl h, fun h => absurd rfl h, fun c h => (by cases h), fun c h => (by cases h)⟩, fun d h e => ?_⟩
  unfold look at e
  split at e <;> simp at e
end Go.Proofs.YtdlfmgcmfoehdaaGreat
