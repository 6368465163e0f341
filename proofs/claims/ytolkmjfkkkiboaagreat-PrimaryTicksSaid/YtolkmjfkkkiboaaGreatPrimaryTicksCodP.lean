/- PrimaryTicks: contracts. -/
import Derived.Test.YtolkmjfkkkiboaaGreatPrimaryTicksCodO
set_option linter.unusedVariables false
set_option linter.unusedSimpArgs false
namespace Go.Proofs.YtolkmjfkkkiboaaGreat
open Go.Ab Go.RowKit Go.MapKept
attribute [local irreducible] ACalls AW ADraw Into fltB fnear
set_option maxRecDepth 100000
def mvSt (p : Prim) (out : List Msg) (x : Int × Int) : AF × List AB := ([(0, .ptr 0 0)], (p.at x).st out)
def mvI (p : Prim) (out : List Msg) (x : Int × Int) (i : Nat) : AF × List AB := ([(0, .ptr 0 0), (2, .d (.int .i64 (qF p (p.dag.certs.take i) 0))), (3, .d (.int .i64 i))], (p.at x).st out)
theorem qF_take {p : Prim} {i : Nat} {c : Cert} (h : p.dag.certs[i]? = some c) : qF p (p.dag.certs.take (i + 1)) 0 = if c.round > qF p (p.dag.certs.take i) 0 ∧ fullB p c.round = true then c.round else qF p (p.dag.certs.take i) 0 := by
  rw [List.take_add_one, h]
  exact qF_snoc p c _ _
theorem rise_le (p : Prim) (x : Int × Int) : x.1 ≤ (rise p x).1 := by
  unfold rise
  split
  · show x.1 ≤ qM p
    omega
  · exact Int.le_refl _
theorem moveF_fuel (p : Prim) : ∀ (m n : Nat) (x : Int × Int), (1099511627776 - x.1).toNat < m → (1099511627776 - x.1).toNat < n → moveF p m x = moveF p n x
  | 0, n, x, h1, h2 => by omega
  | m + 1, 0, x, h1, h2 => by omega
  | m + 1, n + 1, x, h1, h2 => by
    unfold moveF
    have hl := rise_le p x
    by_cases hg : goesB p (rise p x) = true
    · rw [if_pos hg, if_pos hg]
      have := goes_1 hg
      exact moveF_fuel p m n _ (by show (1099511627776 - ((rise p x).1 + 1)).toNat < _; omega) (by show (1099511627776 - ((rise p x).1 + 1)).toNat < _; omega)
    · rw [if_neg hg, if_neg hg]
theorem mv_stop {p : Prim} {x y : Int × Int} (hon : p.at (moveF p ((1099511627776 - x.1).toNat + 1) x) = onP p) (hr : rise p x = y) (hg : goesB p y = false) : onP p = p.at y := by
  rw [← hon, moveF, hr, if_neg (by rw [hg]; decide)]
theorem mv_goes {p : Prim} {x y : Int × Int} (hon : p.at (moveF p ((1099511627776 - x.1).toNat + 1) x) = onP p) (hr : rise p x = y) (hg : goesB p y = true) : p.at (moveF p ((1099511627776 - (y.1 + 1)).toNat + 1) (y.1 + 1, 0)) = onP p := by
  have h1 := goes_1 hg
  have h2 := rise_le p x
  rw [hr] at h2
  have e : moveF p ((1099511627776 - x.1).toNat + 1) x = moveF p (1099511627776 - x.1).toNat (y.1 + 1, 0) := by rw [moveF, hr, if_pos hg]
  rw [← hon, e]
  exact congrArg p.at (moveF_fuel p _ _ _ (Nat.lt_succ_self _) (by show (1099511627776 - (y.1 + 1)).toNat < _; omega))
set_option maxHeartbeats 4000000 in
theorem moves20_ok (p : Prim) (out : List Msg) (hv : Valid p.dag) (hn : isN p.nodes = true) (hsame : p.dag.nodes = p.nodes) (hr : 1 ≤ p.round ∧ p.round ≤ 1099511627776) (htc : ∀ c ∈ p.dag.certs, c.tiny) : ACalls Tryz.prog 95 [.ptr 0 0] (p.st out) (fun av L => av = .tup [] ∧ L = (onP p).st out) := by
  have hnn := of_decide_eq_true hn
  have hlen := hv.len
  have hcl := certsD_length p.dag.certs
  have hfull := fun (x : Int × Int) (r : Int) => full20_ok (p.at x) out (by show p.dag.certs.length ≤ _; omega) htc hn r
  (refine acalls_go ttOk zOk foOk Tryz.func95 rfl Tryz.ntmps95 rfl false rfl ?_); (conv => whnf)
  refine loop_go ttOk zOk foOk (σ := Int × Int) (mvSt p out) (fun x => (1 ≤ x.1 ∧ x.1 ≤ 1099511627776) ∧ p.at (moveF p ((1099511627776 - x.1).toNat + 1) x) = onP p) (fun x => (1099511627776 - x.1).toNat) [0] ?_ ?_
  · conv => whnf
    exact ⟨(p.round, p.age), rfl, rfl, hr, (onP_move hv (by omega) hr.1 _ (Nat.lt_succ_self _)).symm⟩
  · rintro ⟨rd, ag⟩ ⟨hx, hon⟩
    replace hx : 1 ≤ rd ∧ rd ≤ 1099511627776 := hx
    conv => whnf
    refine rdz ?_; repeat' ((with_reducible apply tw) <;> intro _)
    refine loop_go ttOk zOk foOk (σ := Nat) (mvI p out (rd, ag)) (fun i => i ≤ p.dag.certs.length) (fun i => p.dag.certs.length - i) [0, 2, 3] ?_ ?_
    · conv => whnf
      exact ⟨0, rfl, rfl, Nat.zero_le _⟩
    · intro i hi
      conv => whnf
      refine rdz ?_; repeat' ((with_reducible apply tw) <;> intro _)
      · rename_i k1
        replace k1 : (i : Int) < ((certsD p.dag.certs).length : Int) := k1
        refine Exists.elim (⟨_, List.getElem?_eq_getElem (by omega)⟩ : ∃ c, p.dag.certs[i]? = some c) fun c hc => ?_
        have hsn := qF_take hc
        refine ⟨by omega, c.cs, certsD_at hc, ?_⟩
        conv => whnf
        refine rdz ?_; repeat' ((with_reducible apply tw) <;> intro _)
        · rename_i k2
          replace k2 : c.round > qF p (p.dag.certs.take i) 0 := k2
          refine (hfull (rd, ag) c.round).mono ?_
          rintro _ _ ⟨rfl, rfl⟩
          rw [show fullB (p.at (rd, ag)) c.round = fullB p c.round from rfl]
          cases hf : fullB p c.round with
          | true =>
            rw [if_pos ⟨k2, hf⟩] at hsn
            conv => whnf
            refine rdz ?_; repeat' ((with_reducible apply tw) <;> intro _)
            exact ⟨i + 1, by unfold mvI; rw [hsn]; rfl, rfl, (show i + 1 ≤ p.dag.certs.length by omega), (show p.dag.certs.length - (i + 1) < p.dag.certs.length - i by omega)⟩
          | false =>
            rw [if_neg (fun h => by rw [hf] at h; cases h.2)] at hsn
            conv => whnf
            refine rdz ?_; repeat' ((with_reducible apply tw) <;> intro _)
            exact ⟨i + 1, by unfold mvI; rw [hsn]; rfl, rfl, (show i + 1 ≤ p.dag.certs.length by omega), (show p.dag.certs.length - (i + 1) < p.dag.certs.length - i by omega)⟩
        · rename_i k2
          replace k2 : ¬ c.round > qF p (p.dag.certs.take i) 0 := k2
          rw [if_neg (fun h => k2 h.1)] at hsn
          exact ⟨i + 1, by unfold mvI; rw [hsn]; rfl, rfl, (show i + 1 ≤ p.dag.certs.length by omega), (show p.dag.certs.length - (i + 1) < p.dag.certs.length - i by omega)⟩
      · rename_i k1 k2
        replace k1 : ¬ (i : Int) < ((certsD p.dag.certs).length : Int) := k1
        have hqe : qM p = qF p (p.dag.certs.take i) 0 := by rw [List.take_of_length_le (by omega)]; rfl
        replace k2 : qF p (p.dag.certs.take i) 0 > rd := k2
        have hqx := qF_is p (p.dag.certs.take i) 0
        obtain ⟨q, hq⟩ : ∃ q, qF p (p.dag.certs.take i) 0 = q := ⟨_, rfl⟩
        rw [hq] at hqe k2 hqx
        have hqm : q ≤ 1099511627776 := by
          rcases hqx with e | ⟨c, h1, h2, _⟩
          · omega
          · have := (hv.certs c (List.mem_of_mem_take h1)).head.round
            omega
        have hrip := ripe20_ok (p.at (q, 0)) out hv hsame ⟨(show 1 ≤ q by omega), hqm⟩
        have hri : rise p (rd, ag) = (q, 0) := by unfold rise; rw [hqe]; exact if_pos k2
        have hfl := hfull (q, 0) q
        rw [← hq] at hfl hrip
        rw [← hq] at hri hqm
        refine hfl.mono ?_
        rintro _ _ ⟨rfl, rfl⟩
        rw [show fullB (p.at (qF p (p.dag.certs.take i) 0, 0)) ((qF p (p.dag.certs.take i) 0, 0)).1 = fullB p ((qF p (p.dag.certs.take i) 0, 0)).1 from rfl]
        cases hf : fullB p ((qF p (p.dag.certs.take i) 0, 0)).1 with
        | false =>
          conv => whnf
          refine rdz ?_; repeat' ((with_reducible apply tw) <;> intro _)
          have hend := mv_stop hon hri (goes_no1 hf)
          exact ⟨rfl, by rw [hend]; rfl⟩
        | true =>
          conv => whnf
          refine rdz ?_; repeat' ((with_reducible apply tw) <;> intro _)
          · rename_i k3
            have hend := mv_stop hon hri (goes_no2 (by show ¬ ((qF p (p.dag.certs.take i) 0, 0)).1 < _; exact Int.not_lt.2 k3))
            exact ⟨rfl, by rw [hend]; rfl⟩
          · rename_i k3
            have k4 : ((qF p (p.dag.certs.take i) 0, 0) : Int × Int).2 < 5 := by show (0 : Int) < 5; decide
            refine hrip.mono ?_
            rintro _ _ ⟨rfl, rfl⟩
            cases hb : ripeB (p.at (qF p (p.dag.certs.take i) 0, 0)) with
            | true =>
              have hg := goes_yes2 hf (Int.not_le.1 k3) hb
              have hgo := mv_goes hon hri hg
              have hlt : qF p (p.dag.certs.take i) 0 < 1099511627776 := goes_1 hg
              have hle := rise_le p (rd, ag)
              rw [hri] at hle
              replace hle : rd ≤ qF p (p.dag.certs.take i) 0 := hle
              have hat : (p.at (qF p (p.dag.certs.take i) 0, 0)).round = qF p (p.dag.certs.take i) 0 := rfl
              conv => whnf
              refine rdz ?_; repeat' ((with_reducible apply tw) <;> intro _)
              exact ⟨(((qF p (p.dag.certs.take i) 0, 0)).1 + 1, 0), rfl, rfl, ⟨⟨(show 1 ≤ qF p (p.dag.certs.take i) 0 + 1 by omega), (show ((qF p (p.dag.certs.take i) 0, 0)).1 + 1 ≤ _ by omega)⟩, hgo⟩, (show (1099511627776 - (qF p (p.dag.certs.take i) 0 + 1)).toNat < (1099511627776 - rd).toNat by omega)⟩
            | false =>
              conv => whnf
              refine rdz ?_; repeat' ((with_reducible apply tw) <;> intro _)
              have hend := mv_stop hon hri (goes_no3 (Int.not_le.2 k4) hb)
              exact ⟨rfl, by rw [hend]; rfl⟩
      · rename_i k1 k2
        replace k1 : ¬ (i : Int) < ((certsD p.dag.certs).length : Int) := k1
        have hqe : qM p = qF p (p.dag.certs.take i) 0 := by rw [List.take_of_length_le (by omega)]; rfl
        replace k2 : ¬ qF p (p.dag.certs.take i) 0 > rd := k2
        have hqx := qF_is p (p.dag.certs.take i) 0
        have hrip := ripe20_ok (p.at (rd, ag)) out hv hsame hx
        have hri : rise p (rd, ag) = (rd, ag) := by unfold rise; rw [hqe]; exact if_neg k2
        have hfl := hfull (rd, ag) rd
        refine hfl.mono ?_
        rintro _ _ ⟨rfl, rfl⟩
        rw [show fullB (p.at (rd, ag)) ((rd, ag)).1 = fullB p ((rd, ag)).1 from rfl]
        cases hf : fullB p ((rd, ag)).1 with
        | false =>
          conv => whnf
          refine rdz ?_; repeat' ((with_reducible apply tw) <;> intro _)
          have hend := mv_stop hon hri (goes_no1 hf)
          exact ⟨rfl, by rw [hend]; rfl⟩
        | true =>
          conv => whnf
          refine rdz ?_; repeat' ((with_reducible apply tw) <;> intro _)
          · rename_i k3
            have hend := mv_stop hon hri (goes_no2 (by show ¬ ((rd, ag)).1 < _; exact Int.not_lt.2 k3))
            exact ⟨rfl, by rw [hend]; rfl⟩
          · rename_i k3 k4
            refine hrip.mono ?_
            rintro _ _ ⟨rfl, rfl⟩
            cases hb : ripeB (p.at (rd, ag)) with
            | true =>
              have hg := goes_yes2 hf (Int.not_le.1 k3) hb
              have hgo := mv_goes hon hri hg
              have hlt : rd < 1099511627776 := goes_1 hg
              have hle := rise_le p (rd, ag)
              rw [hri] at hle
              replace hle : rd ≤ rd := hle
              have hat : (p.at (rd, ag)).round = rd := rfl
              conv => whnf
              refine rdz ?_; repeat' ((with_reducible apply tw) <;> intro _)
              exact ⟨(((rd, ag)).1 + 1, 0), rfl, rfl, ⟨⟨(show 1 ≤ rd + 1 by omega), (show rd + 1 ≤ _ by omega)⟩, hgo⟩, (show (1099511627776 - (rd + 1)).toNat < (1099511627776 - rd).toNat by omega)⟩
            | false =>
              conv => whnf
              refine rdz ?_; repeat' ((with_reducible apply tw) <;> intro _)
              have hend := mv_stop hon hri (goes_no3 (Int.not_le.2 k4) hb)
              exact ⟨rfl, by rw [hend]; rfl⟩
          · rename_i k3 k4
            have hg := goes_yes1 hf (Int.not_le.1 k3) (Int.not_lt.1 k4)
            have hgo := mv_goes hon hri hg
            have hlt : rd < 1099511627776 := goes_1 hg
            have hle := rise_le p (rd, ag)
            rw [hri] at hle
            replace hle : rd ≤ rd := hle
            have hat : (p.at (rd, ag)).round = rd := rfl
            refine rdz ?_; repeat' ((with_reducible apply tw) <;> intro _)
            exact ⟨(((rd, ag)).1 + 1, 0), rfl, rfl, ⟨⟨(show 1 ≤ rd + 1 by omega), (show rd + 1 ≤ _ by omega)⟩, hgo⟩, (show (1099511627776 - (rd + 1)).toNat < (1099511627776 - rd).toNat by omega)⟩
def Msg.from (m : Msg) (p : Prim) : Msg := { m with src := p.id }
set_option maxHeartbeats 1000000 in
theorem tells20_ok (p : Prim) (out : List Msg) (ho : out.length ≤ 1000000000) (m : Msg) : ACalls Tryz.prog 97 [.ptr 0 0, m.av] (p.st out) (fun av L => av = .tup [] ∧ L = p.st1 (out ++ [m.from p])) := by
  have hml := msgsD_length out
  (refine acalls_go ttOk zOk foOk Tryz.func97 rfl Tryz.ntmps97 rfl false rfl ?_); (conv => whnf)
  refine rdw ?_; repeat' ((with_reducible apply tw) <;> intro _)
  ((with_reducible refine draw_pl ttOk zOk foOk mixedOk pl97x2 ?_ ?_); (focus kernel_rfl); (conv => whnf))
  refine rdw ?_; repeat' ((with_reducible apply tw) <;> intro _)
  refine ⟨by simp; omega, ?_⟩
  conv => whnf
  refine rdw ?_; repeat' ((with_reducible apply tw) <;> intro _)
  refine ⟨rfl, ?_⟩
  rw [Prim.st1, show msgsD (out ++ [m.from p]) = msgsD out ++ [(m.from p).cs] by simp [msgsD]]
  rfl
def Msg.dstd (m : Msg) (d : Int) : Msg := { m with dst := d }
theorem told_from (m : Msg) (p : Prim) (d : Int) : (m.dstd d).from p = m.told p d := rfl
def alSt (p : Prim) (out : List Msg) (m : Msg) (j : Bool) (s : Nat × Int) : AF × List AB := ([(0, .ptr 0 0), (3, .ptr 2 0), (4, .d (.int .i64 ((s.1 : Int) + 1)))], teB p (out ++ tellO p m [] s.1) (m.dstd s.2) j)
set_option maxHeartbeats 4000000 in
theorem all20_ok (p : Prim) (hn : 0 ≤ p.nodes ∧ p.nodes ≤ 16) (out : List Msg) (ho : out.length ≤ 100000000) (m : Msg) (hm : m.small) : ACalls Tryz.prog 90 [.ptr 0 0, m.av] (p.st out) (fun av L => av = .tup [] ∧ ∃ j, L = p.sj j (out ++ tellO p m [] p.nodes.toNat)) := by
  (refine acalls_go ttOk zOk foOk Tryz.func90 rfl Tryz.ntmps90 rfl false rfl ?_); (conv => whnf)
  refine loop_go2 ttOk zOk foOk (σ := Bool) (ρ := Nat × Int) (alSt p out m) (fun _ s => s.1 ≤ p.nodes.toNat) (fun _ s => p.nodes.toNat - s.1) [0, 3, 4] ?_ ?_
  · conv => whnf
    exact ⟨false, (0, m.dst), rfl, by unfold alSt; rw [show tellO p m [] 0 = [] from rfl, List.append_nil]; rfl, Nat.zero_le _⟩
  · rintro j ⟨q, d⟩ hq
    replace hq : q ≤ p.nodes.toNat := hq
    have htl := tellO_len p m [] q
    have hts := tellO_succ p m [] q
    have hcp := copyMsg_ok (m.dstd ((q : Int) + 1)) ⟨hm.txs, hm.head, hm.cert, hm.digs, hm.sigs⟩
    have hte := tells20_ok p (out ++ tellO p m [] q) (by rw [List.length_append]; omega) (m.dstd ((q : Int) + 1))
    rw [told_from] at hte
    cases j with
    | false =>
      conv => whnf
      refine rdw ?_; repeat' ((with_reducible apply tw) <;> intro _)
      · rename_i hle hne
        replace hne : (q : Int) + 1 ≠ p.id := hne
        replace hle : (q : Int) + 1 ≤ p.nodes := hle
        rw [if_pos ⟨hne, by simp⟩] at hts
        rw [List.append_assoc, ← hts] at hte
        (refine (hcp).mono ?_; rintro _ _ ⟨rfl, rfl⟩; (conv => whnf))
        refine rdw ?_; repeat' ((with_reducible apply tw) <;> intro _)
        (refine (hte).mono ?_; rintro _ _ ⟨rfl, rfl⟩; (conv => whnf))
        refine rdw ?_; repeat' ((with_reducible apply tw) <;> intro _)
        exact ⟨true, (q + 1, (q : Int) + 1), rfl, rfl, (show q + 1 ≤ p.nodes.toNat by omega), (show p.nodes.toNat - (q + 1) < p.nodes.toNat - q by omega)⟩
      · rename_i hle hne
        replace hne : (q : Int) + 1 = p.id := hne
        replace hle : (q : Int) + 1 ≤ p.nodes := hle
        rw [if_neg (fun h => h.1 hne), List.append_nil] at hts
        exact ⟨false, (q + 1, d), rfl, by unfold alSt; rw [hts]; rfl, (show q + 1 ≤ p.nodes.toNat by omega), (show p.nodes.toNat - (q + 1) < p.nodes.toNat - q by omega)⟩
      · rename_i hle
        replace hle : ¬ (q : Int) + 1 ≤ p.nodes := hle
        obtain rfl : q = p.nodes.toNat := by omega
        exact ⟨rfl, false, rfl⟩
    | true =>
      conv => whnf
      refine rdw ?_; repeat' ((with_reducible apply tw) <;> intro _)
      · rename_i hle hne
        replace hne : (q : Int) + 1 ≠ p.id := hne
        replace hle : (q : Int) + 1 ≤ p.nodes := hle
        rw [if_pos ⟨hne, by simp⟩] at hts
        rw [List.append_assoc, ← hts] at hte
        (refine (hcp).mono ?_; rintro _ _ ⟨rfl, rfl⟩; (conv => whnf))
        refine rdw ?_; repeat' ((with_reducible apply tw) <;> intro _)
        (refine (hte).mono ?_; rintro _ _ ⟨rfl, rfl⟩; (conv => whnf))
        refine rdw ?_; repeat' ((with_reducible apply tw) <;> intro _)
        exact ⟨true, (q + 1, (q : Int) + 1), rfl, rfl, (show q + 1 ≤ p.nodes.toNat by omega), (show p.nodes.toNat - (q + 1) < p.nodes.toNat - q by omega)⟩
      · rename_i hle hne
        replace hne : (q : Int) + 1 = p.id := hne
        replace hle : (q : Int) + 1 ≤ p.nodes := hle
        rw [if_neg (fun h => h.1 hne), List.append_nil] at hts
        exact ⟨true, (q + 1, d), rfl, by unfold alSt; rw [hts]; rfl, (show q + 1 ≤ p.nodes.toNat by omega), (show p.nodes.toNat - (q + 1) < p.nodes.toNat - q by omega)⟩
      · rename_i hle
        replace hle : ¬ (q : Int) + 1 ≤ p.nodes := hle
        obtain rfl : q = p.nodes.toNat := by omega
        exact ⟨rfl, true, rfl⟩
theorem lastBy_no {q : Prim} (h : ∀ c ∈ q.dag.certs, c.author ≠ q.id) : lastBy q = none := by
  unfold lastBy
  rw [List.find?_eq_none]
  intro c hc
  rw [List.mem_reverse] at hc
  simpa using h c hc
theorem lastBy_at {q : Prim} {k : Nat} {c : Cert} (hk : q.dag.certs[k]? = some c) (hn : ∀ c' ∈ q.dag.certs.drop (k + 1), c'.author ≠ q.id) (ha : c.author = q.id) : lastBy q = some c := by
  have hlt := (List.getElem?_eq_some_iff.1 hk).1
  have he : q.dag.certs = q.dag.certs.take k ++ c :: q.dag.certs.drop (k + 1) := by
    have := (List.getElem?_eq_some_iff.1 hk).2
    rw [← this, List.getElem_cons_drop, List.take_append_drop]
  unfold lastBy
  rw [he, List.reverse_append, List.reverse_cons, List.append_assoc, List.find?_append]
  have h1 : (q.dag.certs.drop (k + 1)).reverse.find? (fun c => c.author == q.id) = none := by
    rw [List.find?_eq_none]
    intro c' hc'
    rw [List.mem_reverse] at hc'
    simpa using hn c' hc'
  rw [h1]
  simp [ha]
theorem riseN_len2 {l : List Int} {n : Nat} (h : riseB l 1 n) : l.length ≤ n := by
  have := sub_len (m := (List.range n).map fun n : Nat => (n : Int) + 1) (rising_nodup h.1) fun x hx => by
    have := h.2 x hx
    exact List.mem_map.2 ⟨(x - 1).toNat, by simp; omega, by omega⟩
  simpa using this
theorem certMsg_small {n : Int} (hn : isN n = true) {c : Cert} (h : okCert n c) : (certMsg c).small := by
  have hnn := of_decide_eq_true hn
  have h3 := h.head.bats
  have h4 := h.head.pars
  have h6 := h.sigs
  rw [show n = (n.toNat : Int) by omega] at h6
  have h6 := riseN_len2 h6
  have z : (([] : List Int)).length ≤ 3000 := Nat.zero_le _
  exact ⟨Nat.zero_le _, ⟨z, z⟩, ⟨by show c.bats.length ≤ 3000; omega, by show c.pars.length ≤ 3000; omega, by show c.sigs.length ≤ 3000; omega⟩, z, z⟩
def tkB (p q : Prim) (o : List Msg) : List AB := [.cells (p.cs.map AV.d), .cells (q.cs.map AV.d ++ [.arr 2]), .row 49 18 (msgsD o) false]
def askO (q : Prim) (k : Nat) : List Msg := if q.dig > 0 then tellO q (askMsg q) q.acks k else []
def tk1 (p q : Prim) (k : Nat) : AF × List AB := ([(1, .ptr 0 0), (3, .ptr 1 0), (4, .d (.int .i64 ((k : Int) + 1)))], tkB p q (askO q k))
def tk2 (p q : Prim) (o : List Msg) (k : Nat) : AF × List AB := ([(1, .ptr 0 0), (3, .ptr 1 0), (5, .d (.int .i64 ((k : Int) - 1)))], tkB p q o)
theorem askO_len (q : Prim) (k : Nat) : (askO q k).length ≤ k := by
  unfold askO
  split
  · exact tellO_len _ _ _ _
  · exact Nat.zero_le _
set_option maxHeartbeats 8000000 in
theorem tick20_ok (p : Prim) (h : May p) (ht : p.tiny) : ACalls Tryz.prog 51 [p.av] [] (fun av L => av = .ptr 0 0 ∧ L = (beatP p).st (beatS (beatP p))) := by
  have hcp := copyPrim_ok p ht
  have hag := h.age
  have hnn := of_decide_eq_true h.isn
  have hmv := moves20_ok (agedP p) [] h.dag h.isn h.same h.round ht.dag.2
  have hcm0 := h.dag.certs
  rw [show beatP p = onP (agedP p) from rfl]
  (refine acalls_go ttOk zOk foOk Tryz.func51 rfl Tryz.ntmps51 rfl true rfl ?_); (conv => whnf)
  refine rdw ?_; repeat' ((with_reducible apply tw) <;> intro _)
  (refine (hcp).mono ?_; rintro _ _ ⟨rfl, rfl⟩; (conv => whnf))
  refine rdw ?_; repeat' ((with_reducible apply tw) <;> intro _)
  obtain ⟨q, hq⟩ : ∃ q, onP (agedP p) = q := ⟨_, rfl⟩
  have hqn : q.nodes = p.nodes := by rw [← hq]; rfl
  have hqi : q.id = p.id := by rw [← hq]; rfl
  have hqk : q.acks = p.acks := by rw [← hq]; rfl
  have hqd : q.dag = p.dag := by rw [← hq]; rfl
  have hqm : q.mine = p.mine := by rw [← hq]; rfl
  have hqr := onP_range (p := agedP p) h.dag h.round ⟨by show 0 ≤ min (p.age + 1) 1099511627776; omega, by show min (p.age + 1) 1099511627776 ≤ _; omega⟩
  rw [hq] at hqr hmv ⊢
  (refine (hmv).mono ?_; rintro _ _ ⟨rfl, rfl⟩; (conv => whnf))
  refine rdw ?_; repeat' ((with_reducible apply tw) <;> intro _)
  · rename_i k0
    replace k0 : q.age = 0 := k0
    have hb : beatS q = [] := by unfold beatS; rw [if_pos (.inl k0)]
    rw [hb]
    exact ⟨rfl, rfl⟩
  · rename_i k0
    replace k0 : q.age ≠ 0 := k0
    refine ⟨by decide, fun z hz => ?_⟩
    replace hz := tmod_pos (by omega) hz
    subst hz
    conv => whnf
    refine rdw ?_; repeat' ((with_reducible apply tw) <;> intro _)
    · rename_i k1
      have hb : beatS q = [] := by unfold beatS; rw [if_pos (.inr k1)]
      rw [hb]
      exact ⟨rfl, rfl⟩
    · rename_i k1
      replace k1 : q.age % 3 = 0 := k1
      have hb : beatS q = askO q q.nodes.toNat ++ beat2 q := by unfold beatS; rw [if_neg (fun h => h.elim k0 (fun h => h k1))]; rfl
      refine loop_go ttOk zOk foOk (σ := Nat) (tk1 p q) (fun k => k ≤ q.nodes.toNat) (fun k => q.nodes.toNat - k) [1, 3, 4] ?_ ?_
      · conv => whnf
        exact ⟨0, rfl, by unfold tk1 askO; rw [show tellO q (askMsg q) q.acks 0 = [] from rfl, ite_self]; rfl, Nat.zero_le _⟩
      · intro k hk
        have hal := askO_len q k
        have hcl := certsD_length q.dag.certs
        have hlen := h.dag.len
        rw [← hqd] at hlen
        have hcm : ∀ c ∈ q.dag.certs, okCert p.nodes c := by rw [hqd, ← h.same]; exact hcm0
        conv => whnf
        refine rdw ?_; repeat' ((with_reducible apply tw) <;> intro _)
        · rename_i k3 k4 k5
          replace k3 : (k : Int) + 1 ≤ p.nodes := k3
          replace k4 : q.dig > 0 := k4
          replace k5 : (k : Int) + 1 ≠ p.id := k5
          have hts := tellO_succ q (askMsg q) q.acks k
          have hak : askO q k = tellO q (askMsg q) q.acks k := by unfold askO; rw [if_pos k4]
          have hak1 : askO q (k + 1) = tellO q (askMsg q) q.acks (k + 1) := by unfold askO; rw [if_pos k4]
          have htl := tells20_ok q (askO q k) (by omega) ((askMsg q).dstd ((k : Int) + 1))
          rw [told_from] at htl
          refine (in_ok q.acks (by rw [hqk]; have := h.acks.2; unfold few; omega) ((k : Int) + 1)).mono ?_
          rintro _ _ ⟨rfl, rfl⟩
          conv => whnf
          refine rdw ?_; repeat' ((with_reducible apply tw) <;> intro _)
          · rename_i k6
            replace k6 : inI q.acks ((k : Int) + 1) < 0 := k6
            have hni : (k : Int) + 1 ∉ q.acks := fun hm => by
              have := inI_in hm
              omega
            rw [if_pos ⟨by rw [hqi]; exact k5, hni⟩] at hts
            ((with_reducible refine draw_pl ttOk zOk foOk mixedOk pl51x10 ?_ ?_); (focus kernel_rfl); (conv => whnf))
            refine rdw ?_; repeat' ((with_reducible apply tw) <;> intro _)
            refine (copyHeader_ok q.mine (by rw [hqm]; exact ht.mine)).mono ?_
            rintro _ _ ⟨rfl, rfl⟩
            conv => whnf
            refine rdw ?_; repeat' ((with_reducible apply tw) <;> intro _)
            refine (acalls_nw htl (.cons (.refl _) (.cons (.agg ?_) .nil))).mono ?_
            · repeat (first | exact .nil | refine .cons (.refl _) ?_ | refine .cons (.nils _ (by decide)) ?_)
            · rintro _ _ ⟨rfl, rfl⟩
              conv => whnf
              refine rdw ?_; repeat' ((with_reducible apply tw) <;> intro _)
              exact ⟨k + 1, rfl, by unfold tk1; rw [hak1, hts, ← hak]; rfl, (show k + 1 ≤ q.nodes.toNat by omega), (show q.nodes.toNat - (k + 1) < q.nodes.toNat - k by omega)⟩
          · rename_i k6
            replace k6 : ¬ inI q.acks ((k : Int) + 1) < 0 := k6
            have hni : ¬ ((k : Int) + 1 ∉ q.acks) := fun hm => by
              have := inI_not hm
              omega
            rw [if_neg (fun h => hni h.2), List.append_nil] at hts
            exact ⟨k + 1, rfl, by unfold tk1; rw [hak1, hts, ← hak]; rfl, (show k + 1 ≤ q.nodes.toNat by omega), (show q.nodes.toNat - (k + 1) < q.nodes.toNat - k by omega)⟩
        · rename_i k3 k4 k5
          replace k3 : (k : Int) + 1 ≤ p.nodes := k3
          replace k4 : q.dig > 0 := k4
          replace k5 : (k : Int) + 1 = p.id := k5
          have hts := tellO_succ q (askMsg q) q.acks k
          rw [if_neg (fun h => h.1 (by rw [hqi]; exact k5)), List.append_nil] at hts
          have hak : askO q k = tellO q (askMsg q) q.acks k := by unfold askO; rw [if_pos k4]
          have hak1 : askO q (k + 1) = tellO q (askMsg q) q.acks (k + 1) := by unfold askO; rw [if_pos k4]
          exact ⟨k + 1, rfl, by unfold tk1; rw [hak1, hts, ← hak]; rfl, (show k + 1 ≤ q.nodes.toNat by omega), (show q.nodes.toNat - (k + 1) < q.nodes.toNat - k by omega)⟩
        · rename_i k3 k4
          replace k4 : ¬ q.dig > 0 := k4
          have hfin : askO q k = askO q q.nodes.toNat := by unfold askO; rw [if_neg k4, if_neg k4]
          refine rdw ?_; repeat' ((with_reducible apply tw) <;> intro _)
          refine loop_go ttOk zOk foOk (σ := Nat) (tk2 p q (askO q k)) (fun i => i ≤ q.dag.certs.length ∧ ∀ c' ∈ q.dag.certs.drop i, c'.author ≠ q.id) (fun i => i) [1, 3, 5] ?_ ?_
          · conv => whnf
            exact ⟨q.dag.certs.length, by unfold tk2; rw [hcl], rfl, Nat.le_refl _, by rw [List.drop_length]; simp⟩
          · rintro i ⟨hi, hno⟩
            conv => whnf
            refine rdw ?_; repeat' ((with_reducible apply tw) <;> intro _)
            · rename_i k5
              replace k5 : (i : Int) - 1 ≥ 0 := k5
              obtain ⟨i', rfl⟩ : ∃ i', i = i' + 1 := ⟨i - 1, by omega⟩
              refine Exists.elim (⟨_, List.getElem?_eq_getElem (by omega)⟩ : ∃ c, q.dag.certs[i']? = some c) fun c hc => ?_
              have hct : (q.dag.certs.map Cert.cs)[((((i' + 1 : Nat) : Int)) - 1).toNat]? = some c.cs := by rw [show ((((i' + 1 : Nat) : Int)) - 1).toNat = i' by omega, List.getElem?_map, hc]; rfl
              ((with_reducible refine draw_pl ttOk zOk foOk mixedOk pl51x14 ?_ ?_); (focus kernel_rfl); (conv => whnf))
              repeat' (first | (first | ((with_reducible first | apply rd_intro | apply gd_and); (focus ((conv => whnf) <;> first | rfl | (intro K hK; (conv => whnf); first | exact hK | exact z_wrap (by omega) hK))); conv => whnf) | ((with_reducible apply z_wrap); (focus omega); conv => whnf) | ((with_reducible first | apply mt_dec | apply mt_eq | apply mt_ne | apply mt_not | apply mt_any) <;> (intro _; conv => whnf))) | ((with_reducible apply rd_intro); (focus (intro K hK; (conv => whnf); exact ⟨by omega, c.cs, hct, hK⟩)); (conv => whnf)) | fail)
              · rename_i ka
                replace ka : c.author = p.id := ka
                refine ⟨by omega, c.cs, hct, ?_⟩
                conv => whnf
                refine rdw ?_; repeat' ((with_reducible apply tw) <;> intro _)
                have hl := lastBy_at hc hno (by rw [ka, hqi])
                have hb2 : beat2 q = tellO q (certMsg c) [] q.nodes.toNat := by unfold beat2; rw [hl]
                rw [hb, ← hfin, hb2]
                have hall := all20_ok q (by rw [hqn]; omega) (askO q k) (by omega) (certMsg c) (certMsg_small h.isn (hcm c (List.mem_of_getElem? hc)))
                refine (acalls_nw hall (.cons (.refl _) (.cons (.agg ?_) .nil))).mono ?_
                · repeat (first | exact .nil | refine .cons (.refl _) ?_ | refine .cons (.nils _ (by decide)) ?_)
                · rintro _ _ ⟨rfl, j, rfl⟩
                  cases j
                  · conv => whnf
                    refine rdw ?_; repeat' ((with_reducible apply tw) <;> intro _)
                    exact ⟨rfl, rfl⟩
                  · conv => whnf
                    refine rdw ?_; repeat' ((with_reducible apply tw) <;> intro _)
                    exact ⟨rfl, rfl⟩
              · rename_i ka
                replace ka : c.author ≠ p.id := ka
                exact ⟨i', by rw [show (((i' + 1 : Nat) : Int)) - 1 - 1 = (i' : Int) - 1 by omega]; rfl, rfl, ⟨(show i' ≤ q.dag.certs.length by omega), fun c' hc' => by
                  rw [List.drop_eq_getElem_cons (by omega)] at hc'
                  rcases List.mem_cons.1 hc' with rfl | hc'
                  · rw [(List.getElem?_eq_some_iff.1 hc).2, hqi]; exact ka
                  · exact hno c' hc'⟩, (show i' < i' + 1 by omega)⟩
            · rename_i k5
              replace k5 : ¬ (i : Int) - 1 ≥ 0 := k5
              obtain rfl : i = 0 := by omega
              have hl := lastBy_no (q := q) (by simpa using hno)
              have hb2 : beat2 q = [] := by unfold beat2; rw [hl]
              rw [hb, ← hfin, hb2, List.append_nil]
              exact ⟨rfl, rfl⟩
        · rename_i k3
          replace k3 : ¬ (k : Int) + 1 ≤ p.nodes := k3
          have hfin : askO q k = askO q q.nodes.toNat := by rw [show k = q.nodes.toNat by omega]
          refine rdw ?_; repeat' ((with_reducible apply tw) <;> intro _)
          refine loop_go ttOk zOk foOk (σ := Nat) (tk2 p q (askO q k)) (fun i => i ≤ q.dag.certs.length ∧ ∀ c' ∈ q.dag.certs.drop i, c'.author ≠ q.id) (fun i => i) [1, 3, 5] ?_ ?_
          · conv => whnf
            exact ⟨q.dag.certs.length, by unfold tk2; rw [hcl], rfl, Nat.le_refl _, by rw [List.drop_length]; simp⟩
          · rintro i ⟨hi, hno⟩
            conv => whnf
            refine rdw ?_; repeat' ((with_reducible apply tw) <;> intro _)
            · rename_i k5
              replace k5 : (i : Int) - 1 ≥ 0 := k5
              obtain ⟨i', rfl⟩ : ∃ i', i = i' + 1 := ⟨i - 1, by omega⟩
              refine Exists.elim (⟨_, List.getElem?_eq_getElem (by omega)⟩ : ∃ c, q.dag.certs[i']? = some c) fun c hc => ?_
              have hct : (q.dag.certs.map Cert.cs)[((((i' + 1 : Nat) : Int)) - 1).toNat]? = some c.cs := by rw [show ((((i' + 1 : Nat) : Int)) - 1).toNat = i' by omega, List.getElem?_map, hc]; rfl
              ((with_reducible refine draw_pl ttOk zOk foOk mixedOk pl51x14 ?_ ?_); (focus kernel_rfl); (conv => whnf))
              repeat' (first | (first | ((with_reducible first | apply rd_intro | apply gd_and); (focus ((conv => whnf) <;> first | rfl | (intro K hK; (conv => whnf); first | exact hK | exact z_wrap (by omega) hK))); conv => whnf) | ((with_reducible apply z_wrap); (focus omega); conv => whnf) | ((with_reducible first | apply mt_dec | apply mt_eq | apply mt_ne | apply mt_not | apply mt_any) <;> (intro _; conv => whnf))) | ((with_reducible apply rd_intro); (focus (intro K hK; (conv => whnf); exact ⟨by omega, c.cs, hct, hK⟩)); (conv => whnf)) | fail)
              · rename_i ka
                replace ka : c.author = p.id := ka
                refine ⟨by omega, c.cs, hct, ?_⟩
                conv => whnf
                refine rdw ?_; repeat' ((with_reducible apply tw) <;> intro _)
                have hl := lastBy_at hc hno (by rw [ka, hqi])
                have hb2 : beat2 q = tellO q (certMsg c) [] q.nodes.toNat := by unfold beat2; rw [hl]
                rw [hb, ← hfin, hb2]
                have hall := all20_ok q (by rw [hqn]; omega) (askO q k) (by omega) (certMsg c) (certMsg_small h.isn (hcm c (List.mem_of_getElem? hc)))
                refine (acalls_nw hall (.cons (.refl _) (.cons (.agg ?_) .nil))).mono ?_
                · repeat (first | exact .nil | refine .cons (.refl _) ?_ | refine .cons (.nils _ (by decide)) ?_)
                · rintro _ _ ⟨rfl, j, rfl⟩
                  cases j
                  · conv => whnf
                    refine rdw ?_; repeat' ((with_reducible apply tw) <;> intro _)
                    exact ⟨rfl, rfl⟩
                  · conv => whnf
                    refine rdw ?_; repeat' ((with_reducible apply tw) <;> intro _)
                    exact ⟨rfl, rfl⟩
              · rename_i ka
                replace ka : c.author ≠ p.id := ka
                exact ⟨i', by rw [show (((i' + 1 : Nat) : Int)) - 1 - 1 = (i' : Int) - 1 by omega]; rfl, rfl, ⟨(show i' ≤ q.dag.certs.length by omega), fun c' hc' => by
                  rw [List.drop_eq_getElem_cons (by omega)] at hc'
                  rcases List.mem_cons.1 hc' with rfl | hc'
                  · rw [(List.getElem?_eq_some_iff.1 hc).2, hqi]; exact ka
                  · exact hno c' hc'⟩, (show i' < i' + 1 by omega)⟩
            · rename_i k5
              replace k5 : ¬ (i : Int) - 1 ≥ 0 := k5
              obtain rfl : i = 0 := by omega
              have hl := lastBy_no (q := q) (by simpa using hno)
              have hb2 : beat2 q = [] := by unfold beat2; rw [hl]
              rw [hb, ← hfin, hb2, List.append_nil]
              exact ⟨rfl, rfl⟩
end Go.Proofs.YtolkmjfkkkiboaaGreat
namespace Go.Ab
open Go.RowKit
end Go.Ab
namespace Go.Proofs.YtolkmjfkkkiboaaGreat
open Go.Ab Go.RowKit Go.MapKept
attribute [local irreducible] ACalls AW ADraw Into fltB fnear
set_option maxRecDepth 100000
theorem eqVotes_same (l : List Vote) (hl : few l) : ACalls Tryz.prog 86 [.d (.sl 3 (votesD l)), .d (.sl 3 (votesD l))] [] (fun av L => av = .d (.bool true) ∧ L = []) := by
  have hcl := votesD_length l
  unfold few at hl
  (refine acalls_go ttOk zOk foOk Tryz.func86 rfl Tryz.ntmps86 rfl false rfl ?_); (conv => whnf)
  refine rdw ?_; repeat' ((with_reducible apply tw) <;> intro _)
  · rename_i hx; exact absurd rfl hx
  · refine loop_go ttOk zOk foOk (σ := Nat) (fun k => ([(0, .d (.sl 3 (votesD l))), (1, .d (.sl 3 (votesD l))), (5, .d (.int .i64 k))], [])) (fun k => k ≤ l.length) (fun k => l.length - k) [0, 1, 5] ?_ ?_
    · conv => whnf
      exact ⟨0, rfl, rfl, by omega⟩
    · intro k hk
      conv => whnf
      rw [hcl]
      refine rdw ?_; repeat' ((with_reducible apply tw) <;> intro _)
      · rename_i hkl
        refine Exists.elim (⟨_, List.getElem?_eq_getElem (by omega)⟩ : ∃ c, l[k]? = some c) fun c hc => ?_
        ((with_reducible refine draw_pl ttOk zOk foOk mixedOk pl86x6 ?_ ?_); (focus kernel_rfl); (conv => whnf))
        repeat' (first | (first | ((with_reducible first | apply rd_intro | apply gd_and); (focus ((conv => whnf) <;> first | rfl | (intro K hK; (conv => whnf); first | exact hK | exact z_wrap (by omega) hK))); conv => whnf) | ((with_reducible apply z_wrap); (focus omega); conv => whnf) | ((with_reducible first | apply mt_dec | apply mt_eq | apply mt_ne | apply mt_not | apply mt_any) <;> (intro _; conv => whnf))) | ((with_reducible apply rd_intro); (focus (intro K hK; (conv => whnf); exact ⟨by omega, c.cs, votesD_at hc, hK⟩)); (conv => whnf)) | ((with_reducible apply rd_intro); (focus (intro K hK; (conv => whnf); exact ix_map hc (by first | rfl | omega) hK)); (conv => whnf)) | ((with_reducible apply rd_intro); (focus (intro K hK; (conv => whnf); exact ⟨eqVote_ok, hK⟩)); (conv => whnf)) | fail)
        · rename_i hx
          exfalso
          simp at hx
        · exact ⟨k + 1, rfl, rfl, by omega, by omega⟩
      · exact ⟨rfl, rfl⟩
theorem eqPrim_same (p : Prim) (h : p.ok) (hd : few p.dag.certs ∧ ∀ c ∈ p.dag.certs, fewL c) (hl : few p.late ∧ ∀ c ∈ p.late, fewL c) (hv : few p.votes) (ha : few p.acks) (hm : few p.mine.bats ∧ few p.mine.pars) :
    ACalls Tryz.prog 45 [p.av, p.av] [] (fun av L => av = .d (.bool true) ∧ L = []) := by
  have h1 := eqHeader_ok p.mine p.mine hm
  have h2 := eqNumbers_ok p.acks p.acks ha
  have h3 := eqVotes_same p.votes hv
  have h4 := eqDag_same p.dag hd.1 hd.2
  have h5 := eqCerts_same p.late hl.1 hl.2
  rw [decide_eq_true ⟨rfl, rfl, rfl, rfl⟩] at h1
  rw [decide_eq_true rfl] at h2
  (refine acalls_go ttOk zOk foOk Tryz.func45 rfl Tryz.ntmps45 rfl false rfl ?_); (conv => whnf)
  repeat' (first | (first | ((with_reducible first | apply rd_intro | apply gd_and); (focus ((conv => whnf) <;> first | rfl | (intro K hK; (conv => whnf); first | exact hK | exact z_wrap (by omega) hK))); conv => whnf) | ((with_reducible apply z_wrap); (focus omega); conv => whnf) | ((with_reducible first | apply mt_dec | apply mt_eq | apply mt_ne | apply mt_not | apply mt_any) <;> (intro _; conv => whnf))) | (refine (h1).mono ?_; rintro _ _ ⟨rfl, rfl⟩; (conv => whnf)) | (refine (h2).mono ?_; rintro _ _ ⟨rfl, rfl⟩; (conv => whnf)) | (refine (h3).mono ?_; rintro _ _ ⟨rfl, rfl⟩; (conv => whnf)) | (refine (h4).mono ?_; rintro _ _ ⟨rfl, rfl⟩; (conv => whnf)) | (refine (h5).mono ?_; rintro _ _ ⟨rfl, rfl⟩; (conv => whnf)) | fail)
  all_goals first
    | exact ⟨rfl, rfl⟩
    | (rename_i hx; exact absurd rfl hx)
end Go.Proofs.YtolkmjfkkkiboaaGreat
namespace Go.Proofs.YtolkmjfkkkiboaaGreat
open Go.Ab Go.RowKit Go.MapKept
attribute [local irreducible] ACalls AW ADraw Into fltB fnear
set_option maxRecDepth 100000
theorem eqTxs_e : ACalls Tryz.prog 170 [.d (.sl 4 []), .d (.sl 4 [])] [] (fun av L => av = .d (.bool true) ∧ L = []) := by
  (refine acalls_go ttOk zOk foOk Tryz.func170 rfl Tryz.ntmps170 rfl false rfl ?_); (conv => whnf)
  refine rdw ?_; repeat' ((with_reducible apply tw) <;> intro _)
  refine loop_go ttOk zOk foOk (σ := Unit) (fun _ => ([(0, .d (.sl 4 [])), (1, .d (.sl 4 [])), (5, .d (.int .i64 0))], [])) (fun _ => True) (fun _ => 0) [0, 1, 5] ?_ ?_
  · conv => whnf
    exact ⟨(), rfl, rfl, trivial⟩
  · intro _ _
    conv => whnf
    refine rdw ?_; repeat' ((with_reducible apply tw) <;> intro _)
    exact ⟨rfl, rfl⟩
theorem eqBatch_e (a b : Int) : ACalls Tryz.prog 118 [.agg [.d (.int .i64 a), .d (.int .i64 b), .d (.sl 4 [])], .agg [.d (.int .i64 a), .d (.int .i64 b), .d (.sl 4 [])]] [] (fun av L => av = .d (.bool true) ∧ L = []) := by
  have h1 := eqTxs_e
  (refine acalls_go ttOk zOk foOk Tryz.func118 rfl Tryz.ntmps118 rfl false rfl ?_); (conv => whnf)
  refine rdw ?_; repeat' ((with_reducible apply tw) <;> intro _)
  · (refine (h1).mono ?_; rintro _ _ ⟨rfl, rfl⟩; (conv => whnf))
    exact ⟨rfl, rfl⟩
  all_goals (rename_i hx; exact absurd rfl hx)
theorem eqMsg_same (m : Msg) (hf : m.fine) (ht : m.txs = []) : ACalls Tryz.prog 59 [m.av, m.av] [] (fun av L => av = .d (.bool true) ∧ L = []) := by
  obtain ⟨kind, src, dst, digest, ba, bn, txs, head, cert, digs⟩ := m
  replace ht : txs = [] := ht
  subst ht
  have h1 := eqBatch_e ba bn
  have h2 := eqHeader_same head hf.head
  have h3 := eqCert_same cert hf.cert
  have h4 := eqNumbers_ok digs digs hf.digs
  rw [decide_eq_true rfl] at h4
  (refine acalls_go ttOk zOk foOk Tryz.func59 rfl Tryz.ntmps59 rfl false rfl ?_); (conv => whnf)
  refine rdw ?_; repeat' ((with_reducible apply tw) <;> intro _)
  · (refine (h1).mono ?_; rintro _ _ ⟨rfl, rfl⟩; (conv => whnf))
    refine rdw ?_; repeat' ((with_reducible apply tw) <;> intro _)
    · (refine (h2).mono ?_; rintro _ _ ⟨rfl, rfl⟩; (conv => whnf))
      refine rdw ?_; repeat' ((with_reducible apply tw) <;> intro _)
      · (refine (h3).mono ?_; rintro _ _ ⟨rfl, rfl⟩; (conv => whnf))
        refine rdw ?_; repeat' ((with_reducible apply tw) <;> intro _)
        · (refine (h4).mono ?_; rintro _ _ ⟨rfl, rfl⟩; (conv => whnf))
          exact ⟨rfl, rfl⟩
  all_goals (rename_i hx; exact absurd rfl hx)
theorem msgsD_at {l : List Msg} {i : Nat} {m : Msg} (h : l[i]? = some m) : (msgsD l)[(i : Int).toNat]? = some m.cs := by
  rw [Int.toNat_natCast, msgsD, List.getElem?_map, h]
  rfl
theorem eqMsgs_same (l : List Msg) (hl : few l) (h : ∀ m ∈ l, m.fine ∧ m.txs = []) : ACalls Tryz.prog 61 [.d (.sl 18 (msgsD l)), .d (.sl 18 (msgsD l))] [] (fun av L => av = .d (.bool true) ∧ L = []) := by
  have hcl := msgsD_length l
  unfold few at hl
  (refine acalls_go ttOk zOk foOk Tryz.func61 rfl Tryz.ntmps61 rfl false rfl ?_); (conv => whnf)
  refine rdw ?_; repeat' ((with_reducible apply tw) <;> intro _)
  · rename_i hx; exact absurd rfl hx
  · refine loop_go ttOk zOk foOk (σ := Nat) (fun k => ([(0, .d (.sl 18 (msgsD l))), (1, .d (.sl 18 (msgsD l))), (5, .d (.int .i64 k))], [])) (fun k => k ≤ l.length) (fun k => l.length - k) [0, 1, 5] ?_ ?_
    · conv => whnf
      exact ⟨0, rfl, rfl, by omega⟩
    · intro k hk
      conv => whnf
      rw [hcl]
      refine rdw ?_; repeat' ((with_reducible apply tw) <;> intro _)
      · rename_i hkl
        refine Exists.elim (⟨_, List.getElem?_eq_getElem (by omega)⟩ : ∃ c, l[k]? = some c) fun c hc => ?_
        have hh := h c (List.mem_of_getElem? hc)
        have h1 := eqMsg_same c hh.1 hh.2
        ((with_reducible refine draw_pl ttOk zOk foOk mixedOk pl61x6 ?_ ?_); (focus kernel_rfl); (conv => whnf))
        refine rdw ?_; repeat' ((with_reducible apply tw) <;> intro _)
        ((with_reducible apply rd_intro); (focus (intro K hK; (conv => whnf); exact ⟨by omega, c.cs, msgsD_at hc, hK⟩)); (conv => whnf))
        refine rdw ?_; repeat' ((with_reducible apply tw) <;> intro _)
        ((with_reducible apply rd_intro); (focus (intro K hK; (conv => whnf); exact ⟨by omega, c.cs, msgsD_at hc, hK⟩)); (conv => whnf))
        refine rdw ?_; repeat' ((with_reducible apply tw) <;> intro _)
        refine h1.mono ?_
        rintro _ _ ⟨rfl, rfl⟩
        conv => whnf
        refine rdw ?_; repeat' ((with_reducible apply tw) <;> intro _)
        exact ⟨k + 1, rfl, rfl, by omega, by omega⟩
      · exact ⟨rfl, rfl⟩
structure Msg.nice (m : Msg) : Prop where
  fine : m.fine
  txs : m.txs = []
  fit : m.fitS
theorem tellO_nice {p : Prim} {m : Msg} {no : List Int} {k : Nat} (h : m.nice) : ∀ x ∈ tellO p m no k, x.nice := by
  intro x hx
  obtain ⟨t, _, rfl⟩ := List.mem_map.1 hx
  exact ⟨⟨h.fine.txs, h.fine.head, h.fine.cert, h.fine.digs⟩, h.txs, ⟨h.fit.txs, h.fit.head, h.fit.cert, h.fit.digs⟩⟩
theorem fit_few {c : Cert} (h : c.fitS) : fewL c := ⟨by have := h.bats; unfold few; omega, by have := h.pars; unfold few; omega, by have := h.sigs; unfold few; omega⟩
theorem z_fit : cz0.fitS := ⟨Nat.zero_le _, Nat.zero_le _, Nat.zero_le _⟩
theorem askMsg_nice {q : Prim} (h : q.mine.fitS) : (askMsg q).nice := ⟨⟨Nat.zero_le _, fit_few h, fit_few z_fit, Nat.zero_le _⟩, rfl, ⟨Nat.zero_le _, h, z_fit, Nat.zero_le _⟩⟩
theorem certMsg_nice {c : Cert} (h : c.fitS) : (certMsg c).nice := ⟨⟨Nat.zero_le _, fit_few z_fit, fit_few h, Nat.zero_le _⟩, rfl, ⟨Nat.zero_le _, z_fit, h, Nat.zero_le _⟩⟩
theorem beatS_nice {q : Prim} (hm : q.mine.fitS) (hc : ∀ c ∈ q.dag.certs, c.fitS) : ∀ x ∈ beatS q, x.nice := by
  unfold beatS
  split
  · intro x hx; cases hx
  · intro x hx
    rcases List.mem_append.1 hx with hx | hx
    · unfold beat1 at hx
      split at hx
      · exact tellO_nice (askMsg_nice hm) x hx
      · cases hx
    · unfold beat2 at hx
      split at hx
      · rename_i c hl
        refine tellO_nice (certMsg_nice (hc c ?_)) x hx
        unfold lastBy at hl
        exact List.mem_reverse.1 (List.mem_of_find?_eq_some hl)
      · cases hx
theorem beatS_len (q : Prim) : (beatS q).length ≤ 2 * q.nodes.toNat := by
  unfold beatS
  split
  · exact Nat.zero_le _
  · rw [List.length_append]
    have h1 : (beat1 q).length ≤ q.nodes.toNat := by
      unfold beat1
      split
      · exact tellO_len _ _ _ _
      · exact Nat.zero_le _
    have h2 : (beat2 q).length ≤ q.nodes.toNat := by
      unfold beat2
      split
      · exact tellO_len _ _ _ _
      · exact Nat.zero_le _
    omega
def zP : Prim := ⟨0, 0, 0, 0, 0, cz0, 0, [], [], ⟨0, 0, []⟩, []⟩
def outI (q : Prim) (o : List Msg) (e : Int) : AV := .tup [q.ai 0, .isl 0 (.sl 18 (msgsD o)), .d (.int .i64 e)]
theorem ne_nums (l : List Int) : NoE (nums l) := NoE_map (f := fun x => [DV.int .i64 x]) (fun _ => ⟨trivial, trivial⟩) l
theorem ne_votes (l : List Vote) : NoE (votesD l) := NoE_map (f := Vote.cs) (fun _ => ⟨trivial, trivial, trivial, trivial⟩) l
theorem no_nums (l : List Int) : NoO (.sl 1 (nums l)) := by simp only [NoO]; exact ne_nums l
theorem nc_cert (c : Cert) : NoC c.cs := ⟨trivial, trivial, no_nums _, no_nums _, trivial, no_nums _, trivial⟩
theorem ne_certs (l : List Cert) : NoE (certsD l) := NoE_map nc_cert l
theorem nc_msg {m : Msg} (h : m.txs = []) : NoC m.cs := ⟨trivial, trivial, trivial, trivial, trivial, trivial, by rw [h]; simp only [NoO]; exact trivial, trivial, trivial, no_nums _, no_nums _, trivial, trivial, no_nums _, no_nums _, trivial, no_nums _, no_nums _, trivial⟩
theorem ne_msgs : ∀ {l : List Msg}, (∀ m ∈ l, m.nice) → NoE (msgsD l)
  | [], _ => trivial
  | m :: r, h => ⟨nc_msg (h m (.head _)).txs, ne_msgs fun x hx => h x (.tail _ hx)⟩
theorem isl_int {i : Nat} (n : Int) : Isl i (.d (.int .i64 n)) (.d (.int .i64 n)) := .flat (flat_int _ _)
theorem isl2_prim (i : Nat) (p : Prim) : Isl2 i p.av (p.ai i) := .inr ⟨_, _, rfl, rfl, .cons (isl_int _) (.cons (isl_int _) (.cons (isl_int _) (.cons (isl_int _) (.cons (isl_int _) (.cons (isl_int _) (.cons (isl_int _) (.cons (.sl (ne_nums _)) (.cons (.sl (ne_nums _)) (.cons (isl_int _) (.cons (.sl (ne_nums _)) (.cons (.sl (ne_votes _)) (.cons (isl_int _) (.cons (isl_int _) (.cons (.sl (ne_certs _)) (.cons (.sl (ne_certs _)) .nil)))))))))))))))⟩
theorem isl2_z (i : Nat) : Isl2 i (.agg zPrim) (.agg zPrim) := .inr ⟨_, _, rfl, rfl, .cons (isl_int _) (.cons (isl_int _) (.cons (isl_int _) (.cons (isl_int _) (.cons (isl_int _) (.cons (isl_int _) (.cons (isl_int _) (.cons (.flat flat_nils) (.cons (.flat flat_nils) (.cons (isl_int _) (.cons (.flat flat_nils) (.cons (.flat flat_nils) (.cons (isl_int _) (.cons (isl_int _) (.cons (.flat flat_nils) (.cons (.flat flat_nils) .nil)))))))))))))))⟩
theorem wk_r {L : List AB} (a : AV) : Wk1 L a a := .inl rfl
theorem wk_n {lo n m : Nat} (h : 0 < m) : Wk1 [.isle lo n true] (.d .nils) (.isl 0 (.sl m [])) := .inr ⟨0, lo, n, m, rfl, rfl, h, rfl⟩
open Classical in
theorem tickI_ok (p : Prim) (hok : p.ok) (hm : p.mine.fitS) (hc : ∀ c ∈ p.dag.certs, c.fitS) : ACalls Tryz.prog 52 [p.av] [] (fun av L => ((May p ∧ av = outI (beatP p) (beatS (beatP p)) 0) ∨ (¬ May p ∧ av = outI zP [] 1)) ∧ ∃ lo n, L = [.isle lo n true]) := by
  refine acalls_wk (acalls_isle (X := fun av => (May p ∧ av = doneAV (beatP p) (beatS (beatP p))) ∨ (¬ May p ∧ av = errAV 1)) (post := fun av => (May p ∧ av = outI (beatP p) (beatS (beatP p)) 0) ∨ (¬ May p ∧ av = .tup [.agg zPrim, .isl 0 (.sl 18 []), .d (.int .i64 1)])) (.cons (lendO_prim [] p) .nil) (tickO_ok p hok) ?_) ?_
  · rintro _ (⟨k, rfl⟩ | ⟨k, rfl⟩)
    · exact ⟨_, .inr ⟨_, _, rfl, rfl, .cons (isl2_prim _ _) (.cons (.inl (.sl (ne_msgs (beatS_nice (q := beatP p) hm hc)))) (.cons (.inl (isl_int _)) .nil))⟩, .inl ⟨k, rfl⟩⟩
    · exact ⟨_, .inr ⟨_, _, rfl, rfl, .cons (isl2_z _) (.cons (.inl (.sl trivial)) (.cons (.inl (isl_int _)) .nil))⟩, .inr ⟨k, rfl⟩⟩
  · rintro _ _ ⟨⟨k, rfl⟩ | ⟨k, rfl⟩, lo, n, rfl⟩
    · exact ⟨_, .inl (.inl (wk_r _)), .inl ⟨k, rfl⟩, lo, n, rfl⟩
    · refine ⟨_, .inr ⟨_, _, rfl, rfl, .cons (.inr ⟨_, _, rfl, rfl, ?_⟩) (.cons (.inl (wk_r _)) (.cons (.inl (wk_r _)) .nil))⟩, .inr ⟨k, rfl⟩, lo, n, rfl⟩
      exact .cons (wk_r _) (.cons (wk_r _) (.cons (wk_r _) (.cons (wk_r _) (.cons (wk_r _) (.cons (wk_r _) (.cons (wk_r _) (.cons (wk_n (by decide)) (.cons (wk_n (by decide)) (.cons (wk_r _) (.cons (wk_n (by decide)) (.cons (wk_n (by decide)) (.cons (wk_r _) (.cons (wk_r _) (.cons (wk_n (by decide)) (.cons (wk_n (by decide)) .nil)))))))))))))))
theorem l1_isl {i lo n : Nat} {L : List AB} (h : L[i]? = some (.isle lo n true)) (x : DV) : lend1 L (.isl i x) (.d x) := .inr (.inr (.inr (.inr (.inr ⟨i, x, x, lo, n, rfl, h, rfl, .refl _⟩))))
theorem lend_ai {i lo n : Nat} {L : List AB} (h : L[i]? = some (.isle lo n true)) (p : Prim) : lend2 L (p.ai i) p.av := .inr ⟨_, _, rfl, rfl, lendS_c (l1_int _) (lendS_c (l1_int _) (lendS_c (l1_int _) (lendS_c (l1_int _) (lendS_c (l1_int _) (lendS_c (l1_int _) (lendS_c (l1_int _) (lendS_c (l1_isl h _) (lendS_c (l1_isl h _) (lendS_c (l1_int _) (lendS_c (l1_isl h _) (lendS_c (l1_isl h _) (lendS_c (l1_int _) (lendS_c (l1_int _) (lendS_c (l1_isl h _) (lendS_c (l1_isl h _) lendS_n)))))))))))))))⟩
theorem l1_d {L : List AB} (x : DV) : lend1 L (.d x) (.d x) := .inl ⟨_, rfl, rfl⟩
theorem lend_av {L : List AB} (p : Prim) : lend2 L p.av p.av := .inr ⟨_, _, rfl, rfl, lendS_c (l1_d _) (lendS_c (l1_d _) (lendS_c (l1_d _) (lendS_c (l1_d _) (lendS_c (l1_d _) (lendS_c (l1_d _) (lendS_c (l1_d _) (lendS_c (l1_d _) (lendS_c (l1_d _) (lendS_c (l1_d _) (lendS_c (l1_d _) (lendS_c (l1_d _) (lendS_c (l1_d _) (lendS_c (l1_d _) (lendS_c (l1_d _) (lendS_c (l1_d _) lendS_n)))))))))))))))⟩
theorem c0_ok : cz0.ok := ⟨i64_0, i64_0, ⟨Nat.zero_le _, fun _ h => by cases h⟩, ⟨Nat.zero_le _, fun _ h => by cases h⟩, i64_0, ⟨Nat.zero_le _, fun _ h => by cases h⟩⟩
theorem zP_ok : zP.ok := ⟨c0_ok, Nat.zero_le _, Nat.zero_le _, Nat.zero_le _, ⟨i64_0, i64_0, Nat.zero_le _, fun _ h => by cases h⟩, ⟨Nat.zero_le _, fun _ h => by cases h⟩⟩
theorem eqPI_ok (p : Prim) (h : p.ok) (hd : few p.dag.certs ∧ ∀ c ∈ p.dag.certs, fewL c) (hl : few p.late ∧ ∀ c ∈ p.late, fewL c) (hv : few p.votes) (ha : few p.acks) (hm : few p.mine.bats ∧ few p.mine.pars) (lo n : Nat) :
    ACalls Tryz.prog 45 [p.ai 0, p.av] [.isle lo n true] (fun av L => av = .d (.bool true) ∧ L = [.isle lo n true]) :=
  acalls_lend (flat_bool _) ⟨_, _, rfl, lend_ai rfl p, _, _, rfl, lend_av p, rfl⟩ (eqPrim_same p h hd hl hv ha hm)
def zRow (k : Nat) : List AV := [.d (.int .i64 0), .d (.int .i64 0), .d (.int .i64 0), .d (.int .i64 0), .d (.int .i64 0), .d (.int .i64 0), .d (.int .i64 0), .arr (k + 1), .arr (k + 2), .d (.int .i64 0), .arr (k + 3), .arr (k + 4), .d (.int .i64 0), .d (.int .i64 0), .arr (k + 5), .arr (k + 6)]
def zRows : List AB := [.row 3 1 [] false, .row 3 1 [] false, .row 3 1 [] false, .row 106 3 [] false, .row 47 6 [] false, .row 47 6 [] false]
theorem l1_row {i e n : Nat} {xs : List (List DV)} {sh : Bool} {L : List AB} (h : L[i]? = some (.row e n xs sh)) : lend1 L (.arr i) (.d (.sl n xs)) := .inr (.inl ⟨i, e, n, xs, sh, rfl, h, rfl⟩)
theorem eqPZ_ok (lo n : Nat) : ACalls Tryz.prog 45 [zP.ai 0, .agg (zRow 0)] (.isle lo n true :: zRows) (fun av L => av = .d (.bool true) ∧ L = .isle lo n true :: zRows) :=
  acalls_lend (flat_bool _) ⟨_, _, rfl, lend_ai rfl zP, _, _, rfl, .inr ⟨_, _, rfl, rfl, lendS_c (l1_d _) (lendS_c (l1_d _) (lendS_c (l1_d _) (lendS_c (l1_d _) (lendS_c (l1_d _) (lendS_c (l1_d _) (lendS_c (l1_d _) (lendS_c (l1_row rfl) (lendS_c (l1_row rfl) (lendS_c (l1_d _) (lendS_c (l1_row rfl) (lendS_c (l1_row rfl) (lendS_c (l1_d _) (lendS_c (l1_d _) (lendS_c (l1_row rfl) (lendS_c (l1_row rfl) lendS_n)))))))))))))))⟩, rfl⟩ (eqPrim_same zP zP_ok ⟨Nat.zero_le _, fun _ h => by cases h⟩ ⟨Nat.zero_le _, fun _ h => by cases h⟩ (Nat.zero_le _) (Nat.zero_le _) ⟨Nat.zero_le _, Nat.zero_le _⟩)
theorem eqMI_ok (l : List Msg) (hl : few l) (h : ∀ m ∈ l, m.nice) (lo n : Nat) : ACalls Tryz.prog 61 [.isl 0 (.sl 18 (msgsD l)), .arr 1] [.isle lo n true, .row 49 18 (msgsD l) false]
    (fun av L => av = .d (.bool true) ∧ L = [.isle lo n true, .row 49 18 (msgsD l) false]) :=
  acalls_lend (flat_bool _) ⟨_, _, rfl, .inl (l1_isl rfl _), _, _, rfl, .inl (.inr (.inl ⟨1, _, _, _, _, rfl, rfl, rfl⟩)), rfl⟩ (eqMsgs_same l hl fun m hm => ⟨(h m hm).fine, (h m hm).txs⟩)
theorem zP_fit : zP.fitS := ⟨Nat.zero_le _, Nat.zero_le _, Nat.zero_le _, Nat.zero_le _, ⟨Nat.zero_le _, fun _ h => by cases h⟩, ⟨Nat.zero_le _, fun _ h => by cases h⟩⟩
end Go.Proofs.YtolkmjfkkkiboaaGreat
