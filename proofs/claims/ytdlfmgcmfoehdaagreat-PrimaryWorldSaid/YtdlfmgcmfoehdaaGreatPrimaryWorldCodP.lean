/- PrimaryWorld: for every argument the law returns true, and its argument reads behind the call as it read before. No condition of ours. -/
import Derived.Test.YtdlfmgcmfoehdaaGreatPrimaryWorldCodO
import Derived.Test.YtdlfmgcmfoehdaaGreatRows
set_option linter.unusedVariables false
set_option linter.unusedSimpArgs false
namespace Go.Proofs.YtdlfmgcmfoehdaaGreat
open Go.Ab Go.RowKit Go.MapKept
attribute [local irreducible] ACalls AW ADraw Into fltB fnear
set_option maxRecDepth 100000
theorem end_good {n : Int} {N : Net} (hI : Inv n N) {i k : Nat} {p : Prim} {c : Cert} (hp : N.ps[i]? = some p) (hc : p.dag.certs[k]? = some c) : GoodC n (votedN N.ps) N.book c := (hI.ps i p hp).good.dag c (List.mem_of_getElem? hc)
theorem end_book {n : Int} {N : Net} (hI : Inv n N) {c : Cert} (g : GoodC n (votedN N.ps) N.book c) : ∃ h, N.book[(c.digest - 1).toNat]? = some h ∧ 1 ≤ c.digest ∧ c.digest ≤ N.book.length ∧ (h.author = c.author ∧ h.round = c.round ∧ h.bats = c.bats ∧ h.pars = c.pars) ∧ few h.bats ∧ few h.pars := by
  obtain ⟨h, h1, h2⟩ := g.book
  obtain ⟨a, b, m⟩ := look_some h1
  have hnn := of_decide_eq_true hI.isn
  unfold look at h1
  rw [if_pos a] at h1
  have hp := g.ok.head.pars.1
  refine ⟨h, h1, a, b, ⟨h2.author, h2.round, h2.bats, h2.pars⟩, ?_, ?_⟩
  · rw [hI.book h m]
    exact Nat.zero_le _
  · rw [h2.pars]
    unfold few
    omega
theorem end_at {n : Int} {N : Net} (hI : Inv n N) {c : Cert} (g : GoodC n (votedN N.ps) N.book c) {j : Nat} {q : Prim} (hq : N.ps[j]? = some q) : atI q.dag.certs c.round c.author = -1 ∨ ∃ (m : Nat) (x : Cert), atI q.dag.certs c.round c.author = (m : Int) ∧ q.dag.certs[m]? = some x ∧ x.digest = c.digest := by
  unfold atI
  cases h : atX q.dag.certs c.round c.author with
  | none => exact .inl rfl
  | some m =>
    unfold atX at h
    rw [List.findIdx?_eq_some_iff_getElem] at h
    obtain ⟨h1, h2, _⟩ := h
    have h2 := of_decide_eq_true h2
    have hx : q.dag.certs[m]? = some q.dag.certs[m] := List.getElem?_eq_getElem h1
    exact .inr ⟨m, _, rfl, hx, cert_one hI (end_good hI hq hx) g h2.1 h2.2⟩
theorem end_sig {n : Int} {N : Net} {c : Cert} (g : GoodC n (votedN N.ps) N.book c) {j : Nat} {s : Int} (hs : c.sigs[j]? = some s) : 1 ≤ s ∧ s ≤ n ∧ ∃ q, N.ps[(s - 1).toNat]? = some q ∧ (⟨c.round, c.author, c.digest⟩ : Vote) ∈ q.votes := by
  have hm := List.mem_of_getElem? hs
  obtain ⟨q, h1, h2, h3⟩ := g.sigs s hm
  exact ⟨h1, (g.ok.sigs.2 s hm).2, q, h2, h3⟩
theorem end_lens {n : Int} {N : Net} (hI : Inv n N) {i : Nat} {p : Prim} (hp : N.ps[i]? = some p) : p.dag.certs.length ≤ 65536 ∧ p.votes.length ≤ 65536 := by
  have hm := (hI.ps i p hp).good.may
  have h1 := hm.dag.len
  have h2 := hm.votes.len
  exact ⟨by omega, by omega⟩
structure Fate where
  act : Int
  node : Int
  k : Int
def Fate.cs (f : Fate) : List DV := [.int .i64 f.act, .int .i64 f.node, .int .i64 f.k]
def fatesD (l : List Fate) : List (List DV) := l.map Fate.cs
theorem fatesD_length (l : List Fate) : (fatesD l).length = l.length := List.length_map ..
def i64B (x : Int) : Prop := -9223372036854775808 ≤ x ∧ x < 9223372036854775808
def wldSt (q : List AV) (n : Int) (s : Nat) (N : Net) (i : Int) : AF × List AB :=
  ([(1, .ptr 0 0), (3, .d (.int .i64 n)), (4, .ptr 1 0), (s, .d (.int .i64 i))], [.cells q, .cells [.arr 2, .arr 3, .arr 4], .row 30 16 (primsD N.ps) false, .row 49 18 (msgsD N.way) false, .row 24 4 (headsD N.book) false])
def eiSt (n : Int) (N : Net) (i : Nat) : AF × List AB := ([(3, .d (.int .i64 n)), (4, .ptr 0 0), (10, .d (.int .i64 i))], N.L)
def ekSt (n : Int) (N : Net) (i k : Nat) : AF × List AB := ([(3, .d (.int .i64 n)), (4, .ptr 0 0), (10, .d (.int .i64 i)), (11, .d (.int .i64 k))], N.L)
def ecL (N : Net) (c : Cert) : List AB := [.cells [.arr 2, .arr 3, .arr 4], .cells c.cells, .row 30 16 (primsD N.ps) false, .row 49 18 (msgsD N.way) false, .row 24 4 (headsD N.book) false]
def ejSt (n : Int) (N : Net) (c : Cert) (i k : Nat) (s j : Nat) : AF × List AB := ([(3, .d (.int .i64 n)), (4, .ptr 0 0), (10, .d (.int .i64 i)), (11, .d (.int .i64 k)), (12, .ptr 1 0), (s, .d (.int .i64 j))], ecL N c)
def evSt (n : Int) (N : Net) (c : Cert) (i k j : Nat) (s : Int) (b : Bool) (v : Nat) : AF × List AB := ([(3, .d (.int .i64 n)), (4, .ptr 0 0), (10, .d (.int .i64 i)), (11, .d (.int .i64 k)), (12, .ptr 1 0), (15, .d (.int .i64 j)), (16, .d (.int .i64 s)), (17, .d (.bool b)), (18, .d (.int .i64 v))], ecL N c)
set_option maxHeartbeats 16000000 in
open Classical in
theorem primaryWorld_ok (x : Int) (hx : i64B x) (l : List Fate) (hl : ∀ f ∈ l, i64B f.act ∧ i64B f.node ∧ i64B f.k) :
    ACalls Tryz.prog 5 [.agg [.d (.int .i64 x), .d (.sl 3 (fatesD l))]] [] (fun av L => av = .d (.bool true) ∧ L = []) := by
  have hfl := fatesD_length l
  have w1 := within_ok x 3 (by decide) (by decide) hx
  refine acalls_go ttOk zOk foOk Tryz.func5 rfl Tryz.ntmps5 rfl false rfl ?_
  conv => whnf
  refine rdw ?_; repeat' ((with_reducible apply tw) <;> intro _)
  (refine (w1).mono ?_; rintro _ _ ⟨rfl, rfl⟩; (conv => whnf))
  obtain ⟨i, hi⟩ : ∃ i : Nat, x % 18446744073709551616 % 3 = (i : Int) := ⟨(x % 18446744073709551616 % 3).toNat, by omega⟩
  have hi3 : i < 3 := by omega
  rw [hi]
  obtain ⟨n, hn, hin⟩ : ∃ n : Int, ([[DV.int .i64 1], [DV.int .i64 4], [DV.int .i64 7]] : List (List DV))[(i : Int).toNat]? = some [.int .i64 n] ∧ isN n = true := by
    rw [Int.toNat_natCast]
    rcases (show i = 0 ∨ i = 1 ∨ i = 2 by omega) with h | h | h
    · subst h
      exact ⟨1, rfl, by decide⟩
    · subst h
      exact ⟨4, rfl, by decide⟩
    · subst h
      exact ⟨7, rfl, by decide⟩
  have hnn := of_decide_eq_true hin
  refine rdw ?_; repeat' ((with_reducible apply tw) <;> intro _)
  refine ⟨by omega, by show (i : Int).toNat < 3; omega, ?_⟩
  conv => whnf
  refine rdw ?_; repeat' ((with_reducible apply tw) <;> intro _)
  refine ⟨[.int .i64 n], hn, ?_⟩
  conv => whnf
  refine rdw ?_; repeat' ((with_reducible apply tw) <;> intro _)
  · exact ⟨rfl, rfl⟩
  refine loop_go ttOk zOk foOk (σ := Nat) (fun i => wldSt [.d (.int .i64 x), .d (.sl 3 (fatesD l))] n 5 ⟨newsP n i, [], []⟩ ((i : Int) + 1)) (fun i => (i : Int) ≤ n) (fun i => n.toNat - i) [1, 3, 4, 5] ?_ ?_
  · conv => whnf
    exact ⟨0, rfl, rfl, show (0 : Int) ≤ n by omega⟩
  · intro i hin2
    have hpl := primsD_length (newsP n i)
    have hnl := newsP_len n i
    conv => whnf
    refine rdw ?_; repeat' ((with_reducible apply tw) <;> intro _)
    · rename_i hle
      replace hle : (i : Int) + 1 ≤ n := hle
      have hnew := new_ok ((i : Int) + 1) n hin ⟨by omega, hle⟩
      (refine (hnew).mono ?_; rintro _ _ ⟨rfl, rfl⟩; (conv => whnf))
      refine rdw ?_; repeat' ((with_reducible apply tw) <;> intro _)
      (refine (num20_ok 0).mono ?_; rintro _ _ ⟨rfl, rfl⟩; (conv => whnf))
      refine rdw ?_; repeat' ((with_reducible apply tw) <;> intro _)
      ((with_reducible refine draw_pl ttOk zOk foOk mixedOk pl5x11 ?_ ?_); (focus kernel_rfl); (conv => whnf))
      refine rdw ?_; repeat' ((with_reducible apply tw) <;> intro _)
      refine ⟨by show ((primsD (newsP n i)).length + 1) * 224 ≤ _; omega, ?_⟩
      conv => whnf
      refine rdw ?_; repeat' ((with_reducible apply tw) <;> intro _)
      exact ⟨i + 1, rfl, by unfold wldSt; rw [newsP_succ]; unfold primsD; rw [List.map_append]; rfl, (show ((i + 1 : Nat) : Int) ≤ n by omega), (show n.toNat - (i + 1) < n.toNat - i by omega)⟩
    · rename_i hle
      replace hle : ¬ (i : Int) + 1 ≤ n := hle
      have hie : i = n.toNat := by omega
      have hI0 := inv_new hin
      rw [← hie] at hI0
      refine loop_go2 ttOk zOk foOk (σ := Net) (ρ := Nat) (fun N i => wldSt [.d (.int .i64 x), .d (.sl 3 (fatesD l))] n 8 N i) (fun N i => (i : Int) ≤ n ∧ Inv n N ∧ N.book.length ≤ i ∧ N.way.length ≤ 32 * i) (fun _ i => n.toNat - i) [1, 3, 4, 8] ?_ ?_
      · conv => whnf
        exact ⟨⟨newsP n i, [], []⟩, 0, rfl, rfl, (show (0 : Int) ≤ n by omega), hI0, Nat.le_refl 0, Nat.le_refl 0⟩
      · rintro N j ⟨hj, hI, hb, hw⟩
        have hil := hI.len
        conv => whnf
        refine rdw ?_; repeat' ((with_reducible apply tw) <;> intro _)
        · rename_i hlt
          replace hlt : (j : Int) < n := hlt
          obtain ⟨p, hp⟩ : ∃ p, N.ps[j]? = some p := ⟨_, List.getElem?_eq_getElem (by omega)⟩
          have hpr := proposes_ok hI (by omega) (by omega) hp
          have hsl := sayO_len (hI.ps j p hp).good.may.isn (headC p []) ((N.book.length : Int) + 1)
          refine hpr.mono ?_
          rintro _ _ ⟨rfl, ⟨hr, rfl⟩ | ⟨hr, rfl⟩⟩
          · conv => whnf
            refine rdw ?_; repeat' ((with_reducible apply tw) <;> intro _)
            exact ⟨N, j + 1, rfl, rfl, ⟨(show ((j + 1 : Nat) : Int) ≤ n by omega), hI, (show N.book.length ≤ j + 1 by omega), (show N.way.length ≤ 32 * (j + 1) by omega)⟩, (show n.toNat - (j + 1) < n.toNat - j by omega)⟩
          · conv => whnf
            refine rdw ?_; repeat' ((with_reducible apply tw) <;> intro _)
            refine ⟨propN N j p, j + 1, rfl, rfl, ⟨(show ((j + 1 : Nat) : Int) ≤ n by omega), inv_prop hI (by omega) hp hr, ?_, ?_⟩, (show n.toNat - (j + 1) < n.toNat - j by omega)⟩
            · show (N.book ++ [headC p []]).length ≤ j + 1
              rw [List.length_append, List.length_singleton]
              omega
            · show (N.way ++ sayO p (headC p []) ((N.book.length : Int) + 1)).length ≤ 32 * (j + 1)
              rw [List.length_append]
              omega
        · rename_i hge
          replace hge : ¬ (j : Int) < n := hge
          refine loop_out2 ttOk zOk foOk (σ := Net) (ρ := Nat) (τ := Net) (fun N i => wldSt [.d (.int .i64 x), .d (.sl 3 (fatesD l))] n 9 N i) (fun N i => i ≤ l.length ∧ Inv n N ∧ N.book.length ≤ 200 ∧ N.way.length ≤ 2128) (fun _ i => l.length - i) [1, 3, 4, 9] 4 (fun N => ([(3, .d (.int .i64 n)), (4, .ptr 0 0)], N.L)) (fun N => Inv n N ∧ N.book.length ≤ 200) [3, 4] ?_ ?_ ?_
          · conv => whnf
            exact ⟨N, 0, rfl, rfl, Nat.zero_le _, hI, (show N.book.length ≤ 200 by omega), (show N.way.length ≤ 2128 by omega)⟩
          · clear hI hb hw hj hge hil
            clear N j
            rintro N ⟨hI, hb⟩
            have hil := hI.len
            have hpl := primsD_length N.ps
            have hbl := headsD_length N.book
            conv => whnf
            refine loop_go ttOk zOk foOk (σ := Nat) (eiSt n N) (fun i => (i : Int) ≤ n) (fun i => n.toNat - i) [3, 4, 10] ?_ ?_
            · conv => whnf
              exact ⟨0, rfl, rfl, show (0 : Int) ≤ n by omega⟩
            · intro i hi
              conv => whnf
              refine rdw ?_; repeat' ((with_reducible apply tw) <;> intro _)
              · rename_i hlt
                replace hlt : (i : Int) < n := hlt
                obtain ⟨p, hp⟩ : ∃ p, N.ps[i]? = some p := ⟨_, List.getElem?_eq_getElem (by omega)⟩
                obtain ⟨m1, m2⟩ := end_lens hI hp
                have hcl := certsD_length p.dag.certs
                refine loop_go ttOk zOk foOk (σ := Nat) (ekSt n N i) (fun k => k ≤ p.dag.certs.length) (fun k => p.dag.certs.length - k) [3, 4, 10, 11] ?_ ?_
                · conv => whnf
                  exact ⟨0, rfl, rfl, Nat.zero_le _⟩
                · intro k hk
                  conv => whnf
                  refine rdw ?_; repeat' ((with_reducible apply tw) <;> intro _)
                  refine ⟨by omega, by omega, ?_⟩
                  conv => whnf
                  refine rdw ?_; repeat' ((with_reducible apply tw) <;> intro _)
                  refine ⟨p.cs, primsD_at hp, ?_⟩
                  conv => whnf
                  refine rdw ?_; repeat' ((with_reducible apply tw) <;> intro _)
                  · rename_i hkl
                    replace hkl : (k : Int) < ((certsD p.dag.certs).length : Int) := hkl
                    refine Exists.elim (⟨_, List.getElem?_eq_getElem (by omega)⟩ : ∃ c, p.dag.certs[k]? = some c) fun c hc => ?_
                    have hg := end_good hI hp hc
                    refine Exists.elim (end_book hI hg) fun h hh => ?_
                    have h1 := hh.2.1
                    have h2 := hh.2.2.1
                    have heq := eqHeader_ok h c hh.2.2.2.2
                    rw [decide_eq_true hh.2.2.2.1] at heq
                    refine ⟨by omega, by omega, ?_⟩
                    conv => whnf
                    refine rdw ?_; repeat' ((with_reducible apply tw) <;> intro _)
                    refine ⟨p.cs, primsD_at hp, ?_⟩
                    conv => whnf
                    refine rdw ?_; repeat' ((with_reducible apply tw) <;> intro _)
                    refine ⟨by omega, c.cs, certsD_at hc, ?_⟩
                    conv => whnf
                    refine rdw ?_; repeat' ((with_reducible apply tw) <;> intro _)
                    ((with_reducible refine draw_pl ttOk zOk foOk mixedOk pl5x29 ?_ ?_); (focus kernel_rfl); (conv => whnf))
                    refine rdw ?_; repeat' ((with_reducible apply tw) <;> intro _)
                    · rename_i hgt
                      replace hgt : ((headsD N.book).length : Int) < c.digest := hgt
                      exfalso
                      omega
                    · have hhd : (headsD N.book)[(c.digest - 1).toNat]? = some h.hcs := by rw [headsD, List.getElem?_map, hh.1]; rfl
                      repeat' (first | (first | ((with_reducible first | apply rd_intro | apply gd_and); (focus ((conv => whnf) <;> first | rfl | (intro K hK; (conv => whnf); first | exact hK | exact z_wrap (by omega) hK))); conv => whnf) | ((with_reducible apply z_wrap); (focus omega); conv => whnf) | ((with_reducible first | apply mt_dec | apply mt_eq | apply mt_ne | apply mt_not | apply mt_any) <;> (intro _; conv => whnf))) | ((with_reducible apply rd_intro); (focus (intro K hK; (conv => whnf); exact ⟨by omega, by omega, hK⟩)); (conv => whnf)) | ((with_reducible apply rd_intro); (focus (intro K hK; (conv => whnf); exact ⟨h.hcs, hhd, hK⟩)); (conv => whnf)) | ((with_reducible apply rd_intro); (focus (intro K hK; (conv => whnf); refine heq.mono ?_; rintro _ _ ⟨rfl, rfl⟩; (conv => whnf); exact hK)); (conv => whnf)))
                      (refine (heq).mono ?_; rintro _ _ ⟨rfl, rfl⟩; (conv => whnf))
                      refine rdw ?_; repeat' ((with_reducible apply tw) <;> intro _)
                      refine loop_go ttOk zOk foOk (σ := Nat) (ejSt n N c i k 13) (fun j => (j : Int) ≤ n) (fun j => n.toNat - j) [3, 4, 10, 11, 12, 13] ?_ ?_
                      · conv => whnf
                        exact ⟨0, rfl, rfl, show (0 : Int) ≤ n by omega⟩
                      · intro j hj
                        conv => whnf
                        refine rdw ?_; repeat' ((with_reducible apply tw) <;> intro _)
                        · rename_i hjn
                          replace hjn : (j : Int) < n := hjn
                          refine Exists.elim (⟨_, List.getElem?_eq_getElem (by omega)⟩ : ∃ q, N.ps[j]? = some q) fun q hq => ?_
                          have q1 := (end_lens hI hq).1
                          have qcl := certsD_length q.dag.certs
                          have hat := rAt_ok q.dag (by unfold few; omega) c.round c.author
                          ((with_reducible refine draw_pl ttOk zOk foOk mixedOk pl5x34 ?_ ?_); (focus kernel_rfl); (conv => whnf))
                          repeat' (first | (first | ((with_reducible first | apply rd_intro | apply gd_and); (focus ((conv => whnf) <;> first | rfl | (intro K hK; (conv => whnf); first | exact hK | exact z_wrap (by omega) hK))); conv => whnf) | ((with_reducible apply z_wrap); (focus omega); conv => whnf) | ((with_reducible first | apply mt_dec | apply mt_eq | apply mt_ne | apply mt_not | apply mt_any) <;> (intro _; conv => whnf))) | ((with_reducible apply rd_intro); (focus (intro K hK; (conv => whnf); exact ⟨by omega, by omega, hK⟩)); (conv => whnf)) | ((with_reducible apply rd_intro); (focus (intro K hK; (conv => whnf); exact ⟨q.cs, primsD_at hq, hK⟩)); (conv => whnf)))
                          refine Or.elim (end_at hI hg hq) (fun e => ?_) (fun e => ?_)
                          · rw [e] at hat
                            (refine (hat).mono ?_; rintro _ _ ⟨rfl, rfl⟩; (conv => whnf))
                            refine rdw ?_; repeat' ((with_reducible apply tw) <;> intro _)
                            ((with_reducible refine draw_pl ttOk zOk foOk mixedOk pl5x35 ?_ ?_); (focus kernel_rfl); (conv => whnf))
                            refine rdw ?_; repeat' ((with_reducible apply tw) <;> intro _)
                            exact ⟨j + 1, rfl, rfl, (show ((j + 1 : Nat) : Int) ≤ n by omega), (show n.toNat - (j + 1) < n.toNat - j by omega)⟩
                          · refine Exists.elim e fun m e => Exists.elim e fun y e => ?_
                            have e2 := e.2.1
                            have e3 := e.2.2
                            have e4 := (List.getElem?_eq_some_iff.1 e2).1
                            rw [e.1] at hat
                            (refine (hat).mono ?_; rintro _ _ ⟨rfl, rfl⟩; (conv => whnf))
                            refine rdw ?_; repeat' ((with_reducible apply tw) <;> intro _)
                            ((with_reducible refine draw_pl ttOk zOk foOk mixedOk pl5x35 ?_ ?_); (focus kernel_rfl); (conv => whnf))
                            repeat' (first | (first | ((with_reducible first | apply rd_intro | apply gd_and); (focus ((conv => whnf) <;> first | rfl | (intro K hK; (conv => whnf); first | exact hK | exact z_wrap (by omega) hK))); conv => whnf) | ((with_reducible apply z_wrap); (focus omega); conv => whnf) | ((with_reducible first | apply mt_dec | apply mt_eq | apply mt_ne | apply mt_not | apply mt_any) <;> (intro _; conv => whnf))) | ((with_reducible apply rd_intro); (focus (intro K hK; (conv => whnf); exact ⟨by omega, by omega, hK⟩)); (conv => whnf)) | ((with_reducible apply rd_intro); (focus (intro K hK; (conv => whnf); exact ⟨q.cs, primsD_at hq, hK⟩)); (conv => whnf)) | ((with_reducible apply rd_intro); (focus (intro K hK; (conv => whnf); exact ⟨by omega, y.cs, certsD_at e2, hK⟩)); (conv => whnf)) | ((with_reducible apply rd_intro); (focus (intro K hK; (conv => whnf); exact ix_map e2 (by first | rfl | omega) hK)); (conv => whnf)))
                            all_goals first
                              | exact ⟨j + 1, rfl, rfl, (show ((j + 1 : Nat) : Int) ≤ n by omega), (show n.toNat - (j + 1) < n.toNat - j by omega)⟩
                              | exact absurd e3 (by assumption)
                        · rename_i hjn
                          clear hjn hj heq
                          have hsl : (nums c.sigs).length = c.sigs.length := List.length_map ..
                          refine loop_go ttOk zOk foOk (σ := Nat) (ejSt n N c i k 15) (fun j => j ≤ c.sigs.length) (fun j => c.sigs.length - j) [3, 4, 10, 11, 12, 15] ?_ ?_
                          · conv => whnf
                            exact ⟨0, rfl, rfl, Nat.zero_le _⟩
                          · clear j
                            intro j hj
                            conv => whnf
                            refine rdw ?_; repeat' ((with_reducible apply tw) <;> intro _)
                            · rename_i hjl
                              replace hjl : (j : Int) < ((nums c.sigs).length : Int) := hjl
                              refine Exists.elim (⟨_, List.getElem?_eq_getElem (by omega)⟩ : ∃ s, c.sigs[j]? = some s) fun s hs => ?_
                              have hsg := end_sig hg hs
                              refine Exists.elim hsg.2.2 fun q hq => ?_
                              have s1 := hsg.1
                              have s2 := hsg.2.1
                              have hqq := hq.2
                              have q3 : few c.sigs := (certFew_of hI.isn hg.ok).sigs
                              unfold few at q3
                              have hqs : (primsD N.ps)[(s - 1).toNat]? = some q.cs := by rw [primsD, List.getElem?_map, hq.1]; rfl
                              have hvl := votesD_length q.votes
                              have q2 := (end_lens hI hq.1).2
                              refine ⟨by omega, [.int .i64 s], by rw [Int.toNat_natCast, nums, List.getElem?_map, hs]; rfl, ?_⟩
                              conv => whnf
                              refine rdw ?_; repeat' ((with_reducible apply tw) <;> intro _)
                              refine loop_go2 ttOk zOk foOk (σ := Bool) (ρ := Nat) (evSt n N c i k j s) (fun b v => v ≤ q.votes.length ∧ ((⟨c.round, c.author, c.digest⟩ : Vote) ∈ q.votes.take v → b = true)) (fun _ v => q.votes.length - v) [3, 4, 10, 11, 12, 15, 16, 17, 18] ?_ ?_
                              · conv => whnf
                                exact ⟨false, 0, rfl, rfl, Nat.zero_le _, fun h => by simp at h⟩
                              · rintro b v ⟨hv, hb2⟩
                                conv => whnf
                                refine rdw ?_; repeat' ((with_reducible apply tw) <;> intro _)
                                rotate_left
                                all_goals first
                                  | (exfalso; omega)
                                  | skip
                                refine ⟨by omega, by omega, ?_⟩
                                conv => whnf
                                refine rdw ?_; repeat' ((with_reducible apply tw) <;> intro _)
                                refine ⟨q.cs, hqs, ?_⟩
                                conv => whnf
                                refine rdw ?_; repeat' ((with_reducible apply tw) <;> intro _)
                                · rename_i hvl2
                                  replace hvl2 : (v : Int) < ((votesD q.votes).length : Int) := hvl2
                                  refine Exists.elim (⟨_, List.getElem?_eq_getElem (by omega)⟩ : ∃ y, q.votes[v]? = some y) fun y hy => ?_
                                  have hsn : ∀ b', (b = true → b' = true) → (y = ⟨c.round, c.author, c.digest⟩ → b' = true) → (⟨c.round, c.author, c.digest⟩ : Vote) ∈ q.votes.take (v + 1) → b' = true := fun b' h1 h2 h3 => by
                                    rw [List.take_add_one, hy] at h3
                                    rcases List.mem_append.1 h3 with h3 | h3
                                    · exact h1 (hb2 h3)
                                    · simp at h3; exact h2 h3.symm
                                  ((with_reducible refine draw_pl ttOk zOk foOk mixedOk pl5x45 ?_ ?_); (focus kernel_rfl); (conv => whnf))
                                  · repeat' (first | (first | ((with_reducible first | apply rd_intro | apply gd_and); (focus ((conv => whnf) <;> first | rfl | (intro K hK; (conv => whnf); first | exact hK | exact z_wrap (by omega) hK))); conv => whnf) | ((with_reducible apply z_wrap); (focus omega); conv => whnf) | ((with_reducible first | apply mt_dec | apply mt_eq | apply mt_ne | apply mt_not | apply mt_any) <;> (intro _; conv => whnf))) | ((with_reducible apply rd_intro); (focus (intro K hK; (conv => whnf); exact ⟨by omega, by omega, hK⟩)); (conv => whnf)) | ((with_reducible apply rd_intro); (focus (intro K hK; (conv => whnf); exact ⟨q.cs, hqs, hK⟩)); (conv => whnf)) | ((with_reducible apply rd_intro); (focus (intro K hK; (conv => whnf); exact ix_map hy (by first | rfl | omega) hK)); (conv => whnf)))
                                    all_goals first
                                      | exact ⟨true, v + 1, rfl, rfl, ⟨by omega, fun _ => rfl⟩, by omega⟩
                                      | (((with_reducible apply rd_intro); (focus (intro K hK; (conv => whnf); exact ⟨eqVote_ok, hK⟩)); (conv => whnf))
                                         refine rdw ?_; repeat' ((with_reducible apply tw) <;> intro _)
                                         exact ⟨_, v + 1, rfl, rfl, ⟨by omega, hsn _ (fun e => absurd (e.symm.trans ‹b = false›) (by decide)) (fun e => by subst e; simp)⟩, by omega⟩)
                                · rename_i hvl2 hbf
                                  exfalso
                                  replace hvl2 : ¬ (v : Int) < ((votesD q.votes).length : Int) := hvl2
                                  have := hb2 (by rw [List.take_of_length_le (by omega)]; exact hqq)
                                  rw [this] at hbf
                                  cases hbf
                                · exact ⟨j + 1, rfl, rfl, (show j + 1 ≤ c.sigs.length by omega), (show c.sigs.length - (j + 1) < c.sigs.length - j by omega)⟩
                            · exact ⟨k + 1, rfl, rfl, (show k + 1 ≤ p.dag.certs.length by omega), (show p.dag.certs.length - (k + 1) < p.dag.certs.length - k by omega)⟩
                  · exact ⟨i + 1, rfl, rfl, (show ((i + 1 : Nat) : Int) ≤ n by omega), (show n.toNat - (i + 1) < n.toNat - i by omega)⟩
              · refine wakes_ok.mono ?_
                rintro _ _ ⟨rfl, rfl⟩
                conv => whnf
                refine rdw ?_; repeat' ((with_reducible apply tw) <;> intro _)
                exact ⟨rfl, rfl⟩
          · clear hI hb hw hj hge hil
            clear N j
            rintro N j ⟨hj, hI, hb, hw⟩
            have hil := hI.len
            have hwl := msgsD_length N.way
            have hbl := headsD_length N.book
            conv => whnf
            refine rdw ?_; repeat' ((with_reducible apply tw) <;> intro _)
            · rename_i k1 k2 k3
              replace k1 : (j : Int) < ((fatesD l).length : Int) := k1
              replace k2 : ((headsD N.book).length : Int) < 200 := k2
              replace k3 : ((msgsD N.way).length : Int) < 2000 := k3
              obtain ⟨f, hf⟩ : ∃ f, l[j]? = some f := ⟨_, List.getElem?_eq_getElem (by omega)⟩
              obtain ⟨f1, f2, f3⟩ := hl f (List.mem_of_getElem? hf)
              refine ⟨by omega, f.cs, by rw [Int.toNat_natCast, fatesD, List.getElem?_map, hf]; rfl, ?_⟩
              conv => whnf
              refine rdw ?_; repeat' ((with_reducible apply tw) <;> intro _)
              refine (acts_ok hI (by omega) (by omega) f.act f.node f.k f1 f2 f3).mono ?_
              rintro _ _ ⟨rfl, N', hJ, j1, j2, j3, rfl | rfl | rfl | rfl⟩
              all_goals
                conv => whnf
                refine rdw ?_; repeat' ((with_reducible apply tw) <;> intro _)
                exact ⟨N', j + 1, rfl, rfl, ⟨(show j + 1 ≤ l.length by omega), hJ, (show N'.book.length ≤ 200 by omega), (show N'.way.length ≤ 2128 by omega)⟩, (show l.length - (j + 1) < l.length - j by omega)⟩
            all_goals exact ⟨N, rfl, rfl, hI, hb⟩
end Go.Proofs.YtdlfmgcmfoehdaaGreat
namespace Go.Proofs.YtdlfmgcmfoehdaaGreat
open Go.Ab Go.RowKit
theorem askV_i64 {n : Int} (h2 : (Lit.int .i64 n).wf = true) : i64B n := by
  have hb : -9223372036854775808 ≤ n ∧ n ≤ 9223372036854775807 := by simpa [Lit.wf, IntKind.min, IntKind.max, IntKind.signed, IntKind.bits] using h2
  exact ⟨hb.1, by omega⟩
theorem askV_fates {a : List DV} (h : DTy tt 3 66 a) : ∃ l : List Fate, a = [.sl 3 (fatesD l)] ∧ ∀ f ∈ l, i64B f.act ∧ i64B f.node ∧ i64B f.k := by
  replace h : ∃ xs, a = [.sl 3 xs] ∧ xs.length * 24 ≤ 140737488355328 ∧ ∀ x ∈ xs, DTy tt 2 77 x := h
  obtain ⟨x3, rfl, -, e3⟩ := h
  obtain ⟨l, rfl, hl⟩ := map_of (f := Fate.cs) (ok := fun f : Fate => i64B f.act ∧ i64B f.node ∧ i64B f.k) (xs := x3) fun x hx => by
    have h := e3 x hx
    replace h : DTyF (DTy tt 1) [3, 3, 3] x := h
    obtain ⟨a1, b1, rfl, h1, a2, b2, rfl, h2, a3, b3, rfl, h3, rfl⟩ := h
    replace h1 : ∃ x, a1 = [.int .i64 x] ∧ (Lit.int .i64 x).wf = true := h1
    replace h2 : ∃ x, a2 = [.int .i64 x] ∧ (Lit.int .i64 x).wf = true := h2
    replace h3 : ∃ x, a3 = [.int .i64 x] ∧ (Lit.int .i64 x).wf = true := h3
    obtain ⟨x1, rfl, w1⟩ := h1
    obtain ⟨x2, rfl, w2⟩ := h2
    obtain ⟨x3, rfl, w3⟩ := h3
    exact ⟨⟨x1, x2, x3⟩, rfl, askV_i64 w1, askV_i64 w2, askV_i64 w3⟩
  exact ⟨l, rfl, hl⟩
theorem askV_of {ds : List DV} (h : DTy tt 4 68 ds) : ∃ (x : Int) (l : List Fate), ds = [.int .i64 x, .sl 3 (fatesD l)] ∧ i64B x ∧ ∀ f ∈ l, i64B f.act ∧ i64B f.node ∧ i64B f.k := by
  replace h : DTyF (DTy tt 3) [3, 66] ds := h
  obtain ⟨a1, b1, rfl, h1, a2, b2, rfl, h2, rfl⟩ := h
  replace h1 : ∃ x, a1 = [.int .i64 x] ∧ (Lit.int .i64 x).wf = true := h1
  obtain ⟨x1, rfl, w1⟩ := h1
  obtain ⟨l, rfl, hl⟩ := askV_fates h2
  exact ⟨x1, l, rfl, askV_i64 w1, hl⟩
end Go.Proofs.YtdlfmgcmfoehdaaGreat
/- PrimaryWorld: for every argument the law returns true, and its argument reads behind the call as it read before. No condition of ours. -/
namespace Go.Proofs.YtdlfmgcmfoehdaaGreat
open Go.Ab Go.RowKit Go.ChangeShapes Go.WideShapes Go.ChangeAt
theorem own : ownKnob Tryz.prog.godebug = none := by kernel_rfl
theorem laidOut : laidOutB Tryz.prog = true := by kernel_rfl
set_option maxRecDepth 100000 in
theorem primaryWorld_lifted (os : Os) (started : os.Started) (H : Type) (enc : TypeId × Value → H) :
    ReturnsInHanded {} Tryz.checked os 5 .any (Rows.primaryWorldSpec.pre6 enc Tryz.prog Tryz.f5 Rows.primaryWorldRow.domain false) (Rows.primaryWorldSpec.post enc Tryz.prog Tryz.f5 false true false false) := by
  refine returnsInHanded_of_change_sized (C := Tryz.checked) own started (by kernel_rfl) Tryz.func5
    (ChangeSpec.witness6 (enc := enc) (C := Tryz.checked) false ⟨#[], #[.agg #[.int .i64 0, .slice none 0 0]], []⟩ 8 (by kernel_rfl) (by kernel_rfl) (by kernel_rfl) (by kernel_rfl)) ?_
  intro W base args ds gs before hval hW _ hsz _
  exact law_contract ttOk (f := Tryz.f5) (tb := 4) (t := 68) rfl rfl Tryz.underlying4 rfl (fun _ _ => rfl) laidOut (by kernel_rfl) (of_decide_eq_true (by kernel_rfl)) 4 (by kernel_rfl) argS
    (fun W base v ds h1 h2 => argS_ok Tryz.underlying68 h1 h2)
    (fun ds hd => by
      obtain ⟨x, l, rfl, hx, hl⟩ := askV_of hd
      exact primaryWorld_ok x hx l hl) hval hW hsz
theorem primaryWorld_holds : Rows.PrimaryWorldSaid :=
  OpenClaim.holds_of_wide 5 Tryz.f5 rfl rfl rfl rfl rfl rfl rfl ⟨rfl, rfl, rfl, rfl, rfl⟩ rfl rfl rfl rfl rfl (by kernel_rfl) Tryz.func5 (by kernel_rfl)
    (of_decide_eq_true (by kernel_rfl)) (by unfold Func.isWrapper; first | (rw [if_pos (by decide +kernel)]; kernel_rfl) | (rw [if_neg (by decide +kernel)]; exact ⟨rfl, rfl⟩))
    (fun os started H enc _ => primaryWorld_lifted os started H enc)
#print axioms primaryWorld_holds
end Go.Proofs.YtdlfmgcmfoehdaaGreat
