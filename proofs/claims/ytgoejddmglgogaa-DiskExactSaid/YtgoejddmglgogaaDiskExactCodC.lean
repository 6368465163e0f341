/- DiskExact: contracts. -/
import Derived.Test.YtgoejddmglgogaaDiskExactCodB
set_option linter.unusedVariables false
set_option linter.unusedSimpArgs false
namespace Go.Proofs.Ytgoejddmglgogaa
open Go.Ab Go.RowKit Go.MapKept
attribute [local irreducible] ACalls AW ADraw Into fltB fnear
set_option maxRecDepth 100000
def Fl.csq (f : Fl) : List DV := [.slq 1 (u8s f.safe), .slq 1 (u8s f.seen)]
def Fl.entq (f : Fl) : KV × MV := (.one (.str f.name), .box f.b f.csq)
def Dk.Lq (d : Dk) : List AB := [.cells [.d (.int .i64 d.calls), .d (.bool d.off), .d (.int .i64 d.upto), .map 1], .map (d.fs.map Fl.entq)]
theorem boxcs_memq : ∀ {fs : List Fl} {f : Fl}, f ∈ fs → (f.b, f.csq) ∈ boxcsM (fs.map Fl.entq)
  | x :: r, f, h => by
    rcases List.mem_cons.1 h with rfl | h
    · simp [boxcsM, Fl.entq]
    · simp only [List.map_cons, Fl.entq, boxcsM]
      exact List.mem_cons_of_mem _ (boxcs_memq h)
theorem box_atq {fs : List Fl} {f : Fl} (h : f ∈ fs) {x : AB} {r : List AB} : BoxIn (x :: .map (fs.map Fl.entq) :: r) f.b f.csq := ⟨1, _, rfl, boxcs_memq h⟩
theorem box_at0q {fs : List Fl} {f : Fl} (h : f ∈ fs) {r : List AB} : BoxIn (.map (fs.map Fl.entq) :: r) f.b f.csq := ⟨0, _, rfl, boxcs_memq h⟩
theorem lq1 (xs : List (List DV)) (n : Nat) {R : RC} {us : List Value} (h : VRt R [.d (.slq n xs)] us) : VRt R [.d (.slo n xs)] us := by
  simp only [VRt, VR] at h ⊢
  obtain ⟨u, us', rfl, h1, h2⟩ := h
  exact ⟨u, us', rfl, VD_slq h1, h2⟩
theorem clone_okQ (xs : List UInt8) (hm : xs.length ≤ 140737488355328) : ACalls Try.prog 17 [.d (.slq 1 (u8s xs))] [] (fun av L => av = .d (.sl 1 (u8s xs)) ∧ L = []) := acalls_args (fun R us h => lq1 _ _ h) (clone_okO xs hm)
theorem bclone_rowQ (xs : List UInt8) (hm : xs.length ≤ 140737488355328) : ACalls Try.prog 63 [.d (.slq 1 (u8s xs))] [] (fun av L => av = .arr 0 ∧ L = [.row 5 1 (u8s xs) false]) := acalls_args (fun R us h => lq1 _ _ h) (bclone_rowO xs hm)
theorem up_u8 (l : List UInt8) : UpD (.slo 1 (u8s l)) (.sl 1 (u8s l)) := .slo (.refl _)
theorem equal_okQ (a b : List UInt8) : ACalls Try.prog 51 [.d (.slq 1 (u8s a)), .d (.slq 1 (u8s b))] [] (fun av L => av = .d (.bool (decide (a = b))) ∧ L = []) :=
  acalls_args (avs' := [.d (.slo 1 (u8s a)), .d (.slo 1 (u8s b))]) (fun R us h => by
    simp only [VRt, VR] at h ⊢
    obtain ⟨u, us', rfl, h1, u2, us2, rfl, h2, h3⟩ := h
    exact ⟨u, _, rfl, VD_slq h1, u2, us2, rfl, VD_slq h2, h3⟩)
    (acalls_lend (flat_bool _) ⟨_, _, rfl, .inl (.inr (.inr (.inr (.inr (.inl ⟨_, _, rfl, rfl, up_u8 a⟩))))), _, _, rfl, .inl (.inr (.inr (.inr (.inr (.inl ⟨_, _, rfl, rfl, up_u8 b⟩))))), rfl⟩ (equal_ok a b))
theorem entq_keys (fs : List Fl) : (fs.map Fl.entq).map (·.1) = (fs.map Fl.name).map fun n => KV.one (.str n) := by
  rw [List.map_map, List.map_map]; rfl
def Fl.boxq (f : Fl) : MV := .box f.b f.csq
theorem mfind_entq (n : ByteArray) : ∀ (fs : List Fl) (j : Nat), mfind (.one (.str n)) (fs.map Fl.entq) j = some ((findF n fs j).map fun p => (p.1, p.2.boxq))
  | [], j => rfl
  | f :: r, j => by
    simp only [List.map_cons, Fl.entq, mfind, keqM, findF]
    cases h : n == f.name with
    | true => rfl
    | false => exact mfind_entq n r (j + 1)
abbrev rows2q (l : List (List UInt8)) : List (List DV) := l.map fun x => [.slq 1 (u8s x)]
theorem longest_okQ (l : List (List UInt8)) (hl : l.length ≤ 1000) : ACalls Try.prog 62 [.d (.sl 1 (rows2q l))] [] (fun av L => av = .d (.int .i64 (longestL l : Nat)) ∧ L = []) := by
  (refine acalls_go ttOk zOk foOk Try.func62 rfl Try.ntmps62 rfl false rfl ?_); (conv => whnf)
  refine loop_go ttOk zOk foOk (σ := Nat) (fun k => ([(2, .d (.int .i64 (longestL (l.take k) : Nat))), (5, .d (.sl 1 (rows2q l))), (6, .d (.int .i64 (rows2q l).length)), (7, .d (.int .i64 k))], [])) (fun k => k ≤ l.length) (fun k => l.length - k) [2, 5, 6, 7] ?_ ?_
  · conv => whnf
    exact ⟨0, rfl, rfl, by omega⟩
  · rintro k hk
    conv => whnf
    refine sp_dec (fun h => ?_) (fun h => ?_) <;> simp only [rows2q, List.length_map] at h
    · conv => whnf
      obtain ⟨a, ha⟩ : ∃ a, l[k]? = some a := ⟨_, List.getElem?_eq_getElem (by omega)⟩
      ((with_reducible refine ix_map ha ?_ ?_); (focus (first | rfl | omega)); (conv => whnf))
      refine rdw ?_; repeat' ((with_reducible apply tw) <;> intro _)
      refine ⟨k + 1, ?_, rfl, by omega, by omega⟩
      have : longestL (l.take (k + 1)) = max (longestL (l.take k)) a.length := by
        rw [List.take_add_one, ha]
        simp [longestL, List.foldl_append]
      rw [this]
      simp only [u8s_length]
      rw [show ((max (longestL (l.take k)) a.length : Nat) : Int) = max ((longestL (l.take k) : Nat) : Int) (a.length : Int) by omega]
      rfl
    · conv => whnf
      obtain rfl : k = l.length := by omega
      rw [List.take_length]
      exact ⟨rfl, rfl⟩
theorem torn_okQ (fs : List Fl) (f : Fl) (hf : f ∈ fs) (h1 : f.safe.length ≤ 1048576) (h2 : f.seen.length ≤ 1048576) (hne : f.safe ≠ f.seen) (p : Int) (hp : -9223372036854775808 ≤ p ∧ p < 9223372036854775808) :
    ACalls Try.prog 53 [.mp 0 f.b 0, .d (.int .i64 p)] [.map (fs.map Fl.entq)] (fun av L => av = .d (.sl 1 (u8s (tornL f.safe f.seen p))) ∧ L = [.map (fs.map Fl.entq)]) := by
  have hu1 := u8s_length f.safe
  have hu2 := u8s_length f.seen
  (refine acalls_go ttOk zOk foOk Try.func53 rfl Try.ntmps53 rfl false rfl ?_); (conv => whnf)
  ((with_reducible refine draw_pl ttOk zOk foOk mixedOk pl53x1 ?_ ?_); (focus kernel_rfl); (conv => whnf))
  refine rdw ?_; repeat' ((with_reducible apply tw) <;> intro _)
  ((with_reducible apply rd_intro); (focus (intro K hK; (conv => whnf); exact ⟨f.csq, box_at0q hf, hK⟩)); (conv => whnf))
  refine rdw ?_; repeat' ((with_reducible apply tw) <;> intro _)
  ((with_reducible apply rd_intro); (focus (intro K hK; (conv => whnf); exact ⟨f.csq, box_at0q hf, hK⟩)); (conv => whnf))
  refine rdw ?_; repeat' ((with_reducible apply tw) <;> intro _)
  (refine Or.inl ?_; (conv => whnf))
  refine (longest_okQ [f.safe, f.seen] (by simp)).mono ?_
  rintro _ _ ⟨rfl, rfl⟩
  conv => whnf
  rw [show longestL [f.safe, f.seen] = max f.safe.length f.seen.length by simp [longestL]]
  have hml : max f.safe.length f.seen.length ≤ 1048576 := by omega
  have hm1 : f.safe.length ≤ max f.safe.length f.seen.length := by omega
  have hm2 : f.seen.length ≤ max f.safe.length f.seen.length := by omega
  have hT : tornL f.safe f.seen p = ((padTo (max f.safe.length f.seen.length) f.seen).take (tornN f.safe f.seen p) ++ (padTo (max f.safe.length f.seen.length) f.safe).drop (tornN f.safe f.seen p)).take f.seen.length := rfl
  have hN : tornN f.safe f.seen p = min ((p % (((max f.safe.length f.seen.length + 31) / 32 : Nat) + 1 : Int)).toNat * 32) (max f.safe.length f.seen.length) := rfl
  rw [hT]
  clear hT
  have hpos : 0 < max f.safe.length f.seen.length := by
    rcases Nat.eq_zero_or_pos (max f.safe.length f.seen.length) with h | h
    · exact absurd (by rw [List.eq_nil_of_length_eq_zero (show f.safe.length = 0 by omega), List.eq_nil_of_length_eq_zero (show f.seen.length = 0 by omega)]) hne
    · exact h
  generalize hlg : max f.safe.length f.seen.length = lg at *
  refine rdw ?_; repeat' ((with_reducible apply tw) <;> intro _)
  refine ⟨by decide, ?_⟩
  intro z hz
  have hz' : z = ((lg + 31) / 32 : Nat) := by
    rw [hz, wrapI (by rw [Int.tdiv_eq_ediv_of_nonneg (by omega)]; omega), Int.tdiv_eq_ediv_of_nonneg (by omega)]; omega
  clear hz
  subst hz'
  conv => whnf
  refine rdw ?_; repeat' ((with_reducible apply tw) <;> intro _)
  have hm0 := Int.emod_nonneg p (show (((lg + 31) / 32 : Nat) : Int) + 1 ≠ 0 by omega)
  have hmk := Int.emod_lt_of_pos p (show (0 : Int) < (((lg + 31) / 32 : Nat) : Int) + 1 by omega)
  ((with_reducible refine (modulo_ok p ((((lg + 31) / 32 : Nat) : Int) + 1) (by omega) (by omega) hp).mono ?_); rintro _ _ ⟨rfl, rfl⟩; (conv => whnf))
  generalize p % ((((lg + 31) / 32 : Nat) : Int) + 1) = md at *
  generalize hnt : tornN f.safe f.seen p = nt at *
  refine rdw ?_; repeat' ((with_reducible apply tw) <;> intro _)
  rw [show min (md * 32) (lg : Int) = (nt : Int) by omega]
  ((with_reducible refine draw_pl ttOk zOk foOk mixedOk pl53x5 ?_ ?_); (focus kernel_rfl); (conv => whnf))
  refine rdw ?_; repeat' ((with_reducible apply tw) <;> intro _)
  ((with_reducible apply rd_intro); (focus (intro K hK; (conv => whnf); exact ⟨f.csq, box_at0q hf, hK⟩)); (conv => whnf))
  refine rdw ?_; repeat' ((with_reducible apply tw) <;> intro _)
  ((with_reducible apply rd_intro); (focus (intro K hK; (conv => whnf); exact ⟨f.csq, box_at0q hf, hK⟩)); (conv => whnf))
  refine rdw ?_; repeat' ((with_reducible apply tw) <;> intro _)
  refine (bclone_rowQ f.safe (by omega)).mono ?_
  rintro _ _ ⟨rfl, rfl⟩
  conv => whnf
  refine rdw ?_; repeat' ((with_reducible apply tw) <;> intro _)
  ((with_reducible apply gd_and); (focus ((conv => whnf); intro K hK; (conv => whnf); exact ⟨f.csq, box_at0q hf, hK⟩)); (conv => whnf))
  refine rdw ?_; repeat' ((with_reducible apply tw) <;> intro _)
  refine ⟨by omega, by rw [hu1]; simp only [Nat.mul_one]; omega, ?_⟩
  rw [pad_rows]
  conv => whnf
  refine rdw ?_; repeat' ((with_reducible apply tw) <;> intro _)
  ((with_reducible refine draw_pl ttOk zOk foOk mixedOk pl53x6 ?_ ?_); (focus kernel_rfl); (conv => whnf))
  refine rdw ?_; repeat' ((with_reducible apply tw) <;> intro _)
  ((with_reducible apply rd_intro); (focus (intro K hK; (conv => whnf); exact ⟨f.csq, box_at0q hf, hK⟩)); (conv => whnf))
  refine rdw ?_; repeat' ((with_reducible apply tw) <;> intro _)
  ((with_reducible apply rd_intro); (focus (intro K hK; (conv => whnf); exact ⟨f.csq, box_at0q hf, hK⟩)); (conv => whnf))
  refine rdw ?_; repeat' ((with_reducible apply tw) <;> intro _)
  refine (bclone_rowQ f.seen (by omega)).mono ?_
  rintro _ _ ⟨rfl, rfl⟩
  conv => whnf
  refine rdw ?_; repeat' ((with_reducible apply tw) <;> intro _)
  ((with_reducible apply gd_and); (focus ((conv => whnf); intro K hK; (conv => whnf); exact ⟨f.csq, box_at0q hf, hK⟩)); (conv => whnf))
  refine rdw ?_; repeat' ((with_reducible apply tw) <;> intro _)
  refine ⟨by omega, by rw [hu2]; simp only [Nat.mul_one]; omega, ?_⟩
  rw [pad_rows]
  conv => whnf
  refine rdw ?_; repeat' ((with_reducible apply tw) <;> intro _)
  have hq1 : (u8s (padTo lg f.safe)).length = lg := by rw [u8s_length, pad_length hm1]
  have hq2 : (u8s (padTo lg f.seen)).length = lg := by rw [u8s_length, pad_length hm2]
  refine .inr ⟨rfl, by omega, by omega, fun h => (by rw [h] at hq1; simp at hq1; omega), ?_⟩
  rw [Int.toNat_natCast]
  conv => whnf
  refine rdw ?_; repeat' ((with_reducible apply tw) <;> intro _)
  refine ⟨by omega, ?_⟩
  rw [hq2, show (u8s (padTo lg f.seen)).take nt ++ (u8s (padTo lg f.safe)).drop (min lg nt) = u8s ((padTo lg f.seen).take nt ++ (padTo lg f.safe).drop nt) by rw [show min lg nt = nt by omega]; simp [u8s]]
  conv => whnf
  refine rdw ?_; repeat' ((with_reducible apply tw) <;> intro _)
  refine ⟨f.csq, box_at0q hf, ?_⟩
  conv => whnf
  refine rdw ?_; repeat' ((with_reducible apply tw) <;> intro _)
  have hq3 : (u8s ((padTo lg f.seen).take nt ++ (padTo lg f.safe).drop nt)).length = lg := by
    rw [u8s_length, List.length_append, List.length_take, List.length_drop, pad_length hm1, pad_length hm2]; omega
  refine .inl ?_
  conv => whnf
  refine ⟨by omega, by omega, by omega, ?_⟩
  conv => whnf
  refine ⟨?_, rfl⟩
  rw [hu2]
  simp [u8s, List.map_take]
set_option maxHeartbeats 4000000 in
theorem crash_okQ (d : Dk) (hd : d.dat.fine) (picks : List Int) (hp : ∀ k ∈ picks, -9223372036854775808 ≤ k ∧ k < 9223372036854775808) (hpl : picks.length ≤ 140737488355328) :
    ACalls Try.prog 38 [.ptr 0 0, .d (.slo 1 (nums picks))] d.Lq (fun av L => ∃ ss : List ByteArray, ss.Perm (d.dat.fs.map FD.name) ∧ risingS ss ∧ av = .d (.sl 2 ((crashAt (pickFs ss d.dat.fs) picks ss.length).1.map FileS.cs)) ∧ L = d.Lq) := by
  (refine acalls_go ttOk zOk foOk Try.func38 rfl Try.ntmps38 rfl false rfl ?_); (conv => whnf)
  ((with_reducible refine (keys_ok _).mono ?_); rintro _ _ ⟨rfl, rfl⟩; (conv => whnf))
  refine (sorted_ok _ (d.fs.map Fl.name) (entq_keys _) (by have := hd.nd; rwa [show d.dat.fs = d.fs.map Fl.dat from rfl, dat_names] at this) (by have := hd.few; simp [Dk.dat] at this ⊢; omega) ?_).mono ?_
  · intro n hn
    obtain ⟨f, hf, rfl⟩ := List.mem_map.1 hn
    have := goodS_size (hd.good f.dat (List.mem_map.2 ⟨f, hf, rfl⟩))
    have h2 : (1000 : Nat) ≤ maxLen := by decide
    exact Nat.le_trans this h2
  rintro _ _ ⟨rfl, ss, hss, hr, rfl⟩
  have hss' : ss.Perm (d.dat.fs.map FD.name) := by rw [show d.dat.fs = d.fs.map Fl.dat from rfl, dat_names]; exact hss
  conv => whnf
  have hln : ss.length = d.fs.length := by have := hss.length_eq; simpa using this
  have hmem : ∀ n ∈ ss, n ∈ d.dat.fs.map FD.name := fun n hn => hss'.subset hn
  have hpk : (pickFs ss d.dat.fs).length = ss.length := by have := congrArg List.length (pick_names hmem); simpa using this
  have hfew : ss.length ≤ 16 := by have := hd.few; rw [hln]; simpa [Dk.dat] using this
  refine loop_go ttOk zOk foOk (σ := Nat) (fun k => ([(0, .ptr 0 0), (1, .d (.slo 1 (nums (crashAt (pickFs ss d.dat.fs) picks k).2))), (4, .arr 2), (17, .arr 3), (18, .d (.int .i64 (strs ss).length)), (19, .d (.int .i64 k))], d.Lq ++ [.row 50 2 ((crashAt (pickFs ss d.dat.fs) picks k).1.map FileS.cs) false, .row 9 1 (strs ss) false]))
    (fun k => k ≤ ss.length) (fun k => ss.length - k) [0, 1, 4, 17, 18, 19] ?_ ?_
  · conv => whnf
    exact ⟨0, rfl, rfl, by omega⟩
  · rintro k hk
    conv => whnf
    refine sp_dec (fun h => ?_) (fun h => ?_) <;> simp only [strs, List.length_map] at h
    · conv => whnf
      have hkl : k < ss.length := by omega
      obtain ⟨f, hff⟩ : ∃ f, (pickFs ss d.dat.fs)[k]? = some f := ⟨_, List.getElem?_eq_getElem (by omega)⟩
      obtain ⟨hnk, hget⟩ := pick_get hmem hff
      refine ⟨by omega, by simp [strs]; omega, ?_⟩
      conv => whnf
      refine ⟨[.str f.name], by simp [strs, hnk], ?_⟩
      conv => whnf
      obtain ⟨i, g, hgf, rfl⟩ := findF_of_get hget
      refine ⟨_, mfind_entq _ d.fs 0, ?_⟩
      rw [hgf]
      conv => whnf
      refine rdw ?_; repeat' ((with_reducible apply tw) <;> intro _)
      refine ⟨g.csq, box_atq (findF_mem hgf), ?_⟩
      conv => whnf
      refine rdw ?_; repeat' ((with_reducible apply tw) <;> intro _)
      ((with_reducible refine draw_pl ttOk zOk foOk mixedOk pl38x6 ?_ ?_); (focus kernel_rfl); (conv => whnf))
      refine rdw ?_; repeat' ((with_reducible apply tw) <;> intro _)
      ((with_reducible apply rd_intro); (focus (intro K hK; (conv => whnf); exact ⟨g.csq, box_atq (findF_mem hgf), hK⟩)); (conv => whnf))
      refine rdw ?_; repeat' ((with_reducible apply tw) <;> intro _)
      ((with_reducible apply rd_intro); (focus (intro K hK; (conv => whnf); exact ⟨g.csq, box_atq (findF_mem hgf), hK⟩)); (conv => whnf))
      refine rdw ?_; repeat' ((with_reducible apply tw) <;> intro _)
      ((with_reducible refine (equal_okQ g.safe g.seen).mono ?_); rintro _ _ ⟨rfl, rfl⟩; (conv => whnf))
      refine rdw ?_; repeat' ((with_reducible apply tw) <;> intro _)
      · rename_i h1 h2
        have hne : g.safe ≠ g.seen := by simp at h1; exact h1
        obtain ⟨x, r, hq⟩ : ∃ x r, (crashAt (pickFs ss d.dat.fs) picks k).2 = x :: r := by
          cases hc : (crashAt (pickFs ss d.dat.fs) picks k).2 with
          | nil => rw [hc] at h2; simp [nums] at h2
          | cons x r => exact ⟨x, r, rfl⟩
        have hx := hp x (crash_picks x (by rw [hq]; simp))
        rw [hq]
        have hnl : (nums (x :: r)).length = r.length + 1 := by simp [nums]
        ((with_reducible refine draw_pl ttOk zOk foOk mixedOk pl38x9 ?_ ?_); (focus kernel_rfl); (conv => whnf))
        refine rdw ?_; repeat' ((with_reducible apply tw) <;> intro _)
        ((with_reducible apply rd_intro); (focus (intro K hK; (conv => whnf); exact ⟨by decide, [.int .i64 x], rfl, hK⟩)); (conv => whnf))
        refine rdw ?_; repeat' ((with_reducible apply tw) <;> intro _)
        ((with_reducible apply rd_intro); (focus (intro K hK; (conv => whnf); exact ⟨by decide, by omega, by omega, hK⟩)); (conv => whnf))
        refine rdw ?_; repeat' ((with_reducible apply tw) <;> intro _)
        rw [show ((nums (x :: r)).take ((nums (x :: r)).length : Int).toNat).drop (Int.toNat 1) = nums r from nums_tail x r]
        refine (modulo_ok x 3 (by decide) (by decide) hx).mono ?_
        rintro _ _ ⟨rfl, rfl⟩
        conv => whnf
        have hneD : ¬ g.dat.safe = g.dat.seen := hne
        have hl1 : g.safe.length ≤ 1048576 := (hd.ok.len g.dat (mem_getN hget)).2
        have hl2 : g.seen.length ≤ 1048576 := (hd.ok.len g.dat (mem_getN hget)).1
        refine rdw ?_; repeat' ((with_reducible apply tw) <;> intro _)
        · rename_i hh
          have hst : stepC g.dat (crashAt (pickFs ss d.dat.fs) picks k).2 = (g.safe, r) := by
            rw [hq, stepC, if_neg hneD, if_pos (show headP (x :: r) % 3 = 0 from hh)]; rfl
          refine ⟨g.csq, box_atq (findF_mem hgf), ?_⟩
          conv => whnf
          refine rdw ?_; repeat' ((with_reducible apply tw) <;> intro _)
          ((with_reducible refine (clone_okQ g.safe (by omega)).mono ?_); rintro _ _ ⟨rfl, rfl⟩; (conv => whnf))
          refine rdw ?_; repeat' ((with_reducible apply tw) <;> intro _)
          refine ⟨by have := crash_length (fs := pickFs ss d.dat.fs) (picks := picks) (show k ≤ (pickFs ss d.dat.fs).length by omega); rw [List.length_map, this]; simp only [List.length_cons, List.length_nil]; omega, ?_⟩
          conv => whnf
          refine rdw ?_; repeat' ((with_reducible apply tw) <;> intro _)
          refine ⟨k + 1, ?_, ?_, by omega, by omega⟩
          · rw [crashAt_succ hff, hst]; rfl
          · rw [crashAt_succ hff, hst, List.map_append]; rfl
        · rename_i hh hh2
          have hst : stepC g.dat (crashAt (pickFs ss d.dat.fs) picks k).2 = (tornL g.safe g.seen (x / 3), r) := by
            rw [hq, stepC, if_neg hneD, if_neg (show ¬ headP (x :: r) % 3 = 0 from hh), if_pos (show headP (x :: r) % 3 = 2 from hh2)]; rfl
          refine (torn_okQ d.fs g (findF_mem hgf) hl1 hl2 hne (x / 3) (by omega)).mono ?_
          rintro _ _ ⟨rfl, rfl⟩
          conv => whnf
          refine rdw ?_; repeat' ((with_reducible apply tw) <;> intro _)
          ((with_reducible refine (clone_ok (tornL g.safe g.seen (x / 3)) (by unfold tornL; rw [List.length_take]; omega)).mono ?_); rintro _ _ ⟨rfl, rfl⟩; (conv => whnf))
          refine rdw ?_; repeat' ((with_reducible apply tw) <;> intro _)
          refine ⟨by have := crash_length (fs := pickFs ss d.dat.fs) (picks := picks) (show k ≤ (pickFs ss d.dat.fs).length by omega); rw [List.length_map, this]; simp only [List.length_cons, List.length_nil]; omega, ?_⟩
          conv => whnf
          refine rdw ?_; repeat' ((with_reducible apply tw) <;> intro _)
          refine ⟨k + 1, ?_, ?_, by omega, by omega⟩
          · rw [crashAt_succ hff, hst]; rfl
          · rw [crashAt_succ hff, hst, List.map_append]; rfl
        · rename_i hh hh2
          have hst : stepC g.dat (crashAt (pickFs ss d.dat.fs) picks k).2 = (g.seen, r) := by
            rw [hq, stepC, if_neg hneD, if_neg (show ¬ headP (x :: r) % 3 = 0 from hh), if_neg (show ¬ headP (x :: r) % 3 = 2 from hh2)]; rfl
          ((with_reducible refine (clone_okQ g.seen (by omega)).mono ?_); rintro _ _ ⟨rfl, rfl⟩; (conv => whnf))
          refine rdw ?_; repeat' ((with_reducible apply tw) <;> intro _)
          refine ⟨by have := crash_length (fs := pickFs ss d.dat.fs) (picks := picks) (show k ≤ (pickFs ss d.dat.fs).length by omega); rw [List.length_map, this]; simp only [List.length_cons, List.length_nil]; omega, ?_⟩
          conv => whnf
          refine rdw ?_; repeat' ((with_reducible apply tw) <;> intro _)
          refine ⟨k + 1, ?_, ?_, by omega, by omega⟩
          · rw [crashAt_succ hff, hst]; rfl
          · rw [crashAt_succ hff, hst, List.map_append]; rfl
      · rename_i h1 h2
        have hne : g.safe ≠ g.seen := by simp at h1; exact h1
        have hq : (crashAt (pickFs ss d.dat.fs) picks k).2 = [] := by
          cases hc : (crashAt (pickFs ss d.dat.fs) picks k).2 with
          | nil => rfl
          | cons x r => rw [hc] at h2; simp [nums] at h2
        rw [hq]
        refine (modulo_ok 0 3 (by decide) (by decide) (by decide)).mono ?_
        rintro _ _ ⟨rfl, rfl⟩
        conv => whnf
        have hneD : ¬ g.dat.safe = g.dat.seen := hne
        have hl1 : g.safe.length ≤ 1048576 := (hd.ok.len g.dat (mem_getN hget)).2
        have hl2 : g.seen.length ≤ 1048576 := (hd.ok.len g.dat (mem_getN hget)).1
        refine rdw ?_; repeat' ((with_reducible apply tw) <;> intro _)
        have hst : stepC g.dat (crashAt (pickFs ss d.dat.fs) picks k).2 = (g.safe, []) := by
          rw [hq, stepC, if_neg hneD, if_pos (show headP ([] : List Int) % 3 = 0 from rfl)]; rfl
        refine ⟨g.csq, box_atq (findF_mem hgf), ?_⟩
        conv => whnf
        refine rdw ?_; repeat' ((with_reducible apply tw) <;> intro _)
        ((with_reducible refine (clone_okQ g.safe (by omega)).mono ?_); rintro _ _ ⟨rfl, rfl⟩; (conv => whnf))
        refine rdw ?_; repeat' ((with_reducible apply tw) <;> intro _)
        refine ⟨by have := crash_length (fs := pickFs ss d.dat.fs) (picks := picks) (show k ≤ (pickFs ss d.dat.fs).length by omega); rw [List.length_map, this]; simp only [List.length_cons, List.length_nil]; omega, ?_⟩
        conv => whnf
        refine rdw ?_; repeat' ((with_reducible apply tw) <;> intro _)
        refine ⟨k + 1, ?_, ?_, by omega, by omega⟩
        · rw [crashAt_succ hff, hst]; rfl
        · rw [crashAt_succ hff, hst, List.map_append]; rfl
      · have hlen : g.seen.length ≤ 1048576 := (hd.ok.len g.dat (mem_getN hget)).1
        have heq : g.dat.safe = g.dat.seen := by rename_i h1; simp at h1; exact h1
        have hst : stepC g.dat (crashAt (pickFs ss d.dat.fs) picks k).2 = (g.seen, (crashAt (pickFs ss d.dat.fs) picks k).2) := by rw [stepC, if_pos heq]; rfl
        ((with_reducible refine (clone_okQ g.seen (by omega)).mono ?_); rintro _ _ ⟨rfl, rfl⟩; (conv => whnf))
        refine rdw ?_; repeat' ((with_reducible apply tw) <;> intro _)
        refine ⟨by have := crash_length (fs := pickFs ss d.dat.fs) (picks := picks) (show k ≤ (pickFs ss d.dat.fs).length by omega); rw [List.length_map, this]; simp only [List.length_cons, List.length_nil]; omega, ?_⟩
        conv => whnf
        refine rdw ?_; repeat' ((with_reducible apply tw) <;> intro _)
        refine ⟨k + 1, ?_, ?_, by omega, by omega⟩
        · rw [crashAt_succ hff, hst]; rfl
        · rw [crashAt_succ hff, hst, List.map_append]; rfl
    · conv => whnf
      obtain rfl : k = ss.length := by omega
      exact ⟨ss, hss', hr, rfl, rfl⟩
end Go.Proofs.Ytgoejddmglgogaa
open Go Go.Claim Go.Proofs
namespace Go.Proofs.Ytgoejddmglgogaa
open Go.Ab Go.RowKit Go.MapKept
attribute [local irreducible] ACalls AW ADraw Into fltB fnear
set_option maxRecDepth 100000
theorem unfroz_at {w : World} {b o : Nat} {cur : Array Value} {e : TypeId} {mk : Nat × Nat} (h : w.heap[b]? = some (.cells cur e mk)) (hu : unfroz mk cur.size) (ho : o < cur.size) : w.frozen? ⟨b, o, none⟩ = false := by
  have hq6 := hu o ho
  unfold World.frozen?
  rw [h]
  show (decide (mk.1 ≤ o) && decide (o < mk.2)) = false
  by_cases hp : mk.1 ≤ o
  · rw [decide_eq_false (p := o < mk.2) fun h => hq6 ⟨hp, h⟩, Bool.and_false]
  · rw [decide_eq_false hp, Bool.false_and]
def TrivL (l : List Sh) (us : List Value) : Prop := ∀ (i : Nat) (u : Value) (sh : Sh), us[i]? = some u → l[i]? = some sh → Triv sh u
theorem tl_n : TrivL [] [] := fun i u sh h => by simp at h
theorem tl_c {sh : Sh} {u : Value} {l : List Sh} {us : List Value} (h : Triv sh u) (k : TrivL l us) : TrivL (sh :: l) (u :: us) := fun i v sv h1 h2 => by
  cases i with
  | zero => simp at h1 h2; subst h1; subst h2; exact h
  | succ i => exact k i v sv (by simpa using h1) (by simpa using h2)
theorem Spoil.elem {lo n : Nat} {w : World} {b off j m : Nat} {cur : Array Value} {e : TypeId} {mk : Nat × Nat} (q3 : lo ≤ b) (q4 : b < lo + n) (q5 : w.heap[b]? = some (.cells cur e mk)) (q7 : gsz e = m) (q8 : off % m = 0) (us : List Value) (hl : us.length ≤ m) (ht : TrivL (gsh m) us) :
    Spoil lo n w (w.setCells b (off + j * m) us) :=
  Spoil.cells q3 q4 us _ w cur q5 fun i u hi sh hs => ht i u sh hi (by
    have him : i < m := Nat.lt_of_lt_of_le (List.getElem?_eq_some_iff.1 hi).1 hl
    have : (off + j * m + i) % m = i := by
      rw [Nat.add_right_comm, Nat.add_mul_mod_self_right, Nat.add_mod, q8, Nat.zero_add, Nat.mod_mod, Nat.mod_eq_of_lt him]
    rwa [q7, this] at hs)
theorem alloc_row (w : World) (cur : Array Value) (e : TypeId) (j : Nat) : (w.alloc (.cells cur e)).cell? ((⟨w.heap.size, 0, none⟩ : Addr).add j) = cur[j]? := by
  rw [add_lit _ rfl, Nat.zero_add, cell_of_row _ _ _ _ _ _ (heap_alloc_new w _)]
theorem infoU8 : (Try.prog.info? 5).map (fun i => (i.zero, i.size, i.bytes)) = some (some (.int .u8 0), 1, 1) := by kernel_rfl
theorem infoF : (Try.prog.info? 50).map (fun i => (i.zero, i.size, i.bytes)) = some (some (.agg #[.string ⟨#[]⟩, .slice none 0 0]), 2, 40) := by kernel_rfl
theorem u8_triv {k : Nat} {u : Value} {sh : Sh} (h : ([Value.int .u8 5] : List Value)[k]? = some u) (hs : (gsh 1)[k]? = some sh) : Triv sh u := by
  cases k with
  | zero =>
    simp at h
    subst h
    have : sh = .u8 := by simpa [gsh] using hs.symm
    subst this
    exact ⟨5, rfl⟩
  | succ k => simp at h
set_option maxRecDepth 100000 in
theorem bytes_sp (lo n k : Nat) (w : World) (v : Value) (hv : SL lo n w (k + 1) 1 v) (hbl : ∀ b, lo ≤ b → b < lo + n → b < w.heap.size) :
    Calls Try.prog 18 #[v] w fun e w' => e = .returned (.tuple #[]) ∧ Spoil lo n w w' := by
  obtain ⟨p, len, cap, rfl, k1, ⟨k2, k3⟩, k4⟩ := id hv
  go_enter Try.func18, Try.ntmps18
  go_wp2
  go_loopw [2] (fun i wr => ∃ j : Nat, j ≤ len ∧ i = .int .i64 j ∧ Spoil lo n w wr)
    (fun i _ => len - (intOf i).toNat)
  case atStart => exact ⟨0, Nat.zero_le _, rfl, Spoil.refl _ _ _⟩
  case round =>
    obtain ⟨j, hj, rfl, hS⟩ := hrel
    have hv2 := hS.sl _ _ _ hv
    have hbl2 : ∀ b, lo ≤ b → b < lo + n → b < wr.heap.size := fun b h1 h2 => Nat.lt_of_lt_of_le (hbl b h1 h2) hS.size
    by_cases hj2 : j < len
    · rcases k4 with rfl | ⟨⟨b, off, sp⟩, rfl, rfl, _⟩
      · omega
      obtain ⟨p', len', cap', e1, _, _, k5⟩ := hv2
      cases e1
      rcases k5 with h0 | ⟨q, e2, _, q3, q4, ⟨cur, e', mk, q5, q6, q7, q8, q9⟩, q10⟩
      · omega
      cases e2
      obtain ⟨u, u1, x, rfl⟩ := q10 j 0 .u8 hj2 rfl
      simp only [Nat.mul_one, Nat.add_zero] at u1 q5 q9 q3 q4
      have hlt : off + j < cur.size := by omega
      have hfz : wr.frozen? { block := b, off := off + j } = false := unfroz_at q5 q6 hlt
      go_wp2
      refine ⟨⟨j + 1, by omega, by go_num, hS.trans (Spoil.cell q3 q4 q5 fun sh hs => ?_)⟩, by simp [intOf]; omega⟩
      rw [q7, Nat.mod_one] at hs
      have : sh = .u8 := by simpa [gsh] using hs.symm
      subst this
      exact ⟨_, rfl⟩
    · obtain rfl : j = len := by omega
      obtain ⟨i0, hi, hz0, hz1, hz2⟩ := info_parts infoU8
      go_wp2_with (at_builtin; refine wpList_append_spoil _ rfl (.tmp 17) (.tmp 18) 39 rfl 5 i0 (.int .u8 0) 1 1 Try.underlying39 hi hz0 hz1 hz2 rfl (by decide) (lo := lo) (n := n) (k := k) (v := .slice p j cap) ?sl rfl ⟨wr.heap.size, 0, none⟩ 1 [.int .u8 5] rfl rfl ?c1 ?c2 (fun j u sh h hs => u8_triv h hs) (by decide) ?bl ?go)
      case sl => exact (Spoil.keeps hbl2 (Keeps.alloc wr _)).sl _ _ _ hv2
      case c1 => intro j u hj; match j, hj with | 0, hj => simp at hj; subst hj; simp [Addr.add]
      case c2 => intro u hu; simp at hu; subst hu; rfl
      case bl => exact fun b h1 h2 => Nat.lt_of_lt_of_le (hbl2 b h1 h2) (Keeps.alloc wr _).size
      case go =>
        intro v' w' hS2 _
        go_wp2
        go_end0
        exact ⟨rfl, (hS.trans (Spoil.keeps hbl2 (Keeps.alloc wr _))).trans hS2⟩
theorem elem2 {lo n k : Nat} {w : World} {b off len cap j : Nat} (h : SL lo n w (k + 1) 2 (.slice (some ⟨b, off, none⟩) len cap)) (hj : j < len) :
    ∃ (t0 : ByteArray) (u1 : Value) (cur : Array Value) (e : TypeId) (mk : Nat × Nat), w.cell? ⟨b, off + j * 2, none⟩ = some (.string t0) ∧ w.cell? ⟨b, off + j * 2 + 1, none⟩ = some u1 ∧
      w.frozen? ⟨b, off + j * 2, none⟩ = false ∧ w.frozen? ⟨b, off + j * 2 + 1, none⟩ = false ∧ SL lo n w k 1 u1 ∧ lo ≤ b ∧ b < lo + n ∧ w.heap[b]? = some (.cells cur e mk) ∧ gsz e = 2 ∧ off % 2 = 0 := by
  obtain ⟨p', len', cap', e1, k1, _, k5⟩ := h
  cases e1
  rcases k5 with h0 | ⟨q, e2, _, q3, q4, ⟨cur, e', mk, q5, q6, q7, q8, q9⟩, q10⟩
  · omega
  cases e2
  have hlt : off + j * 2 + 1 < cur.size := by
    have : (j + 1) * 2 ≤ cap * 2 := Nat.mul_le_mul_right _ (by omega)
    simp only at q9
    omega
  obtain ⟨u0, c0, t0, rfl⟩ := q10 j 0 .str hj rfl
  obtain ⟨u1, c1, s1⟩ := q10 j 1 (.sl 1) hj rfl
  exact ⟨t0, u1, cur, e', mk, c0, c1, unfroz_at q5 q6 (by omega), unfroz_at q5 q6 (by omega), s1, q3, q4, q5, q7, q8⟩
set_option maxHeartbeats 2000000 in
set_option maxRecDepth 100000 in
theorem files_sp (lo n k : Nat) (w : World) (v : Value) (hv : SL lo n w (k + 2) 2 v) (hbl : ∀ b, lo ≤ b → b < lo + n → b < w.heap.size) :
    Calls Try.prog 7 #[v] w fun e w' => e = .returned (.tuple #[]) ∧ Spoil lo n w w' := by
  obtain ⟨p, len, cap, rfl, k1, ⟨k2, k3⟩, k4⟩ := id hv
  go_enter Try.func7, Try.ntmps7
  go_wp2
  go_loopw [2] (fun i wr => ∃ j : Nat, j ≤ len ∧ i = .int .i64 j ∧ Spoil lo n w wr)
    (fun i _ => len - (intOf i).toNat)
  case atStart => exact ⟨0, Nat.zero_le _, rfl, Spoil.refl _ _ _⟩
  case round =>
    obtain ⟨j, hj, rfl, hS⟩ := hrel
    have hv2 := hS.sl _ _ _ hv
    have hbl2 : ∀ b, lo ≤ b → b < lo + n → b < wr.heap.size := fun b h1 h2 => Nat.lt_of_lt_of_le (hbl b h1 h2) hS.size
    by_cases hj2 : j < len
    · rcases k4 with rfl | ⟨⟨b, off, sp⟩, rfl, rfl, _⟩
      · omega
      clear hv
      obtain ⟨t0, u1, cur, e', mk, c0, c1, f0, f1, s1, q3, q4, q5, q7, q8⟩ := elem2 hv2 hj2
      clear q3 q4 q5 q7 q8 f0 f1
      go_wp2_with (go_at_call 18; (with_reducible refine (bytes_sp lo n k _ u1 s1 hbl2).mono ?_); rintro e w1 ⟨rfl, hS1⟩; obtain ⟨tb0, ub1, cur, e', mk, cb0, cb1, fb0, fb1, sb1, q3, q4, q5, q7, q8⟩ := elem2 (hS1.sl _ _ _ hv2) hj2)
      exact ⟨⟨j + 1, by omega, by go_num, (hS.trans hS1).trans (Spoil.elem q3 q4 q5 q7 q8 [.string ⟨#[115, 112, 111, 105, 108, 116]⟩, .slice none 0 0] (by decide) (tl_c ⟨_, rfl⟩ (tl_c rfl tl_n)))⟩, by simp [intOf]; omega⟩
    · obtain rfl : j = len := by omega
      obtain ⟨i0, hi, hz0, hz1, hz2⟩ := info_parts infoF
      go_wp2_with (at_builtin; refine wpList_append_spoil _ rfl (.tmp 19) (.tmp 21) 22 rfl 50 i0 (.agg #[.string ⟨#[]⟩, .slice none 0 0]) 2 40 Try.underlying22 hi hz0 hz1 hz2 rfl (by decide) (lo := lo) (n := n) (k := k + 1) (v := .slice p j cap) ?sl rfl ⟨wr.heap.size, 0, none⟩ 1 [.string ⟨#[]⟩, .slice none 0 0] rfl rfl ?c1 ?c2 (tl_c ⟨_, rfl⟩ (tl_c rfl tl_n) : TrivL (gsh 2) _) (by decide) ?bl ?go)
      case sl => exact (Spoil.keeps hbl2 (Keeps.alloc wr _)).sl _ _ _ hv2
      case c1 => intro j u hj; rw [alloc_row]; simpa using hj
      case c2 => intro u hu; simp at hu; rcases hu with rfl | rfl <;> rfl
      case bl => exact fun b h1 h2 => Nat.lt_of_lt_of_le (hbl2 b h1 h2) (Keeps.alloc wr _).size
      case go =>
        intro v' w' hS2 _
        go_wp2
        go_end0
        exact ⟨rfl, (hS.trans (Spoil.keeps hbl2 (Keeps.alloc wr _))).trans hS2⟩
attribute [local irreducible] SL
theorem fsB (l : List UInt8) (h : l.length ≤ 4294967296) (k : Nat) : FitS (k + 1) 1 (.sl 1 (u8s l)) := .inr ⟨_, rfl, by rw [u8s_length]; exact h, fun cs hcs => by
  obtain ⟨x, _, rfl⟩ := List.mem_map.1 hcs
  exact ⟨x.toNat, [], rfl, rfl⟩⟩
theorem fsF (l : List FileS) (h : l.length ≤ 4294967296) (hd : ∀ f ∈ l, f.data.length ≤ 4294967296) (k : Nat) : FitS (k + 2) 2 (.sl 2 (l.map FileS.cs)) := .inr ⟨_, rfl, by rw [List.length_map]; exact h, fun cs hcs => by
  obtain ⟨x, hx, rfl⟩ := List.mem_map.1 hcs
  exact ⟨x.name, _, rfl, _, _, rfl, fsB x.data (hd x hx) k, rfl⟩⟩
theorem spoilF_ok (l : List FileS) (h : l.length ≤ 4294967296) (hd : ∀ f ∈ l, f.data.length ≤ 4294967296) (lo n : Nat) :
    ACalls Try.prog 7 [.isl 0 (.sl 2 (l.map FileS.cs))] [.isle lo n true] (fun av L => av = .tup [] ∧ L = [.isle lo n false]) :=
  acalls_spoil fun c E w vs hbl hv => by
    simp only [VRt] at hv
    obtain ⟨u, us', e, h1, rfl⟩ := hv
    obtain rfl : vs = #[u] := by cases vs; simp_all
    exact files_sp lo n 1 w u (isl_SL (fsF l h hd 1) h1) hbl
end Go.Proofs.Ytgoejddmglgogaa
namespace Go.Proofs.Ytgoejddmglgogaa
open Go.Ab Go.RowKit Go.MapKept
attribute [local irreducible] ACalls AW ADraw Into fltB fnear
set_option maxRecDepth 100000
theorem dnE_u8 (l : List UInt8) : DnE (u8s l) (u8s l) := DnE.map (f := fun b : UInt8 => [DV.int .u8 b.toNat]) (g := fun b : UInt8 => [DV.int .u8 b.toNat]) (fun _ => .cons (.flat (flat_int _ _)) .nil) l
theorem dnE_nums (l : List Int) : DnE (nums l) (nums l) := DnE.map (f := fun x => [DV.int .i64 x]) (g := fun x => [DV.int .i64 x]) (fun _ => .cons (.flat (flat_int _ _)) .nil) l
theorem dn_files (l : List FileS) : DnD (.sl 2 (l.map FileS.cs)) (filesO l) := .sl (DnE.map (fun _ => .cons (.flat (flat_str _)) (.cons (.sl (dnE_u8 _)) .nil)) l)
theorem ne_u8 (l : List UInt8) : NoE (u8s l) := NoE_map (f := fun b : UInt8 => [DV.int .u8 b.toNat]) (fun _ => ⟨trivial, trivial⟩) l
theorem ne_files (l : List FileS) : NoE (l.map FileS.cs) := NoE_map (f := FileS.cs) (fun _ => ⟨trivial, ne_u8 _, trivial⟩) l
theorem copyFilesI (l : List FileS) (hl : l.length ≤ 1000000) (hm : ∀ f ∈ l, f.data.length ≤ 140737488355328) : ACalls Try.prog 5 [.d (.sl 2 (l.map FileS.cs))] [] (fun av L => av = .isl 0 (.sl 2 (l.map FileS.cs)) ∧ ∃ lo n, L = [.isle lo n true]) :=
  acalls_isle (X := fun av => av = .d (.sl 2 (l.map FileS.cs))) (post := fun av => av = .isl 0 (.sl 2 (l.map FileS.cs))) (.cons (.inl (.inl ⟨_, _, rfl, rfl, dn_files l⟩)) .nil) (copyFiles_okO l hl hm) (by
    rintro _ rfl
    exact ⟨_, .inl (.inl (.sl (ne_files l))), rfl⟩)
theorem qe_ents : ∀ (fs : List Fl), All2 (QE NoR) (fs.map Fl.ent) (fs.map Fl.ent)
  | [] => .nil
  | f :: r => .cons ⟨_, _, _, _, rfl, rfl, fun rd rd' v h => ⟨h.1, flat_str _ _ _ _ h.2⟩, .cons ⟨rfl, ne_u8 _⟩ (.cons ⟨rfl, ne_u8 _⟩ .nil)⟩ (qe_ents r)
theorem newI (files : List FileS) (hp : ∀ f ∈ files, f.data.length ≤ 140737488355328) (hl : files.length ≤ 140737488355328) (lo n : Nat) : ACalls Try.prog 6 [.isl 0 (.sl 2 (files.map FileS.cs))] [.isle lo n true]
    (fun av L => (mayNew files = true → av = .tup [.ptr 1 0, .d (.int .i64 0)] ∧ ∃ fs, L = [.isle lo n true, .cells [.d (.int .i64 0), .d (.bool false), .d (.int .i64 0), .map 2], .map (fs.map Fl.ent)] ∧ newFl fs files) ∧ (mayNew files = false → av = .tup [.d .nilp, .d (.int .i64 1)] ∧ L = [.isle lo n true])) :=
  acalls_fresh (.cons (.inl (.inr ⟨0, _, _, lo, n, rfl, rfl, rfl, dn_files files⟩)) .nil) (new_okO files hp hl) (by
    rintro av L ⟨h1, h2⟩
    cases hm : mayNew files with
    | true =>
      obtain ⟨rfl, fs, rfl, hn⟩ := h1 hm
      refine ⟨fun R R1 v hpt hd h => ?_, .cons (.cells (.cons (.d ⟨rfl, trivial⟩) (.cons (.d ⟨rfl, trivial⟩) (.cons (.d ⟨rfl, trivial⟩) (.cons (.map 1) .nil))))) (.cons (.map (qe_ents fs)) .nil), _, _, rfl, rfl, fun _ => ⟨rfl, fs, rfl, hn⟩, fun h => by cases h⟩
      simp only [VR, VRt] at h ⊢
      obtain ⟨us, rfl, u, us', e1, ⟨b, hb, rfl⟩, u2, us2, e2, h3, e3⟩ := h
      exact ⟨us, rfl, _, us', e1, ⟨b, hpt _ _ hb, rfl⟩, u2, us2, e2, hd _ _ trivial h3, e3⟩
    | false =>
      obtain ⟨rfl, rfl⟩ := h2 hm
      refine ⟨fun R R1 v hpt hd h => ?_, .nil, _, _, rfl, rfl, (fun h => by cases h), fun _ => ⟨rfl, rfl⟩⟩
      simp only [VR, VRt] at h ⊢
      obtain ⟨us, rfl, u, us', e1, h1, u2, us2, e2, h3, e3⟩ := h
      exact ⟨us, rfl, _, us', e1, hd _ _ trivial h1, u2, us2, e2, hd _ _ trivial h3, e3⟩)
theorem qd_u8 (l : List UInt8) : QD (.sl 1 (u8s l)) (.slq 1 (u8s l)) := .sl fun cs hcs x hx => by
  obtain ⟨y, _, rfl⟩ := List.mem_map.1 hcs
  simp at hx
  subst hx
  exact flat_int _ _
theorem qd_ents : ∀ (fs : List Fl), All2 (QE QD) (fs.map Fl.ent) (fs.map Fl.entq)
  | [] => .nil
  | f :: r => .cons ⟨_, _, _, _, rfl, rfl, fun rd rd' v h => ⟨h.1, flat_str _ _ _ _ h.2⟩, .cons (qd_u8 _) (.cons (qd_u8 _) .nil)⟩ (qd_ents r)
theorem qd_L (d : Dk) : All2 (QB QD) d.L d.Lq := .cons (.cells (.cons (.d (.flat (flat_int _ _))) (.cons (.d (.flat (flat_bool _))) (.cons (.d (.flat (flat_int _ _))) (.cons (.map 1) .nil))))) (.cons (.map (qd_ents _)) .nil)
theorem crashI (d : Dk) (hd : d.dat.fine) (picks : List Int) (hp : ∀ k ∈ picks, -9223372036854775808 ≤ k ∧ k < 9223372036854775808) (hpl : picks.length ≤ 140737488355328) :
    ACalls Try.prog 38 [.ptr 0 0, .d (.sl 1 (nums picks))] d.L (fun av L => (∃ ss : List ByteArray, ss.Perm (d.dat.fs.map FD.name) ∧ risingS ss ∧ av = .isl 2 (.sl 2 ((crashAt (pickFs ss d.dat.fs) picks ss.length).1.map FileS.cs))) ∧ ∃ lo n, L = d.L ++ [.isle lo n true]) :=
  acalls_newq (X := fun av => ∃ ss : List ByteArray, ss.Perm (d.dat.fs.map FD.name) ∧ risingS ss ∧ av = .d (.sl 2 ((crashAt (pickFs ss d.dat.fs) picks ss.length).1.map FileS.cs)))
    (.cons (.inr ⟨0, 0, rfl, rfl⟩) (.cons (.inl ⟨_, _, rfl, rfl, .sl (dnE_nums picks)⟩) .nil)) (qd_L d) ((crash_okQ d hd picks hp hpl).mono fun av L ⟨ss, h1, h2, h3, h4⟩ => ⟨⟨ss, h1, h2, h3⟩, h4⟩) (by
    rintro av ⟨ss, h1, h2, rfl⟩
    exact ⟨_, .inl (.inl (.sl (ne_files _))), ss, h1, h2, rfl⟩)
def b8 (l : List Int) : List (List DV) := l.map fun z => [.int .u8 z]
theorem b8_length (l : List Int) : (b8 l).length = l.length := by simp [b8]
theorem spoilB_ok (xs : List UInt8) (hm : xs.length ≤ 8000000000) : ACalls Try.prog 18 [.arr 0] [.row 5 1 (u8s xs) false] (fun av L => av = .tup [] ∧ L = [.dead]) := by
  have e0 : u8s xs = b8 (xs.map fun b => (b.toNat : Int)) := by simp [u8s, b8]
  rw [e0]
  obtain ⟨x0, hx0⟩ : ∃ x0, xs.map (fun b => (b.toNat : Int)) = x0 := ⟨_, rfl⟩
  have hm0 : x0.length ≤ 8000000000 := by rw [← hx0, List.length_map]; exact hm
  rw [hx0]
  clear e0 hx0 hm
  (refine acalls_go ttOk zOk foOk Try.func18 rfl Try.ntmps18 rfl true rfl ?_); (conv => whnf)
  refine loop_go2 ttOk zOk foOk (σ := Nat) (ρ := List Int) (fun k ys => ([(0, .arr 0), (2, .d (.int .i64 k))], [.row 5 1 (b8 ys) false])) (fun k ys => k ≤ x0.length ∧ ys.length = x0.length) (fun k _ => x0.length - k) [0, 2] ?_ ?_
  · conv => whnf
    exact ⟨0, x0, rfl, rfl, by omega, rfl⟩
  · rintro k ys ⟨hk, hl⟩
    have hll : (b8 ys).length = ys.length := b8_length ys
    conv => whnf
    refine rdz ?_; repeat' ((with_reducible apply tw) <;> intro _)
    · rename_i h
      obtain ⟨a, ha⟩ : ∃ a, ys[k]? = some a := ⟨_, List.getElem?_eq_getElem (by omega)⟩
      have hat : (b8 ys)[(k : Int).toNat]? = some [.int .u8 a] := by rw [Int.toNat_natCast, b8, List.getElem?_map, ha]; rfl
      refine ⟨by omega, by rw [hll]; show k < _; omega, ?_⟩
      conv => whnf
      refine ⟨_, hat, ?_⟩
      conv => whnf
      intro z hz
      clear hz
      conv => whnf
      refine rdz ?_; repeat' ((with_reducible apply tw) <;> intro _)
      refine ⟨by omega, by rw [hll]; show k < _; omega, ?_⟩
      conv => whnf
      refine ⟨_, hat, ?_⟩
      conv => whnf
      refine rdz ?_; repeat' ((with_reducible apply tw) <;> intro _)
      refine ⟨k + 1, ys.set k z, rfl, ?_, ⟨by omega, by simpa using hl⟩, by omega⟩
      simp [b8, List.map_set]
    · rename_i h
      refine ⟨by rw [hll]; show (ys.length + 1) * 1 ≤ _; omega, ?_⟩
      conv => whnf
      exact ⟨rfl, rfl⟩
end Go.Proofs.Ytgoejddmglgogaa
namespace Go.Proofs.Ytgoejddmglgogaa
open Go.Ab Go.RowKit
attribute [local irreducible] ACalls AW ADraw Into
theorem name_ok (s : ByteArray) : ACalls Try.prog 19 [.d (.str s)] [] (fun av L => av = .d (.bool (goodS s)) ∧ L = []) := by
  (refine acalls_go ttOk zOk foOk Try.func19 rfl Try.ntmps19 rfl false rfl ?_); (conv => whnf)
  refine sp_dec (fun h => ?_) (fun h => ?_)
  · conv => whnf
    exact ⟨by rw [good_short (.inl (by omega))]; rfl, rfl⟩
  · conv => whnf
    refine sp_dec (fun h2 => ?_) (fun h2 => ?_)
    · conv => whnf
      exact ⟨by rw [good_short (.inr (by omega))]; rfl, rfl⟩
    · conv => whnf
      refine loop_go ttOk zOk foOk (σ := Nat) (fun k => ([(0, .d (.str s)), (3, .d (.int .i64 k))], [])) (fun k => k ≤ s.size ∧ (s.data.toList.take k).all (fun b => gc b.toNat) = true) (fun k => s.size - k) [0, 3] ?_ ?_
      · conv => whnf
        exact ⟨0, rfl, rfl, Nat.zero_le _, rfl⟩
      · rintro k ⟨hk, ht⟩
        conv => whnf
        refine sp_dec (fun h => ?_) (fun h => ?_)
        · conv => whnf
          have hlt : k < s.size := by omega
          obtain ⟨hgt, hgf⟩ := good_at hlt (by omega) (by omega) ht
          obtain ⟨c0, hc0⟩ : ∃ c0, s[k] = c0 := ⟨_, rfl⟩
          rw [hc0] at hgt hgf
          refine ⟨by omega, c0, by simp [hlt, hc0], ?_⟩
          obtain ⟨c, hc⟩ : ∃ c, c0.toNat = c := ⟨_, rfl⟩
          rw [hc] at hgt hgf ⊢
          conv => whnf
          repeat' (first | ((with_reducible refine mt_dec (fun _ => ?_) (fun _ => ?_)) <;> (conv => whnf)) | ((with_reducible refine mt_ne (fun _ => ?_) (fun _ => ?_)) <;> (conv => whnf)))
          all_goals first
            | (have hg : gc c = false := by unfold gc; simp; omega
               exact ⟨by rw [hgf hg]; rfl, rfl⟩)
            | (have hg : gc c = true := by unfold gc; simp; omega
               have := hgt hg
               ((with_reducible apply z_wrap); (focus omega); (conv => whnf))
               exact ⟨k + 1, rfl, rfl, ⟨by omega, this⟩, by omega⟩)
        · conv => whnf
          have : k = s.size := by omega
          subst this
          exact ⟨by rw [good_end (by omega) (by omega) ht]; rfl, rfl⟩
end Go.Proofs.Ytgoejddmglgogaa
namespace Go.Proofs.Ytgoejddmglgogaa
open Go.Ab Go.RowKit Go.MapKept
attribute [local irreducible] ACalls AW ADraw Into fltB fnear
set_option maxRecDepth 100000
def FD.cs (f : FD) : List DV := [.str f.name, .sl 1 (u8s f.safe), .sl 1 (u8s f.seen)]
structure RD where
  l : List FD
  calls : Int
  left : Int
  off : Bool
def RD.L (r : RD) : List AB := [.cells [.arr 1, .d (.int .i64 r.calls), .d (.int .i64 r.left), .d (.bool r.off)], .row 66 3 (r.l.map FD.cs) false]
def RD.L2 (r : RD) : List AB := [.cells [.arr 2, .d (.int .i64 r.calls), .d (.int .i64 r.left), .d (.bool r.off)], .dead, .row 66 3 (r.l.map FD.cs) false]
structure RD.fit (r : RD) : Prop where
  calls : 0 ≤ r.calls ∧ r.calls ≤ 1000000
  left : -1 ≤ r.left ∧ r.left < 9223372036854775808
  len : r.l.length ≤ 16
  lens : ∀ f ∈ r.l, f.seen.length ≤ 1048576 ∧ f.safe.length ≤ 1048576
theorem rCalls_ok (r : RD) : ACalls Try.prog 14 [.ptr 0 0] r.L (fun av L => av = .d (.int .i64 r.calls) ∧ L = r.L) := by
  (refine acalls_go ttOk zOk foOk Try.func14 rfl Try.ntmps14 rfl false rfl ?_); (conv => whnf)
  exact ⟨rfl, rfl⟩
def RD.turn (r : RD) (n : Int) : RD := if n < 1 then { r with off := true } else { r with left := n }
theorem rOff_ok (r : RD) (n : Int) : ACalls Try.prog 42 [.ptr 0 0, .d (.int .i64 n)] r.L (fun av L => av = .tup [] ∧ L = (r.turn n).L) := by
  (refine acalls_go ttOk zOk foOk Try.func42 rfl Try.ntmps42 rfl false rfl ?_); (conv => whnf)
  refine rdw ?_; repeat' ((with_reducible apply tw) <;> intro _)
  · rename_i h
    exact ⟨rfl, by rw [RD.turn, if_pos h]; rfl⟩
  · rename_i h
    exact ⟨rfl, by rw [RD.turn, if_neg h]; rfl⟩
def RD.call (r : RD) : Bool × RD :=
  if r.off = true then (false, { r with calls := r.calls + 1 }) else
  if r.left > 0 then (if r.left - 1 = 0 then (false, { r with calls := r.calls + 1, left := r.left - 1, off := true }) else (true, { r with calls := r.calls + 1, left := r.left - 1 })) else
  (true, { r with calls := r.calls + 1 })
theorem rCall_ok (r : RD) (hr : r.fit) : ACalls Try.prog 45 [.ptr 0 0] r.L (fun av L => av = .d (.bool r.call.1) ∧ L = r.call.2.L) := by
  have h1 := hr.calls
  have h2 := hr.left
  (refine acalls_go ttOk zOk foOk Try.func45 rfl Try.ntmps45 rfl false rfl ?_); (conv => whnf)
  refine rdw ?_; repeat' ((with_reducible apply tw) <;> intro _)
  · rename_i k1
    rw [RD.call, if_pos k1]
    exact ⟨rfl, by simp [RD.L, k1]⟩
  · rename_i k1 k2 k3
    rw [RD.call, if_neg (by simp [k1]), if_pos k2, if_pos k3]
    exact ⟨rfl, rfl⟩
  · rename_i k1 k2 k3
    rw [RD.call, if_neg (by simp [k1]), if_pos k2, if_neg k3]
    exact ⟨rfl, by simp [RD.L, k1]⟩
  · rename_i k1 k2
    rw [RD.call, if_neg (by simp [k1]), if_neg k2]
    exact ⟨rfl, by simp [RD.L, k1]⟩
theorem call_l (r : RD) : r.call.2.l = r.l := by unfold RD.call; split; rfl; split; (split <;> rfl); rfl
theorem call_fit {r : RD} (hr : r.fit) (hc : r.calls ≤ 999999) : r.call.2.fit := by
  have h1 := hr.calls
  have h2 := hr.left
  refine ⟨?_, ?_, by rw [call_l]; exact hr.len, by rw [call_l]; exact hr.lens⟩
  · unfold RD.call; split; (show 0 ≤ r.calls + 1 ∧ r.calls + 1 ≤ _; omega); split; (split <;> (show 0 ≤ r.calls + 1 ∧ r.calls + 1 ≤ _; omega)); (show 0 ≤ r.calls + 1 ∧ r.calls + 1 ≤ _; omega)
  · unfold RD.call; split; exact h2; split; (split <;> (show -1 ≤ r.left - 1 ∧ r.left - 1 < _; omega)); exact h2
def idxN (n : ByteArray) (l : List FD) : Option Nat := l.findIdx? fun f => decide (f.name = n)
def idxI (n : ByteArray) (l : List FD) : Int := match idxN n l with
  | some i => i
  | none => -1
theorem idx_at {n : ByteArray} {l : List FD} {k : Nat} {f : FD} (hf : l[k]? = some f) (h1 : f.name = n) (h2 : ∀ x ∈ l.take k, ¬ x.name = n) : idxN n l = some k := by
  obtain ⟨hk, rfl⟩ := List.getElem?_eq_some_iff.1 hf
  rw [idxN, List.findIdx?_eq_some_iff_getElem]
  refine ⟨hk, by simpa using h1, fun j hj => ?_⟩
  have := h2 l[j] (List.mem_take_iff_getElem.2 ⟨j, by omega, rfl⟩)
  simpa using this
theorem idx_no {n : ByteArray} {l : List FD} (h : ∀ x ∈ l, ¬ x.name = n) : idxN n l = none := by
  rw [idxN, List.findIdx?_eq_none_iff]
  intro x hx
  simpa using h x hx
theorem fds_at {l : List FD} {k : Nat} {f : FD} (h : l[k]? = some f) : (l.map FD.cs)[(k : Int).toNat]? = some f.cs := by rw [Int.toNat_natCast, List.getElem?_map, h]; rfl
theorem find_ok (r : RD) (hr : r.fit) (n : ByteArray) : ACalls Try.prog 46 [.ptr 0 0, .d (.str n)] r.L (fun av L => av = .d (.int .i64 (idxI n r.l)) ∧ L = r.L) := by
  have hln := hr.len
  (refine acalls_go ttOk zOk foOk Try.func46 rfl Try.ntmps46 rfl false rfl ?_); (conv => whnf)
  refine rdw ?_; repeat' ((with_reducible apply tw) <;> intro _)
  refine loop_go ttOk zOk foOk (σ := Nat) (fun k => ([(0, .ptr 0 0), (1, .d (.str n)), (5, .d (.int .i64 k))], r.L)) (fun k => k ≤ r.l.length ∧ ∀ x ∈ r.l.take k, ¬ x.name = n) (fun k => r.l.length - k) [0, 1, 5] ?_ ?_
  · conv => whnf
    exact ⟨0, rfl, rfl, Nat.zero_le _, fun x hx => by simp at hx⟩
  · rintro k ⟨hk, hno⟩
    conv => whnf
    refine rdw ?_; repeat' ((with_reducible apply tw) <;> intro _)
    · rename_i k1
      replace k1 : (k : Int) < ((r.l.map FD.cs).length : Int) := k1
      rw [List.length_map] at k1
      refine Exists.elim (⟨_, List.getElem?_eq_getElem (by omega)⟩ : ∃ f, r.l[k]? = some f) fun f hf => ?_
      refine ⟨by omega, by rw [List.length_map]; omega, ?_⟩
      conv => whnf
      refine ⟨_, fds_at hf, ?_⟩
      conv => whnf
      refine rdw ?_; repeat' ((with_reducible apply tw) <;> intro _)
      · rename_i k2
        have e : f.name = n := toList_inj (by simpa using k2)
        exact ⟨by rw [idxI, idx_at hf e hno], rfl⟩
      · rename_i k2
        have e : ¬ f.name = n := fun e => by rw [e] at k2; simp at k2
        refine ⟨k + 1, rfl, rfl, ⟨by omega, fun x hx => ?_⟩, by omega⟩
        rw [List.take_add_one, hf] at hx
        rcases List.mem_append.1 hx with hx | hx
        · exact hno x hx
        · simp at hx; subst hx; exact e
    · rename_i k1
      replace k1 : ¬ (k : Int) < ((r.l.map FD.cs).length : Int) := k1
      rw [List.length_map] at k1
      rw [List.take_of_length_le (by omega)] at hno
      exact ⟨by rw [idxI, idx_no hno]; rfl, rfl⟩
def insN (f : FD) (l : List FD) (k : Nat) : List FD := l.take k ++ f :: l.drop k
def RD.with (r : RD) (l : List FD) : RD := { r with l := l }
theorem er_map (l : List FD) (k : Nat) : ([] ++ List.drop (Int.toNat 0) (List.take ((k : Int)).toNat (List.map FD.cs l)) ++ List.drop ((k : Int) + 1).toNat (List.take ((List.map FD.cs l).length : Int).toNat (List.map FD.cs l))) = (l.eraseIdx k).map FD.cs := by
  rw [List.eraseIdx_eq_take_drop_succ, List.map_append, List.map_take, List.map_drop, Int.toNat_natCast, Int.toNat_natCast, List.take_length, show ((k : Int) + 1).toNat = k + 1 by omega]
  rfl
theorem drop_ok (r : RD) (hr : r.fit) (k : Nat) (hk : k < r.l.length) : ACalls Try.prog 47 [.ptr 0 0, .d (.int .i64 k)] r.L (fun av L => av = .tup [] ∧ L = (r.with (r.l.eraseIdx k)).L2) := by
  have hln := hr.len
  have hfl : (r.l.map FD.cs).length = r.l.length := List.length_map ..
  refine acalls_kill (post := fun av L => av = .tup [] ∧ L = [.cells [.arr 2, .d (.int .i64 r.calls), .d (.int .i64 r.left), .d (.bool r.off)], .row 66 3 (r.l.map FD.cs) true, .row 66 3 ((r.l.eraseIdx k).map FD.cs) false]) ?_ 1 ?_
  · (refine acalls_go ttOk zOk foOk Try.func47 rfl Try.ntmps47 rfl false rfl ?_); (conv => whnf)
    refine rdw ?_; repeat' ((with_reducible apply tw) <;> intro _)
    (refine Or.inl ?_; (conv => whnf))
    refine ⟨by omega, by omega, by omega, ?_⟩
    conv => whnf
    refine ⟨by rw [List.length_drop, List.length_take]; show (0 + _) * 64 ≤ _; omega, ?_⟩
    conv => whnf
    refine rdw ?_; repeat' ((with_reducible apply tw) <;> intro _)
    (refine Or.inl ?_; (conv => whnf))
    refine ⟨by omega, by omega, by omega, ?_⟩
    conv => whnf
    refine ⟨?_, ?_⟩
    · rw [List.length_append, List.length_drop, List.length_drop, List.length_take, List.length_take]
      show (0 + _ + _) * 64 ≤ _
      omega
    conv => whnf
    refine rdw ?_; repeat' ((with_reducible apply tw) <;> intro _)
    refine ⟨rfl, ?_⟩
    rw [er_map]
  · rintro _ _ ⟨rfl, rfl⟩
    exact ⟨_, _, _, _, rfl, rfl, rfl⟩
def putK (n : ByteArray) : List FD → Nat
  | [] => 0
  | f :: l => if lessS f.name n = true then putK n l + 1 else 0
theorem putK_le (n : ByteArray) : ∀ l : List FD, putK n l ≤ l.length
  | [] => Nat.le_refl _
  | f :: l => by
    unfold putK
    split
    · have := putK_le n l
      simp only [List.length_cons]
      omega
    · exact Nat.zero_le _
theorem putK_at (n : ByteArray) : ∀ {l : List FD} {k : Nat} {f : FD}, (∀ x ∈ l.take k, lessS x.name n = true) → l[k]? = some f → lessS f.name n = false → putK n l = k
  | [], k, f, _, h, _ => by simp at h
  | x :: l, 0, f, _, h, h2 => by
    simp at h
    subst h
    unfold putK
    rw [if_neg (by rw [h2]; decide)]
  | x :: l, k + 1, f, h1, h, h2 => by
    unfold putK
    rw [if_pos (h1 x (by simp)), putK_at n (fun y hy => h1 y (by rw [List.take_succ_cons]; exact List.mem_cons_of_mem _ hy)) (by simpa using h) h2]
theorem putK_all (n : ByteArray) : ∀ {l : List FD}, (∀ x ∈ l, lessS x.name n = true) → putK n l = l.length
  | [], _ => rfl
  | x :: l, h1 => by
    unfold putK
    rw [if_pos (h1 x (by simp)), putK_all n (fun y hy => h1 y (by simp [hy])), List.length_cons]
theorem ins_map (f : FD) (l : List FD) (k : Nat) : ([] ++ List.drop (Int.toNat 0) (List.take ((k : Int)).toNat (List.map FD.cs l)) ++ [f.cs] ++ List.drop ((k : Int)).toNat (List.take ((List.map FD.cs l).length : Int).toNat (List.map FD.cs l))) = (insN f l k).map FD.cs := by
  rw [insN, List.map_append, List.map_cons, List.map_take, List.map_drop, Int.toNat_natCast, Int.toNat_natCast, List.take_length]
  simp
theorem put_ok (r : RD) (hr : r.fit) (f : FD) : ACalls Try.prog 48 [.ptr 0 0, .agg [.d (.str f.name), .d (.sl 1 (u8s f.safe)), .d (.sl 1 (u8s f.seen))]] r.L (fun av L => av = .d (.int .i64 (putK f.name r.l : Nat)) ∧ L = (r.with (insN f r.l (putK f.name r.l))).L2) := by
  have hln := hr.len
  have hfl : (r.l.map FD.cs).length = r.l.length := List.length_map ..
  refine acalls_kill (post := fun av L => av = .d (.int .i64 (putK f.name r.l : Nat)) ∧ L = [.cells [.arr 2, .d (.int .i64 r.calls), .d (.int .i64 r.left), .d (.bool r.off)], .row 66 3 (r.l.map FD.cs) true, .row 66 3 ((insN f r.l (putK f.name r.l)).map FD.cs) false]) ?_ 1 ?_
  rotate_left
  · rintro _ _ ⟨rfl, rfl⟩
    exact ⟨_, _, _, _, rfl, rfl, rfl⟩
  (refine acalls_go ttOk zOk foOk Try.func48 rfl Try.ntmps48 rfl false rfl ?_); (conv => whnf)
  refine loop_go ttOk zOk foOk (σ := Nat) (fun k => ([(0, .ptr 0 0), (3, .ptr 2 0), (5, .d (.int .i64 k))], r.L ++ [.cells [.d (.str f.name), .d (.sl 1 (u8s f.safe)), .d (.sl 1 (u8s f.seen))]])) (fun k => k ≤ r.l.length ∧ ∀ x ∈ r.l.take k, lessS x.name f.name = true) (fun k => r.l.length - k) [0, 3, 5] ?_ ?_
  · conv => whnf
    exact ⟨0, rfl, rfl, Nat.zero_le _, fun x hx => by simp at hx⟩
  · rintro k ⟨hk, hno⟩
    conv => whnf
    ((with_reducible refine draw_pl ttOk zOk foOk mixedOk pl48x2 ?_ ?_); (focus kernel_rfl); (conv => whnf))
    refine rdw ?_; repeat' ((with_reducible apply tw) <;> intro _)
    · rename_i k1
      replace k1 : (k : Int) < ((r.l.map FD.cs).length : Int) := k1
      rw [hfl] at k1
      refine Exists.elim (⟨_, List.getElem?_eq_getElem (by omega)⟩ : ∃ g, r.l[k]? = some g) fun g hg => ?_
      ((with_reducible apply rd_intro); (focus (intro K hK; (conv => whnf); exact ⟨by omega, (by rw [hfl]; omega), hK⟩)); (conv => whnf))
      refine rdw ?_; repeat' ((with_reducible apply tw) <;> intro _)
      ((with_reducible apply rd_intro); (focus (intro K hK; (conv => whnf); exact ⟨_, fds_at hg, hK⟩)); (conv => whnf))
      refine rdw ?_; repeat' ((with_reducible apply tw) <;> intro _)
      · rename_i k2
        refine ⟨k + 1, rfl, rfl, ⟨by omega, fun x hx => ?_⟩, by omega⟩
        rw [List.take_add_one, hg] at hx
        rcases List.mem_append.1 hx with hx | hx
        · exact hno x hx
        · simp at hx; subst hx; exact k2
      · rename_i k2
        have hput : putK f.name r.l = k := putK_at _ hno hg k2
        rw [hput]
        (refine Or.inl ?_; (conv => whnf))
        refine ⟨by omega, by omega, by omega, ?_⟩
        conv => whnf
        refine ⟨by rw [List.length_drop, List.length_take]; show (0 + _) * 64 ≤ _; omega, ?_⟩
        conv => whnf
        refine rdw ?_; repeat' ((with_reducible apply tw) <;> intro _)
        refine ⟨by rw [List.length_append, List.length_drop, List.length_take]; show (0 + _ + 1) * 64 ≤ _; omega, ?_⟩
        conv => whnf
        refine rdw ?_; repeat' ((with_reducible apply tw) <;> intro _)
        (refine Or.inl ?_; (conv => whnf))
        refine ⟨by omega, by omega, by omega, ?_⟩
        conv => whnf
        refine ⟨?_, ?_⟩
        · rw [List.length_append, List.length_append, List.length_drop, List.length_drop, List.length_take, List.length_take]
          show (0 + _ + 1 + _) * 64 ≤ _
          omega
        conv => whnf
        refine rdw ?_; repeat' ((with_reducible apply tw) <;> intro _)
        refine ⟨rfl, ?_⟩
        rw [← ins_map]
        rfl
    · rename_i k1
      replace k1 : ¬ (k : Int) < ((r.l.map FD.cs).length : Int) := k1
      rw [hfl] at k1
      have hput : putK f.name r.l = k := by
        rw [List.take_of_length_le (by omega)] at hno
        rw [putK_all _ hno]
        omega
      rw [hput]
      (refine Or.inl ?_; (conv => whnf))
      refine ⟨by omega, by omega, by omega, ?_⟩
      conv => whnf
      refine ⟨by rw [List.length_drop, List.length_take]; show (0 + _) * 64 ≤ _; omega, ?_⟩
      conv => whnf
      refine rdw ?_; repeat' ((with_reducible apply tw) <;> intro _)
      refine ⟨by rw [List.length_append, List.length_drop, List.length_take]; show (0 + _ + 1) * 64 ≤ _; omega, ?_⟩
      conv => whnf
      refine rdw ?_; repeat' ((with_reducible apply tw) <;> intro _)
      (refine Or.inl ?_; (conv => whnf))
      refine ⟨by omega, by omega, by omega, ?_⟩
      conv => whnf
      refine ⟨?_, ?_⟩
      · rw [List.length_append, List.length_append, List.length_drop, List.length_drop, List.length_take, List.length_take]
        show (0 + _ + 1 + _) * 64 ≤ _
        omega
      conv => whnf
      refine rdw ?_; repeat' ((with_reducible apply tw) <;> intro _)
      refine ⟨rfl, ?_⟩
      rw [← ins_map]
      rfl
end Go.Proofs.Ytgoejddmglgogaa
