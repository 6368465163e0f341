/- ScriptParsesCard: contracts. -/
import Derived.Test.YtkaepgfmpljlmaaDoorScriptParsesCardCodD
set_option linter.unusedVariables false
set_option linter.unusedSimpArgs false
namespace Go.Proofs.YtkaepgfmpljlmaaDoor
open Go.Ab Go.RowKit Go.Scr Go.Proofs
attribute [local irreducible] ACalls AW ADraw Into fltB fnear
set_option maxRecDepth 100000
def wdSt (s : W) (acc : List W) (w : W) (i : Nat) : AF × List AB := ([(0, .d (.str (bw s))), (4, .arr 0), (5, .d (.str (bw w))), (6, .d (.int .i64 (i : Int)))], [.row 9 1 (wsD acc) false])
structure wdInv (s : W) (acc : List W) (w : W) (i : Nat) : Prop where
  sp : (32 : UInt8) ∉ w
  ne : [] ∉ acc
  len : w.length + acc.length ≤ i
  go : i ≤ s.length → wordsF s = acc ++ wordsF (w ++ s.drop i)
  fin : s.length < i → i = s.length + 1 ∧ wordsF s = acc
theorem wdInv_add {s : W} {acc : List W} {w : W} {i : Nat} (h : wdInv s acc w i) {c : UInt8} (hc : s[i]? = some c) (h32 : c ≠ 32) : wdInv s acc (w ++ [c]) (i + 1) := by
  obtain ⟨hlt, e⟩ := List.getElem?_eq_some_iff.1 hc
  have hd : s.drop i = c :: s.drop (i + 1) := by rw [List.drop_eq_getElem_cons hlt, e]
  refine ⟨?_, h.ne, ?_, fun _ => ?_, fun hi => by omega⟩
  · intro hm
    rcases List.mem_append.1 hm with hm | hm
    · exact h.sp hm
    · simp only [List.mem_cons, List.not_mem_nil, or_false] at hm
      exact h32 hm.symm
  · have := h.len
    rw [List.length_append, List.length_cons, List.length_nil]
    omega
  · rw [h.go (by omega), hd, List.append_assoc]
    rfl
theorem wdInv_sp {s : W} {acc : List W} {w : W} {i : Nat} (h : wdInv s acc w i) (hc : s[i]? = some 32) (hw : w ≠ []) : wdInv s (acc ++ [w]) [] (i + 1) := by
  obtain ⟨hlt, e⟩ := List.getElem?_eq_some_iff.1 hc
  have hd : s.drop i = 32 :: s.drop (i + 1) := by rw [List.drop_eq_getElem_cons hlt, e]
  refine ⟨by simp, ?_, ?_, fun _ => ?_, fun hi => by omega⟩
  · intro hm
    rcases List.mem_append.1 hm with hm | hm
    · exact h.ne hm
    · simp only [List.mem_cons, List.not_mem_nil, or_false] at hm
      exact hw hm.symm
  · have := h.len
    have : 0 < w.length := List.length_pos_iff.2 hw
    rw [List.length_append]
    simp only [List.length_cons, List.length_nil]
    omega
  · rw [h.go (by omega), hd, words_app _ h.sp, List.append_assoc]
    rfl
theorem wdInv_end {s : W} {acc : List W} {w : W} (h : wdInv s acc w s.length) (hw : w ≠ []) : wdInv s (acc ++ [w]) [] (s.length + 1) := by
  refine ⟨by simp, ?_, ?_, fun hi => by omega, fun _ => ⟨rfl, ?_⟩⟩
  · intro hm
    rcases List.mem_append.1 hm with hm | hm
    · exact h.ne hm
    · simp only [List.mem_cons, List.not_mem_nil, or_false] at hm
      exact hw hm.symm
  · have := h.len
    have : 0 < w.length := List.length_pos_iff.2 hw
    rw [List.length_append]
    simp only [List.length_cons, List.length_nil]
    omega
  · rw [h.go (Nat.le_refl _), List.drop_length, List.append_nil, words_one h.sp]
theorem wdInv_bad {s : W} {acc : List W} {i : Nat} (h : wdInv s acc [] i) (hi : i ≤ s.length) (hc : i < s.length → s[i]? = some 32) : [] ∈ wordsF s := by
  rw [h.go hi]
  refine List.mem_append_right _ ?_
  rcases Nat.lt_or_ge i s.length with hl | hl
  · obtain ⟨hlt, e⟩ := List.getElem?_eq_some_iff.1 (hc hl)
    have hd : s.drop i = 32 :: s.drop (i + 1) := by rw [List.drop_eq_getElem_cons hlt, e]
    rw [hd, List.nil_append, wordsF, if_pos rfl]
    exact List.mem_cons_self
  · rw [List.drop_eq_nil_of_le hl, List.nil_append]
    simp [wordsF]
theorem ext_sub {s : W} {k : Nat} {c : UInt8} (h : s[k]? = some c) : (bw s).extract (((k : Nat) : Int)).toNat (((k : Nat) : Int) + 1).toNat = bw [c] := by
  obtain ⟨hlt, e⟩ := List.getElem?_eq_some_iff.1 h
  rw [bw_extract, Int.toNat_natCast, show (((k : Nat) : Int) + 1).toNat = k + 1 by omega]
  have e1 : k + 1 - k = 1 := by omega
  rw [e1, List.drop_eq_getElem_cons hlt, e]
  rfl
set_option maxHeartbeats 1000000 in
theorem words28_ok (s : W) (hs : s.length ≤ 1000000) : ACalls Tryd.prog 25 [.d (.str (bw s))] [] (fun av L => L = [] ∧ (av = .tup [.d (.sl 1 []), .d (.bool false)] ∧ [] ∈ wordsF s ∨ av = .tup [.d (.sl 1 (wsD (wordsF s))), .d (.bool true)] ∧ [] ∉ wordsF s)) := by
  have hbs : (bw s).size = s.length := rfl
  (refine acalls_go ttOk zOk foOk Tryd.func25 rfl Tryd.ntmps25 rfl false rfl ?_); (conv => whnf)
  refine rdz ?_; repeat' ((with_reducible apply tw) <;> intro _)
  refine loop_go ttOk zOk foOk (σ := List W × W × Nat) (fun q => wdSt s q.1 q.2.1 q.2.2) (fun q => wdInv s q.1 q.2.1 q.2.2) (fun q => s.length + 1 - q.2.2) [0, 4, 5, 6] ?_ ?_
  · conv => whnf
    exact ⟨([], [], 0), rfl, rfl, by simp, by simp, by simp, fun _ => rfl, fun h => absurd h (Nat.not_lt_zero _)⟩
  · rintro ⟨acc, w, i⟩ hv
    have hlen := hv.len
    simp only at hv hlen ⊢
    have hwl := wsD_length acc
    conv => whnf
    rw [hbs]
    refine rdz ?_; repeat' ((with_reducible apply tw) <;> intro _)
    · rename_i hil hlt
      replace hil : (i : Int) ≤ ((s.length : Nat) : Int) := hil
      replace hlt : (i : Int) < ((s.length : Nat) : Int) := hlt
      refine Exists.elim (⟨_, List.getElem?_eq_getElem (by omega)⟩ : ∃ c, s[i]? = some c) fun c hc => ?_
      have hcb := bw_at hc
      ((with_reducible refine ix_str hcb ?_ ?_); (focus (first | rfl | omega)); (conv => whnf))
      refine rdz ?_; repeat' ((with_reducible apply tw) <;> intro _)
      · rename_i h32
        have hne : c ≠ 32 := fun e => by subst e; exact h32 rfl
        refine ⟨by omega, by omega, by show (i : Int) + 1 ≤ ((s.length : Nat) : Int); omega, ?_⟩
        rw [ext_sub hc]
        conv => whnf
        refine ⟨by show ((w.length + 1 : Nat) : Int) ≤ 9223372036854775807; omega, ?_⟩
        rw [bw_app w [c]]
        conv => whnf
        refine rdz ?_; repeat' ((with_reducible apply tw) <;> intro _)
        exact ⟨(acc, w ++ [c], i + 1), rfl, rfl, wdInv_add hv hc hne, by show s.length + 1 - (i + 1) < s.length + 1 - i; omega⟩
      · rename_i h32 hw
        have h2 : s[i]? = some 32 := by
          have : c = 32 := UInt8.toNat_inj.1 (by rw [show (32 : UInt8).toNat = 32 from rfl]; omega)
          rw [← this]; exact hc
        have hw0 : w = [] := (bw_eq w []).1 hw
        subst hw0
        exact ⟨rfl, .inl ⟨rfl, wdInv_bad hv (by omega) fun _ => h2⟩⟩
      · rename_i h32 hw
        have h2 : s[i]? = some 32 := by
          have : c = 32 := UInt8.toNat_inj.1 (by rw [show (32 : UInt8).toNat = 32 from rfl]; omega)
          rw [← this]; exact hc
        have hw0 : w ≠ [] := fun e => by
          have := (bw_eq w []).2 e
          rw [show (bw ([] : W)) = (⟨#[]⟩ : ByteArray) from rfl] at this
          rw [this] at hw
          cases hw
        refine ⟨by show ((wsD acc).length + 1) * 16 ≤ 140737488355328; rw [hwl]; omega, ?_⟩
        conv => whnf
        refine rdz ?_; repeat' ((with_reducible apply tw) <;> intro _)
        refine ⟨(acc ++ [w], [], i + 1), rfl, ?_, wdInv_sp hv h2 hw0, by show s.length + 1 - (i + 1) < s.length + 1 - i; omega⟩
        show _ = [AB.row 9 1 (wsD (acc ++ [w])) false]
        rw [← wsD_snoc]
    · rename_i hil hlt hw
      replace hil : (i : Int) ≤ ((s.length : Nat) : Int) := hil
      replace hlt : ¬ (i : Int) < ((s.length : Nat) : Int) := hlt
      have hw0 : w = [] := (bw_eq w []).1 hw
      subst hw0
      exact ⟨rfl, .inl ⟨rfl, wdInv_bad hv (by omega) fun h => absurd h (by omega)⟩⟩
    · rename_i hil hlt hw
      replace hil : (i : Int) ≤ ((s.length : Nat) : Int) := hil
      replace hlt : ¬ (i : Int) < ((s.length : Nat) : Int) := hlt
      have hi : i = s.length := by omega
      subst hi
      have hw0 : w ≠ [] := fun e => by
        have := (bw_eq w []).2 e
        rw [show (bw ([] : W)) = (⟨#[]⟩ : ByteArray) from rfl] at this
        rw [this] at hw
        cases hw
      refine ⟨by show ((wsD acc).length + 1) * 16 ≤ 140737488355328; rw [hwl]; omega, ?_⟩
      conv => whnf
      refine rdz ?_; repeat' ((with_reducible apply tw) <;> intro _)
      refine ⟨(acc ++ [w], [], s.length + 1), rfl, ?_, wdInv_end hv hw0, by show s.length + 1 - (s.length + 1) < s.length + 1 - s.length; omega⟩
      show _ = [AB.row 9 1 (wsD (acc ++ [w])) false]
      rw [← wsD_snoc]
    · rename_i hil
      replace hil : ¬ (i : Int) ≤ ((s.length : Nat) : Int) := hil
      have hf := hv.fin (by omega)
      rw [hf.2]
      exact ⟨rfl, .inr ⟨rfl, hv.ne⟩⟩
theorem sign28_ok (c : UInt8) : ACalls Tryd.prog 41 [.d (.int .u8 (c.toNat : Int))] [] (fun av L => av = .d (.int .i64 (match sigV c with | some v => (v : Int) | none => -1)) ∧ L = []) := by
  have hc := c.toNat_lt
  (refine acalls_go ttOk zOk foOk Tryd.func41 rfl Tryd.ntmps41 rfl false rfl ?_); (conv => whnf)
  repeat' (first | ((with_reducible apply z_wrap8); (focus omega); (conv => whnf)) | (first | ((with_reducible apply z_wrap); (focus omega); (conv => whnf)) | ((with_reducible first | apply mt_dec | apply mt_eq | apply mt_ne | apply mt_not | apply mt_any) <;> (intro _; conv => whnf))))
  all_goals first
    | exact ⟨by rw [show sigV c = some (c.toNat - 48) from by unfold sigV; rw [if_pos ⟨by omega, by omega⟩]]; show AV.d (.int .i64 _) = AV.d (.int .i64 ((c.toNat - 48 : Nat) : Int)); exact congrArg (fun z => AV.d (.int .i64 z)) (by omega), rfl⟩
    | exact ⟨by rw [show sigV c = some (c.toNat - 87) from by unfold sigV; rw [if_neg (by omega), if_pos ⟨by omega, by omega⟩]]; show AV.d (.int .i64 _) = AV.d (.int .i64 ((c.toNat - 87 : Nat) : Int)); exact congrArg (fun z => AV.d (.int .i64 z)) (by omega), rfl⟩
    | exact ⟨by rw [show sigV c = none from by unfold sigV; rw [if_neg (by omega), if_neg (by omega)]]; rfl, rfl⟩
def whSt (d s : W) (neg : Bool) (i : Nat) : AF × List AB := ([(0, .d (.str (bw s))), (4, .d (.bool neg)), (5, .d (.str (bw d))), (6, .d (.int .u64 (dvF 0 (d.take i) : Int))), (7, .d (.int .i64 (i : Int)))], [])
theorem whole_at {s d : W} {neg : Bool} (hneg : decide (s.head? = some 45) = neg) (hd : d = if s.head? = some 45 then s.drop 1 else s) : wholeW s =
    if d = [] ∨ 19 < d.length ∨ ¬ ∀ c ∈ d, 48 ≤ c.toNat ∧ c.toNat ≤ 57 then (0, false)
    else if 9223372036854775808 < dvF 0 d ∨ dvF 0 d = 9223372036854775808 ∧ ¬ neg = true then (0, false)
    else ((if neg = true then -(dvF 0 d : Int) else dvF 0 d), decide (Lib.itoa (if neg = true then -(dvF 0 d : Int) else dvF 0 d) = s)) := by
  subst hneg
  unfold wholeW
  simp only [decide_eq_true_iff, ← hd]
theorem whole_bad {s d : W} {neg : Bool} (hneg : decide (s.head? = some 45) = neg) (hd : d = if s.head? = some 45 then s.drop 1 else s) (h : d = [] ∨ 19 < d.length ∨ ¬ ∀ c ∈ d, 48 ≤ c.toNat ∧ c.toNat ≤ 57) : wholeW s = (0, false) := by
  rw [whole_at hneg hd, if_pos h]
theorem ext_tail {s : W} {k : Nat} : (bw s).extract (((k : Nat) : Int)).toNat (((bw s).size : Nat) : Int).toNat = bw (s.drop k) := by
  rw [bw_extract, Int.toNat_natCast, Int.toNat_natCast]
  have : (bw s).size - k = (s.drop k).length := by rw [List.length_drop]; rfl
  rw [this, List.take_length]
def bad28 (s : W) : Prop := AV.tup [.d (.int .i64 0), .d (.bool false)] = AV.tup [.d (.int .i64 (wholeW s).1), .d (.bool (wholeW s).2)] ∧ ([] : List AB) = []
theorem bad28_of {s : W} (h : wholeW s = (0, false)) : bad28 s := by
  unfold bad28
  rw [h]
  exact ⟨rfl, rfl⟩
theorem fin28 {s d : W} {neg : Bool} (hneg : decide (s.head? = some 45) = neg) (hd : d = if s.head? = some 45 then s.drop 1 else s) (h1 : d.length ≠ 0) (h2 : d.length ≤ 19) (h3 : ∀ c ∈ d, 48 ≤ c.toNat ∧ c.toNat ≤ 57) (h4 : ¬ (9223372036854775808 < dvF 0 d ∨ dvF 0 d = 9223372036854775808 ∧ ¬ neg = true)) {n : Int} (hn : n = if neg = true then -(dvF 0 d : Int) else dvF 0 d) : AV.tup [.d (.int .i64 n), .d (.bool ((bw (Lib.itoa n)).toList == (bw s).toList))] = AV.tup [.d (.int .i64 (wholeW s).1), .d (.bool (wholeW s).2)] ∧ ([] : List AB) = [] := by
  have e : wholeW s = (n, decide (Lib.itoa n = s)) := by
    rw [whole_at hneg hd, if_neg (fun h => h.elim (fun h => h1 (by rw [h]; rfl)) (fun h => h.elim (fun h => by omega) (fun h => h h3))), if_neg h4, ← hn]
  have e2 : ((bw (Lib.itoa n)).toList == (bw s).toList) = decide (Lib.itoa n = s) := by
    rw [Bool.eq_iff_iff, bw_eq, decide_eq_true_iff]
  rw [e, e2]
  exact ⟨rfl, rfl⟩
theorem bad28_u {s d : W} {neg : Bool} (hneg : decide (s.head? = some 45) = neg) (hd : d = if s.head? = some 45 then s.drop 1 else s) (h4 : 9223372036854775808 < dvF 0 d ∨ dvF 0 d = 9223372036854775808 ∧ ¬ neg = true) : bad28 s := by
  refine bad28_of ?_
  rw [whole_at hneg hd]
  split <;> first | rfl | rw [if_pos h4]
theorem whole28_ok (s : W) (hs : s.length ≤ 1000000) : ACalls Tryd.prog 40 [.d (.str (bw s))] [] (fun av L => av = .tup [.d (.int .i64 (wholeW s).1), .d (.bool (wholeW s).2)] ∧ L = []) := by
  have hbs0 : (bw s).size = s.length := rfl
  (refine acalls_go ttOk zOk foOk Tryd.func40 rfl Tryd.ntmps40 rfl false rfl ?_); (conv => whnf)
  refine rdz ?_; repeat' ((with_reducible apply tw) <;> intro _)
  · rename_i h0
    refine Exists.elim (⟨_, List.getElem?_eq_getElem (by omega)⟩ : ∃ c, s[0]? = some c) fun c hc => ?_
    have hcb := bw_at hc
    have hhead : s.head? = some c := by rw [List.head?_eq_getElem?]; exact hc
    by_cases h45 : c.toNat = 45
    · have hc45 : c = 45 := UInt8.toNat_inj.1 h45
      have hneg : decide (s.head? = some 45) = true := by rw [hhead, hc45]; rfl
      refine Exists.elim (⟨_, rfl⟩ : ∃ d, d = s.drop 1) fun d hdd => ?_
      have hbs : (bw d).size = d.length := rfl
      have hdl : d.length ≤ 1000000 := by rw [hdd, List.length_drop]; omega
      have hb45 : ((c.toNat : Int) == 45) = true := by rw [h45]; rfl
      have hd : d = if s.head? = some 45 then s.drop 1 else s := by rw [if_pos (by rw [hhead, hc45])]; exact hdd
      ((with_reducible refine ix_str hcb ?_ ?_); (focus (first | rfl | omega)); (conv => whnf))
      refine rdz ?_; repeat' ((with_reducible apply tw) <;> intro _)
      · refine ⟨by omega, by omega, Int.le_refl _, ?_⟩
        rw [show (bw s).extract (Int.toNat 1) (((bw s).size : Nat) : Int).toNat = bw d from by rw [hdd]; exact ext_tail (k := 1)]
        conv => whnf
        refine rdz ?_; repeat' ((with_reducible apply tw) <;> intro _)
        · rename_i k
          replace k : ((d.length : Nat) : Int) = 0 := k
          exact bad28_of (whole_bad hneg hd (.inl (List.length_eq_zero_iff.1 (show d.length = 0 by omega))))
        · rename_i k0 k
          replace k : ((d.length : Nat) : Int) > 19 := k
          exact bad28_of (whole_bad hneg hd (.inr (.inl (show 19 < d.length by omega))))
        · rename_i k0 k1
          replace k0 : ((d.length : Nat) : Int) ≠ 0 := k0
          replace k1 : ¬ ((d.length : Nat) : Int) > 19 := k1
          refine loop_go ttOk zOk foOk (σ := Nat) (whSt d s true) (fun i => i ≤ d.length ∧ ∀ c ∈ d.take i, 48 ≤ c.toNat ∧ c.toNat ≤ 57) (fun i => d.length - i) [0, 4, 5, 6, 7] ?_ ?_
          · conv => whnf
            exact ⟨0, by rw [hb45]; rfl, rfl, Nat.zero_le _, fun c hc => by cases hc⟩
          · rintro i ⟨hi, hdig⟩
            have hlt19 := dvF_lt (d.take i) 0 0 (fun c hc => (hdig c hc).2) (by decide)
            rw [Nat.zero_add, List.length_take, Nat.min_eq_left hi] at hlt19
            conv => whnf
            rw [hbs]
            repeat' (first | ((with_reducible apply z_wrap8); (focus omega); (conv => whnf)) | ((with_reducible apply z_wrapU); (focus omega); (conv => whnf)) | (first | ((with_reducible apply z_wrap); (focus omega); (conv => whnf)) | ((with_reducible first | apply mt_dec | apply mt_eq | apply mt_ne | apply mt_not | apply mt_any) <;> (intro _; conv => whnf))))
            · rename_i hlt
              replace hlt : (i : Int) < ((d.length : Nat) : Int) := hlt
              refine Exists.elim (⟨_, List.getElem?_eq_getElem (by omega)⟩ : ∃ c, d[i]? = some c) fun c hc => ?_
              have hcb := bw_at hc
              have hclt := c.toNat_lt
              have hnod : ¬ (48 ≤ c.toNat ∧ c.toNat ≤ 57) → bad28 s := fun h => bad28_of (whole_bad hneg hd (.inr (.inr fun ha => h (ha c (List.mem_of_getElem? hc)))))
              have hp18 : (10 : Nat) ^ i ≤ 10 ^ 18 := Nat.pow_le_pow_right (by decide) (by omega)
              have hsn : dvF 0 (d.take (i + 1)) = dvF 0 (d.take i) * 10 + (c.toNat - 48) := by rw [take_snoc hc, dvF_app]
              ((with_reducible refine ix_str hcb ?_ ?_); (focus (first | rfl | omega)); (conv => whnf))
              repeat' (first | ((with_reducible apply z_wrap8); (focus omega); (conv => whnf)) | ((with_reducible apply z_wrapU); (focus omega); (conv => whnf)) | (first | ((with_reducible apply z_wrap); (focus omega); (conv => whnf)) | ((with_reducible first | apply mt_dec | apply mt_eq | apply mt_ne | apply mt_not | apply mt_any) <;> (intro _; conv => whnf))))
              · exact hnod (by omega)
              · ((with_reducible refine ix_str hcb ?_ ?_); (focus (first | rfl | omega)); (conv => whnf))
                repeat' (first | ((with_reducible apply z_wrap8); (focus omega); (conv => whnf)) | ((with_reducible apply z_wrapU); (focus omega); (conv => whnf)) | (first | ((with_reducible apply z_wrap); (focus omega); (conv => whnf)) | ((with_reducible first | apply mt_dec | apply mt_eq | apply mt_ne | apply mt_not | apply mt_any) <;> (intro _; conv => whnf))))
                · exact hnod (by omega)
                · rename_i c1 c2
                  ((with_reducible refine ix_str hcb ?_ ?_); (focus (first | rfl | omega)); (conv => whnf))
                  repeat' (first | ((with_reducible apply z_wrap8); (focus omega); (conv => whnf)) | ((with_reducible apply z_wrapU); (focus omega); (conv => whnf)) | (first | ((with_reducible apply z_wrap); (focus omega); (conv => whnf)) | ((with_reducible first | apply mt_dec | apply mt_eq | apply mt_ne | apply mt_not | apply mt_any) <;> (intro _; conv => whnf))))
                  have e : ((dvF 0 (d.take (i + 1)) : Nat) : Int) = (dvF 0 (d.take i) : Int) * 10 + ((c.toNat : Int) - 48) := by rw [hsn]; omega
                  refine ⟨i + 1, ?_, rfl, ⟨by omega, fun x hx => ?_⟩, by omega⟩
                  · show _ = ([(0, .d (.str (bw s))), (4, .d (.bool true)), (5, .d (.str (bw d))), (6, .d (.int .u64 (dvF 0 (d.take (i + 1)) : Int))), (7, .d (.int .i64 ((i + 1 : Nat) : Int)))] : AF)
                    rw [e]
                    rfl
                  · rw [take_snoc hc] at hx
                    rcases List.mem_append.1 hx with hx | hx
                    · exact hdig x hx
                    · simp only [List.mem_cons, List.not_mem_nil, or_false] at hx
                      rw [hx]
                      omega
            · rename_i hlt hu
              have hie : i = d.length := by omega
              subst hie
              rw [List.take_length] at hu
              exact bad28_u hneg hd (.inl (by omega))
            · rename_i hlt hu1 hu2
              have hie : i = d.length := by omega
              subst hie
              rw [List.take_length] at hu1 hu2 hdig
              intro z hz
              have hz2 : z = -9223372036854775808 := by rw [hz, List.take_length, hu2]; decide
              subst hz2
              conv => whnf
              refine rdz ?_; repeat' ((with_reducible apply tw) <;> intro _)
              intro z hz2
              have hz3 : z = -9223372036854775808 := by rw [hz2]; decide
              subst hz3
              conv => whnf
              refine rdz ?_; repeat' ((with_reducible apply tw) <;> intro _)
              have hN := number28_ok (-9223372036854775808) ⟨by decide, by decide⟩
              (refine (hN).mono ?_; rintro _ _ ⟨rfl, rfl⟩; (conv => whnf))
              refine rdz ?_; repeat' ((with_reducible apply tw) <;> intro _)
              exact fin28 hneg hd (by omega) (by omega) hdig (by rintro (h | h); omega; exact h.2 rfl) (by rw [if_pos rfl]; omega)
            · rename_i hlt hu1 hu2
              have hie : i = d.length := by omega
              subst hie
              rw [List.take_length] at hu1 hu2 hdig
              rw [List.take_length]
              have hN := number28_ok (0 - (dvF 0 d : Int)) ⟨by omega, by omega⟩
              (refine (hN).mono ?_; rintro _ _ ⟨rfl, rfl⟩; (conv => whnf))
              refine rdz ?_; repeat' ((with_reducible apply tw) <;> intro _)
              exact fin28 hneg hd (by omega) (by omega) hdig (by rintro (h | h); omega; exact h.2 rfl) (by rw [if_pos rfl]; omega)
      · omega
      · omega
      · omega
    · have hc45 : c ≠ 45 := fun e => h45 (by rw [e]; rfl)
      have hneg : decide (s.head? = some 45) = false := decide_eq_false (by rw [hhead]; exact fun h => hc45 (Option.some.inj h))
      have hbs : (bw s).size = s.length := rfl
      have hb45 : ((c.toNat : Int) == 45) = false := by rw [beq_eq_false_iff_ne]; omega
      have hd : s = if s.head? = some 45 then s.drop 1 else s := by rw [if_neg (by rw [hhead]; exact fun h => hc45 (Option.some.inj h))]
      ((with_reducible refine ix_str hcb ?_ ?_); (focus (first | rfl | omega)); (conv => whnf))
      refine rdz ?_; repeat' ((with_reducible apply tw) <;> intro _)
      · omega
      · rename_i k
        replace k : ((s.length : Nat) : Int) = 0 := k
        exact bad28_of (whole_bad hneg hd (.inl (List.length_eq_zero_iff.1 (show s.length = 0 by omega))))
      · rename_i k0 k
        replace k : ((s.length : Nat) : Int) > 19 := k
        exact bad28_of (whole_bad hneg hd (.inr (.inl (show 19 < s.length by omega))))
      · rename_i k0 k1
        replace k0 : ((s.length : Nat) : Int) ≠ 0 := k0
        replace k1 : ¬ ((s.length : Nat) : Int) > 19 := k1
        refine loop_go ttOk zOk foOk (σ := Nat) (whSt s s false) (fun i => i ≤ s.length ∧ ∀ c ∈ s.take i, 48 ≤ c.toNat ∧ c.toNat ≤ 57) (fun i => s.length - i) [0, 4, 5, 6, 7] ?_ ?_
        · conv => whnf
          exact ⟨0, by rw [hb45]; rfl, rfl, Nat.zero_le _, fun c hc => by cases hc⟩
        · rintro i ⟨hi, hdig⟩
          have hlt19 := dvF_lt (s.take i) 0 0 (fun c hc => (hdig c hc).2) (by decide)
          rw [Nat.zero_add, List.length_take, Nat.min_eq_left hi] at hlt19
          conv => whnf
          rw [hbs]
          repeat' (first | ((with_reducible apply z_wrap8); (focus omega); (conv => whnf)) | ((with_reducible apply z_wrapU); (focus omega); (conv => whnf)) | (first | ((with_reducible apply z_wrap); (focus omega); (conv => whnf)) | ((with_reducible first | apply mt_dec | apply mt_eq | apply mt_ne | apply mt_not | apply mt_any) <;> (intro _; conv => whnf))))
          · rename_i hlt
            replace hlt : (i : Int) < ((s.length : Nat) : Int) := hlt
            refine Exists.elim (⟨_, List.getElem?_eq_getElem (by omega)⟩ : ∃ c, s[i]? = some c) fun c hc => ?_
            have hcb := bw_at hc
            have hclt := c.toNat_lt
            have hnod : ¬ (48 ≤ c.toNat ∧ c.toNat ≤ 57) → bad28 s := fun h => bad28_of (whole_bad hneg hd (.inr (.inr fun ha => h (ha c (List.mem_of_getElem? hc)))))
            have hp18 : (10 : Nat) ^ i ≤ 10 ^ 18 := Nat.pow_le_pow_right (by decide) (by omega)
            have hsn : dvF 0 (s.take (i + 1)) = dvF 0 (s.take i) * 10 + (c.toNat - 48) := by rw [take_snoc hc, dvF_app]
            ((with_reducible refine ix_str hcb ?_ ?_); (focus (first | rfl | omega)); (conv => whnf))
            repeat' (first | ((with_reducible apply z_wrap8); (focus omega); (conv => whnf)) | ((with_reducible apply z_wrapU); (focus omega); (conv => whnf)) | (first | ((with_reducible apply z_wrap); (focus omega); (conv => whnf)) | ((with_reducible first | apply mt_dec | apply mt_eq | apply mt_ne | apply mt_not | apply mt_any) <;> (intro _; conv => whnf))))
            · exact hnod (by omega)
            · ((with_reducible refine ix_str hcb ?_ ?_); (focus (first | rfl | omega)); (conv => whnf))
              repeat' (first | ((with_reducible apply z_wrap8); (focus omega); (conv => whnf)) | ((with_reducible apply z_wrapU); (focus omega); (conv => whnf)) | (first | ((with_reducible apply z_wrap); (focus omega); (conv => whnf)) | ((with_reducible first | apply mt_dec | apply mt_eq | apply mt_ne | apply mt_not | apply mt_any) <;> (intro _; conv => whnf))))
              · exact hnod (by omega)
              · rename_i c1 c2
                ((with_reducible refine ix_str hcb ?_ ?_); (focus (first | rfl | omega)); (conv => whnf))
                repeat' (first | ((with_reducible apply z_wrap8); (focus omega); (conv => whnf)) | ((with_reducible apply z_wrapU); (focus omega); (conv => whnf)) | (first | ((with_reducible apply z_wrap); (focus omega); (conv => whnf)) | ((with_reducible first | apply mt_dec | apply mt_eq | apply mt_ne | apply mt_not | apply mt_any) <;> (intro _; conv => whnf))))
                have e : ((dvF 0 (s.take (i + 1)) : Nat) : Int) = (dvF 0 (s.take i) : Int) * 10 + ((c.toNat : Int) - 48) := by rw [hsn]; omega
                refine ⟨i + 1, ?_, rfl, ⟨by omega, fun x hx => ?_⟩, by omega⟩
                · show _ = ([(0, .d (.str (bw s))), (4, .d (.bool false)), (5, .d (.str (bw s))), (6, .d (.int .u64 (dvF 0 (s.take (i + 1)) : Int))), (7, .d (.int .i64 ((i + 1 : Nat) : Int)))] : AF)
                  rw [e]
                  rfl
                · rw [take_snoc hc] at hx
                  rcases List.mem_append.1 hx with hx | hx
                  · exact hdig x hx
                  · simp only [List.mem_cons, List.not_mem_nil, or_false] at hx
                    rw [hx]
                    omega
          · rename_i hlt hu
            have hie : i = s.length := by omega
            subst hie
            rw [List.take_length] at hu
            exact bad28_u hneg hd (.inl (by omega))
          · rename_i hlt hu1 hu
            have hie : i = s.length := by omega
            subst hie
            rw [List.take_length] at hu
            exact bad28_u hneg hd (.inr ⟨by omega, by decide⟩)
          · rename_i hlt hu1 hu2
            have hie : i = s.length := by omega
            subst hie
            rw [List.take_length] at hu1 hu2 hdig
            rw [List.take_length]
            have hN := number28_ok (dvF 0 s : Int) ⟨by omega, by omega⟩
            (refine (hN).mono ?_; rintro _ _ ⟨rfl, rfl⟩; (conv => whnf))
            refine rdz ?_; repeat' ((with_reducible apply tw) <;> intro _)
            exact fin28 hneg hd (by omega) (by omega) hdig (by rintro (h | h); omega; omega) (by rw [if_neg (by decide)])
  · have : s.length = 0 := by omega
    have : s = [] := List.length_eq_zero_iff.1 this
    subst this
    exact ⟨rfl, rfl⟩
  · omega
  · omega
theorem whole_some {w : W} {n : Int} (h : numW w = some n) : wholeW w = (n, true) := (whole_iff w n).2 h
theorem whole_none {w : W} (h : numW w = none) : (wholeW w).2 = false := by
  cases hb : (wholeW w).2 with
  | false => rfl
  | true =>
    have := (whole_iff w (wholeW w).1).1 (by rw [← hb])
    rw [h] at this
    cases this
def rwSt (s acc : W) (i : Nat) : AF × List AB := ([(0, .d (.str (bw s))), (4, .arr 0), (5, .d (.int .i64 (i : Int)))], [.row 5 1 (u8s acc) false])
def rawOut (o : Option W) : AV := match o with
  | some b => .tup [.d (.str (bw b)), .d (.bool true)]
  | none => .tup [.d (.str ⟨#[]⟩), .d (.bool false)]
def numsOut (o : Option (List Int)) : AV := match o with
  | some ns => .tup [.d (.sl 1 (nums ns)), .d (.bool true)]
  | none => .tup [.d (.sl 1 []), .d (.bool false)]
theorem raw28_ok (s : W) (hs : s.length ≤ 1000000) : ACalls Tryd.prog 27 [.d (.str (bw s))] [] (fun av L => av = rawOut (unhexW s) ∧ L = []) := by
  have hbs : (bw s).size = s.length := rfl
  (refine acalls_go ttOk zOk foOk Tryd.func27 rfl Tryd.ntmps27 rfl false rfl ?_); (conv => whnf)
  refine rdw ?_; repeat' ((with_reducible apply tw) <;> intro _)
  · rename_i h
    have : s = [45] := (bw_eq s [45]).1 h
    subst this
    exact ⟨rfl, rfl⟩
  · rename_i h h0
    have : s.length = 0 := by omega
    have : s = [] := List.length_eq_zero_iff.1 this
    subst this
    exact ⟨rfl, rfl⟩
  · rename_i h h0
    have hs45 : s ≠ [45] := fun e => by
      have := (bw_eq s [45]).2 e
      rw [show (bw ([45] : W)) = (⟨#[45]⟩ : ByteArray) from rfl] at this
      rw [this] at h
      cases h
    have hs0 : s ≠ [] := fun e => h0 (by rw [e]; rfl)
    have hun : unhexW s = pairsW s := by unfold unhexW; rw [if_neg hs45, if_neg hs0]
    refine ⟨by decide, ?_⟩
    conv => whnf
    intro z hz
    have hz2 : z = ((s.length % 2 : Nat) : Int) := hz
    subst hz2
    clear hz
    conv => whnf
    refine rdw ?_; repeat' ((with_reducible apply tw) <;> intro _)
    · rename_i hod
      rw [hun, unL_odd s (by omega)]
      exact ⟨rfl, rfl⟩
    · rename_i hev
      have hev2 : s.length % 2 = 0 := by omega
      rw [unL_pairs s hev2] at hun
      refine loop_go ttOk zOk foOk (σ := W × Nat) (fun q => rwSt s q.1 q.2) (fun q => q.2 ≤ s.length ∧ q.2 % 2 = 0 ∧ q.1.length ≤ q.2 ∧ unL s = (unL (s.drop q.2)).map (q.1 ++ ·)) (fun q => s.length - q.2) [0, 4, 5] ?_ ?_
      · conv => whnf
        refine ⟨([], 0), rfl, rfl, Nat.zero_le _, rfl, Nat.le_refl _, ?_⟩
        show unL s = (unL s).map _
        cases unL s <;> rfl
      · rintro ⟨acc, i⟩ ⟨hi, hi2, hal, he⟩
        simp only at hi hi2 hal he ⊢
        have hnl := u8s_length acc
        conv => whnf
        rw [hbs]
        refine rdw ?_; repeat' ((with_reducible apply tw) <;> intro _)
        · rename_i hlt
          replace hlt : (i : Int) < ((s.length : Nat) : Int) := hlt
          have hi1 : i + 1 < s.length := by omega
          refine Exists.elim (⟨_, List.getElem?_eq_getElem (by omega)⟩ : ∃ c, s[i]? = some c) fun x hx => ?_
          refine Exists.elim (⟨_, List.getElem?_eq_getElem hi1⟩ : ∃ c, s[i + 1]? = some c) fun y hy => ?_
          have hxb := bw_at hx
          have hyb := bw_at hy
          have hdr : s.drop i = x :: y :: s.drop (i + 2) := by
            rw [List.drop_eq_getElem_cons (by omega : i < s.length), List.drop_eq_getElem_cons hi1, (List.getElem?_eq_some_iff.1 hx).2, (List.getElem?_eq_some_iff.1 hy).2]
          have hsx := sign28_ok x
          have hsy := sign28_ok y
          cases hvx : sigV x with
          | none =>
            have hbad := unL_bad he hdr (.inl hvx)
            rw [hvx] at hsx
            ((with_reducible refine draw_pl ttOk zOk foOk mixedOk pl27x9 ?_ ?_); (focus kernel_rfl); (conv => whnf))
            repeat' (first | ((with_reducible apply rd_intro); (focus (intro K hK; (conv => whnf); exact ix_str hxb (by first | rfl | omega) hK)); (conv => whnf)) | ((with_reducible apply rd_intro); (focus (intro K hK; (conv => whnf); exact ix_str hyb (by first | rfl | omega) hK)); (conv => whnf)) | (first | ((with_reducible first | apply rd_intro | apply gd_and); (focus ((conv => whnf) <;> first | rfl | (intro K hK; (conv => whnf); first | exact hK | exact z_wrap (by omega) hK))); conv => whnf) | ((with_reducible apply z_wrap); (focus omega); conv => whnf) | ((with_reducible first | apply mt_dec | apply mt_eq | apply mt_ne | apply mt_not | apply mt_any) <;> (intro _; conv => whnf))))
            (refine (hsx).mono ?_; rintro _ _ ⟨rfl, rfl⟩; (conv => whnf))
            repeat' (first | ((with_reducible apply rd_intro); (focus (intro K hK; (conv => whnf); exact ix_str hxb (by first | rfl | omega) hK)); (conv => whnf)) | ((with_reducible apply rd_intro); (focus (intro K hK; (conv => whnf); exact ix_str hyb (by first | rfl | omega) hK)); (conv => whnf)) | (first | ((with_reducible first | apply rd_intro | apply gd_and); (focus ((conv => whnf) <;> first | rfl | (intro K hK; (conv => whnf); first | exact hK | exact z_wrap (by omega) hK))); conv => whnf) | ((with_reducible apply z_wrap); (focus omega); conv => whnf) | ((with_reducible first | apply mt_dec | apply mt_eq | apply mt_ne | apply mt_not | apply mt_any) <;> (intro _; conv => whnf))))
            (refine (hsy).mono ?_; rintro _ _ ⟨rfl, rfl⟩; (conv => whnf))
            repeat' (first | ((with_reducible apply rd_intro); (focus (intro K hK; (conv => whnf); exact ix_str hxb (by first | rfl | omega) hK)); (conv => whnf)) | ((with_reducible apply rd_intro); (focus (intro K hK; (conv => whnf); exact ix_str hyb (by first | rfl | omega) hK)); (conv => whnf)) | (first | ((with_reducible first | apply rd_intro | apply gd_and); (focus ((conv => whnf) <;> first | rfl | (intro K hK; (conv => whnf); first | exact hK | exact z_wrap (by omega) hK))); conv => whnf) | ((with_reducible apply z_wrap); (focus omega); conv => whnf) | ((with_reducible first | apply mt_dec | apply mt_eq | apply mt_ne | apply mt_not | apply mt_any) <;> (intro _; conv => whnf))))
            rw [hun, hbad]
            exact ⟨rfl, rfl⟩
          | some a =>
            have ha := sig_lt hvx
            replace hsx : ACalls Tryd.prog 41 [.d (.int .u8 (x.toNat : Int))] [] (fun av L => av = .d (.int .i64 ((a : Nat) : Int)) ∧ L = []) := by rw [hvx] at hsx; exact hsx
            cases hvy : sigV y with
            | none =>
              have hbad := unL_bad he hdr (.inr hvy)
              rw [hvy] at hsy
              ((with_reducible refine draw_pl ttOk zOk foOk mixedOk pl27x9 ?_ ?_); (focus kernel_rfl); (conv => whnf))
              repeat' (first | ((with_reducible apply rd_intro); (focus (intro K hK; (conv => whnf); exact ix_str hxb (by first | rfl | omega) hK)); (conv => whnf)) | ((with_reducible apply rd_intro); (focus (intro K hK; (conv => whnf); exact ix_str hyb (by first | rfl | omega) hK)); (conv => whnf)) | (first | ((with_reducible first | apply rd_intro | apply gd_and); (focus ((conv => whnf) <;> first | rfl | (intro K hK; (conv => whnf); first | exact hK | exact z_wrap (by omega) hK))); conv => whnf) | ((with_reducible apply z_wrap); (focus omega); conv => whnf) | ((with_reducible first | apply mt_dec | apply mt_eq | apply mt_ne | apply mt_not | apply mt_any) <;> (intro _; conv => whnf))))
              (refine (hsx).mono ?_; rintro _ _ ⟨rfl, rfl⟩; (conv => whnf))
              repeat' (first | ((with_reducible apply rd_intro); (focus (intro K hK; (conv => whnf); exact ix_str hxb (by first | rfl | omega) hK)); (conv => whnf)) | ((with_reducible apply rd_intro); (focus (intro K hK; (conv => whnf); exact ix_str hyb (by first | rfl | omega) hK)); (conv => whnf)) | (first | ((with_reducible first | apply rd_intro | apply gd_and); (focus ((conv => whnf) <;> first | rfl | (intro K hK; (conv => whnf); first | exact hK | exact z_wrap (by omega) hK))); conv => whnf) | ((with_reducible apply z_wrap); (focus omega); conv => whnf) | ((with_reducible first | apply mt_dec | apply mt_eq | apply mt_ne | apply mt_not | apply mt_any) <;> (intro _; conv => whnf))))
              (refine (hsy).mono ?_; rintro _ _ ⟨rfl, rfl⟩; (conv => whnf))
              repeat' (first | ((with_reducible apply rd_intro); (focus (intro K hK; (conv => whnf); exact ix_str hxb (by first | rfl | omega) hK)); (conv => whnf)) | ((with_reducible apply rd_intro); (focus (intro K hK; (conv => whnf); exact ix_str hyb (by first | rfl | omega) hK)); (conv => whnf)) | (first | ((with_reducible first | apply rd_intro | apply gd_and); (focus ((conv => whnf) <;> first | rfl | (intro K hK; (conv => whnf); first | exact hK | exact z_wrap (by omega) hK))); conv => whnf) | ((with_reducible apply z_wrap); (focus omega); conv => whnf) | ((with_reducible first | apply mt_dec | apply mt_eq | apply mt_ne | apply mt_not | apply mt_any) <;> (intro _; conv => whnf))))
              rw [hun, hbad]
              exact ⟨rfl, rfl⟩
            | some b =>
              have hb := sig_lt hvy
              have hgo := unL_at he hdr hvx hvy
              replace hsy : ACalls Tryd.prog 41 [.d (.int .u8 (y.toNat : Int))] [] (fun av L => av = .d (.int .i64 ((b : Nat) : Int)) ∧ L = []) := by rw [hvy] at hsy; exact hsy
              have hub : (UInt8.ofNat (16 * a + b)).toNat = 16 * a + b := by rw [UInt8.toNat_ofNat']; omega
              ((with_reducible refine draw_pl ttOk zOk foOk mixedOk pl27x9 ?_ ?_); (focus kernel_rfl); (conv => whnf))
              repeat' (first | ((with_reducible apply rd_intro); (focus (intro K hK; (conv => whnf); exact ix_str hxb (by first | rfl | omega) hK)); (conv => whnf)) | ((with_reducible apply rd_intro); (focus (intro K hK; (conv => whnf); exact ix_str hyb (by first | rfl | omega) hK)); (conv => whnf)) | (first | ((with_reducible first | apply rd_intro | apply gd_and); (focus ((conv => whnf) <;> first | rfl | (intro K hK; (conv => whnf); first | exact hK | exact z_wrap (by omega) hK))); conv => whnf) | ((with_reducible apply z_wrap); (focus omega); conv => whnf) | ((with_reducible first | apply mt_dec | apply mt_eq | apply mt_ne | apply mt_not | apply mt_any) <;> (intro _; conv => whnf))))
              (refine (hsx).mono ?_; rintro _ _ ⟨rfl, rfl⟩; (conv => whnf))
              repeat' (first | ((with_reducible apply rd_intro); (focus (intro K hK; (conv => whnf); exact ix_str hxb (by first | rfl | omega) hK)); (conv => whnf)) | ((with_reducible apply rd_intro); (focus (intro K hK; (conv => whnf); exact ix_str hyb (by first | rfl | omega) hK)); (conv => whnf)) | (first | ((with_reducible first | apply rd_intro | apply gd_and); (focus ((conv => whnf) <;> first | rfl | (intro K hK; (conv => whnf); first | exact hK | exact z_wrap (by omega) hK))); conv => whnf) | ((with_reducible apply z_wrap); (focus omega); conv => whnf) | ((with_reducible first | apply mt_dec | apply mt_eq | apply mt_ne | apply mt_not | apply mt_any) <;> (intro _; conv => whnf))))
              (refine (hsy).mono ?_; rintro _ _ ⟨rfl, rfl⟩; (conv => whnf))
              repeat' (first | ((with_reducible apply rd_intro); (focus (intro K hK; (conv => whnf); exact ix_str hxb (by first | rfl | omega) hK)); (conv => whnf)) | ((with_reducible apply rd_intro); (focus (intro K hK; (conv => whnf); exact ix_str hyb (by first | rfl | omega) hK)); (conv => whnf)) | ((with_reducible apply z_wrap8); (focus omega); (conv => whnf)) | (first | ((with_reducible first | apply rd_intro | apply gd_and); (focus ((conv => whnf) <;> first | rfl | (intro K hK; (conv => whnf); first | exact hK | exact z_wrap (by omega) hK))); conv => whnf) | ((with_reducible apply z_wrap); (focus omega); conv => whnf) | ((with_reducible first | apply mt_dec | apply mt_eq | apply mt_ne | apply mt_not | apply mt_any) <;> (intro _; conv => whnf))))
              refine ⟨by show ((u8s acc).length + 1) * 1 ≤ 140737488355328; rw [hnl]; omega, ?_⟩
              conv => whnf
              refine rdw ?_; repeat' ((with_reducible apply tw) <;> intro _)
              refine ⟨(acc ++ [UInt8.ofNat (16 * a + b)], i + 2), rfl, ?_, ⟨by omega, by omega, by rw [List.length_append]; show acc.length + 1 ≤ i + 2; omega, hgo⟩, by show s.length - (i + 2) < s.length - i; omega⟩
              show _ = [AB.row 5 1 (u8s (acc ++ [UInt8.ofNat (16 * a + b)])) false]
              rw [show u8s (acc ++ [UInt8.ofNat (16 * a + b)]) = u8s acc ++ [[.int .u8 (16 * (a : Int) + (b : Int))]] from by
                simp only [u8s, List.map_append, List.map_cons, List.map_nil, hub]
                rfl]
        · rename_i hlt
          refine ⟨acc, rfl, ?_⟩
          conv => whnf
          refine rdw ?_; repeat' ((with_reducible apply tw) <;> intro _)
          rw [hun, unL_end he (by omega)]
          exact ⟨rfl, rfl⟩
def nmSt (l : List W) (acc : List Int) (i : Nat) : AF × List AB := ([(0, .d (.sl 1 (wsD l))), (4, .arr 0), (5, .d (.int .i64 (i : Int)))], [.row 3 1 (nums acc) false])
theorem nums_cons_none {w : W} {t : List W} (h : numW w = none) : numsW (w :: t) = none := by
  rw [numsW, h]
theorem nums_cons_some {w : W} {t : List W} {n : Int} (h : numW w = some n) : numsW (w :: t) = (numsW t).map (n :: ·) := by
  rw [numsW, h]
  cases numsW t <;> rfl
theorem numbers28_ok (l : List W) (hl : l.length ≤ 1000000) (hw : ∀ w ∈ l, w.length ≤ 1000000) : ACalls Tryd.prog 26 [.d (.sl 1 (wsD l))] [] (fun av L => av = numsOut (numsW l) ∧ L = []) := by
  have hll := wsD_length l
  (refine acalls_go ttOk zOk foOk Tryd.func26 rfl Tryd.ntmps26 rfl false rfl ?_); (conv => whnf)
  refine rdw ?_; repeat' ((with_reducible apply tw) <;> intro _)
  refine loop_go ttOk zOk foOk (σ := List Int × Nat) (fun q => nmSt l q.1 q.2) (fun q => q.2 ≤ l.length ∧ q.1.length = q.2 ∧ numsW l = (numsW (l.drop q.2)).map (q.1 ++ ·)) (fun q => l.length - q.2) [0, 4, 5] ?_ ?_
  · conv => whnf
    refine ⟨([], 0), rfl, rfl, Nat.zero_le _, rfl, ?_⟩
    show numsW l = (numsW l).map _
    cases numsW l <;> rfl
  · rintro ⟨acc, i⟩ ⟨hi, hal, he⟩
    simp only at hi hal he ⊢
    have hnl := nums_length acc
    conv => whnf
    rw [hll]
    refine rdw ?_; repeat' ((with_reducible apply tw) <;> intro _)
    · rename_i hlt
      replace hlt : (i : Int) < ((l.length : Nat) : Int) := hlt
      have hil : i < l.length := by omega
      refine Exists.elim (⟨_, List.getElem?_eq_getElem hil⟩ : ∃ w, l[i]? = some w) fun w hwi => ?_
      have hdr : l.drop i = w :: l.drop (i + 1) := by rw [List.drop_eq_getElem_cons hil, (List.getElem?_eq_some_iff.1 hwi).2]
      have hidx : (wsD l)[((i : Nat) : Int).toNat]? = some [.str (bw w)] := by rw [Int.toNat_natCast]; simp [wsD, hwi]
      have h40 := whole28_ok w (hw w (List.mem_of_getElem? hwi))
      refine ⟨by omega, _, hidx, ?_⟩
      conv => whnf
      refine rdw ?_; repeat' ((with_reducible apply tw) <;> intro _)
      cases hN : numW w with
      | none =>
        rw [whole_none hN] at h40
        (refine (h40).mono ?_; rintro _ _ ⟨rfl, rfl⟩; (conv => whnf))
        refine rdw ?_; repeat' ((with_reducible apply tw) <;> intro _)
        rw [he, hdr, nums_cons_none hN]
        exact ⟨rfl, rfl⟩
      | some n =>
        rw [whole_some hN] at h40
        (refine (h40).mono ?_; rintro _ _ ⟨rfl, rfl⟩; (conv => whnf))
        refine rdw ?_; repeat' ((with_reducible apply tw) <;> intro _)
        refine ⟨by show ((nums acc).length + 1) * 8 ≤ 140737488355328; rw [hnl]; omega, ?_⟩
        conv => whnf
        refine rdw ?_; repeat' ((with_reducible apply tw) <;> intro _)
        refine ⟨(acc ++ [n], i + 1), rfl, ?_, ⟨hil, by rw [List.length_append, hal]; rfl, ?_⟩, by show l.length - (i + 1) < l.length - i; omega⟩
        · show _ = [AB.row 3 1 (nums (acc ++ [n])) false]
          rw [show nums (acc ++ [n]) = nums acc ++ [[.int .i64 n]] from by simp [nums]]
        · rw [he, hdr, nums_cons_some hN]
          show ((numsW (l.drop (i + 1))).map _).map _ = (numsW (l.drop (i + 1))).map _
          cases numsW (l.drop (i + 1)) <;> simp
    · rename_i hlt
      replace hlt : ¬ (i : Int) < ((l.length : Nat) : Int) := hlt
      have hie : i = l.length := by omega
      rw [hie, List.drop_length] at he
      rw [he]
      show (_ = numsOut (some (acc ++ [])) ∧ _)
      rw [List.append_nil]
      exact ⟨rfl, rfl⟩
theorem mt_t {t : Bool} {A B : Prop} (h : t = true) (a : A) : splitB.match_1 (fun _ => Prop) (t) (fun _ => A) (fun _ => B) := by subst h; exact a
theorem mt_f {t : Bool} {A B : Prop} (h : t = false) (b : B) : splitB.match_1 (fun _ => Prop) (t) (fun _ => A) (fun _ => B) := by subst h; exact b
theorem cmpT {w l : W} (h : w = l) : ((bw w).toList == (⟨l.toArray⟩ : ByteArray).toList) = true := (bw_eq w l).2 h
theorem cmpF {w l : W} (h : w ≠ l) : ((bw w).toList == (⟨l.toArray⟩ : ByteArray).toList) = false := by
  rw [Bool.eq_false_iff]
  exact fun e => h ((bw_eq w l).1 e)
def out28 (o : Option Sa) (av : AV) : Prop := match o with
  | none => av = .tup [.agg (actC (zeroS 0) (.d .nils) (.d .nils)), .d (.bool false)]
  | some a => ∃ pk bs : DV, NW (.d pk) (.d (.sl 1 (nums a.picks))) ∧ NW (.d bs) (.d (.sl 1 (u8s a.bytes))) ∧ av = .tup [.agg (actC a (.d pk) (.d bs)), .d (.bool true)]
theorem out_none {o : Option Sa} (h : o = none) : out28 o (.tup [.agg (actC (zeroS 0) (.d .nils) (.d .nils)), .d (.bool false)]) ∧ ([] : List AB) = [] := by
  rw [h]
  exact ⟨rfl, rfl⟩
def numsV (o : Option (List Int)) : DV := match o with
  | some ns => .sl 1 (nums ns)
  | none => .sl 1 []
theorem numsOut_eq (o : Option (List Int)) : numsOut o = .tup [.d (numsV o), .d (.bool o.isSome)] := by cases o <;> rfl
def rawV (o : Option W) : ByteArray := match o with
  | some b => bw b
  | none => ⟨#[]⟩
theorem rawOut_eq (o : Option W) : rawOut o = .tup [.d (.str (rawV o)), .d (.bool o.isSome)] := by cases o <;> rfl
theorem none_of {α : Type} {o : Option α} (h : o.isSome = false) : o = none := by cases o; rfl; cases h
theorem nums_getD {ns : List Int} {k : Nat} (h : k < ns.length) : (nums ns)[k]? = some [.int .i64 (ns.getD k 0)] := by
  rw [List.getD_eq_getElem?_getD, List.getElem?_eq_getElem h]
  simp [nums, h]
theorem nums_len : ∀ {ws : List W} {ns : List Int}, numsW ws = some ns → ns.length = ws.length
  | [], ns, h => by cases h; rfl
  | w :: t, ns, h => by
    rw [numsW] at h
    cases h1 : numW w with
    | none => rw [h1] at h; cases h
    | some n =>
      cases h2 : numsW t with
      | none => rw [h1, h2] at h; cases h
      | some l =>
        rw [h1, h2] at h
        cases h
        rw [List.length_cons, List.length_cons, nums_len h2]
theorem nums_drop (l : List Int) (k : Nat) : (nums l).drop k = nums (l.drop k) := by simp [nums]
theorem ws_getD {ws : List W} {k : Nat} (h : k < ws.length) : (wsD ws)[k]? = some [.str (bw (ws.getD k []))] := by
  rw [List.getD_eq_getElem?_getD, List.getElem?_eq_getElem h]
  simp [wsD, h]
theorem getD_len {ws : List W} {B k : Nat} (h : ∀ x ∈ ws, x.length ≤ B) : (ws.getD k []).length ≤ B := by
  rw [List.getD_eq_getElem?_getD]
  cases h2 : ws[k]? with
  | none => exact Nat.zero_le _
  | some x => exact h _ (List.mem_of_getElem? h2)
theorem out_some {o : Option Sa} {a : Sa} {pk bs : DV} {av : AV} (h : o = some a) (h1 : NW (.d pk) (.d (.sl 1 (nums a.picks)))) (h2 : NW (.d bs) (.d (.sl 1 (u8s a.bytes)))) (e : av = .tup [.agg (actC a (.d pk) (.d bs)), .d (.bool true)]) : out28 o av ∧ ([] : List AB) = [] := by
  rw [h]
  exact ⟨⟨pk, bs, h1, h2, e⟩, rfl⟩
set_option maxHeartbeats 4000000 in
theorem parse28_ok (s : W) (hs : s.length ≤ 1000000) : ACalls Tryd.prog 10 [.d (.str (bw s))] [] (fun av L => out28 (parseS s) av ∧ L = []) := by
  have hwl := words_count s
  have hwe := words_each s
  (refine acalls_go ttOk zOk foOk Tryd.func10 rfl Tryd.ntmps10 rfl false rfl ?_); (conv => whnf)
  refine rdw ?_; repeat' ((with_reducible apply tw) <;> intro _)
  refine (words28_ok s hs).mono ?_
  rintro _ _ ⟨rfl, ⟨rfl, hb⟩ | ⟨rfl, hb⟩⟩
  · conv => whnf
    refine rdw ?_; repeat' ((with_reducible apply tw) <;> intro _)
    exact out_none (parse_empty hb)
  · refine Exists.elim (words_cons s) fun w hw1 => Exists.elim hw1 fun ws hw => ?_
    clear hw1
    rw [hw]
    rw [hw] at hwl hwe
    have hl : (wsD (w :: ws)).length = ws.length + 1 := wsD_length (w :: ws)
    simp only [List.length_cons] at hwl
    have hnum := numbers28_ok ws (by omega) (fun x hx => Nat.le_trans (hwe x (List.mem_cons_of_mem _ hx)) hs)
    rw [numsOut_eq] at hnum
    have hsl : List.drop (Int.toNat 1) (List.take (((wsD (w :: ws)).length : Nat) : Int).toNat (wsD (w :: ws))) = wsD ws := by
      rw [Int.toNat_natCast, List.take_length]
      rfl
    conv => whnf
    refine rdw ?_; repeat' ((with_reducible apply tw) <;> intro _)
    refine ⟨by omega, by show (1 : Int) ≤ (((wsD (w :: ws)).length : Nat) : Int); rw [hl]; omega, Int.le_refl _, ?_⟩
    rw [hsl]
    conv => whnf
    (refine (hnum).mono ?_; rintro _ _ ⟨rfl, rfl⟩; (conv => whnf))
    refine rdw ?_; repeat' ((with_reducible apply tw) <;> intro _)
    by_cases hform : ∀ f ∈ formsL, f.2.1 ≠ w
    · have hp : parseS s = none := parse_other hw hform
      have c1 := cmpF (w := w) (l := [116, 105, 99, 107]) (fun e => hform (1, [116, 105, 99, 107], [110]) (by decide) e.symm)
      have c2 := cmpF (w := w) (l := [115, 116, 97, 114, 116]) (fun e => hform (7, [115, 116, 97, 114, 116], [110]) (by decide) e.symm)
      have c3 := cmpF (w := w) (l := [99, 97, 108, 109]) (fun e => hform (11, [99, 97, 108, 109], [107]) (by decide) e.symm)
      have c4 := cmpF (w := w) (l := [100, 101, 108, 105, 118, 101, 114]) (fun e => hform (3, [100, 101, 108, 105, 118, 101, 114], [110, 112, 107]) (by decide) e.symm)
      have c5 := cmpF (w := w) (l := [100, 111, 117, 98, 108, 101]) (fun e => hform (4, [100, 111, 117, 98, 108, 101], [110, 112, 107]) (by decide) e.symm)
      have c6 := cmpF (w := w) (l := [100, 114, 111, 112]) (fun e => hform (5, [100, 114, 111, 112], [110, 112, 107]) (by decide) e.symm)
      have c7 := cmpF (w := w) (l := [99, 114, 97, 115, 104]) (fun e => hform (6, [99, 114, 97, 115, 104], [110, 108]) (by decide) e.symm)
      have c8 := cmpF (w := w) (l := [97, 114, 109]) (fun e => hform (8, [97, 114, 109], [110, 107, 108]) (by decide) e.symm)
      have c9 := cmpF (w := w) (l := [116, 120]) (fun e => hform (2, [116, 120], [110, 116]) (by decide) e.symm)
      have c10 := cmpF (w := w) (l := [114, 97, 119]) (fun e => hform (10, [114, 97, 119], [110, 112, 98]) (by decide) e.symm)
      repeat' (first | (first | (with_reducible refine mt_f c1 ?_) | (with_reducible refine mt_t c1 ?_) | (with_reducible refine mt_f c2 ?_) | (with_reducible refine mt_t c2 ?_) | (with_reducible refine mt_f c3 ?_) | (with_reducible refine mt_t c3 ?_) | (with_reducible refine mt_f c4 ?_) | (with_reducible refine mt_t c4 ?_) | (with_reducible refine mt_f c5 ?_) | (with_reducible refine mt_t c5 ?_) | (with_reducible refine mt_f c6 ?_) | (with_reducible refine mt_t c6 ?_) | (with_reducible refine mt_f c7 ?_) | (with_reducible refine mt_t c7 ?_) | (with_reducible refine mt_f c8 ?_) | (with_reducible refine mt_t c8 ?_) | (with_reducible refine mt_f c9 ?_) | (with_reducible refine mt_t c9 ?_) | (with_reducible refine mt_f c10 ?_) | (with_reducible refine mt_t c10 ?_)); (conv => whnf) | (refine And.intro (Int.le_refl 0) (Exists.intro [.str (bw w)] (And.intro rfl ?_)); (conv => whnf)) | (first | ((with_reducible first | apply rd_intro | apply gd_and); (focus ((conv => whnf) <;> first | rfl | (intro K hK; (conv => whnf); first | exact hK | exact z_wrap (by omega) hK))); conv => whnf) | ((with_reducible apply z_wrap); (focus omega); conv => whnf) | ((with_reducible first | apply mt_dec | apply mt_eq | apply mt_ne | apply mt_not | apply mt_any) <;> (intro _; conv => whnf))))
      exact out_none hp
    · have hex : ∃ f ∈ formsL, f.2.1 = w := by
        refine Classical.byContradiction fun h => hform fun f hf e => h ⟨f, hf, e⟩
      refine Exists.elim hex fun f hf1 => ?_
      clear hex hform
      have hfw := hf1.2
      have hfm := hf1.1
      clear hf1
      simp only [formsL, List.mem_cons, List.not_mem_nil, or_false] at hfm
      rcases hfm with rfl | rfl | rfl | rfl | rfl | rfl | rfl | rfl | rfl | rfl
      · replace hfw : [116, 105, 99, 107] = w := hfw
        have hp := parse_at (f := (1, [116, 105, 99, 107], [110])) (by decide) (s := s) (ws := ws) (by rw [hw, ← hfw])
        have c1 := cmpT (w := w) (l := [116, 105, 99, 107]) hfw.symm
        have c2 := cmpF (w := w) (l := [115, 116, 97, 114, 116]) (by rw [← hfw]; decide)
        have c3 := cmpF (w := w) (l := [99, 97, 108, 109]) (by rw [← hfw]; decide)
        have c4 := cmpF (w := w) (l := [100, 101, 108, 105, 118, 101, 114]) (by rw [← hfw]; decide)
        have c5 := cmpF (w := w) (l := [100, 111, 117, 98, 108, 101]) (by rw [← hfw]; decide)
        have c6 := cmpF (w := w) (l := [100, 114, 111, 112]) (by rw [← hfw]; decide)
        have c7 := cmpF (w := w) (l := [99, 114, 97, 115, 104]) (by rw [← hfw]; decide)
        have c8 := cmpF (w := w) (l := [97, 114, 109]) (by rw [← hfw]; decide)
        have c9 := cmpF (w := w) (l := [116, 120]) (by rw [← hfw]; decide)
        have c10 := cmpF (w := w) (l := [114, 97, 119]) (by rw [← hfw]; decide)
        repeat' (first | (first | (with_reducible refine mt_f c1 ?_) | (with_reducible refine mt_t c1 ?_) | (with_reducible refine mt_f c2 ?_) | (with_reducible refine mt_t c2 ?_) | (with_reducible refine mt_f c3 ?_) | (with_reducible refine mt_t c3 ?_) | (with_reducible refine mt_f c4 ?_) | (with_reducible refine mt_t c4 ?_) | (with_reducible refine mt_f c5 ?_) | (with_reducible refine mt_t c5 ?_) | (with_reducible refine mt_f c6 ?_) | (with_reducible refine mt_t c6 ?_) | (with_reducible refine mt_f c7 ?_) | (with_reducible refine mt_t c7 ?_) | (with_reducible refine mt_f c8 ?_) | (with_reducible refine mt_t c8 ?_) | (with_reducible refine mt_f c9 ?_) | (with_reducible refine mt_t c9 ?_) | (with_reducible refine mt_f c10 ?_) | (with_reducible refine mt_t c10 ?_)); (conv => whnf) | (refine And.intro (Int.le_refl 0) (Exists.intro [.str (bw w)] (And.intro rfl ?_)); (conv => whnf)) | (first | ((with_reducible first | apply rd_intro | apply gd_and); (focus ((conv => whnf) <;> first | rfl | (intro K hK; (conv => whnf); first | exact hK | exact z_wrap (by omega) hK))); conv => whnf) | ((with_reducible apply z_wrap); (focus omega); conv => whnf) | ((with_reducible first | apply mt_dec | apply mt_eq | apply mt_ne | apply mt_not | apply mt_any) <;> (intro _; conv => whnf))))
        · rename_i hn hsome
          cases hN : numsW ws with
          | none => rw [hN] at hsome; cases hsome
          | some ns =>
            have hnsl := nums_len hN
            have hnl := nums_length ns
            have hp2 := hp.trans (p_n _ ws)
            rw [if_pos (show ws.length = 1 by omega), hN] at hp2
            conv => whnf
            (refine And.intro (by omega) (Exists.intro _ (And.intro (nums_getD (by omega)) ?_)); (conv => whnf))
            refine rdw ?_; repeat' ((with_reducible apply tw) <;> intro _)
            exact out_some hp2 (nwP0 rfl) (nwB0 rfl) rfl
        · rename_i hn hnone
          have hp2 := hp.trans (p_n _ ws)
          rw [none_of hnone] at hp2
          exact out_none (hp2.trans (by split <;> rfl))
        · rename_i hn
          have hp2 := hp.trans (p_n _ ws)
          rw [if_neg (show ¬ (ws.length = 1) by omega)] at hp2
          exact out_none hp2
      · replace hfw : [116, 120] = w := hfw
        have hp := parse_at (f := (2, [116, 120], [110, 116])) (by decide) (s := s) (ws := ws) (by rw [hw, ← hfw])
        have c1 := cmpF (w := w) (l := [116, 105, 99, 107]) (by rw [← hfw]; decide)
        have c2 := cmpF (w := w) (l := [115, 116, 97, 114, 116]) (by rw [← hfw]; decide)
        have c3 := cmpF (w := w) (l := [99, 97, 108, 109]) (by rw [← hfw]; decide)
        have c4 := cmpF (w := w) (l := [100, 101, 108, 105, 118, 101, 114]) (by rw [← hfw]; decide)
        have c5 := cmpF (w := w) (l := [100, 111, 117, 98, 108, 101]) (by rw [← hfw]; decide)
        have c6 := cmpF (w := w) (l := [100, 114, 111, 112]) (by rw [← hfw]; decide)
        have c7 := cmpF (w := w) (l := [99, 114, 97, 115, 104]) (by rw [← hfw]; decide)
        have c8 := cmpF (w := w) (l := [97, 114, 109]) (by rw [← hfw]; decide)
        have c9 := cmpT (w := w) (l := [116, 120]) hfw.symm
        have c10 := cmpF (w := w) (l := [114, 97, 119]) (by rw [← hfw]; decide)
        repeat' (first | (first | (with_reducible refine mt_f c1 ?_) | (with_reducible refine mt_t c1 ?_) | (with_reducible refine mt_f c2 ?_) | (with_reducible refine mt_t c2 ?_) | (with_reducible refine mt_f c3 ?_) | (with_reducible refine mt_t c3 ?_) | (with_reducible refine mt_f c4 ?_) | (with_reducible refine mt_t c4 ?_) | (with_reducible refine mt_f c5 ?_) | (with_reducible refine mt_t c5 ?_) | (with_reducible refine mt_f c6 ?_) | (with_reducible refine mt_t c6 ?_) | (with_reducible refine mt_f c7 ?_) | (with_reducible refine mt_t c7 ?_) | (with_reducible refine mt_f c8 ?_) | (with_reducible refine mt_t c8 ?_) | (with_reducible refine mt_f c9 ?_) | (with_reducible refine mt_t c9 ?_) | (with_reducible refine mt_f c10 ?_) | (with_reducible refine mt_t c10 ?_)); (conv => whnf) | (refine And.intro (Int.le_refl 0) (Exists.intro [.str (bw w)] (And.intro rfl ?_)); (conv => whnf)) | (first | ((with_reducible first | apply rd_intro | apply gd_and); (focus ((conv => whnf) <;> first | rfl | (intro K hK; (conv => whnf); first | exact hK | exact z_wrap (by omega) hK))); conv => whnf) | ((with_reducible apply z_wrap); (focus omega); conv => whnf) | ((with_reducible first | apply mt_dec | apply mt_eq | apply mt_ne | apply mt_not | apply mt_any) <;> (intro _; conv => whnf))))
        · rename_i hn
          have hn2 : ws.length = 5 := by omega
          have hp2 := hp.trans (p_nt _ ws)
          rw [if_pos hn2] at hp2
          have hnm := numbers28_ok (ws.take 3) (by rw [List.length_take]; omega) (fun x hx => Nat.le_trans (hwe x (List.mem_cons_of_mem _ (List.mem_of_mem_take hx))) hs)
          rw [numsOut_eq] at hnm
          have hr3 := raw28_ok (ws.getD 3 []) (Nat.le_trans (getD_len fun x hx => hwe x (List.mem_cons_of_mem _ hx)) hs)
          rw [rawOut_eq] at hr3
          have hg3 : (wsD (w :: ws))[3+1]? = some [.str (bw (ws.getD 3 []))] := ws_getD (ws := ws) (k := 3) (by omega)
          have hr4 := raw28_ok (ws.getD 4 []) (Nat.le_trans (getD_len fun x hx => hwe x (List.mem_cons_of_mem _ hx)) hs)
          rw [rawOut_eq] at hr4
          have hg4 : (wsD (w :: ws))[4+1]? = some [.str (bw (ws.getD 4 []))] := ws_getD (ws := ws) (k := 4) (by omega)
          refine ⟨by omega, by omega, by show (3 + 1 : Int) ≤ (((wsD (w :: ws)).length : Nat) : Int); rw [hl]; omega, ?_⟩
          rw [show List.drop (Int.toNat 1) (List.take (Int.toNat 4) (wsD (w :: ws))) = wsD (ws.take 3) from by simp [wsD, List.map_take]]
          conv => whnf
          (refine (hnm).mono ?_; rintro _ _ ⟨rfl, rfl⟩; (conv => whnf))
          refine rdw ?_; repeat' ((with_reducible apply tw) <;> intro _)
          refine And.intro (by omega) (Exists.intro _ (And.intro hg3 ?_))
          conv => whnf
          refine rdw ?_; repeat' ((with_reducible apply tw) <;> intro _)
          (refine (hr3).mono ?_; rintro _ _ ⟨rfl, rfl⟩; (conv => whnf))
          refine rdw ?_; repeat' ((with_reducible apply tw) <;> intro _)
          refine And.intro (by omega) (Exists.intro _ (And.intro hg4 ?_))
          conv => whnf
          refine rdw ?_; repeat' ((with_reducible apply tw) <;> intro _)
          (refine (hr4).mono ?_; rintro _ _ ⟨rfl, rfl⟩; (conv => whnf))
          refine rdw ?_; repeat' ((with_reducible apply tw) <;> intro _)
          · rename_i s1 s2 s3
            cases hN : numsW (ws.take 3) with
            | none => rw [hN] at s1; cases s1
            | some ns =>
              cases hK : unhexW (ws.getD 3 []) with
              | none => rw [hK] at s2; cases s2
              | some key =>
                cases hV : unhexW (ws.getD 4 []) with
                | none => rw [hV] at s3; cases s3
                | some val =>
                  have hnsl := nums_len hN
                  rw [List.length_take] at hnsl
                  rw [hN, hK, hV] at hp2
                  ((with_reducible refine draw_pl ttOk zOk foOk mixedOk pl10x27 ?_ ?_); (focus kernel_rfl); (conv => whnf))
                  repeat' (first | (first | ((with_reducible first | apply rd_intro | apply gd_and); (focus ((conv => whnf) <;> first | rfl | (intro K hK; (conv => whnf); first | exact hK | exact z_wrap (by omega) hK))); conv => whnf) | ((with_reducible apply z_wrap); (focus omega); conv => whnf) | ((with_reducible first | apply mt_dec | apply mt_eq | apply mt_ne | apply mt_not | apply mt_any) <;> (intro _; conv => whnf))) | ((with_reducible apply rd_intro); (focus (intro K hK; (conv => whnf); exact ⟨by omega, _, nums_getD (by omega), hK⟩)); (conv => whnf)))
                  exact out_some hp2 (nwP0 rfl) (nwB0 rfl) rfl
          · rename_i s1 s2 s3
            exact out_none (hp2.trans (by rw [none_of s3]; cases numsW (ws.take 3) <;> first | rfl | (cases unhexW (ws.getD 3 []) <;> rfl)))
          · rename_i s1 s2
            exact out_none (hp2.trans (by rw [none_of s2]; cases numsW (ws.take 3) <;> rfl))
          · rename_i s1
            exact out_none (hp2.trans (by rw [none_of s1]))
        · rename_i hn
          have hp2 := hp.trans (p_nt _ ws)
          rw [if_neg (show ¬ ws.length = 5 by omega)] at hp2
          exact out_none hp2
      · replace hfw : [100, 101, 108, 105, 118, 101, 114] = w := hfw
        have hp := parse_at (f := (3, [100, 101, 108, 105, 118, 101, 114], [110, 112, 107])) (by decide) (s := s) (ws := ws) (by rw [hw, ← hfw])
        have c1 := cmpF (w := w) (l := [116, 105, 99, 107]) (by rw [← hfw]; decide)
        have c2 := cmpF (w := w) (l := [115, 116, 97, 114, 116]) (by rw [← hfw]; decide)
        have c3 := cmpF (w := w) (l := [99, 97, 108, 109]) (by rw [← hfw]; decide)
        have c4 := cmpT (w := w) (l := [100, 101, 108, 105, 118, 101, 114]) hfw.symm
        have c5 := cmpF (w := w) (l := [100, 111, 117, 98, 108, 101]) (by rw [← hfw]; decide)
        have c6 := cmpF (w := w) (l := [100, 114, 111, 112]) (by rw [← hfw]; decide)
        have c7 := cmpF (w := w) (l := [99, 114, 97, 115, 104]) (by rw [← hfw]; decide)
        have c8 := cmpF (w := w) (l := [97, 114, 109]) (by rw [← hfw]; decide)
        have c9 := cmpF (w := w) (l := [116, 120]) (by rw [← hfw]; decide)
        have c10 := cmpF (w := w) (l := [114, 97, 119]) (by rw [← hfw]; decide)
        repeat' (first | (first | (with_reducible refine mt_f c1 ?_) | (with_reducible refine mt_t c1 ?_) | (with_reducible refine mt_f c2 ?_) | (with_reducible refine mt_t c2 ?_) | (with_reducible refine mt_f c3 ?_) | (with_reducible refine mt_t c3 ?_) | (with_reducible refine mt_f c4 ?_) | (with_reducible refine mt_t c4 ?_) | (with_reducible refine mt_f c5 ?_) | (with_reducible refine mt_t c5 ?_) | (with_reducible refine mt_f c6 ?_) | (with_reducible refine mt_t c6 ?_) | (with_reducible refine mt_f c7 ?_) | (with_reducible refine mt_t c7 ?_) | (with_reducible refine mt_f c8 ?_) | (with_reducible refine mt_t c8 ?_) | (with_reducible refine mt_f c9 ?_) | (with_reducible refine mt_t c9 ?_) | (with_reducible refine mt_f c10 ?_) | (with_reducible refine mt_t c10 ?_)); (conv => whnf) | (refine And.intro (Int.le_refl 0) (Exists.intro [.str (bw w)] (And.intro rfl ?_)); (conv => whnf)) | (first | ((with_reducible first | apply rd_intro | apply gd_and); (focus ((conv => whnf) <;> first | rfl | (intro K hK; (conv => whnf); first | exact hK | exact z_wrap (by omega) hK))); conv => whnf) | ((with_reducible apply z_wrap); (focus omega); conv => whnf) | ((with_reducible first | apply mt_dec | apply mt_eq | apply mt_ne | apply mt_not | apply mt_any) <;> (intro _; conv => whnf))))
        · rename_i hn hsome
          cases hN : numsW ws with
          | none => rw [hN] at hsome; cases hsome
          | some ns =>
            have hnsl := nums_len hN
            have hnl := nums_length ns
            have hp2 := hp.trans (p_npk _ ws)
            rw [if_pos (show ws.length = 3 by omega), hN] at hp2
            ((with_reducible refine draw_pl ttOk zOk foOk mixedOk pl10x13 ?_ ?_); (focus kernel_rfl); (conv => whnf))
            repeat' (first | (first | ((with_reducible first | apply rd_intro | apply gd_and); (focus ((conv => whnf) <;> first | rfl | (intro K hK; (conv => whnf); first | exact hK | exact z_wrap (by omega) hK))); conv => whnf) | ((with_reducible apply z_wrap); (focus omega); conv => whnf) | ((with_reducible first | apply mt_dec | apply mt_eq | apply mt_ne | apply mt_not | apply mt_any) <;> (intro _; conv => whnf))) | ((with_reducible apply rd_intro); (focus (intro K hK; (conv => whnf); exact ⟨by omega, _, nums_getD (by omega), hK⟩)); (conv => whnf)))
            exact out_some hp2 (nwP0 rfl) (nwB0 rfl) rfl
        · rename_i hn hnone
          have hp2 := hp.trans (p_npk _ ws)
          rw [none_of hnone] at hp2
          exact out_none (hp2.trans (by split <;> rfl))
        · rename_i hn
          have hp2 := hp.trans (p_npk _ ws)
          rw [if_neg (show ¬ (ws.length = 3) by omega)] at hp2
          exact out_none hp2
      · replace hfw : [100, 111, 117, 98, 108, 101] = w := hfw
        have hp := parse_at (f := (4, [100, 111, 117, 98, 108, 101], [110, 112, 107])) (by decide) (s := s) (ws := ws) (by rw [hw, ← hfw])
        have c1 := cmpF (w := w) (l := [116, 105, 99, 107]) (by rw [← hfw]; decide)
        have c2 := cmpF (w := w) (l := [115, 116, 97, 114, 116]) (by rw [← hfw]; decide)
        have c3 := cmpF (w := w) (l := [99, 97, 108, 109]) (by rw [← hfw]; decide)
        have c4 := cmpF (w := w) (l := [100, 101, 108, 105, 118, 101, 114]) (by rw [← hfw]; decide)
        have c5 := cmpT (w := w) (l := [100, 111, 117, 98, 108, 101]) hfw.symm
        have c6 := cmpF (w := w) (l := [100, 114, 111, 112]) (by rw [← hfw]; decide)
        have c7 := cmpF (w := w) (l := [99, 114, 97, 115, 104]) (by rw [← hfw]; decide)
        have c8 := cmpF (w := w) (l := [97, 114, 109]) (by rw [← hfw]; decide)
        have c9 := cmpF (w := w) (l := [116, 120]) (by rw [← hfw]; decide)
        have c10 := cmpF (w := w) (l := [114, 97, 119]) (by rw [← hfw]; decide)
        repeat' (first | (first | (with_reducible refine mt_f c1 ?_) | (with_reducible refine mt_t c1 ?_) | (with_reducible refine mt_f c2 ?_) | (with_reducible refine mt_t c2 ?_) | (with_reducible refine mt_f c3 ?_) | (with_reducible refine mt_t c3 ?_) | (with_reducible refine mt_f c4 ?_) | (with_reducible refine mt_t c4 ?_) | (with_reducible refine mt_f c5 ?_) | (with_reducible refine mt_t c5 ?_) | (with_reducible refine mt_f c6 ?_) | (with_reducible refine mt_t c6 ?_) | (with_reducible refine mt_f c7 ?_) | (with_reducible refine mt_t c7 ?_) | (with_reducible refine mt_f c8 ?_) | (with_reducible refine mt_t c8 ?_) | (with_reducible refine mt_f c9 ?_) | (with_reducible refine mt_t c9 ?_) | (with_reducible refine mt_f c10 ?_) | (with_reducible refine mt_t c10 ?_)); (conv => whnf) | (refine And.intro (Int.le_refl 0) (Exists.intro [.str (bw w)] (And.intro rfl ?_)); (conv => whnf)) | (first | ((with_reducible first | apply rd_intro | apply gd_and); (focus ((conv => whnf) <;> first | rfl | (intro K hK; (conv => whnf); first | exact hK | exact z_wrap (by omega) hK))); conv => whnf) | ((with_reducible apply z_wrap); (focus omega); conv => whnf) | ((with_reducible first | apply mt_dec | apply mt_eq | apply mt_ne | apply mt_not | apply mt_any) <;> (intro _; conv => whnf))))
        · rename_i hn hsome
          cases hN : numsW ws with
          | none => rw [hN] at hsome; cases hsome
          | some ns =>
            have hnsl := nums_len hN
            have hnl := nums_length ns
            have hp2 := hp.trans (p_npk _ ws)
            rw [if_pos (show ws.length = 3 by omega), hN] at hp2
            ((with_reducible refine draw_pl ttOk zOk foOk mixedOk pl10x15 ?_ ?_); (focus kernel_rfl); (conv => whnf))
            repeat' (first | (first | ((with_reducible first | apply rd_intro | apply gd_and); (focus ((conv => whnf) <;> first | rfl | (intro K hK; (conv => whnf); first | exact hK | exact z_wrap (by omega) hK))); conv => whnf) | ((with_reducible apply z_wrap); (focus omega); conv => whnf) | ((with_reducible first | apply mt_dec | apply mt_eq | apply mt_ne | apply mt_not | apply mt_any) <;> (intro _; conv => whnf))) | ((with_reducible apply rd_intro); (focus (intro K hK; (conv => whnf); exact ⟨by omega, _, nums_getD (by omega), hK⟩)); (conv => whnf)))
            exact out_some hp2 (nwP0 rfl) (nwB0 rfl) rfl
        · rename_i hn hnone
          have hp2 := hp.trans (p_npk _ ws)
          rw [none_of hnone] at hp2
          exact out_none (hp2.trans (by split <;> rfl))
        · rename_i hn
          have hp2 := hp.trans (p_npk _ ws)
          rw [if_neg (show ¬ (ws.length = 3) by omega)] at hp2
          exact out_none hp2
      · replace hfw : [100, 114, 111, 112] = w := hfw
        have hp := parse_at (f := (5, [100, 114, 111, 112], [110, 112, 107])) (by decide) (s := s) (ws := ws) (by rw [hw, ← hfw])
        have c1 := cmpF (w := w) (l := [116, 105, 99, 107]) (by rw [← hfw]; decide)
        have c2 := cmpF (w := w) (l := [115, 116, 97, 114, 116]) (by rw [← hfw]; decide)
        have c3 := cmpF (w := w) (l := [99, 97, 108, 109]) (by rw [← hfw]; decide)
        have c4 := cmpF (w := w) (l := [100, 101, 108, 105, 118, 101, 114]) (by rw [← hfw]; decide)
        have c5 := cmpF (w := w) (l := [100, 111, 117, 98, 108, 101]) (by rw [← hfw]; decide)
        have c6 := cmpT (w := w) (l := [100, 114, 111, 112]) hfw.symm
        have c7 := cmpF (w := w) (l := [99, 114, 97, 115, 104]) (by rw [← hfw]; decide)
        have c8 := cmpF (w := w) (l := [97, 114, 109]) (by rw [← hfw]; decide)
        have c9 := cmpF (w := w) (l := [116, 120]) (by rw [← hfw]; decide)
        have c10 := cmpF (w := w) (l := [114, 97, 119]) (by rw [← hfw]; decide)
        repeat' (first | (first | (with_reducible refine mt_f c1 ?_) | (with_reducible refine mt_t c1 ?_) | (with_reducible refine mt_f c2 ?_) | (with_reducible refine mt_t c2 ?_) | (with_reducible refine mt_f c3 ?_) | (with_reducible refine mt_t c3 ?_) | (with_reducible refine mt_f c4 ?_) | (with_reducible refine mt_t c4 ?_) | (with_reducible refine mt_f c5 ?_) | (with_reducible refine mt_t c5 ?_) | (with_reducible refine mt_f c6 ?_) | (with_reducible refine mt_t c6 ?_) | (with_reducible refine mt_f c7 ?_) | (with_reducible refine mt_t c7 ?_) | (with_reducible refine mt_f c8 ?_) | (with_reducible refine mt_t c8 ?_) | (with_reducible refine mt_f c9 ?_) | (with_reducible refine mt_t c9 ?_) | (with_reducible refine mt_f c10 ?_) | (with_reducible refine mt_t c10 ?_)); (conv => whnf) | (refine And.intro (Int.le_refl 0) (Exists.intro [.str (bw w)] (And.intro rfl ?_)); (conv => whnf)) | (first | ((with_reducible first | apply rd_intro | apply gd_and); (focus ((conv => whnf) <;> first | rfl | (intro K hK; (conv => whnf); first | exact hK | exact z_wrap (by omega) hK))); conv => whnf) | ((with_reducible apply z_wrap); (focus omega); conv => whnf) | ((with_reducible first | apply mt_dec | apply mt_eq | apply mt_ne | apply mt_not | apply mt_any) <;> (intro _; conv => whnf))))
        · rename_i hn hsome
          cases hN : numsW ws with
          | none => rw [hN] at hsome; cases hsome
          | some ns =>
            have hnsl := nums_len hN
            have hnl := nums_length ns
            have hp2 := hp.trans (p_npk _ ws)
            rw [if_pos (show ws.length = 3 by omega), hN] at hp2
            ((with_reducible refine draw_pl ttOk zOk foOk mixedOk pl10x17 ?_ ?_); (focus kernel_rfl); (conv => whnf))
            repeat' (first | (first | ((with_reducible first | apply rd_intro | apply gd_and); (focus ((conv => whnf) <;> first | rfl | (intro K hK; (conv => whnf); first | exact hK | exact z_wrap (by omega) hK))); conv => whnf) | ((with_reducible apply z_wrap); (focus omega); conv => whnf) | ((with_reducible first | apply mt_dec | apply mt_eq | apply mt_ne | apply mt_not | apply mt_any) <;> (intro _; conv => whnf))) | ((with_reducible apply rd_intro); (focus (intro K hK; (conv => whnf); exact ⟨by omega, _, nums_getD (by omega), hK⟩)); (conv => whnf)))
            exact out_some hp2 (nwP0 rfl) (nwB0 rfl) rfl
        · rename_i hn hnone
          have hp2 := hp.trans (p_npk _ ws)
          rw [none_of hnone] at hp2
          exact out_none (hp2.trans (by split <;> rfl))
        · rename_i hn
          have hp2 := hp.trans (p_npk _ ws)
          rw [if_neg (show ¬ (ws.length = 3) by omega)] at hp2
          exact out_none hp2
      · replace hfw : [99, 114, 97, 115, 104] = w := hfw
        have hp := parse_at (f := (6, [99, 114, 97, 115, 104], [110, 108])) (by decide) (s := s) (ws := ws) (by rw [hw, ← hfw])
        have c1 := cmpF (w := w) (l := [116, 105, 99, 107]) (by rw [← hfw]; decide)
        have c2 := cmpF (w := w) (l := [115, 116, 97, 114, 116]) (by rw [← hfw]; decide)
        have c3 := cmpF (w := w) (l := [99, 97, 108, 109]) (by rw [← hfw]; decide)
        have c4 := cmpF (w := w) (l := [100, 101, 108, 105, 118, 101, 114]) (by rw [← hfw]; decide)
        have c5 := cmpF (w := w) (l := [100, 111, 117, 98, 108, 101]) (by rw [← hfw]; decide)
        have c6 := cmpF (w := w) (l := [100, 114, 111, 112]) (by rw [← hfw]; decide)
        have c7 := cmpT (w := w) (l := [99, 114, 97, 115, 104]) hfw.symm
        have c8 := cmpF (w := w) (l := [97, 114, 109]) (by rw [← hfw]; decide)
        have c9 := cmpF (w := w) (l := [116, 120]) (by rw [← hfw]; decide)
        have c10 := cmpF (w := w) (l := [114, 97, 119]) (by rw [← hfw]; decide)
        repeat' (first | (first | (with_reducible refine mt_f c1 ?_) | (with_reducible refine mt_t c1 ?_) | (with_reducible refine mt_f c2 ?_) | (with_reducible refine mt_t c2 ?_) | (with_reducible refine mt_f c3 ?_) | (with_reducible refine mt_t c3 ?_) | (with_reducible refine mt_f c4 ?_) | (with_reducible refine mt_t c4 ?_) | (with_reducible refine mt_f c5 ?_) | (with_reducible refine mt_t c5 ?_) | (with_reducible refine mt_f c6 ?_) | (with_reducible refine mt_t c6 ?_) | (with_reducible refine mt_f c7 ?_) | (with_reducible refine mt_t c7 ?_) | (with_reducible refine mt_f c8 ?_) | (with_reducible refine mt_t c8 ?_) | (with_reducible refine mt_f c9 ?_) | (with_reducible refine mt_t c9 ?_) | (with_reducible refine mt_f c10 ?_) | (with_reducible refine mt_t c10 ?_)); (conv => whnf) | (refine And.intro (Int.le_refl 0) (Exists.intro [.str (bw w)] (And.intro rfl ?_)); (conv => whnf)) | (first | ((with_reducible first | apply rd_intro | apply gd_and); (focus ((conv => whnf) <;> first | rfl | (intro K hK; (conv => whnf); first | exact hK | exact z_wrap (by omega) hK))); conv => whnf) | ((with_reducible apply z_wrap); (focus omega); conv => whnf) | ((with_reducible first | apply mt_dec | apply mt_eq | apply mt_ne | apply mt_not | apply mt_any) <;> (intro _; conv => whnf))))
        · rename_i hn hsome
          cases hN : numsW ws with
          | none => rw [hN] at hsome; cases hsome
          | some ns =>
            have hnsl := nums_len hN
            have hnl := nums_length ns
            have hp2 := hp.trans (p_nl _ ws)
            rw [if_pos (show 1 ≤ ws.length by omega), hN] at hp2
            ((with_reducible refine draw_pl ttOk zOk foOk mixedOk pl10x19 ?_ ?_); (focus kernel_rfl); (conv => whnf))
            repeat' (first | (first | ((with_reducible first | apply rd_intro | apply gd_and); (focus ((conv => whnf) <;> first | rfl | (intro K hK; (conv => whnf); first | exact hK | exact z_wrap (by omega) hK))); conv => whnf) | ((with_reducible apply z_wrap); (focus omega); conv => whnf) | ((with_reducible first | apply mt_dec | apply mt_eq | apply mt_ne | apply mt_not | apply mt_any) <;> (intro _; conv => whnf))) | ((with_reducible apply rd_intro); (focus (intro K hK; (conv => whnf); exact ⟨by omega, by rw [hnl]; omega, Int.le_refl _, by rw [show List.drop (Int.toNat 1) (List.take (((nums ns).length : Nat) : Int).toNat (nums ns)) = nums (ns.drop 1) from by rw [Int.toNat_natCast, List.take_length]; exact nums_drop ns 1]; exact hK⟩)); (conv => whnf)) | ((with_reducible apply rd_intro); (focus (intro K hK; (conv => whnf); exact ⟨by omega, _, nums_getD (by omega), hK⟩)); (conv => whnf)))
            exact out_some hp2 (.refl _) (nwB0 rfl) rfl
        · rename_i hn hnone
          have hp2 := hp.trans (p_nl _ ws)
          rw [none_of hnone] at hp2
          exact out_none (hp2.trans (by split <;> rfl))
        · rename_i hn
          have hp2 := hp.trans (p_nl _ ws)
          rw [if_neg (show ¬ (1 ≤ ws.length) by omega)] at hp2
          exact out_none hp2
      · replace hfw : [115, 116, 97, 114, 116] = w := hfw
        have hp := parse_at (f := (7, [115, 116, 97, 114, 116], [110])) (by decide) (s := s) (ws := ws) (by rw [hw, ← hfw])
        have c1 := cmpF (w := w) (l := [116, 105, 99, 107]) (by rw [← hfw]; decide)
        have c2 := cmpT (w := w) (l := [115, 116, 97, 114, 116]) hfw.symm
        have c3 := cmpF (w := w) (l := [99, 97, 108, 109]) (by rw [← hfw]; decide)
        have c4 := cmpF (w := w) (l := [100, 101, 108, 105, 118, 101, 114]) (by rw [← hfw]; decide)
        have c5 := cmpF (w := w) (l := [100, 111, 117, 98, 108, 101]) (by rw [← hfw]; decide)
        have c6 := cmpF (w := w) (l := [100, 114, 111, 112]) (by rw [← hfw]; decide)
        have c7 := cmpF (w := w) (l := [99, 114, 97, 115, 104]) (by rw [← hfw]; decide)
        have c8 := cmpF (w := w) (l := [97, 114, 109]) (by rw [← hfw]; decide)
        have c9 := cmpF (w := w) (l := [116, 120]) (by rw [← hfw]; decide)
        have c10 := cmpF (w := w) (l := [114, 97, 119]) (by rw [← hfw]; decide)
        repeat' (first | (first | (with_reducible refine mt_f c1 ?_) | (with_reducible refine mt_t c1 ?_) | (with_reducible refine mt_f c2 ?_) | (with_reducible refine mt_t c2 ?_) | (with_reducible refine mt_f c3 ?_) | (with_reducible refine mt_t c3 ?_) | (with_reducible refine mt_f c4 ?_) | (with_reducible refine mt_t c4 ?_) | (with_reducible refine mt_f c5 ?_) | (with_reducible refine mt_t c5 ?_) | (with_reducible refine mt_f c6 ?_) | (with_reducible refine mt_t c6 ?_) | (with_reducible refine mt_f c7 ?_) | (with_reducible refine mt_t c7 ?_) | (with_reducible refine mt_f c8 ?_) | (with_reducible refine mt_t c8 ?_) | (with_reducible refine mt_f c9 ?_) | (with_reducible refine mt_t c9 ?_) | (with_reducible refine mt_f c10 ?_) | (with_reducible refine mt_t c10 ?_)); (conv => whnf) | (refine And.intro (Int.le_refl 0) (Exists.intro [.str (bw w)] (And.intro rfl ?_)); (conv => whnf)) | (first | ((with_reducible first | apply rd_intro | apply gd_and); (focus ((conv => whnf) <;> first | rfl | (intro K hK; (conv => whnf); first | exact hK | exact z_wrap (by omega) hK))); conv => whnf) | ((with_reducible apply z_wrap); (focus omega); conv => whnf) | ((with_reducible first | apply mt_dec | apply mt_eq | apply mt_ne | apply mt_not | apply mt_any) <;> (intro _; conv => whnf))))
        · rename_i hn hsome
          cases hN : numsW ws with
          | none => rw [hN] at hsome; cases hsome
          | some ns =>
            have hnsl := nums_len hN
            have hnl := nums_length ns
            have hp2 := hp.trans (p_n _ ws)
            rw [if_pos (show ws.length = 1 by omega), hN] at hp2
            conv => whnf
            (refine And.intro (by omega) (Exists.intro _ (And.intro (nums_getD (by omega)) ?_)); (conv => whnf))
            refine rdw ?_; repeat' ((with_reducible apply tw) <;> intro _)
            exact out_some hp2 (nwP0 rfl) (nwB0 rfl) rfl
        · rename_i hn hnone
          have hp2 := hp.trans (p_n _ ws)
          rw [none_of hnone] at hp2
          exact out_none (hp2.trans (by split <;> rfl))
        · rename_i hn
          have hp2 := hp.trans (p_n _ ws)
          rw [if_neg (show ¬ (ws.length = 1) by omega)] at hp2
          exact out_none hp2
      · replace hfw : [97, 114, 109] = w := hfw
        have hp := parse_at (f := (8, [97, 114, 109], [110, 107, 108])) (by decide) (s := s) (ws := ws) (by rw [hw, ← hfw])
        have c1 := cmpF (w := w) (l := [116, 105, 99, 107]) (by rw [← hfw]; decide)
        have c2 := cmpF (w := w) (l := [115, 116, 97, 114, 116]) (by rw [← hfw]; decide)
        have c3 := cmpF (w := w) (l := [99, 97, 108, 109]) (by rw [← hfw]; decide)
        have c4 := cmpF (w := w) (l := [100, 101, 108, 105, 118, 101, 114]) (by rw [← hfw]; decide)
        have c5 := cmpF (w := w) (l := [100, 111, 117, 98, 108, 101]) (by rw [← hfw]; decide)
        have c6 := cmpF (w := w) (l := [100, 114, 111, 112]) (by rw [← hfw]; decide)
        have c7 := cmpF (w := w) (l := [99, 114, 97, 115, 104]) (by rw [← hfw]; decide)
        have c8 := cmpT (w := w) (l := [97, 114, 109]) hfw.symm
        have c9 := cmpF (w := w) (l := [116, 120]) (by rw [← hfw]; decide)
        have c10 := cmpF (w := w) (l := [114, 97, 119]) (by rw [← hfw]; decide)
        repeat' (first | (first | (with_reducible refine mt_f c1 ?_) | (with_reducible refine mt_t c1 ?_) | (with_reducible refine mt_f c2 ?_) | (with_reducible refine mt_t c2 ?_) | (with_reducible refine mt_f c3 ?_) | (with_reducible refine mt_t c3 ?_) | (with_reducible refine mt_f c4 ?_) | (with_reducible refine mt_t c4 ?_) | (with_reducible refine mt_f c5 ?_) | (with_reducible refine mt_t c5 ?_) | (with_reducible refine mt_f c6 ?_) | (with_reducible refine mt_t c6 ?_) | (with_reducible refine mt_f c7 ?_) | (with_reducible refine mt_t c7 ?_) | (with_reducible refine mt_f c8 ?_) | (with_reducible refine mt_t c8 ?_) | (with_reducible refine mt_f c9 ?_) | (with_reducible refine mt_t c9 ?_) | (with_reducible refine mt_f c10 ?_) | (with_reducible refine mt_t c10 ?_)); (conv => whnf) | (refine And.intro (Int.le_refl 0) (Exists.intro [.str (bw w)] (And.intro rfl ?_)); (conv => whnf)) | (first | ((with_reducible first | apply rd_intro | apply gd_and); (focus ((conv => whnf) <;> first | rfl | (intro K hK; (conv => whnf); first | exact hK | exact z_wrap (by omega) hK))); conv => whnf) | ((with_reducible apply z_wrap); (focus omega); conv => whnf) | ((with_reducible first | apply mt_dec | apply mt_eq | apply mt_ne | apply mt_not | apply mt_any) <;> (intro _; conv => whnf))))
        · rename_i hn hsome
          cases hN : numsW ws with
          | none => rw [hN] at hsome; cases hsome
          | some ns =>
            have hnsl := nums_len hN
            have hnl := nums_length ns
            have hp2 := hp.trans (p_nkl _ ws)
            rw [if_pos (show 2 ≤ ws.length by omega), hN] at hp2
            ((with_reducible refine draw_pl ttOk zOk foOk mixedOk pl10x21 ?_ ?_); (focus kernel_rfl); (conv => whnf))
            repeat' (first | (first | ((with_reducible first | apply rd_intro | apply gd_and); (focus ((conv => whnf) <;> first | rfl | (intro K hK; (conv => whnf); first | exact hK | exact z_wrap (by omega) hK))); conv => whnf) | ((with_reducible apply z_wrap); (focus omega); conv => whnf) | ((with_reducible first | apply mt_dec | apply mt_eq | apply mt_ne | apply mt_not | apply mt_any) <;> (intro _; conv => whnf))) | ((with_reducible apply rd_intro); (focus (intro K hK; (conv => whnf); exact ⟨by omega, by rw [hnl]; omega, Int.le_refl _, by rw [show List.drop (Int.toNat 2) (List.take (((nums ns).length : Nat) : Int).toNat (nums ns)) = nums (ns.drop 2) from by rw [Int.toNat_natCast, List.take_length]; exact nums_drop ns 2]; exact hK⟩)); (conv => whnf)) | ((with_reducible apply rd_intro); (focus (intro K hK; (conv => whnf); exact ⟨by omega, _, nums_getD (by omega), hK⟩)); (conv => whnf)))
            exact out_some hp2 (.refl _) (nwB0 rfl) rfl
        · rename_i hn hnone
          have hp2 := hp.trans (p_nkl _ ws)
          rw [none_of hnone] at hp2
          exact out_none (hp2.trans (by split <;> rfl))
        · rename_i hn
          have hp2 := hp.trans (p_nkl _ ws)
          rw [if_neg (show ¬ (2 ≤ ws.length) by omega)] at hp2
          exact out_none hp2
      · replace hfw : [114, 97, 119] = w := hfw
        have hp := parse_at (f := (10, [114, 97, 119], [110, 112, 98])) (by decide) (s := s) (ws := ws) (by rw [hw, ← hfw])
        have c1 := cmpF (w := w) (l := [116, 105, 99, 107]) (by rw [← hfw]; decide)
        have c2 := cmpF (w := w) (l := [115, 116, 97, 114, 116]) (by rw [← hfw]; decide)
        have c3 := cmpF (w := w) (l := [99, 97, 108, 109]) (by rw [← hfw]; decide)
        have c4 := cmpF (w := w) (l := [100, 101, 108, 105, 118, 101, 114]) (by rw [← hfw]; decide)
        have c5 := cmpF (w := w) (l := [100, 111, 117, 98, 108, 101]) (by rw [← hfw]; decide)
        have c6 := cmpF (w := w) (l := [100, 114, 111, 112]) (by rw [← hfw]; decide)
        have c7 := cmpF (w := w) (l := [99, 114, 97, 115, 104]) (by rw [← hfw]; decide)
        have c8 := cmpF (w := w) (l := [97, 114, 109]) (by rw [← hfw]; decide)
        have c9 := cmpF (w := w) (l := [116, 120]) (by rw [← hfw]; decide)
        have c10 := cmpT (w := w) (l := [114, 97, 119]) hfw.symm
        repeat' (first | (first | (with_reducible refine mt_f c1 ?_) | (with_reducible refine mt_t c1 ?_) | (with_reducible refine mt_f c2 ?_) | (with_reducible refine mt_t c2 ?_) | (with_reducible refine mt_f c3 ?_) | (with_reducible refine mt_t c3 ?_) | (with_reducible refine mt_f c4 ?_) | (with_reducible refine mt_t c4 ?_) | (with_reducible refine mt_f c5 ?_) | (with_reducible refine mt_t c5 ?_) | (with_reducible refine mt_f c6 ?_) | (with_reducible refine mt_t c6 ?_) | (with_reducible refine mt_f c7 ?_) | (with_reducible refine mt_t c7 ?_) | (with_reducible refine mt_f c8 ?_) | (with_reducible refine mt_t c8 ?_) | (with_reducible refine mt_f c9 ?_) | (with_reducible refine mt_t c9 ?_) | (with_reducible refine mt_f c10 ?_) | (with_reducible refine mt_t c10 ?_)); (conv => whnf) | (refine And.intro (Int.le_refl 0) (Exists.intro [.str (bw w)] (And.intro rfl ?_)); (conv => whnf)) | (first | ((with_reducible first | apply rd_intro | apply gd_and); (focus ((conv => whnf) <;> first | rfl | (intro K hK; (conv => whnf); first | exact hK | exact z_wrap (by omega) hK))); conv => whnf) | ((with_reducible apply z_wrap); (focus omega); conv => whnf) | ((with_reducible first | apply mt_dec | apply mt_eq | apply mt_ne | apply mt_not | apply mt_any) <;> (intro _; conv => whnf))))
        · rename_i hn
          have hn2 : ws.length = 3 := by omega
          have hp2 := hp.trans (p_npb _ ws)
          rw [if_pos hn2] at hp2
          have hnm := numbers28_ok (ws.take 2) (by rw [List.length_take]; omega) (fun x hx => Nat.le_trans (hwe x (List.mem_cons_of_mem _ (List.mem_of_mem_take hx))) hs)
          rw [numsOut_eq] at hnm
          have hr2 := raw28_ok (ws.getD 2 []) (Nat.le_trans (getD_len fun x hx => hwe x (List.mem_cons_of_mem _ hx)) hs)
          rw [rawOut_eq] at hr2
          have hg2 : (wsD (w :: ws))[2+1]? = some [.str (bw (ws.getD 2 []))] := ws_getD (ws := ws) (k := 2) (by omega)
          refine ⟨by omega, by omega, by show (2 + 1 : Int) ≤ (((wsD (w :: ws)).length : Nat) : Int); rw [hl]; omega, ?_⟩
          rw [show List.drop (Int.toNat 1) (List.take (Int.toNat 3) (wsD (w :: ws))) = wsD (ws.take 2) from by simp [wsD, List.map_take]]
          conv => whnf
          (refine (hnm).mono ?_; rintro _ _ ⟨rfl, rfl⟩; (conv => whnf))
          refine rdw ?_; repeat' ((with_reducible apply tw) <;> intro _)
          refine And.intro (by omega) (Exists.intro _ (And.intro hg2 ?_))
          conv => whnf
          refine rdw ?_; repeat' ((with_reducible apply tw) <;> intro _)
          (refine (hr2).mono ?_; rintro _ _ ⟨rfl, rfl⟩; (conv => whnf))
          refine rdw ?_; repeat' ((with_reducible apply tw) <;> intro _)
          · rename_i s1 s2
            cases hN : numsW (ws.take 2) with
            | none => rw [hN] at s1; cases s1
            | some ns =>
              cases hK : unhexW (ws.getD 2 []) with
              | none => rw [hK] at s2; cases s2
              | some byt =>
                have hnsl := nums_len hN
                rw [List.length_take] at hnsl
                have hbl : byt.length ≤ 1000000 := Nat.le_trans (hexW_ge byt) (by rw [hex_unhex hK]; exact Nat.le_trans (getD_len fun x hx => hwe x (List.mem_cons_of_mem _ hx)) hs)
                rw [hN, hK] at hp2
                ((with_reducible refine draw_pl ttOk zOk foOk mixedOk pl10x32 ?_ ?_); (focus kernel_rfl); (conv => whnf))
                repeat' (first | (first | ((with_reducible first | apply rd_intro | apply gd_and); (focus ((conv => whnf) <;> first | rfl | (intro K hK; (conv => whnf); first | exact hK | exact z_wrap (by omega) hK))); conv => whnf) | ((with_reducible apply z_wrap); (focus omega); conv => whnf) | ((with_reducible first | apply mt_dec | apply mt_eq | apply mt_ne | apply mt_not | apply mt_any) <;> (intro _; conv => whnf))) | ((with_reducible apply rd_intro); (focus (intro K hK; (conv => whnf); exact ⟨by omega, _, nums_getD (by omega), hK⟩)); (conv => whnf)) | ((with_reducible apply rd_intro); (focus (intro K hK; (conv => whnf); exact ⟨Nat.le_trans (show (bw byt).size ≤ 1000000 from hbl) (by decide), .inl hK⟩)); (conv => whnf)))
                exact out_some hp2 (nwP0 rfl) (.refl _) rfl
          · rename_i s1 s2
            exact out_none (hp2.trans (by rw [none_of s2]; cases numsW (ws.take 2) <;> rfl))
          · rename_i s1
            exact out_none (hp2.trans (by rw [none_of s1]))
        · rename_i hn
          have hp2 := hp.trans (p_npb _ ws)
          rw [if_neg (show ¬ ws.length = 3 by omega)] at hp2
          exact out_none hp2
      · replace hfw : [99, 97, 108, 109] = w := hfw
        have hp := parse_at (f := (11, [99, 97, 108, 109], [107])) (by decide) (s := s) (ws := ws) (by rw [hw, ← hfw])
        have c1 := cmpF (w := w) (l := [116, 105, 99, 107]) (by rw [← hfw]; decide)
        have c2 := cmpF (w := w) (l := [115, 116, 97, 114, 116]) (by rw [← hfw]; decide)
        have c3 := cmpT (w := w) (l := [99, 97, 108, 109]) hfw.symm
        have c4 := cmpF (w := w) (l := [100, 101, 108, 105, 118, 101, 114]) (by rw [← hfw]; decide)
        have c5 := cmpF (w := w) (l := [100, 111, 117, 98, 108, 101]) (by rw [← hfw]; decide)
        have c6 := cmpF (w := w) (l := [100, 114, 111, 112]) (by rw [← hfw]; decide)
        have c7 := cmpF (w := w) (l := [99, 114, 97, 115, 104]) (by rw [← hfw]; decide)
        have c8 := cmpF (w := w) (l := [97, 114, 109]) (by rw [← hfw]; decide)
        have c9 := cmpF (w := w) (l := [116, 120]) (by rw [← hfw]; decide)
        have c10 := cmpF (w := w) (l := [114, 97, 119]) (by rw [← hfw]; decide)
        repeat' (first | (first | (with_reducible refine mt_f c1 ?_) | (with_reducible refine mt_t c1 ?_) | (with_reducible refine mt_f c2 ?_) | (with_reducible refine mt_t c2 ?_) | (with_reducible refine mt_f c3 ?_) | (with_reducible refine mt_t c3 ?_) | (with_reducible refine mt_f c4 ?_) | (with_reducible refine mt_t c4 ?_) | (with_reducible refine mt_f c5 ?_) | (with_reducible refine mt_t c5 ?_) | (with_reducible refine mt_f c6 ?_) | (with_reducible refine mt_t c6 ?_) | (with_reducible refine mt_f c7 ?_) | (with_reducible refine mt_t c7 ?_) | (with_reducible refine mt_f c8 ?_) | (with_reducible refine mt_t c8 ?_) | (with_reducible refine mt_f c9 ?_) | (with_reducible refine mt_t c9 ?_) | (with_reducible refine mt_f c10 ?_) | (with_reducible refine mt_t c10 ?_)); (conv => whnf) | (refine And.intro (Int.le_refl 0) (Exists.intro [.str (bw w)] (And.intro rfl ?_)); (conv => whnf)) | (first | ((with_reducible first | apply rd_intro | apply gd_and); (focus ((conv => whnf) <;> first | rfl | (intro K hK; (conv => whnf); first | exact hK | exact z_wrap (by omega) hK))); conv => whnf) | ((with_reducible apply z_wrap); (focus omega); conv => whnf) | ((with_reducible first | apply mt_dec | apply mt_eq | apply mt_ne | apply mt_not | apply mt_any) <;> (intro _; conv => whnf))))
        · rename_i hn hsome
          cases hN : numsW ws with
          | none => rw [hN] at hsome; cases hsome
          | some ns =>
            have hnsl := nums_len hN
            have hnl := nums_length ns
            have hp2 := hp.trans (p_k _ ws)
            rw [if_pos (show ws.length = 1 by omega), hN] at hp2
            conv => whnf
            (refine And.intro (by omega) (Exists.intro _ (And.intro (nums_getD (by omega)) ?_)); (conv => whnf))
            refine rdw ?_; repeat' ((with_reducible apply tw) <;> intro _)
            exact out_some hp2 (nwP0 rfl) (nwB0 rfl) rfl
        · rename_i hn hnone
          have hp2 := hp.trans (p_k _ ws)
          rw [none_of hnone] at hp2
          exact out_none (hp2.trans (by split <;> rfl))
        · rename_i hn
          have hp2 := hp.trans (p_k _ ws)
          rw [if_neg (show ¬ (ws.length = 1) by omega)] at hp2
          exact out_none hp2
def obsB (b : W) (cap : Nat) : AB := .obs (bytesObj 5 (bw b) cap) (bw b).size cap
theorem act_npbO (f : Int × W) (r : Rd) (hr : r.fit) (Q : AV → List AB → Prop) (hQ : ∀ cap, (bw (actF [110, 112, 98] f.1 r).1.bytes).size ≤ cap → cap ≤ maxLen → Q (.agg (actC (actF [110, 112, 98] f.1 r).1 (.d .nils) (.arr 1))) ((actF [110, 112, 98] f.1 r).2.L ++ [obsB (actF [110, 112, 98] f.1 r).1.bytes cap])) : ACalls Tryd.prog 24 [.ptr 0 0, formA (f.1, f.2, [110, 112, 98])] r.L Q := by
  have h1 := number_rok r hr
  have h2 := number_rok _ (rnum_fit hr)
  have h3 := bytes_rok _ (rnum_fit (rnum_fit hr))
  (refine acalls_go ttOk zOk foOk Tryd.func24 rfl Tryd.ntmps24 rfl true rfl ?_); (conv => whnf)
  refine rdz ?_; repeat' ((with_reducible apply tw) <;> intro _)
  refine loop_some ttOk zOk foOk 4 ?_
  conv => whnf
  refine rdz ?_; repeat' ((with_reducible apply tw) <;> intro _)
  (refine (h1).mono ?_; rintro _ _ ⟨rfl, rfl⟩; (conv => whnf))
  refine rdz ?_; repeat' ((with_reducible apply tw) <;> intro _)
  (refine (h2).mono ?_; rintro _ _ ⟨rfl, rfl⟩; (conv => whnf))
  refine rdz ?_; repeat' ((with_reducible apply tw) <;> intro _)
  (refine (h3).mono ?_; rintro _ _ ⟨rfl, rfl⟩; (conv => whnf))
  refine rdz ?_; repeat' ((with_reducible apply tw) <;> intro _)
  refine ⟨?_, ?_⟩
  · have := unhexF_len (rword (rnum (rnum r).2).2).1
    have h4 := (rword_fit (rnum_fit (rnum_fit hr))).2
    have e : (140737488355328 : Nat) ≤ maxLen := by decide
    show (unhexF (rword (rnum (rnum r).2).2).1).1.length ≤ maxLen
    omega
  refine Or.inr fun cap hc1 hc2 => ?_
  conv => whnf
  refine rdz ?_; repeat' ((with_reducible apply tw) <;> intro _)
  trace_state
  exact hQ cap hc1 hc2
end Go.Proofs.YtkaepgfmpljlmaaDoor
