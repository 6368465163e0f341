/- ImageGoes: contracts. -/
import Derived.Test.YtmmngmnmghpfaaaGreatImageGoesCodF
import Derived.Lib.Bytealg
import Derived.Shelf.Spec.SlicesInsertGrow
set_option linter.unusedVariables false
set_option linter.unusedSimpArgs false
namespace Go.Proofs.YtmmngmnmghpfaaaGreat
open Go.Ab Go.RowKit Go.MapKept
attribute [local irreducible] ACalls AW ADraw Into fltB fnear
set_option maxRecDepth 100000
theorem gnF_num : ∀ (f n i acc : Nat) (r : List UInt8), n < 128 ^ (f + 1) → n < 128 ^ (9 - i) → i ≤ 9 → (i = 0 ∨ 0 < n) → gnF i acc (numF f n ++ r) = some (acc + n * 2 ^ (7 * i), i + (numF f n).length)
  | 0, n, i, acc, r, h1, h2, hi, h3 => by
    have hn : n < 128 := by simpa using h1
    have hi9 : ¬ i = 9 := by
      rintro rfl
      simp at h2
      omega
    have ht : (UInt8.ofNat n).toNat = n := by rw [UInt8.toNat_ofNat', Nat.mod_eq_of_lt (by omega)]
    show gnF i acc (UInt8.ofNat n :: r) = _
    rw [gnF, if_neg hi9, ht, if_neg (by omega), if_neg (by omega), Nat.mod_eq_of_lt hn]
    rfl
  | f + 1, n, i, acc, r, h1, h2, hi, h3 => by
    have hi9 : ¬ i = 9 := by
      rintro rfl
      simp at h2
      omega
    unfold numF
    by_cases h : 128 ≤ n
    · rw [if_pos h]
      have ht : (UInt8.ofNat (n % 128 + 128)).toNat = n % 128 + 128 := by rw [UInt8.toNat_ofNat', Nat.mod_eq_of_lt (by omega)]
      rw [List.cons_append, gnF, if_neg hi9, ht, if_pos (by omega)]
      have e1 : 128 ^ (9 - i) = 128 * 128 ^ (9 - (i + 1)) := by rw [show 9 - i = (9 - (i + 1)) + 1 by omega, Nat.pow_succ, Nat.mul_comm]
      have e2 : 128 ^ (f + 1 + 1) = 128 * 128 ^ (f + 1) := by rw [Nat.pow_succ, Nat.mul_comm]
      have ih := gnF_num f (n / 128) (i + 1) (acc + (n % 128 + 128) % 128 * 2 ^ (7 * i)) r (by rw [e2] at h1; omega) (by rw [e1] at h2; omega) (by omega) (.inr (by omega))
      rw [ih]
      have e3 : 2 ^ (7 * (i + 1)) = 128 * 2 ^ (7 * i) := by rw [show 7 * (i + 1) = 7 + 7 * i by omega, Nat.pow_add]
      rw [e3, show (n % 128 + 128) % 128 = n % 128 by omega]
      refine congrArg some (Prod.ext ?_ ?_)
      · show acc + n % 128 * 2 ^ (7 * i) + n / 128 * (128 * 2 ^ (7 * i)) = acc + n * 2 ^ (7 * i)
        have : n = n % 128 + n / 128 * 128 := by omega
        conv => rhs; rw [this, Nat.add_mul]
        rw [Nat.mul_assoc, Nat.add_assoc]
      · show i + 1 + _ = i + (_ :: _ : List UInt8).length
        rw [List.length_cons]; omega
    · rw [if_neg h]
      have ht : (UInt8.ofNat n).toNat = n := by rw [UInt8.toNat_ofNat', Nat.mod_eq_of_lt (by omega)]
      show gnF i acc (UInt8.ofNat n :: r) = _
      rw [gnF, if_neg hi9, ht, if_neg (by omega), if_neg (by omega), Nat.mod_eq_of_lt (by omega)]
      rfl
theorem gnum_num (n : Nat) (r : List UInt8) (h : n < 9223372036854775808) : gnum (numF 9 n ++ r) = some (n, (numF 9 n).length) := by
  have := gnF_num 9 n 0 0 r (Nat.lt_of_lt_of_le h (by decide)) (Nat.lt_of_lt_of_le h (by decide)) (by decide) (.inl rfl)
  unfold gnum
  rw [this]
  simp
theorem rnum_num (n : Nat) (r : List UInt8) (h : n < 9223372036854775808) : rnum ⟨numF 9 n ++ r, false⟩ = (n, ⟨r, false⟩) := by
  unfold rnum
  rw [gnum_num n r h]
  show (n, Rd.mk ((numF 9 n ++ r).drop _) false) = _
  rw [List.drop_left]
theorem rcount_num (n : Nat) (r : List UInt8) (h : n < 9223372036854775808) (hn : n ≤ r.length) : rcount ⟨numF 9 n ++ r, false⟩ = (n, ⟨r, false⟩) := by
  unfold rcount
  rw [rnum_num n r h, if_neg (by simp; omega)]
def Undoes {α : Type} (f : Rd → α × Rd) (g : α → List UInt8) (ok : α → Prop) : Prop := ∀ x r, ok x → f ⟨g x ++ r, false⟩ = (x, ⟨r, false⟩) ∧ 1 ≤ (g x).length
theorem rlist_undo {α : Type} {f : Rd → α × Rd} {g : α → List UInt8} {ok : α → Prop} (h : Undoes f g ok) : ∀ (l : List α) (r : List UInt8), (∀ x ∈ l, ok x) → rlist f l.length ⟨l.flatMap g ++ r, false⟩ = some (l, ⟨r, false⟩)
  | [], r, _ => rfl
  | x :: l, r, hl => by
    obtain ⟨h1, _⟩ := h x (l.flatMap g ++ r) (hl x (by simp))
    rw [List.length_cons, rlist_succ, List.flatMap_cons, List.append_assoc, h1, if_neg (by simp), rlist_undo h l r fun y hy => hl y (by simp [hy])]
    rfl
theorem flat_ge {α : Type} {f : Rd → α × Rd} {g : α → List UInt8} {ok : α → Prop} (h : Undoes f g ok) : ∀ (l : List α), (∀ x ∈ l, ok x) → l.length ≤ (l.flatMap g).length
  | [], _ => Nat.le_refl _
  | x :: l, hl => by
    have h1 := (h x [] (hl x (by simp))).2
    have h2 := flat_ge h l fun y hy => hl y (by simp [hy])
    rw [List.flatMap_cons, List.length_append, List.length_cons]; omega
theorem listF_undo {α : Type} {f : Rd → α × Rd} {g : α → List UInt8} {ok : α → Prop} (h : Undoes f g ok) (l : List α) (hl : ∀ x ∈ l, ok x) (hb : (numF 9 l.length ++ l.flatMap g).length ≤ 1048576) : listF f (numF 9 l.length ++ l.flatMap g) = some l := by
  have h1 := flat_ge h l hl
  have hlen : l.length < 9223372036854775808 := by rw [List.length_append] at hb; omega
  unfold listF
  rw [decide_eq_false (show ¬ (numF 9 l.length ++ l.flatMap g).length > 1048576 by omega), rcount_num l.length (l.flatMap g) hlen h1]
  have h2 := rlist_undo h l [] hl
  rw [List.append_nil] at h2
  rw [h2]
  rfl
theorem und_int : Undoes rint (fun n : Int => numF 9 n.toNat) (fun n => 0 ≤ n ∧ n < 9223372036854775808) := by
  rintro n r ⟨h0, h1⟩
  refine ⟨?_, (numF_len 9 _).1⟩
  unfold rint
  rw [rnum_num n.toNat r (by omega)]
  refine Prod.ext ?_ rfl
  show ((n.toNat : Nat) : Int) = n
  omega
theorem und_text : Undoes rtext (fun s : ByteArray => numF 9 s.size ++ s.data.toList) (fun s => s.size < 9223372036854775808) := by
  intro s r h
  refine ⟨?_, by have := (numF_len 9 s.size).1; rw [List.length_append]; omega⟩
  have hl : s.data.toList.length = s.size := by rw [Array.length_toList]; rfl
  unfold rtext
  rw [List.append_assoc, rcount_num s.size (s.data.toList ++ r) h (by rw [List.length_append]; omega)]
  refine Prod.ext ?_ ?_
  · show ByteArray.mk ((s.data.toList ++ r).take s.size).toArray = s
    rw [← hl, List.take_left]
  · show Rd.mk ((s.data.toList ++ r).drop s.size) false = _
    rw [← hl, List.drop_left]
theorem numsF_flat : ∀ (l : List Int) (b : List UInt8), (b ++ l.flatMap fun n : Int => numF 9 n.toNat).length ≤ 1048576 → numsF b l = b ++ l.flatMap fun n : Int => numF 9 n.toNat
  | [], b, _ => by simp [numsF]
  | n :: r, b, h => by
    rw [List.flatMap_cons, ← List.append_assoc] at h
    have hb : b.length ≤ 1048576 := by rw [List.length_append, List.length_append] at h; omega
    unfold numsF
    rw [if_pos hb, numsF_flat r _ h, List.flatMap_cons, List.append_assoc]
theorem ltext_flat {l : List Int} (h : (numF 9 l.length ++ l.flatMap fun n : Int => numF 9 n.toNat).length ≤ 1048576) : (ltext l).data.toList = numF 9 l.length ++ l.flatMap fun n : Int => numF 9 n.toNat := by
  unfold ltext numsO
  rw [numsF_flat l _ h, if_neg (by omega)]
  rfl
theorem rdl_ltext {l : List Int} (hp : pos64 l) (h : (numF 9 l.length ++ l.flatMap fun n : Int => numF 9 n.toNat).length ≤ 1048576) : rdl (ltext l) = some l := by
  unfold rdl
  rw [ltext_flat h]
  exact listF_undo und_int l hp h
theorem rd1_ntext {n : Int} (h : 0 ≤ n ∧ n < 9223372036854775808) : rd1 (ntext n) = some n := by
  have h1 : (ntext n).data.toList = numF 9 n.toNat := rfl
  have h2 := gnum_num n.toNat [] (by omega)
  rw [List.append_nil] at h2
  rw [rd1_some (n := n.toNat) (k := (numF 9 n.toNat).length) (by rw [h1]; exact h2), if_pos (by show (numF 9 n.toNat).length = (ntext n).data.size; rw [← Array.length_toList, h1])]
  refine congrArg some ?_
  omega
theorem putF_flat : ∀ (l : List ByteArray) (b : List UInt8), (b ++ l.flatMap fun s : ByteArray => numF 9 s.size ++ s.data.toList).length ≤ 1048576 → putF b l = some (b ++ l.flatMap fun s : ByteArray => numF 9 s.size ++ s.data.toList)
  | [], b, h => by
    simp at h
    simp [putF, h]
  | s :: r, b, h => by
    have hl : s.data.toList.length = s.size := by rw [Array.length_toList]; rfl
    rw [List.flatMap_cons, ← List.append_assoc, ← List.append_assoc] at h
    have hb : (b ++ numF 9 s.size).length + s.size ≤ 1048576 := by
      rw [List.length_append, List.length_append, hl] at h; omega
    rw [putF_cons, if_neg (by omega), putF_flat r _ h, List.flatMap_cons, List.append_assoc (b ++ numF 9 s.size), List.append_assoc b]
    simp only [List.append_assoc]
theorem accs_back : ∀ l : List AccS, accsOf (accN l) = l
  | [] => rfl
  | a :: r => by
    show AccS.mk a.sender a.seq :: accsOf (accN r) = _
    rw [accs_back r]
theorem prs_back : ∀ l : List PairS, prsOf (prT l) = l
  | [] => rfl
  | a :: r => by
    show PairS.mk a.key a.val :: prsOf (prT r) = _
    rw [prs_back r]
structure Pt.small (p : Pt) : Prop where
  done : p.cur.done.length ≤ 100
  seen : p.seen.length ≤ 1000
theorem flat_le {α β : Type} (g : α → List β) (m : Nat) : ∀ (l : List α), (∀ x ∈ l, (g x).length ≤ m) → (l.flatMap g).length ≤ l.length * m
  | [], _ => by simp
  | x :: l, h => by
    have h1 := h x (by simp)
    have h2 := flat_le g m l fun y hy => h y (by simp [hy])
    rw [List.flatMap_cons, List.length_append, List.length_cons, Nat.add_mul]; omega
theorem num_le (n : Int) : (numF 9 n.toNat).length ≤ 10 := (numF_len 9 _).2
theorem text_le (l : List Int) (m : Nat) (h : l.length ≤ m) : (numF 9 l.length ++ l.flatMap fun n : Int => numF 9 n.toNat).length ≤ 10 + m * 10 := by
  have h1 := flat_le (fun n : Int => numF 9 n.toNat) 10 l fun x _ => num_le x
  have h2 := (numF_len 9 l.length).2
  have h3 := Nat.mul_le_mul_right 10 h
  rw [List.length_append]; omega
theorem point_back (p : Pt) (hm : ptMay p) (hs : p.small) : ∃ b, putO p.texts = some b ∧ b.length ≤ 400000 ∧ Dec b p := by
  have hc := hm.1
  have he := hm.2
  have hcnt := he.cnt
  have hsl := hs.seen
  have hp3 : ∀ n ∈ [p.cur.round, p.cur.count, p.count], 0 ≤ n ∧ n < 9223372036854775808 := by
    have h1 := hc.round
    have h2 := hc.count
    intro n hn
    simp only [List.mem_cons, List.not_mem_nil, or_false] at hn
    rcases hn with rfl | rfl | rfl <;> omega
  have hpd : pos64 p.cur.done := fun n hn => by have := hc.done.2 n hn; omega
  have hps : pos64 p.seen := fun n hn => by have := he.dig n hn; omega
  have hal := he.tab.2.1
  have hpl := he.tab.1.1
  have hpa : pos64 (accN p.accs) := fun n hn => by
    obtain ⟨a, ha, hn⟩ := List.mem_flatMap.1 hn
    obtain ⟨i, hi⟩ := List.getElem?_of_mem ha
    have h1 := he.tab.2.2 i a hi
    have h2 := h1.s
    have h3 := h1.q
    simp only [List.mem_cons, List.not_mem_nil, or_false] at hn
    rcases hn with rfl | rfl <;> omega
  have hacl : (accN p.accs).length ≤ 8192 := by rw [accN_len]; omega
  have t1 := text_le p.cur.done 100 hs.done
  have t2 := text_le p.seen 1000 hs.seen
  have t3 := text_le (accN p.accs) 8192 hacl
  have hls : ∀ l : List Int, (numF 9 l.length ++ l.flatMap fun n : Int => numF 9 n.toNat).length ≤ 1048576 → (ltext l).size = (numF 9 l.length ++ l.flatMap fun n : Int => numF 9 n.toNat).length := fun l h => by
    show (ltext l).data.size = _
    rw [← Array.length_toList, ltext_flat h]
  have s1 := hls p.cur.done (by omega)
  have s2 := hls p.seen (by omega)
  have s3 := hls (accN p.accs) (by omega)
  have hns : ∀ n : Int, (ntext n).size ≤ 10 := fun n => by
    show (numF 9 n.toNat).toArray.size ≤ 10
    simpa using num_le n
  have hn1 : ∀ n : Nat, n < 128 → (numF 9 n).length = 1 := fun n h => by
    unfold numF
    rw [if_neg (by omega)]
    rfl
  have hprs : ((prT p.prs).flatMap fun s : ByteArray => numF 9 s.size ++ s.data.toList).length ≤ (prT p.prs).length * 33 := flat_le _ 33 _ fun s hs => by
    obtain ⟨a, ha, hn⟩ := List.mem_flatMap.1 hs
    obtain ⟨i, hi⟩ := List.getElem?_of_mem ha
    have h1 := he.tab.1.2 i a hi
    have h2 := h1.k16
    have h3 := h1.v32
    have : s.size ≤ 32 := by
      simp only [List.mem_cons, List.not_mem_nil, or_false] at hn
      rcases hn with rfl | rfl <;> omega
    have h4 := hn1 s.size (by omega)
    have hl : s.data.toList.length = s.size := by rw [Array.length_toList]; rfl
    rw [List.length_append, hl]
    omega
  have hprl : (prT p.prs).length ≤ 8192 := by rw [prT_len]; omega
  have hpm := Nat.mul_le_mul_right 33 hprl
  have htl : ∀ s : ByteArray, (numF 9 s.size ++ s.data.toList).length ≤ 10 + s.size := fun s => by
    have := (numF_len 9 s.size).2
    have hl : s.data.toList.length = s.size := by rw [Array.length_toList]; rfl
    rw [List.length_append, hl]
    omega
  have hlen : (p.texts).length = 6 + (prT p.prs).length := by simp [Pt.texts]; omega
  have hpl2 := prT_len p.prs
  have hal2 := accN_len p.accs
  obtain ⟨b, hb⟩ : ∃ b, numF 9 p.texts.length ++ p.texts.flatMap (fun s : ByteArray => numF 9 s.size ++ s.data.toList) = b := ⟨_, rfl⟩
  have hbl : b.length ≤ 400000 := by
    rw [← hb, List.length_append]
    have h0 := (numF_len 9 p.texts.length).2
    have e : p.texts.flatMap (fun s : ByteArray => numF 9 s.size ++ s.data.toList) = (numF 9 (ntext p.cur.round).size ++ (ntext p.cur.round).data.toList) ++ ((numF 9 (ntext p.cur.count).size ++ (ntext p.cur.count).data.toList) ++ ((numF 9 (ntext p.count).size ++ (ntext p.count).data.toList) ++ ((numF 9 (ltext p.cur.done).size ++ (ltext p.cur.done).data.toList) ++ ((numF 9 (ltext p.seen).size ++ (ltext p.seen).data.toList) ++ ((numF 9 (ltext (accN p.accs)).size ++ (ltext (accN p.accs)).data.toList) ++ (prT p.prs).flatMap (fun s : ByteArray => numF 9 s.size ++ s.data.toList)))))) := rfl
    rw [e]
    simp only [List.length_append] at htl t1 t2 t3 s1 s2 s3 ⊢
    have a1 := htl (ntext p.cur.round)
    have a2 := htl (ntext p.cur.count)
    have a3 := htl (ntext p.count)
    have a4 := htl (ltext p.cur.done)
    have a5 := htl (ltext p.seen)
    have a6 := htl (ltext (accN p.accs))
    have b1 := hns p.cur.round
    have b2 := hns p.cur.count
    have b3 := hns p.count
    omega
  have hput : putO p.texts = some b := by
    rw [← hb]
    exact putF_flat p.texts (numF 9 p.texts.length) (by rw [hb]; omega)
  refine ⟨b, hput, hbl, ?_⟩
  have hback : listF rtext b = some p.texts := by
    rw [← hb]
    refine listF_undo und_text p.texts (fun s hs => ?_) (by rw [hb]; omega)
    have : s.size ≤ b.length := by
      rw [← hb, List.length_append]
      obtain ⟨l1, l2, e⟩ := List.append_of_mem hs
      have hl : s.data.toList.length = s.size := by rw [Array.length_toList]; rfl
      rw [e, List.flatMap_append, List.flatMap_cons]
      simp only [List.length_append, hl]
      omega
    omega
  refine ⟨ntext p.cur.round, ntext p.cur.count, ntext p.count, ltext p.cur.done, ltext p.seen, ltext (accN p.accs), prT p.prs, p.cur.round, p.cur.count, p.count, p.cur.done, p.seen, accN p.accs, hback, by omega, ⟨rd1_ntext (hp3 _ (by simp)), rd1_ntext (hp3 _ (by simp)), rd1_ntext (hp3 _ (by simp))⟩, ⟨rdl_ltext hpd (by omega), rdl_ltext hps (by omega), rdl_ltext hpa (by omega)⟩, by omega, ?_⟩
  rw [prs_back, accs_back]
structure Tx where
  sender : Int
  seq : Int
  key : ByteArray
  val : ByteArray
def Tx.cs (t : Tx) : List DV := [.int .i64 t.sender, .int .i64 t.seq, .str t.key, .str t.val]
def txsD (l : List Tx) : List (List DV) := l.map Tx.cs
def Tx.av (t : Tx) : AV := .agg (t.cs.map AV.d)
theorem txsD_len (l : List Tx) : (txsD l).length = l.length := List.length_map ..
theorem txsD_at {l : List Tx} {k : Nat} {c : Tx} (h : l[k]? = some c) : (txsD l)[k]? = some c.cs := by simp [txsD, h]
structure Bat where
  author : Int
  n : Int
  txs : List Tx
def Bat.bav (m : Bat) : AV := .agg [.d (.int .i64 m.author), .d (.int .i64 m.n), .d (.sl 4 (txsD m.txs))]
structure HeldS where
  dig : Int
  bat : Bat
def HeldS.cs (h : HeldS) : List DV := [.int .i64 h.dig, .int .i64 h.bat.author, .int .i64 h.bat.n, .sl 4 (txsD h.bat.txs)]
def heldD (l : List HeldS) : List (List DV) := l.map HeldS.cs
theorem heldD_len (l : List HeldS) : (heldD l).length = l.length := List.length_map ..
theorem heldD_at {l : List HeldS} {k : Nat} {c : HeldS} (h : l[k]? = some c) : (heldD l)[k]? = some c.cs := by simp [heldD, h]
structure okTx (t : Tx) : Prop where
  sender : 1 ≤ t.sender ∧ t.sender ≤ 1099511627776
  seq : 1 ≤ t.seq ∧ t.seq ≤ 1099511627776
  key : 1 ≤ t.key.size ∧ t.key.size ≤ 16
  val : t.val.size ≤ 32
theorem noKey (k : ByteArray) : (k.toList == (⟨#[]⟩ : ByteArray).toList) = false ↔ 1 ≤ k.size := by
  rw [ByteArray.toList_eq, ByteArray.toList_eq]
  constructor
  · intro h
    rcases Nat.eq_zero_or_pos k.size with h0 | h0
    · have : k.data.toList = [] := List.eq_nil_of_length_eq_zero (by simpa using h0)
      rw [this] at h
      simp at h
    · exact h0
  · intro h
    have : k.data.toList ≠ [] := fun e => by
      have := congrArg List.length e
      simp at this
      simp [this] at h
    cases hk : k.data.toList with
    | nil => exact absurd hk this
    | cons a t => rfl
open Classical in
theorem mayTx_ok (t : Tx) : ACalls Tryz.prog 112 [t.av] [] (fun av L => av = .d (.bool (decide (okTx t))) ∧ L = []) := by
  (refine acalls_go ttOk zOk foOk Tryz.func112 rfl Tryz.ntmps112 rfl false rfl ?_); (conv => whnf)
  refine rdw ?_; repeat' ((with_reducible apply tw) <;> intro _)
  · rename_i h1 h2 h3 h4 h5 h6
    rw [noKey] at h5
    exact ⟨boolEq (by simp only [decide_eq_true_iff]; exact ⟨fun h => ⟨by omega, by omega, by omega, by omega⟩, fun h => by have := h.val; omega⟩), rfl⟩
  · rename_i h1 h2 h3 h4 h5 h6
    exact ⟨by rw [decide_eq_false (fun h : okTx t => by have := h.key; omega)]; rfl, rfl⟩
  · rename_i h1 h2 h3 h4 h5
    exact ⟨by rw [decide_eq_false (fun h : okTx t => by rw [(noKey t.key).2 h.key.1] at h5; cases h5)]; rfl, rfl⟩
  all_goals exact ⟨by rw [decide_eq_false (fun h : okTx t => by have := h.sender; have := h.seq; omega)]; rfl, rfl⟩
open Classical in
theorem batMay1_ok (t : Tx) : ACalls Tryz.prog 111 [t.av] [] (fun av L => av = .d (.bool (decide (¬ okTx t))) ∧ L = []) := by
  (refine acalls_go ttOk zOk foOk Tryz.func111 rfl Tryz.ntmps111 rfl false rfl ?_); (conv => whnf)
  refine rdw ?_; repeat' ((with_reducible apply tw) <;> intro _)
  refine (mayTx_ok t).mono ?_
  rintro _ _ ⟨rfl, rfl⟩
  conv => whnf
  exact ⟨boolEq (by simp), rfl⟩
open Classical in
theorem indexTx_ok (l : List Tx) (hl : few l) : ACalls Tryz.prog 130 [.d (.sl 4 (txsD l)), .fn 111 []] [] (fun av L => (∃ z : Int, av = .d (.int .i64 z) ∧ (0 ≤ z ↔ ¬ ∀ t ∈ l, okTx t)) ∧ L = []) := by
  have hcl := txsD_len l
  unfold few at hl
  (refine acalls_go ttOk zOk foOk Tryz.func130 rfl Tryz.ntmps130 rfl false rfl ?_); (conv => whnf)
  refine loop_go ttOk zOk foOk (σ := Nat) (fun j => ([(0, .d (.sl 4 (txsD l))), (1, .fn 111 []), (7, .d (.int .i64 l.length)), (8, .d (.int .i64 j))], [])) (fun j => j ≤ l.length ∧ ∀ t ∈ l.take j, okTx t) (fun j => l.length - j) [0, 1, 7, 8] ?_ ?_
  · conv => whnf
    exact ⟨0, by rw [hcl]; rfl, rfl, Nat.zero_le _, by simp⟩
  · rintro j ⟨hj, ho⟩
    conv => whnf
    refine rdw ?_; repeat' ((with_reducible apply tw) <;> intro _)
    · rename_i hjl
      refine Exists.elim (⟨_, List.getElem?_eq_getElem (by omega)⟩ : ∃ c, l[j]? = some c) fun t ht => ?_
      refine ⟨by omega, t.cs, txsD_at ht, ?_⟩
      conv => whnf
      refine (batMay1_ok t).mono ?_
      rintro _ _ ⟨rfl, rfl⟩
      by_cases h : okTx t
      · rw [decide_eq_false (fun hh => hh h)]
        conv => whnf
        refine rdw ?_; repeat' ((with_reducible apply tw) <;> intro _)
        refine ⟨j + 1, rfl, rfl, ⟨by omega, fun x hx => ?_⟩, by omega⟩
        rw [List.take_add_one, ht] at hx
        rcases List.mem_append.1 hx with hx | hx
        · exact ho x hx
        · simp at hx; subst hx; exact h
      · rw [decide_eq_true h]
        conv => whnf
        refine rdw ?_; repeat' ((with_reducible apply tw) <;> intro _)
        exact ⟨⟨j, rfl, by constructor; (intro _ hh; exact h (hh t (List.mem_of_getElem? ht))); (intro _; omega)⟩, rfl⟩
    · rename_i hjl
      rw [List.take_of_length_le (by omega)] at ho
      exact ⟨⟨-1, rfl, by constructor; (intro h; omega); (intro h; exact absurd ho h)⟩, rfl⟩
open Classical in
theorem containsTx_ok (l : List Tx) (hl : few l) : ACalls Tryz.prog 110 [.d (.sl 4 (txsD l)), .fn 111 []] [] (fun av L => av = .d (.bool (decide (¬ ∀ t ∈ l, okTx t))) ∧ L = []) := by
  (refine acalls_go ttOk zOk foOk Tryz.func110 rfl Tryz.ntmps110 rfl false rfl ?_); (conv => whnf)
  refine rdw ?_; repeat' ((with_reducible apply tw) <;> intro _)
  refine (indexTx_ok l hl).mono ?_
  rintro _ _ ⟨⟨z, rfl, hz⟩, rfl⟩
  conv => whnf
  exact ⟨boolEq (by simp only [decide_eq_true_iff]; exact hz), rfl⟩
structure okBatch (m : Bat) : Prop where
  author : 1 ≤ m.author ∧ m.author ≤ 16
  n : 1 ≤ m.n ∧ m.n ≤ 1099511627776
  len : 1 ≤ m.txs.length ∧ m.txs.length ≤ 8
  txs : ∀ t ∈ m.txs, okTx t
open Classical in
theorem batchMay_ok (m : Bat) (hl : few m.txs) : ACalls Tryz.prog 85 [m.bav] [] (fun av L => av = .d (.bool (decide (okBatch m))) ∧ L = []) := by
  have hcl := txsD_len m.txs
  (refine acalls_go ttOk zOk foOk Tryz.func85 rfl Tryz.ntmps85 rfl false rfl ?_); (conv => whnf)
  refine rdw ?_; repeat' ((with_reducible apply tw) <;> intro _)
  all_goals first
    | exact ⟨by rw [decide_eq_false (fun h : okBatch m => by have := h.author; have := h.n; have := h.len; omega)]; rfl, rfl⟩
    | skip
  (refine (containsTx_ok m.txs hl).mono ?_; rintro _ _ ⟨rfl, rfl⟩; (conv => whnf))
  exact ⟨boolEq (by simp only [Bool.not_eq_true', decide_eq_false_iff_not, decide_eq_true_iff, Classical.not_not]; exact ⟨fun h => ⟨by omega, by omega, by omega, h⟩, fun h => h.txs⟩), rfl⟩
theorem rId_ok (n : Int) : ACalls Tryz.prog 71 [.d (.int .i64 n)] [] (fun av L => av = .d (.bool (decide (1 ≤ n ∧ n ≤ 1099511627776))) ∧ L = []) := by
  (refine acalls_go ttOk zOk foOk Tryz.func71 rfl Tryz.ntmps71 rfl false rfl ?_); (conv => whnf)
  refine rdw ?_; repeat' ((with_reducible apply tw) <;> intro _)
  all_goals first
    | exact ⟨by rw [decide_eq_false (p := 1 ≤ n ∧ n ≤ 1099511627776) (fun h => by omega)]; rfl, rfl⟩
    | exact ⟨boolEq (by simp only [decide_eq_true_iff]; omega), rfl⟩
open Classical in
theorem rTx_ok (t : Tx) : ACalls Tryz.prog 92 [t.av] [] (fun av L => av = .d (.bool (decide (okTx t))) ∧ L = []) := by
  have h1 := rId_ok t.sender
  have h2 := rId_ok t.seq
  (refine acalls_go ttOk zOk foOk Tryz.func92 rfl Tryz.ntmps92 rfl false rfl ?_); (conv => whnf)
  refine rdw ?_; repeat' ((with_reducible apply tw) <;> intro _)
  refine h1.mono ?_
  rintro _ _ ⟨rfl, rfl⟩
  by_cases k1 : 1 ≤ t.sender ∧ t.sender ≤ 1099511627776
  rotate_left
  · rw [decide_eq_false k1]
    conv => whnf
    refine rdw ?_; repeat' ((with_reducible apply tw) <;> intro _)
    exact ⟨by rw [decide_eq_false (fun h : okTx t => k1 h.sender)]; rfl, rfl⟩
  rw [decide_eq_true k1]
  conv => whnf
  refine rdw ?_; repeat' ((with_reducible apply tw) <;> intro _)
  refine h2.mono ?_
  rintro _ _ ⟨rfl, rfl⟩
  by_cases k2 : 1 ≤ t.seq ∧ t.seq ≤ 1099511627776
  rotate_left
  · rw [decide_eq_false k2]
    conv => whnf
    refine rdw ?_; repeat' ((with_reducible apply tw) <;> intro _)
    exact ⟨by rw [decide_eq_false (fun h : okTx t => k2 h.seq)]; rfl, rfl⟩
  rw [decide_eq_true k2]
  conv => whnf
  refine rdw ?_; repeat' ((with_reducible apply tw) <;> intro _)
  all_goals first
    | exact ⟨boolEq (by simp only [decide_eq_true_iff]; exact ⟨fun h => ⟨k1, k2, by omega, by omega⟩, fun h => by have := h.val; omega⟩), rfl⟩
    | exact ⟨by rw [decide_eq_false (fun h : okTx t => by have := h.key; have := h.val; omega)]; rfl, rfl⟩
open Classical in
theorem rTxs_ok (l : List Tx) (hl : few l) : ACalls Tryz.prog 72 [.d (.sl 4 (txsD l))] [] (fun av L => av = .d (.bool (decide (∀ t ∈ l, okTx t))) ∧ L = []) := by
  have hcl := txsD_len l
  unfold few at hl
  (refine acalls_go ttOk zOk foOk Tryz.func72 rfl Tryz.ntmps72 rfl false rfl ?_); (conv => whnf)
  refine rdw ?_; repeat' ((with_reducible apply tw) <;> intro _)
  refine loop_go ttOk zOk foOk (σ := Nat) (fun j => ([(0, .d (.sl 4 (txsD l))), (3, .d (.int .i64 j))], [])) (fun j => j ≤ l.length ∧ ∀ t ∈ l.take j, okTx t) (fun j => l.length - j) [0, 3] ?_ ?_
  · conv => whnf
    exact ⟨0, rfl, rfl, Nat.zero_le _, by simp⟩
  · rintro j ⟨hj, ho⟩
    conv => whnf
    refine rdw ?_; repeat' ((with_reducible apply tw) <;> intro _)
    · rename_i hjl
      replace hjl : (j : Int) < ((txsD l).length : Int) := hjl
      refine Exists.elim (⟨_, List.getElem?_eq_getElem (by omega)⟩ : ∃ c, l[j]? = some c) fun t ht => ?_
      refine ⟨by omega, t.cs, txsD_at ht, ?_⟩
      conv => whnf
      refine (rTx_ok t).mono ?_
      rintro _ _ ⟨rfl, rfl⟩
      by_cases h : okTx t
      · rw [decide_eq_true h]
        conv => whnf
        refine rdw ?_; repeat' ((with_reducible apply tw) <;> intro _)
        refine ⟨j + 1, rfl, rfl, ⟨by omega, fun x hx => ?_⟩, by omega⟩
        rw [List.take_add_one, ht] at hx
        rcases List.mem_append.1 hx with hx | hx
        · exact ho x hx
        · simp at hx; subst hx; exact h
      · rw [decide_eq_false h]
        conv => whnf
        refine rdw ?_; repeat' ((with_reducible apply tw) <;> intro _)
        exact ⟨by rw [decide_eq_false (fun hh : ∀ t ∈ l, okTx t => h (hh t (List.mem_of_getElem? ht)))]; rfl, rfl⟩
    · rename_i hjl
      replace hjl : ¬ (j : Int) < ((txsD l).length : Int) := hjl
      rw [List.take_of_length_le (by omega)] at ho
      exact ⟨by rw [decide_eq_true ho]; rfl, rfl⟩
open Classical in
theorem rBatch_ok (m : Bat) (hl : few m.txs) : ACalls Tryz.prog 46 [m.bav] [] (fun av L => av = .d (.bool (decide (okBatch m))) ∧ L = []) := by
  have hcl := txsD_len m.txs
  have h1 := rId_ok m.n
  have h2 := rTxs_ok m.txs hl
  (refine acalls_go ttOk zOk foOk Tryz.func46 rfl Tryz.ntmps46 rfl false rfl ?_); (conv => whnf)
  refine rdw ?_; repeat' ((with_reducible apply tw) <;> intro _)
  all_goals first
    | exact ⟨by rw [decide_eq_false (fun h : okBatch m => by have := h.author; omega)]; rfl, rfl⟩
    | skip
  refine h1.mono ?_
  rintro _ _ ⟨rfl, rfl⟩
  by_cases k2 : 1 ≤ m.n ∧ m.n ≤ 1099511627776
  rotate_left
  · rw [decide_eq_false k2]
    conv => whnf
    refine rdw ?_; repeat' ((with_reducible apply tw) <;> intro _)
    exact ⟨by rw [decide_eq_false (fun h : okBatch m => k2 h.n)]; rfl, rfl⟩
  rw [decide_eq_true k2]
  conv => whnf
  refine rdw ?_; repeat' ((with_reducible apply tw) <;> intro _)
  all_goals first
    | exact ⟨by rw [decide_eq_false (fun h : okBatch m => by have := h.len; omega)]; rfl, rfl⟩
    | skip
  (refine (h2).mono ?_; rintro _ _ ⟨rfl, rfl⟩; (conv => whnf))
  exact ⟨boolEq (by simp only [decide_eq_true_iff]; exact ⟨fun h => ⟨by omega, k2, by omega, h⟩, fun h => h.txs⟩), rfl⟩
structure Tx.ok (t : Tx) : Prop where
  key : t.key.size ≤ 140737488355328
  val : t.val.size ≤ 140737488355328
theorem txW_full (l : List Tx) (hl : few l) (hk : ∀ t ∈ l, t.ok) : ACalls Tryz.prog 22 [.d (.sl 4 (txsD l))] [] (fun av L => (∃ n : Int, av = .d (.int .i64 n) ∧ (l.length : Int) ≤ n ∧ n ≤ 562949953421312) ∧ L = []) := by
  have hcl := txsD_len l
  unfold few at hl
  (refine acalls_go ttOk zOk foOk Tryz.func22 rfl Tryz.ntmps22 rfl false rfl ?_); (conv => whnf)
  refine loop_go2 ttOk zOk foOk (σ := Int) (ρ := Nat) (fun w j => ([(0, .d (.sl 4 (txsD l))), (3, .d (.int .i64 w)), (4, .d (.int .i64 j))], [])) (fun w j => j ≤ l.length ∧ (l.length : Int) ≤ w ∧ w ≤ 562949953421312) (fun _ j => l.length - j) [0, 3, 4] ?_ ?_
  · conv => whnf
    exact ⟨l.length, 0, by rw [hcl]; rfl, rfl, by omega, by omega, by omega⟩
  · rintro w j ⟨hj, hw1, hw2⟩
    conv => whnf
    rw [hcl]
    refine rdw ?_; repeat' ((with_reducible apply tw) <;> intro _)
    · rename_i hjl hwl
      replace hwl : w < 1048576 := hwl
      refine Exists.elim (⟨_, List.getElem?_eq_getElem (by omega)⟩ : ∃ c, l[j]? = some c) fun c hc => ?_
      have hcx := hk c (List.mem_of_getElem? hc)
      have hk1 := hcx.key
      have hk2 := hcx.val
      ((with_reducible refine draw_pl ttOk zOk foOk mixedOk pl22x5 ?_ ?_); (focus kernel_rfl); (conv => whnf))
      repeat' (first | ((with_reducible apply rd_intro); (focus (intro K hK; (conv => whnf); exact ix_map hc (by first | rfl | omega) hK)); (conv => whnf)) | (first | ((with_reducible first | apply rd_intro | apply gd_and); (focus ((conv => whnf) <;> first | rfl | (intro K hK; (conv => whnf); first | exact hK | exact z_wrap (by omega) hK))); conv => whnf) | ((with_reducible apply z_wrap); (focus omega); conv => whnf) | ((with_reducible first | apply mt_dec | apply mt_eq | apply mt_ne | apply mt_not | apply mt_any) <;> (intro _; conv => whnf))))
      exact ⟨_, j + 1, rfl, rfl, ⟨by omega, by omega, by omega⟩, by omega⟩
    · exact ⟨⟨_, rfl, hw1, hw2⟩, rfl⟩
    · exact ⟨⟨_, rfl, hw1, hw2⟩, rfl⟩
def posB {α : Type} (lt : α → Bool) (l : List α) : Nat := (l.filter lt).length
def fndB {α : Type} (lt eq : α → Bool) (l : List α) : Bool := match l[posB lt l]? with | some c => eq c | none => false
theorem posB_le {α : Type} (lt : α → Bool) (l : List α) : posB lt l ≤ l.length := List.length_filter_le ..
theorem fndB_at {α : Type} (lt eq : α → Bool) (l : List α) : fndB lt eq l = match l[posB lt l]? with | some c => eq c | none => false := rfl
theorem posB_iff {α : Type} {lt : α → Bool} : ∀ {l : List α} {m : Nat} {c : α}, l.Pairwise (fun x y => lt y = true → lt x = true) → l[m]? = some c → (lt c = true ↔ m < posB lt l)
  | [], m, c, _, h => by simp at h
  | x :: t, m, c, hs, h => by
    have hs' := List.pairwise_cons.1 hs
    cases hx : lt x with
    | true =>
      have hp : posB lt (x :: t) = posB lt t + 1 := by simp [posB, hx]
      cases m with
      | zero =>
        simp only [List.getElem?_cons_zero, Option.some.injEq] at h
        subst h
        rw [hp]; simp [hx]
      | succ m =>
        rw [List.getElem?_cons_succ] at h
        rw [posB_iff hs'.2 h, hp]; omega
    | false =>
      have hall : ∀ y ∈ t, lt y = false := by
        intro y hy
        cases hb : lt y with
        | false => rfl
        | true => have := hs'.1 y hy hb; rw [hx] at this; cases this
      have hp : posB lt (x :: t) = 0 := by
        unfold posB
        rw [List.filter_eq_nil_iff.2]
        · rfl
        · intro y hy
          rcases List.mem_cons.1 hy with rfl | hy
          · simp [hx]
          · simp [hall y hy]
      have hc : lt c = false := by
        cases m with
        | zero =>
          simp only [List.getElem?_cons_zero, Option.some.injEq] at h
          subst h; exact hx
        | succ m =>
          rw [List.getElem?_cons_succ] at h
          exact hall c (List.mem_of_getElem? h)
      rw [hp, hc]; simp
theorem compareI_ok (x y : Int) : ACalls Tryz.prog 115 [.d (.int .i64 x), .d (.int .i64 y)] [] (fun av L => av = .d (.int .i64 (cmpI x y)) ∧ L = []) := by
  (refine acalls_go ttOk zOk foOk Tryz.func115 rfl Tryz.ntmps115 rfl false rfl ?_); (conv => whnf)
  (refine (isNaNi_ok x).mono ?_; rintro _ _ ⟨rfl, rfl⟩; (conv => whnf))
  (refine (isNaNi_ok y).mono ?_; rintro _ _ ⟨rfl, rfl⟩; (conv => whnf))
  refine rdz ?_; repeat' ((with_reducible apply tw) <;> intro _)
  · rename_i h
    replace h : x < y := h
    exact ⟨by rw [cmpI, if_pos h]; rfl, rfl⟩
  · rename_i h h2
    replace h : ¬ x < y := h
    replace h2 : x > y := h2
    exact ⟨by rw [cmpI, if_neg h, if_pos h2]; rfl, rfl⟩
  · rename_i h h2
    replace h : ¬ x < y := h
    replace h2 : ¬ x > y := h2
    exact ⟨by rw [cmpI, if_neg h, if_neg h2]; rfl, rfl⟩
theorem cmpI_lt (x y : Int) : cmpI x y < 0 ↔ decide (x < y) = true := by
  rw [decide_eq_true_iff]
  unfold cmpI
  split <;> (try split) <;> omega
theorem cmpI_eq (x y : Int) : cmpI x y = 0 ↔ decide (x = y) = true := by
  rw [decide_eq_true_iff]
  unfold cmpI
  split <;> (try split) <;> omega
theorem heldC_ok (c : HeldS) (d : Int) : ACalls Tryz.prog 114 [.agg (c.cs.map AV.d), .d (.int .i64 d)] [] (fun av L => (∃ z : Int, av = .d (.int .i64 z) ∧ (z < 0 ↔ decide (c.dig < d) = true) ∧ (z = 0 ↔ decide (c.dig = d) = true)) ∧ L = []) := by
  (refine acalls_go ttOk zOk foOk Tryz.func114 rfl Tryz.ntmps114 rfl false rfl ?_); (conv => whnf)
  (refine (compareI_ok c.dig d).mono ?_; rintro _ _ ⟨rfl, rfl⟩; (conv => whnf))
  exact ⟨⟨_, rfl, cmpI_lt _ _, cmpI_eq _ _⟩, rfl⟩
theorem Held_mono {l : List HeldS} (h : l.Pairwise fun x y => x.dig < y.dig) (d : Int) : l.Pairwise (fun x y => decide (y.dig < d) = true → decide (x.dig < d) = true) :=
  h.imp fun h h2 => by
    rw [decide_eq_true_iff] at h2 ⊢
    omega
theorem bsHeld_ok (l : List HeldS) (hl : few l) (d : Int) (hs : l.Pairwise fun x y => x.dig < y.dig) : ACalls Tryz.prog 113 [.d (.sl 4 (heldD l)), .d (.int .i64 d), .fn 114 []] [] (fun av L => av = .tup [.d (.int .i64 (posB (fun h => decide (h.dig < d)) l : Nat)), .d (.bool (fndB (fun h => decide (h.dig < d)) (fun h => decide (h.dig = d)) l))] ∧ L = []) := by
  have hcl := heldD_len l
  have hpw : l.Pairwise (fun x y => (fun h => decide (h.dig < d)) y = true → (fun h => decide (h.dig < d)) x = true) := Held_mono hs d
  obtain ⟨lt, hlt⟩ : ∃ lt : HeldS → Bool, (fun h => decide (h.dig < d)) = lt := ⟨_, rfl⟩
  obtain ⟨eq, heq⟩ : ∃ eq : HeldS → Bool, (fun h => decide (h.dig = d)) = eq := ⟨_, rfl⟩
  have hcmp : ∀ c ∈ l, ACalls Tryz.prog 114 [.agg (c.cs.map AV.d), .d (.int .i64 d)] [] (fun av L => (∃ z : Int, av = .d (.int .i64 z) ∧ (z < 0 ↔ lt c = true) ∧ (z = 0 ↔ eq c = true)) ∧ L = []) := fun c hc => by
    subst hlt; subst heq
    exact heldC_ok c d
  rw [hlt] at hpw ⊢
  rw [heq]
  obtain ⟨m, hm⟩ : ∃ m, posB lt l = m := ⟨_, rfl⟩
  have hml := posB_le lt l
  have hfd := fndB_at lt eq l
  have hpos : ∀ {i : Nat} {c : HeldS}, l[i]? = some c → (lt c = true ↔ i < m) := fun h => by rw [← hm]; exact posB_iff hpw h
  rw [hm] at hml hfd ⊢
  unfold few at hl
  (refine acalls_go ttOk zOk foOk Tryz.func113 rfl Tryz.ntmps113 rfl false rfl ?_); (conv => whnf)
  refine loop_go ttOk zOk foOk (σ := Nat × Nat) (fun s => ([(0, .d (.sl 4 (heldD l))), (1, .d (.int .i64 d)), (2, .fn 114 []), (8, .d (.int .i64 l.length)), (9, .d (.int .i64 s.1)), (10, .d (.int .i64 s.2))], [])) (fun s => s.1 ≤ m ∧ m ≤ s.2 ∧ s.2 ≤ l.length) (fun s => s.2 - s.1) [0, 1, 2, 8, 9, 10] ?_ ?_
  · conv => whnf
    exact ⟨(0, l.length), by rw [hcl]; rfl, rfl, Nat.zero_le _, hml, Nat.le_refl _⟩
  · rintro ⟨i, j⟩ ⟨h1, h2, h3⟩
    simp only at h1 h2 h3
    conv => whnf
    refine rdz ?_; repeat' ((with_reducible apply tw) <;> intro _)
    · rename_i hij
      intro z hz
      conv => whnf
      refine ⟨by decide, ?_⟩
      intro z1 hz1
      conv => whnf
      intro z2 hz2
      have hh := half (by omega) (by omega) hz hz1 hz2
      subst hh
      clear hz hz1 hz2
      obtain ⟨h, hh⟩ : ∃ h, (i + j) / 2 = h := ⟨_, rfl⟩
      rw [hh]
      obtain ⟨c, hc⟩ : ∃ c, l[h]? = some c := ⟨_, List.getElem?_eq_getElem (by omega)⟩
      have hp := hpos hc
      have hcc := hcmp c (List.mem_of_getElem? hc)
      conv => whnf
      refine ⟨by omega, c.cs, heldD_at hc, ?_⟩
      conv => whnf
      refine rdz ?_; repeat' ((with_reducible apply tw) <;> intro _)
      refine ACalls.mono (post := fun av L => (∃ z : Int, av = .d (.int .i64 z) ∧ (z < 0 ↔ lt c = true) ∧ (z = 0 ↔ eq c = true)) ∧ L = []) hcc ?_
      rintro _ _ ⟨⟨z, rfl, hz1, hz2⟩, rfl⟩
      rw [hp] at hz1
      conv => whnf
      refine rdz ?_; repeat' ((with_reducible apply tw) <;> intro _)
      · rename_i hn
        replace hn : z < 0 := hn
        exact ⟨(h + 1, j), rfl, rfl, ⟨by have := hz1.1 hn; show h + 1 ≤ m; omega, h2, h3⟩, by show j - (h + 1) < j - i; omega⟩
      · rename_i hn
        replace hn : ¬ z < 0 := hn
        exact ⟨(i, h), rfl, rfl, ⟨h1, by show m ≤ h; rcases Nat.lt_or_ge h m with h4 | h4; exact absurd (hz1.2 h4) hn; exact h4, by show h ≤ _; omega⟩, by show h - i < j - i; omega⟩
    · rename_i hij hlt2
      replace hij : ¬ (i : Int) < j := hij
      replace hlt2 : (i : Int) < l.length := hlt2
      obtain rfl : i = m := by omega
      obtain ⟨c, hc⟩ : ∃ c, l[i]? = some c := ⟨_, List.getElem?_eq_getElem (by omega)⟩
      have hcc := hcmp c (List.mem_of_getElem? hc)
      rw [hc] at hfd
      refine ⟨by omega, c.cs, heldD_at hc, ?_⟩
      conv => whnf
      refine rdz ?_; repeat' ((with_reducible apply tw) <;> intro _)
      refine ACalls.mono (post := fun av L => (∃ z : Int, av = .d (.int .i64 z) ∧ (z < 0 ↔ lt c = true) ∧ (z = 0 ↔ eq c = true)) ∧ L = []) hcc ?_
      rintro _ _ ⟨⟨z, rfl, hz1, hz2⟩, rfl⟩
      conv => whnf
      refine ⟨?_, rfl⟩
      rw [hfd]
      show _ = AV.tup [_, .d (.bool (eq c))]
      rw [show eq c = (z == 0) from by rw [Bool.eq_iff_iff, beq_iff_eq]; exact hz2.symm]
    · rename_i hij hlt2
      replace hij : ¬ (i : Int) < j := hij
      replace hlt2 : ¬ (i : Int) < l.length := hlt2
      obtain rfl : i = m := by omega
      rw [List.getElem?_eq_none (by omega)] at hfd
      rw [hfd]
      exact ⟨rfl, rfl⟩
theorem at_ok (l : List HeldS) (hl : few l) (d : Int) (hs : l.Pairwise fun x y => x.dig < y.dig) : ACalls Tryz.prog 86 [.d (.sl 4 (heldD l)), .d (.int .i64 d)] [] (fun av L => av = .tup [.d (.int .i64 (posB (fun h => decide (h.dig < d)) l : Nat)), .d (.bool (fndB (fun h => decide (h.dig < d)) (fun h => decide (h.dig = d)) l))] ∧ L = []) := by
  (refine acalls_go ttOk zOk foOk Tryz.func86 rfl Tryz.ntmps86 rfl false rfl ?_); (conv => whnf)
  (refine (bsHeld_ok l hl d hs).mono ?_; rintro _ _ ⟨rfl, rfl⟩; (conv => whnf))
  exact ⟨rfl, rfl⟩
end Go.Proofs.YtmmngmnmghpfaaaGreat
open Go Go.Ab Go.RowKit Go.Proofs
namespace Go.Proofs.YtmmngmnmghpfaaaGreat
open Go.Ab Go.RowKit Go.MapKept
attribute [local irreducible] ACalls AW ADraw Into fltB fnear
set_option maxRecDepth 100000
theorem cmpstr_w (a b : ByteArray) (w : World) : Calls Tryz.prog 169 #[.string a, .string b] w fun e w' => e = .returned (.int .i64 (Lib.compareBytes a.data.toList b.data.toList)) ∧ w' = w := by
  go_enter Tryz.func169, Tryz.ntmps169
  go_wp2
  rw [run_callFunc_extern Tryz.func174 (by kernel_rfl) (by kernel_rfl) (by kernel_rfl) (e := Extern.BytealgCompare.compare) (by kernel_rfl), Lib.run_compareString]
  simp only [Result.andThen]
  rw [Oper.upon_value]
  go_wp2
  go_ret
  exact ⟨rfl, rfl⟩
theorem cmp_w (a b : ByteArray) (w : World) : Calls Tryz.prog 155 #[.string a, .string b] w fun e w' => e = .returned (.int .i64 (Lib.compareBytes a.data.toList b.data.toList)) ∧ w' = w := by
  go_enter Tryz.func155, Tryz.ntmps155
  go_wp2_with (go_at_call 169; refine (cmpstr_w _ _ _).mono ?_; rintro e w' ⟨rfl, rfl⟩)
  go_ret
  exact ⟨rfl, rfl⟩
theorem acalls_plain {f : FuncId} {avs : List AV} {x : DV} {v0 : Value} (hx : ∀ rd, VD rd x v0)
    (h : ∀ (c : Ctx) (vs : Array Value), c.wf → VRt (rcOf c.M0 c.E0 [] c.w0) avs vs.toList → Calls Tryz.prog f vs c.w0 fun e w' => e = .returned v0 ∧ Keeps c.w0 w') : ACalls Tryz.prog f avs [] (fun av L => av = .d x ∧ L = []) := by
  unfold ACalls
  intro c vs hc hL hs hv
  refine (h c vs hc hv).mono ?_
  rintro e w' ⟨rfl, k⟩
  exact ⟨v0, .d x, [], c.E0, rfl, ⟨rfl, rfl⟩, hs.keeps hc k, by simp only [VR]; exact hx _⟩
theorem cmpS_ok (a b : ByteArray) : ACalls Tryz.prog 155 [.d (.str a), .d (.str b)] [] (fun av L => av = .d (.int .i64 (Lib.compareBytes a.data.toList b.data.toList)) ∧ L = []) :=
  acalls_plain (v0 := .int .i64 (Lib.compareBytes a.data.toList b.data.toList)) (fun _ => by simp [VD]) fun c vs hc hv => by
    simp only [VRt, VR, VD] at hv
    obtain ⟨u, us', hvs, rfl, u2, us2, rfl, rfl, rfl⟩ := hv
    have hvs' : vs = #[.string a, .string b] := by rw [← Array.toArray_toList (xs := vs), hvs]
    rw [hvs']
    refine (cmp_w a b c.w0).mono ?_
    rintro e w' ⟨rfl, rfl⟩
    exact ⟨rfl, Keeps.refl _⟩
def lessB (a b : ByteArray) : Bool := Op.bytesLess a.toList b.toList
theorem cmpL_less : ∀ (x y : List UInt8), (Lib.compareBytes x y < 0 ↔ Op.bytesLess x y = true) ∧ (Lib.compareBytes x y = 0 ↔ x = y)
  | [], [] => by simp [Lib.compareBytes, Op.bytesLess]
  | [], _ :: _ => by simp [Lib.compareBytes, Op.bytesLess]
  | _ :: _, [] => by simp [Lib.compareBytes, Op.bytesLess]
  | a :: x, b :: y => by
    obtain ⟨h1, h2⟩ := cmpL_less x y
    unfold Lib.compareBytes Op.bytesLess
    by_cases hab : a < b
    · rw [if_pos hab]
      have : a ≠ b := by rintro rfl; exact UInt8.lt_irrefl _ hab
      simp [hab, this]
    · rw [if_neg hab]
      by_cases hba : b < a
      · rw [if_pos hba]
        have : a ≠ b := by rintro rfl; exact UInt8.lt_irrefl _ hba
        simp [hab, this]
      · rw [if_neg hba]
        have : a = b := by
          rw [UInt8.lt_iff_toNat_lt] at hab hba
          exact UInt8.toNat_inj.1 (by omega)
        subst this
        simp only [hab, decide_false, Bool.false_or, beq_self_eq_true, Bool.true_and, List.cons.injEq, true_and]
        exact ⟨h1, h2⟩
theorem less_trans : ∀ (x y z : List UInt8), Op.bytesLess x y = true → Op.bytesLess y z = true → Op.bytesLess x z = true
  | x, y, [], _, h => by cases y <;> simp [Op.bytesLess] at h
  | x, [], c :: z, h, _ => by cases x <;> simp [Op.bytesLess] at h
  | [], b :: y, c :: z, _, _ => rfl
  | a :: x, b :: y, c :: z, h1, h2 => by
    simp only [Op.bytesLess, Bool.or_eq_true, Bool.and_eq_true, beq_iff_eq, decide_eq_true_eq] at h1 h2 ⊢
    rcases h1 with h1 | ⟨rfl, h1⟩
    · rcases h2 with h2 | ⟨rfl, h2⟩
      · exact .inl (UInt8.lt_trans h1 h2)
      · exact .inl h1
    · rcases h2 with h2 | ⟨rfl, h2⟩
      · exact .inl h2
      · exact .inr ⟨rfl, less_trans x y z h1 h2⟩
theorem ba_inj {a b : ByteArray} (h : a.data.toList = b.data.toList) : a = b := by
  cases a; cases b
  simp only at h
  congr 1
  exact Array.toList_inj.1 h
theorem pairC_ok (c : PairS) (d : ByteArray) : ACalls Tryz.prog 154 [.agg (c.cs.map AV.d), .d (.str d)] [] (fun av L => (∃ z : Int, av = .d (.int .i64 z) ∧ (z < 0 ↔ lessB c.key d = true) ∧ (z = 0 ↔ decide (c.key = d) = true)) ∧ L = []) := by
  (refine acalls_go ttOk zOk foOk Tryz.func154 rfl Tryz.ntmps154 rfl false rfl ?_); (conv => whnf)
  (refine (cmpS_ok c.key d).mono ?_; rintro _ _ ⟨rfl, rfl⟩; (conv => whnf))
  obtain ⟨h1, h2⟩ := cmpL_less c.key.data.toList d.data.toList
  refine ⟨⟨_, rfl, ?_, ?_⟩, rfl⟩
  · rw [h1, lessB, ByteArray.toList_eq, ByteArray.toList_eq]
  · rw [h2, decide_eq_true_iff]
    exact ⟨ba_inj, fun h => by rw [h]⟩
theorem Pair_mono {l : List PairS} (h : l.Pairwise fun x y => lessB x.key y.key = true) (d : ByteArray) : l.Pairwise (fun x y => lessB y.key d = true → lessB x.key d = true) :=
  h.imp fun h h2 => less_trans _ _ _ h h2
theorem accC_ok (c : AccS) (d : Int) : ACalls Tryz.prog 133 [.agg (c.cs.map AV.d), .d (.int .i64 d)] [] (fun av L => (∃ z : Int, av = .d (.int .i64 z) ∧ (z < 0 ↔ decide (c.sender < d) = true) ∧ (z = 0 ↔ decide (c.sender = d) = true)) ∧ L = []) := by
  (refine acalls_go ttOk zOk foOk Tryz.func133 rfl Tryz.ntmps133 rfl false rfl ?_); (conv => whnf)
  (refine (compareI_ok c.sender d).mono ?_; rintro _ _ ⟨rfl, rfl⟩; (conv => whnf))
  exact ⟨⟨_, rfl, cmpI_lt _ _, cmpI_eq _ _⟩, rfl⟩
theorem Acc_mono {l : List AccS} (h : l.Pairwise fun x y => x.sender < y.sender) (d : Int) : l.Pairwise (fun x y => decide (y.sender < d) = true → decide (x.sender < d) = true) :=
  h.imp fun h h2 => by
    rw [decide_eq_true_iff] at h2 ⊢
    omega
theorem bsAcc_ok (l : List AccS) (hl : few l) (d : Int) (hs : l.Pairwise fun x y => x.sender < y.sender) : ACalls Tryz.prog 132 [.d (.sl 2 (accsD l)), .d (.int .i64 d), .fn 133 []] [] (fun av L => av = .tup [.d (.int .i64 (posB (fun h => decide (h.sender < d)) l : Nat)), .d (.bool (fndB (fun h => decide (h.sender < d)) (fun h => decide (h.sender = d)) l))] ∧ L = []) := by
  have hcl := accsD_length l
  have hpw : l.Pairwise (fun x y => (fun h => decide (h.sender < d)) y = true → (fun h => decide (h.sender < d)) x = true) := Acc_mono hs d
  obtain ⟨lt, hlt⟩ : ∃ lt : AccS → Bool, (fun h => decide (h.sender < d)) = lt := ⟨_, rfl⟩
  obtain ⟨eq, heq⟩ : ∃ eq : AccS → Bool, (fun h => decide (h.sender = d)) = eq := ⟨_, rfl⟩
  have hcmp : ∀ c ∈ l, ACalls Tryz.prog 133 [.agg (c.cs.map AV.d), .d (.int .i64 d)] [] (fun av L => (∃ z : Int, av = .d (.int .i64 z) ∧ (z < 0 ↔ lt c = true) ∧ (z = 0 ↔ eq c = true)) ∧ L = []) := fun c hc => by
    subst hlt; subst heq
    exact accC_ok c d
  rw [hlt] at hpw ⊢
  rw [heq]
  obtain ⟨m, hm⟩ : ∃ m, posB lt l = m := ⟨_, rfl⟩
  have hml := posB_le lt l
  have hfd := fndB_at lt eq l
  have hpos : ∀ {i : Nat} {c : AccS}, l[i]? = some c → (lt c = true ↔ i < m) := fun h => by rw [← hm]; exact posB_iff hpw h
  rw [hm] at hml hfd ⊢
  unfold few at hl
  (refine acalls_go ttOk zOk foOk Tryz.func132 rfl Tryz.ntmps132 rfl false rfl ?_); (conv => whnf)
  refine loop_go ttOk zOk foOk (σ := Nat × Nat) (fun s => ([(0, .d (.sl 2 (accsD l))), (1, .d (.int .i64 d)), (2, .fn 133 []), (8, .d (.int .i64 l.length)), (9, .d (.int .i64 s.1)), (10, .d (.int .i64 s.2))], [])) (fun s => s.1 ≤ m ∧ m ≤ s.2 ∧ s.2 ≤ l.length) (fun s => s.2 - s.1) [0, 1, 2, 8, 9, 10] ?_ ?_
  · conv => whnf
    exact ⟨(0, l.length), by rw [hcl]; rfl, rfl, Nat.zero_le _, hml, Nat.le_refl _⟩
  · rintro ⟨i, j⟩ ⟨h1, h2, h3⟩
    simp only at h1 h2 h3
    conv => whnf
    refine rdz ?_; repeat' ((with_reducible apply tw) <;> intro _)
    · rename_i hij
      intro z hz
      conv => whnf
      refine ⟨by decide, ?_⟩
      intro z1 hz1
      conv => whnf
      intro z2 hz2
      have hh := half (by omega) (by omega) hz hz1 hz2
      subst hh
      clear hz hz1 hz2
      obtain ⟨h, hh⟩ : ∃ h, (i + j) / 2 = h := ⟨_, rfl⟩
      rw [hh]
      obtain ⟨c, hc⟩ : ∃ c, l[h]? = some c := ⟨_, List.getElem?_eq_getElem (by omega)⟩
      have hp := hpos hc
      have hcc := hcmp c (List.mem_of_getElem? hc)
      conv => whnf
      refine ⟨by omega, c.cs, accsD_at hc, ?_⟩
      conv => whnf
      refine rdz ?_; repeat' ((with_reducible apply tw) <;> intro _)
      refine ACalls.mono (post := fun av L => (∃ z : Int, av = .d (.int .i64 z) ∧ (z < 0 ↔ lt c = true) ∧ (z = 0 ↔ eq c = true)) ∧ L = []) hcc ?_
      rintro _ _ ⟨⟨z, rfl, hz1, hz2⟩, rfl⟩
      rw [hp] at hz1
      conv => whnf
      refine rdz ?_; repeat' ((with_reducible apply tw) <;> intro _)
      · rename_i hn
        replace hn : z < 0 := hn
        exact ⟨(h + 1, j), rfl, rfl, ⟨by have := hz1.1 hn; show h + 1 ≤ m; omega, h2, h3⟩, by show j - (h + 1) < j - i; omega⟩
      · rename_i hn
        replace hn : ¬ z < 0 := hn
        exact ⟨(i, h), rfl, rfl, ⟨h1, by show m ≤ h; rcases Nat.lt_or_ge h m with h4 | h4; exact absurd (hz1.2 h4) hn; exact h4, by show h ≤ _; omega⟩, by show h - i < j - i; omega⟩
    · rename_i hij hlt2
      replace hij : ¬ (i : Int) < j := hij
      replace hlt2 : (i : Int) < l.length := hlt2
      obtain rfl : i = m := by omega
      obtain ⟨c, hc⟩ : ∃ c, l[i]? = some c := ⟨_, List.getElem?_eq_getElem (by omega)⟩
      have hcc := hcmp c (List.mem_of_getElem? hc)
      rw [hc] at hfd
      refine ⟨by omega, c.cs, accsD_at hc, ?_⟩
      conv => whnf
      refine rdz ?_; repeat' ((with_reducible apply tw) <;> intro _)
      refine ACalls.mono (post := fun av L => (∃ z : Int, av = .d (.int .i64 z) ∧ (z < 0 ↔ lt c = true) ∧ (z = 0 ↔ eq c = true)) ∧ L = []) hcc ?_
      rintro _ _ ⟨⟨z, rfl, hz1, hz2⟩, rfl⟩
      conv => whnf
      refine ⟨?_, rfl⟩
      rw [hfd]
      show _ = AV.tup [_, .d (.bool (eq c))]
      rw [show eq c = (z == 0) from by rw [Bool.eq_iff_iff, beq_iff_eq]; exact hz2.symm]
    · rename_i hij hlt2
      replace hij : ¬ (i : Int) < j := hij
      replace hlt2 : ¬ (i : Int) < l.length := hlt2
      obtain rfl : i = m := by omega
      rw [List.getElem?_eq_none (by omega)] at hfd
      rw [hfd]
      exact ⟨rfl, rfl⟩
theorem bsPair_ok (l : List PairS) (hl : few l) (d : ByteArray) (hs : l.Pairwise fun x y => lessB x.key y.key = true) : ACalls Tryz.prog 153 [.d (.sl 2 (pairsD l)), .d (.str d), .fn 154 []] [] (fun av L => av = .tup [.d (.int .i64 (posB (fun h => lessB h.key d) l : Nat)), .d (.bool (fndB (fun h => lessB h.key d) (fun h => decide (h.key = d)) l))] ∧ L = []) := by
  have hcl := pairsD_length l
  have hpw : l.Pairwise (fun x y => (fun h => lessB h.key d) y = true → (fun h => lessB h.key d) x = true) := Pair_mono hs d
  obtain ⟨lt, hlt⟩ : ∃ lt : PairS → Bool, (fun h => lessB h.key d) = lt := ⟨_, rfl⟩
  obtain ⟨eq, heq⟩ : ∃ eq : PairS → Bool, (fun h => decide (h.key = d)) = eq := ⟨_, rfl⟩
  have hcmp : ∀ c ∈ l, ACalls Tryz.prog 154 [.agg (c.cs.map AV.d), .d (.str d)] [] (fun av L => (∃ z : Int, av = .d (.int .i64 z) ∧ (z < 0 ↔ lt c = true) ∧ (z = 0 ↔ eq c = true)) ∧ L = []) := fun c hc => by
    subst hlt; subst heq
    exact pairC_ok c d
  rw [hlt] at hpw ⊢
  rw [heq]
  obtain ⟨m, hm⟩ : ∃ m, posB lt l = m := ⟨_, rfl⟩
  have hml := posB_le lt l
  have hfd := fndB_at lt eq l
  have hpos : ∀ {i : Nat} {c : PairS}, l[i]? = some c → (lt c = true ↔ i < m) := fun h => by rw [← hm]; exact posB_iff hpw h
  rw [hm] at hml hfd ⊢
  unfold few at hl
  (refine acalls_go ttOk zOk foOk Tryz.func153 rfl Tryz.ntmps153 rfl false rfl ?_); (conv => whnf)
  refine loop_go ttOk zOk foOk (σ := Nat × Nat) (fun s => ([(0, .d (.sl 2 (pairsD l))), (1, .d (.str d)), (2, .fn 154 []), (8, .d (.int .i64 l.length)), (9, .d (.int .i64 s.1)), (10, .d (.int .i64 s.2))], [])) (fun s => s.1 ≤ m ∧ m ≤ s.2 ∧ s.2 ≤ l.length) (fun s => s.2 - s.1) [0, 1, 2, 8, 9, 10] ?_ ?_
  · conv => whnf
    exact ⟨(0, l.length), by rw [hcl]; rfl, rfl, Nat.zero_le _, hml, Nat.le_refl _⟩
  · rintro ⟨i, j⟩ ⟨h1, h2, h3⟩
    simp only at h1 h2 h3
    conv => whnf
    refine rdz ?_; repeat' ((with_reducible apply tw) <;> intro _)
    · rename_i hij
      intro z hz
      conv => whnf
      refine ⟨by decide, ?_⟩
      intro z1 hz1
      conv => whnf
      intro z2 hz2
      have hh := half (by omega) (by omega) hz hz1 hz2
      subst hh
      clear hz hz1 hz2
      obtain ⟨h, hh⟩ : ∃ h, (i + j) / 2 = h := ⟨_, rfl⟩
      rw [hh]
      obtain ⟨c, hc⟩ : ∃ c, l[h]? = some c := ⟨_, List.getElem?_eq_getElem (by omega)⟩
      have hp := hpos hc
      have hcc := hcmp c (List.mem_of_getElem? hc)
      conv => whnf
      refine ⟨by omega, c.cs, pairsD_at hc, ?_⟩
      conv => whnf
      refine rdz ?_; repeat' ((with_reducible apply tw) <;> intro _)
      refine ACalls.mono (post := fun av L => (∃ z : Int, av = .d (.int .i64 z) ∧ (z < 0 ↔ lt c = true) ∧ (z = 0 ↔ eq c = true)) ∧ L = []) hcc ?_
      rintro _ _ ⟨⟨z, rfl, hz1, hz2⟩, rfl⟩
      rw [hp] at hz1
      conv => whnf
      refine rdz ?_; repeat' ((with_reducible apply tw) <;> intro _)
      · rename_i hn
        replace hn : z < 0 := hn
        exact ⟨(h + 1, j), rfl, rfl, ⟨by have := hz1.1 hn; show h + 1 ≤ m; omega, h2, h3⟩, by show j - (h + 1) < j - i; omega⟩
      · rename_i hn
        replace hn : ¬ z < 0 := hn
        exact ⟨(i, h), rfl, rfl, ⟨h1, by show m ≤ h; rcases Nat.lt_or_ge h m with h4 | h4; exact absurd (hz1.2 h4) hn; exact h4, by show h ≤ _; omega⟩, by show h - i < j - i; omega⟩
    · rename_i hij hlt2
      replace hij : ¬ (i : Int) < j := hij
      replace hlt2 : (i : Int) < l.length := hlt2
      obtain rfl : i = m := by omega
      obtain ⟨c, hc⟩ : ∃ c, l[i]? = some c := ⟨_, List.getElem?_eq_getElem (by omega)⟩
      have hcc := hcmp c (List.mem_of_getElem? hc)
      rw [hc] at hfd
      refine ⟨by omega, c.cs, pairsD_at hc, ?_⟩
      conv => whnf
      refine rdz ?_; repeat' ((with_reducible apply tw) <;> intro _)
      refine ACalls.mono (post := fun av L => (∃ z : Int, av = .d (.int .i64 z) ∧ (z < 0 ↔ lt c = true) ∧ (z = 0 ↔ eq c = true)) ∧ L = []) hcc ?_
      rintro _ _ ⟨⟨z, rfl, hz1, hz2⟩, rfl⟩
      conv => whnf
      refine ⟨?_, rfl⟩
      rw [hfd]
      show _ = AV.tup [_, .d (.bool (eq c))]
      rw [show eq c = (z == 0) from by rw [Bool.eq_iff_iff, beq_iff_eq]; exact hz2.symm]
    · rename_i hij hlt2
      replace hij : ¬ (i : Int) < j := hij
      replace hlt2 : ¬ (i : Int) < l.length := hlt2
      obtain rfl : i = m := by omega
      rw [List.getElem?_eq_none (by omega)] at hfd
      rw [hfd]
      exact ⟨rfl, rfl⟩
theorem pair_ok (l : List PairS) (hl : few l) (ac : List AccS) (d : ByteArray) (hs : l.Pairwise fun x y => lessB x.key y.key = true) : ACalls Tryz.prog 134 [.agg [.d (.sl 2 (pairsD l)), .d (.sl 2 (accsD ac))], .d (.str d)] [] (fun av L => av = .tup [.d (.int .i64 (posB (fun h => lessB h.key d) l : Nat)), .d (.bool (fndB (fun h => lessB h.key d) (fun h => decide (h.key = d)) l))] ∧ L = []) := by
  (refine acalls_go ttOk zOk foOk Tryz.func134 rfl Tryz.ntmps134 rfl false rfl ?_); (conv => whnf)
  (refine (bsPair_ok l hl d hs).mono ?_; rintro _ _ ⟨rfl, rfl⟩; (conv => whnf))
  exact ⟨rfl, rfl⟩
end Go.Proofs.YtmmngmnmghpfaaaGreat
namespace Go.Proofs.YtmmngmnmghpfaaaGreat
open Go Go.Ab Go.RowKit Go.Lib Go.Proofs Go.Shelf
set_option maxRecDepth 100000
theorem insAcc_shift (b n c i vb vc : Nat) (cs vs : List Value) {cur curv : Array Value} (w : World) (hi : i < n) (hroom : n + 1 ≤ c) (hc63 : c ≤ 9223372036854775807) (hvb : vb ≠ b)
    (hcur : w.heap[b]? = some (.cells cur 83 (0, 0))) (hsz : cur.size = c * 2) (hcv : w.heap[vb]? = some (.cells curv 83 (0, 0))) (hvl : curv.toList.take 2 = vs) (hv6 : vs.length = 2)
    (hcs : cur.toList.take (n * 2) = cs) (h1c : ∀ v ∈ cs, v.oneCell' = true) (h1v : ∀ v ∈ vs, v.oneCell' = true) :
    Calls Tryz.prog 135 #[.slice (some ⟨b, 0, none⟩) n c, .int .i64 i, .slice (some ⟨vb, 0, none⟩) 1 vc] w fun e w' =>
      e = .returned (.slice (some ⟨b, 0, none⟩) (n + 1) c) ∧ ∃ (cur' : Array Value) (w1 : World), Keeps w w1 ∧ w' = w1.setRow b cur' ∧ cur'.size = cur.size ∧ cur'.toList.take ((n + 1) * 2) = cs.take (i * 2) ++ vs ++ cs.drop (i * 2) := by
  have t0 := Tryz.underlying0; have a0 := Tryz.isAgg0; have z0 := Tryz.sizeOf0; have v0 := Tryz.zeroValue0
  have t3 := Tryz.underlying3; have a3 := Tryz.isAgg3; have z3 := Tryz.sizeOf3; have v3 := Tryz.zeroValue3
  have t4 := Tryz.underlying4; have a4 := Tryz.isAgg4; have z4 := Tryz.sizeOf4; have v4 := Tryz.zeroValue4
  have t22 := Tryz.underlying37; have a22 := Tryz.isAgg37; have z22 := Tryz.sizeOf37; have v22 := Tryz.zeroValue37
  have t68 := Tryz.underlying83; have a68 := Tryz.isAgg83; have z68 := Tryz.sizeOf83; have v68 := Tryz.zeroValue83
  have u0 := run_underlying t0; have u3 := run_underlying t3; have u4 := run_underlying t4; have u22 := run_underlying t22; have u68 := run_underlying t68
  have mixed := mixedOk
  have hz2 : ¬ ((i : Int) = (n : Int)) := by omega
  have hin : i ≤ n := by omega
  have hw1 : IntKind.i64.wrap ((i : Int) + 1) = (i : Int) + 1 := by rw [IntKind.wrap_i64]; omega
  have hwn : IntKind.i64.wrap ((n : Int) + 1) = (n : Int) + 1 := by rw [IntKind.wrap_i64]; omega
  have hb1 : (0 : Int) ≤ (i : Int) + 1 := by omega
  have htn : ((i : Int) + 1).toNat = i + 1 := by omega
  have hnn : ((n : Int) + 1).toNat = n + 1 := by omega
  have hb2 : ¬ (c = i + 1) := by omega
  have hb3 : (i : Int) ≤ (n : Int) + 1 := by omega
  have hb4 : ¬ (c = i) := by omega
  have hb5 : ¬ ((n : Int) + 1 > (c : Int)) := by omega
  have hshv : w.shape? vb = some (83, curv.size) := by simp [World.shape?, hcv]
  have hshb : w.shape? b = some (83, cur.size) := by simp [World.shape?, hcur]
  have hfr : ∀ o, w.frozen? ⟨vb, o, none⟩ = false := fun o => by simp [World.frozen?, hcv]
  have hcs0 : cur.size ≠ 0 := by omega
  have hov : ∀ lb cb, (callFunc 156 #[.slice (some ⟨vb, 0, none⟩) 1 vc, .slice (some ⟨b, (i + 1) * 2, none⟩) lb cb]).run Tryz.prog w = .ok (.value (.bool false)) w := fun lb cb => by
    rw [run_callFunc_extern Tryz.func156 (by kernel_rfl) (by kernel_rfl) (by kernel_rfl) (e := Extern.SlicesOverlaps.overlaps #[37, 37] #[4]) (by kernel_rfl),
      Lib.run_overlaps_apart w 37 4 83 t22 2 z68 ⟨vb, 0, none⟩ ⟨b, (i + 1) * 2, none⟩ 1 vc lb cb hvb 83 83 curv.size cur.size hshv hshb hcs0 (hfr _) (hfr _)]
    rfl
  have hcl : cs.length = n * 2 := by rw [← hcs, List.length_take, Array.length_toList, hsz]; exact Nat.min_eq_left (Nat.mul_le_mul_right _ (by omega))
  have hul : (cs.drop (i * 2)).length = (n - i) * 2 := by rw [List.length_drop, hcl, Nat.sub_mul]
  obtain ⟨cur1, hc1⟩ : ∃ cur1 : Array Value, (cur.toList.take ((i + 1) * 2) ++ cs.drop (i * 2) ++ cur.toList.drop ((i + 1) * 2 + (cs.drop (i * 2)).length)).toArray = cur1 := ⟨_, rfl⟩
  have hil := ins_list cur.toList vs (i * 2) (n * 2) 2 (Nat.mul_le_mul_right _ hin) (by rw [Array.length_toList, hsz]; omega) hv6 cur1.toList (by rw [← hc1, hcs, Nat.add_mul, Nat.one_mul])
  obtain ⟨cur2, hc2⟩ : ∃ cur2 : Array Value, (cur1.toList.take (i * 2) ++ vs ++ cur1.toList.drop (i * 2 + vs.length)).toArray = cur2 := ⟨_, rfl⟩
  have hl1 : cur1.size = cur.size := by have := hil.2.2; simpa using this
  have hcp1 : ∀ ty dc sc, (Builtin.copy_ #[37, 37] ty #[.slice (some ⟨b, (i + 1) * 2, none⟩) (n - i) dc, .slice (some ⟨b, i * 2, none⟩) (n + 1 - i) sc]).run Tryz.prog w.drew = .ok (goInt (n - i : Nat)) (w.drew.setRow b cur1) := fun ty dc sc => by
    have := run_copy_cellsK (P := Tryz.prog) w.drew 37 37 ty 83 2 b ((i + 1) * 2) (n - i) dc ⟨b, i * 2, none⟩ (n + 1 - i) sc (n - i) (cs.drop (i * 2)) (cur := cur) t22 z68 (Nat.min_eq_right (by omega)) hul
      (fun j v hj => by
        rw [add_lit _ rfl, show w.drew.cell? ⟨b, i * 2 + j, none⟩ = w.cell? ⟨b, i * 2 + j, none⟩ from rfl, cell_of_row w b _ cur _ _ hcur]
        rw [List.getElem?_drop, ← hcs, List.getElem?_take] at hj
        split at hj
        · simpa using hj
        · cases hj) hcur (by rw [hul, hsz]; omega) (fun v hv => h1c v (List.mem_of_mem_drop hv))
    rw [hc1] at this
    exact this
  have hcp2 : ∀ (W : World), (∀ x : Nat, W.heap[x]? = (w.drew.setRow b cur1).heap[x]?) → ∀ ty dc, (Builtin.copy_ #[37, 37] ty #[.slice (some ⟨b, i * 2, none⟩) (n + 1 - i) dc, .slice (some ⟨vb, 0, none⟩) 1 vc]).run Tryz.prog W = .ok (goInt (1 : Nat)) (W.setRow b cur2) := fun W hW ty dc => by
    have := run_copy_cellsK (P := Tryz.prog) W 37 37 ty 83 2 b (i * 2) (n + 1 - i) dc ⟨vb, 0, none⟩ 1 vc 1 vs (cur := cur1) (e := 83) t22 z68 (Nat.min_eq_left (by omega)) (by rw [hv6])
      (fun j v hj => by
        rw [add_lit _ rfl, Nat.zero_add]
        have h1 : W.cell? ⟨vb, j, none⟩ = (w.drew.setRow b cur1).cell? ⟨vb, j, none⟩ := by simp only [World.cell?, hW]
        rw [h1, cell_setRow_other _ _ _ _ hvb, show w.drew.cell? ⟨vb, j, none⟩ = w.cell? ⟨vb, j, none⟩ from rfl, cell_of_row w vb _ curv _ _ hcv]
        rw [← hvl, List.getElem?_take] at hj
        split at hj
        · simpa using hj
        · cases hj) (by rw [hW]; exact setRow_heap _ _ _ _ _ _ hcur) (by rw [hv6, hl1, hsz]; omega) h1v
    rw [hc2] at this
    exact this
  clear hc1 hul hcl
  go_enter Tryz.func135, Tryz.ntmps135
  go_wp2_with (simp only [hov])
  go_region_law_o (refine step_copy_runI rfl _ _ 37 37 rfl (.slice (some ⟨b, (i + 1) * 2, none⟩) (n - i) (c - (i + 1))) (.slice (some ⟨b, i * 2, none⟩) (n + 1 - i) (c - i)) (by simp [Act.eval, Act.put]) (by simp [Act.eval, Act.put]) (hcp1 _ _ _) ?_)
  go_wp2_with (at_builtin; refine wpList_copy_runI _ rfl _ _ 37 37 rfl _ _ rfl rfl (hcp2 _ (fun _ => rfl) _ _) ?_)
  go_ret
  refine ⟨rfl, cur2, w.drew, Keeps.drew w, setRow_setRow _ _ _ _, ?_, ?_⟩
  · have := hil.2.1
    rw [← hc2]
    simpa using this
  · rw [Nat.add_mul, Nat.one_mul, ← hc2]
    have := hil.1
    rw [hcs] at this
    exact this
set_option maxHeartbeats 4000000 in
theorem insAcc_grow (b n c i vb vc : Nat) (cs vs : List Value) {cur curv : Array Value} (w : World) (hi : i < n) (hnc : n ≤ c) (hroom : c < n + 1) (hbig : (n + 1) * 8192 ≤ 140737488355328) (hvb : vb ≠ b)
    (hcur : w.heap[b]? = some (.cells cur 83 (0, 0))) (hsz : cur.size = c * 2) (hcv : w.heap[vb]? = some (.cells curv 83 (0, 0))) (hvl : curv.toList.take 2 = vs) (hv6 : vs.length = 2)
    (hcs : cur.toList.take (n * 2) = cs) (h1c : ∀ v ∈ cs, v.oneCell' = true) (h1v : ∀ v ∈ vs, v.oneCell' = true) :
    Calls Tryz.prog 135 #[.slice (some ⟨b, 0, none⟩) n c, .int .i64 i, .slice (some ⟨vb, 0, none⟩) 1 vc] w fun e w' =>
      ∃ (cur' : Array Value) (G : Nat), e = .returned (.slice (some ⟨w.heap.size, 0, none⟩) (n + 1) G) ∧ Keeps w w' ∧ w'.heap[w.heap.size]? = some (.cells cur' 83 (0, 0)) ∧ cur'.size = G * 2 ∧ n + 1 ≤ G ∧ G ≤ maxLen ∧ cur'.toList.take ((n + 1) * 2) = cs.take (i * 2) ++ vs ++ cs.drop (i * 2) := by
  have t0 := Tryz.underlying0; have a0 := Tryz.isAgg0; have z0 := Tryz.sizeOf0; have v0 := Tryz.zeroValue0
  have t3 := Tryz.underlying3; have a3 := Tryz.isAgg3; have z3 := Tryz.sizeOf3; have v3 := Tryz.zeroValue3
  have t4 := Tryz.underlying4; have a4 := Tryz.isAgg4; have z4 := Tryz.sizeOf4; have v4 := Tryz.zeroValue4
  have t22 := Tryz.underlying37; have a22 := Tryz.isAgg37; have z22 := Tryz.sizeOf37; have v22 := Tryz.zeroValue37
  have t68 := Tryz.underlying83; have a68 := Tryz.isAgg83; have z68 := Tryz.sizeOf83; have v68 := Tryz.zeroValue83
  have u0 := run_underlying t0; have u3 := run_underlying t3; have u4 := run_underlying t4; have u22 := run_underlying t22; have u68 := run_underlying t68
  have mixed := mixedOk
  obtain ⟨ti, htt⟩ : ∃ ti, tt 83 = some ti := ⟨_, rfl⟩
  have htb : ti.bytes ≤ 8192 := by cases htt; decide
  have hti : ti.size = 2 := by cases htt; rfl
  obtain ⟨_, info, k1, k2, k3, k4⟩ := ttOk 83 ti htt
  have hzc := zOk 83 ti htt
  rw [hti] at hzc k3
  clear htt
  have hcl : cs.length = n * 2 := by rw [← hcs, List.length_take, Array.length_toList, hsz]; exact Nat.min_eq_left (Nat.mul_le_mul_right _ (by omega))
  have hul : (cs.drop (i * 2)).length = (n - i) * 2 := by rw [List.length_drop, hcl, Nat.sub_mul]
  have hbw : b < w.heap.size := (Array.getElem?_eq_some_iff.1 hcur).1
  have hvw : vb < w.heap.size := (Array.getElem?_eq_some_iff.1 hcv).1
  have hold : (Builtin.firstCells info.size i (.slice (some ⟨b, 0, none⟩) i c)).run Tryz.prog w.drew = .ok (cs.take (i * 2)).toArray w.drew :=
    run_firstCells_some w.drew info.size i ⟨b, 0, none⟩ i c (cs.take (i * 2)) (by rw [List.length_take, hcl, k3]; exact Nat.min_eq_left (Nat.mul_le_mul_right _ (by omega))) (fun j v hj => by
      rw [add_lit _ rfl, Nat.zero_add, show w.drew.cell? ⟨b, j, none⟩ = w.cell? ⟨b, j, none⟩ from rfl, cell_of_row w b _ cur _ _ hcur]
      rw [← hcs, List.getElem?_take] at hj
      split at hj
      · rw [List.getElem?_take] at hj
        split at hj
        · simpa using hj
        · cases hj
      · cases hj)
  have hby : (n + 1) * info.bytes ≤ 140737488355328 := Nat.le_trans (Nat.mul_le_mul_left _ (by rw [k4]; exact htb)) hbig
  have hkk : (n : Int) + 1 - (i : Int) = ((n + 1 - i : Nat) : Int) := by omega
  have hik : i + (n + 1 - i) = n + 1 := by omega
  obtain ⟨G, hG⟩ : ∃ G, G = grownCap w (n + 1) c 83 := ⟨_, rfl⟩
  obtain ⟨ROW, hROW⟩ : ∃ ROW : Array Value, ROW = (cs.take (i * 2)).toArray ++ Builtin.zeroCells ti.zero.cells (n + 1 - i) ++ Builtin.zeroCells ti.zero.cells (G - (n + 1)) := ⟨_, rfl⟩
  have hrz : ∀ ty, (Builtin.append_ #[37, 3] ty #[.slice (some ⟨b, 0, none⟩) i c, .int .i64 ((n : Int) + 1 - (i : Int))]).run Tryz.prog w =
      .ok (.slice (some ⟨w.heap.size, 0, none⟩) (n + 1) G) (w.drew.alloc (.cells ROW 83)) := fun ty => by
    have h := Lib.run_append_grow_zeros w 37 3 ty 83 info _ .i64 .i64 t22 t3 k1 k2 (some ⟨b, 0, none⟩) i c (cs.take (i * 2)) hold (n + 1 - i) (by omega) (by omega) (by omega) (by omega) (Nat.le_trans (Nat.mul_le_mul_right _ (by omega)) (Nat.le_trans hby (by decide))) (by rw [hik]; exact growslice_fits hroom hby)
    rw [hik, ← hG, ← hROW] at h
    rw [hkk]
    exact h
  have hGn : n + 1 ≤ G := by rw [hG]; exact grownCap_ge w _ _ _
  have hGm : G ≤ maxLen := by
    rw [hG]
    exact grownCap_le_maxLen w (n + 1) c 83 (by unfold maxLen; omega)
  have hG63 : G ≤ 9223372036854775807 := by unfold maxLen at hGm; omega
  have hRs : ROW.size = G * 2 := by
    rw [hROW]
    simp only [Array.size_append, size_zeroCells, List.size_toArray, List.length_take, hcl, hzc]
    rw [Nat.min_eq_left (Nat.mul_le_mul_right _ (by omega : i ≤ n)), ← Nat.add_mul, ← Nat.add_mul]
    congr 1
    omega
  have hRt : ROW.toList.take (i * 2) = cs.take (i * 2) := by
    rw [hROW, Array.toList_append, Array.toList_append, List.append_assoc, List.take_append_of_le_length (by simp [hcl]; omega), List.take_of_length_le (by simp; omega)]
  obtain ⟨R1, hR1⟩ : ∃ R1 : Array Value, (ROW.toList.take (i * 2) ++ vs ++ ROW.toList.drop (i * 2 + vs.length)).toArray = R1 := ⟨_, rfl⟩
  obtain ⟨R2, hR2⟩ : ∃ R2 : Array Value, (R1.toList.take ((i + 1) * 2) ++ cs.drop (i * 2) ++ R1.toList.drop ((i + 1) * 2 + (cs.drop (i * 2)).length)).toArray = R2 := ⟨_, rfl⟩
  have hil := ins_list2 ROW.toList vs (cs.drop (i * 2)) _ (i * 2) (n * 2) 2 (Nat.mul_le_mul_right _ (by omega)) (by rw [Array.length_toList, hRs]; omega) hv6 (by rw [hul, Nat.sub_mul]) hRt
  have hl1 : R1.size = G * 2 := by rw [← hRs, ← hR1]; simpa using hil.2.2
  have e1 : R1.toList = ROW.toList.take (i * 2) ++ vs ++ ROW.toList.drop (i * 2 + vs.length) := by rw [← hR1]
  rw [← e1, show i * 2 + 2 = (i + 1) * 2 by omega] at hil
  have hl2 : R2.size = G * 2 := by rw [← hRs, ← hR2]; simpa using hil.2.1
  have hr2 : R2.toList.take ((n + 1) * 2) = cs.take (i * 2) ++ vs ++ cs.drop (i * 2) := by
    rw [← hR2, show (n + 1) * 2 = n * 2 + 2 by omega]
    exact hil.1
  have hnew : (w.drew.alloc (.cells ROW 83)).heap[w.heap.size]? = some (.cells ROW 83 (0, 0)) := heap_alloc_new w.drew _
  have hvbN : vb ≠ w.heap.size := by omega
  have hbN : b ≠ w.heap.size := by omega
  have hcpA : ∀ (W : World), (∀ x : Nat, W.heap[x]? = (w.drew.alloc (.cells ROW 83)).heap[x]?) → ∀ ty dc, (Builtin.copy_ #[37, 37] ty #[.slice (some ⟨w.heap.size, i * 2, none⟩) (n + 1 - i) dc, .slice (some ⟨vb, 0, none⟩) 1 vc]).run Tryz.prog W = .ok (goInt (1 : Nat)) (W.setRow w.heap.size R1) := fun W hW ty dc => by
    have := run_copy_cellsK (P := Tryz.prog) W 37 37 ty 83 2 w.heap.size (i * 2) (n + 1 - i) dc ⟨vb, 0, none⟩ 1 vc 1 vs (cur := ROW) (e := 83) t22 z68 (Nat.min_eq_left (by omega)) (by rw [hv6])
      (fun j v hj => by
        rw [add_lit _ rfl, Nat.zero_add]
        have h1 : W.cell? ⟨vb, j, none⟩ = (w.drew.alloc (.cells ROW 83)).cell? ⟨vb, j, none⟩ := by simp only [World.cell?, hW]
        rw [h1]
        refine (Keeps.alloc w.drew _).cell ?_
        rw [show w.drew.cell? ⟨vb, j, none⟩ = w.cell? ⟨vb, j, none⟩ from rfl, cell_of_row w vb _ curv _ _ hcv]
        rw [← hvl, List.getElem?_take] at hj
        split at hj
        · simpa using hj
        · cases hj) (by rw [hW]; exact hnew) (by rw [hv6, hRs]; omega) h1v
    rw [hR1] at this
    exact this
  have hcpB : ∀ (W : World), (∀ x : Nat, W.heap[x]? = ((w.drew.alloc (.cells ROW 83)).setRow w.heap.size R1).heap[x]?) → ∀ ty dc sc, (Builtin.copy_ #[37, 37] ty #[.slice (some ⟨w.heap.size, (i + 1) * 2, none⟩) (n - i) dc, .slice (some ⟨b, i * 2, none⟩) (n - i) sc]).run Tryz.prog W = .ok (goInt (n - i : Nat)) (W.setRow w.heap.size R2) := fun W hW ty dc sc => by
    have := run_copy_cellsK (P := Tryz.prog) W 37 37 ty 83 2 w.heap.size ((i + 1) * 2) (n - i) dc ⟨b, i * 2, none⟩ (n - i) sc (n - i) (cs.drop (i * 2)) (cur := R1) (e := 83) t22 z68 (Nat.min_self _) hul
      (fun j v hj => by
        rw [add_lit _ rfl]
        have h1 : W.cell? ⟨b, i * 2 + j, none⟩ = ((w.drew.alloc (.cells ROW 83)).setRow w.heap.size R1).cell? ⟨b, i * 2 + j, none⟩ := by simp only [World.cell?, hW]
        rw [h1, cell_setRow_other _ _ _ _ hbN]
        refine (Keeps.alloc w.drew _).cell ?_
        rw [show w.drew.cell? ⟨b, i * 2 + j, none⟩ = w.cell? ⟨b, i * 2 + j, none⟩ from rfl, cell_of_row w b _ cur _ _ hcur]
        rw [List.getElem?_drop, ← hcs, List.getElem?_take] at hj
        split at hj
        · simpa using hj
        · cases hj) (by rw [hW]; exact setRow_heap _ _ _ _ _ _ hnew) (by rw [hul, hl1]; omega) (fun v hv => h1c v (List.mem_of_mem_drop hv))
    rw [hR2] at this
    exact this
  have hw1 : IntKind.i64.wrap ((i : Int) + 1) = (i : Int) + 1 := by rw [IntKind.wrap_i64]; omega
  have hwn : IntKind.i64.wrap ((n : Int) + 1) = (n : Int) + 1 := by rw [IntKind.wrap_i64]; omega
  have hws : IntKind.i64.wrap ((n : Int) + 1 - i) = (n : Int) + 1 - i := by rw [IntKind.wrap_i64]; omega
  have hb1 : (0 : Int) ≤ (i : Int) + 1 := by omega
  have htn : ((i : Int) + 1).toNat = i + 1 := by omega
  have hz2 : ¬ ((i : Int) = (n : Int)) := by omega
  have hin : i ≤ n := by omega
  have hb3 : (i : Int) ≤ (n : Int) := by omega
  have hb5 : (c : Int) < (n : Int) + 1 := by omega
  have hGi : ¬ (G = i) := by omega
  have hGim : ¬ (G = i + 1) := by omega
  have hci : ¬ (c = i) := by omega
  clear hkk hik hold hROW hG hRt hRs hR1 hR2 hil hl1 e1
  have hcpA' : ∀ dc, (Builtin.copy_ #[37, 37] 3 #[.slice (some ⟨w.heap.size, i * 2, none⟩) (n + 1 - i) dc, .slice (some ⟨vb, 0, none⟩) 1 vc]).run Tryz.prog (w.alloc (.cells ROW 83)).drew = .ok (goInt (1 : Nat)) ((w.alloc (.cells ROW 83)).drew.setRow w.heap.size R1) := fun dc => hcpA _ (fun _ => rfl) _ _
  have hcpB' := hcpB ((w.alloc (.cells ROW 83)).drew.setRow w.heap.size R1).drew (fun _ => rfl) 3 (G - (i + 1)) (c - i)
  go_enter Tryz.func135, Tryz.ntmps135
  go_wp2_with (first
    | (at_builtin; refine Lib.wpList_append_run _ rfl _ _ _ _ rfl _ _ rfl rfl _ _ (hrz _) ?_)
    | simp only [hcpA'])
  go_region_law_o (refine step_copy_runI rfl _ _ 37 37 rfl (.slice (some ⟨w.heap.size, (i + 1) * 2, none⟩) (n - i) (G - (i + 1))) (.slice (some ⟨b, i * 2, none⟩) (n - i) (c - i)) (by simp [Act.eval, Act.put]) (by simp [Act.eval, Act.put]) hcpB' ?_)
  go_wp2
  go_ret
  exact ⟨R2, G, rfl, (((Keeps.alloc w _).trans (Keeps.drew _)).setNew _ (Nat.le_refl _) _).trans (Keeps.drew _) |>.setNew _ (Nat.le_refl _) _, setRow_heap _ _ _ _ _ _ (setRow_heap _ _ _ _ _ _ hnew), hl2, hGn, hGm, hr2⟩
theorem insertAcc_in (l : List (List DV)) (x : List DV) (i : Nat) (hi : i < l.length) (hl : l.length ≤ 4294967296) : ACalls Tryz.prog 135 [.arr 0, .d (.int .i64 i), .arr 1] [.row 83 2 l false, .row 83 2 [x] false] (fun av L => av = .arr 2 ∧ L = [.dead, .row 83 2 [x] false, .row 83 2 (l.take i ++ x :: l.drop i) false]) := by
  intro c vs hc hL0 hs hv
  simp only [VRt, VR, VD] at hv
  obtain ⟨u0, r0, hvs, ⟨ab0, hab0, har0⟩, u1, r1, rfl, hu1, u2, r2, rfl, ⟨ab2, hab2, har2⟩, rfl⟩ := hv
  simp only [List.getElem?_cons_zero, List.getElem?_cons_succ, Option.some.injEq] at hab0 hab2
  subst hab0; subst hab2; subst hu1
  have hvs' : vs = #[u0, .int .i64 i, u2] := by rw [← Array.toArray_toList (xs := vs), hvs]
  rw [hvs']
  have hb0 := hs.blk 0 _ rfl
  have hb1 := hs.blk 1 _ rfl
  obtain ⟨_, hxl, hb1⟩ := hb1
  obtain ⟨_, hll, hb0⟩ := hb0
  have hx6 : x.length = 2 := hxl x (by simp)
  cases hE1 : c.E0 1 with
  | none => rw [hE1] at hb1; cases hb1
  | some vb =>
  cases hE : c.E0 0 with
  | none =>
    rw [hE] at hb0
    have hb0 : l = [] := hb0
    subst hb0
    simp at hi
  | some b =>
  rw [hE] at hb0
  rw [hE1] at hb1
  simp only [arRel, hE, hE1] at har0 har2
  obtain ⟨cap, cur, rfl, hh, hsz⟩ := har0
  obtain ⟨vc, curv, rfl, hhv, hszv⟩ := har2
  obtain ⟨cap', cur', hh', hsz', hcap, hmax, hvd⟩ := hb0
  rw [hh] at hh'; cases hh'
  obtain rfl : cap = cap' := by omega
  obtain ⟨vc', curv', hhv', hszv', hvcap, _, hvdv⟩ := hb1
  rw [hhv] at hhv'; cases hhv'
  have hne : vb ≠ b := by
    rintro rfl
    have := hs.inj 1 0 _ _ _ rfl rfl rfl rfl hE1 hE
    cases this
  simp only [List.length_cons, List.length_nil, Nat.zero_add, Nat.one_mul, List.flatten_cons, List.flatten_nil, List.append_nil] at hvdv hvcap ⊢
  have h1c := Cs_one hvd
  have h1v := Cs_one hvdv
  have hv6 : (curv.toList.take 2).length = 2 := by rw [Cs_length hvdv, hx6]
  have hzl : (l.take i ++ x :: l.drop i).length = l.length + 1 := by simp; omega
  have hzn : ∀ cs ∈ l.take i ++ x :: l.drop i, cs.length = 2 := by
    intro cs hcs
    rcases List.mem_append.1 hcs with h | h
    · exact hll cs (List.mem_of_mem_take h)
    · rcases List.mem_cons.1 h with rfl | h
      · exact hx6
      · exact hll cs (List.mem_of_mem_drop h)
  have hnew : VDs (rcOf c.M0 c.E0 [AB.row 83 2 l false, AB.row 83 2 [x] false] c.w0).rd (l.take i ++ x :: l.drop i).flatten ((cur.toList.take (l.length * 2)).take (i * 2) ++ curv.toList.take 2 ++ (cur.toList.take (l.length * 2)).drop (i * 2)) := by
    rw [List.flatten_append, List.flatten_cons, flatten_takeN l hll, flatten_dropN l hll, ← List.append_assoc]
    exact Cs_append (Cs_append (Cs_take _ hvd) hvdv) (Cs_drop _ hvd)
  by_cases hroom : l.length + 1 ≤ cap
  · refine (insAcc_shift b l.length cap i vb vc _ _ c.w0 hi hroom (by unfold maxLen at hmax; omega) hne hh hsz hhv rfl hv6 rfl h1c h1v).mono ?_
    rintro e w' ⟨rfl, cur2, w1, kk, rfl, hs2, ht2⟩
    have hblt := hs.lt (i := 0) rfl rfl hE
    obtain ⟨hs3, hle3⟩ := (hs.keeps hc kk).turn (i := 0) (zs := l.take i ++ x :: l.drop i) rfl hE (cur' := cur2) (by rw [kk.block b hblt]; exact hh) hs2 (by rw [hzl, hsz]; exact Nat.mul_le_mul_right _ hroom) hzn (by
      rw [hzl, ht2]
      exact VDs.mono (le_keeps hs.bl kk).rd hnew)
    refine ⟨_, .arr 2, _, _, rfl, ⟨rfl, rfl⟩, hs3, ?_⟩
    simp only [VR]
    refine ⟨_, rfl, ?_⟩
    simp only [arRel, Eupd]
    exact ⟨cap, cur2, by rw [hzl], setRow_heap _ _ _ _ _ _ (by rw [kk.block b hblt]; exact hh), by rw [hs2]; exact hsz⟩
  · refine (insAcc_grow b l.length cap i vb vc _ _ c.w0 hi hcap (by omega) (by omega) hne hh hsz hhv rfl hv6 rfl h1c h1v).mono ?_
    rintro e w' ⟨cur2, G, rfl, kk, hh2, hs2, hG1, hG2, ht2⟩
    obtain ⟨hk, hkle⟩ := hs.kill (i := 0) rfl
    obtain ⟨hs3, hle3⟩ := hk.newRow hc kk (e := 83) (xs := l.take i ++ x :: l.drop i) false (by exact ⟨by decide, rfl⟩) hzn hh2 hs2 (by rw [hzl]; exact hG1) hG2 (by
      rw [hzl, ht2]
      exact VDs.mono hkle.rd hnew)
    refine ⟨_, .arr 2, _, _, rfl, ⟨rfl, rfl⟩, hs3, ?_⟩
    simp only [VR]
    refine ⟨_, rfl, ?_⟩
    simp only [arRel, Eupd]
    exact ⟨G, cur2, by rw [hzl], hh2, hs2⟩
theorem insertAcc_end (l : List (List DV)) (hll : ∀ cs ∈ l, cs.length = 2) (x : List DV) (hx : x.length = 2) (hl : l.length ≤ 4294967296) : ACalls Tryz.prog 135 [.arr 0, .d (.int .i64 l.length), .arr 1] [.row 83 2 l false, .row 83 2 [x] false] (fun av L => av = .arr 2 ∧ L = [.dead, .row 83 2 [x] false, .row 83 2 (l ++ [x]) false]) := by
  intro c vs hc hL0 hs hv
  have hv0 := hv
  simp only [VRt, VR, VD] at hv
  obtain ⟨u0, r0, hvs, ⟨ab0, hab0, har0⟩, u1, r1, rfl, hu1, u2, r2, rfl, ⟨ab2, hab2, har2⟩, rfl⟩ := hv
  have hq : appendK tt 37 [AB.row 83 2 l false, AB.row 83 2 [x] false] (.arr 0) (.arr 1) (fun av L => av = .arr 2 ∧ L = [.dead, .row 83 2 [x] false, .row 83 2 (l ++ [x]) false]) := by
    conv => whnf
    refine ⟨by simp; omega, ?_⟩
    conv => whnf
    exact ⟨rfl, rfl⟩
  have hv1 : VR (rcOf c.M0 c.E0 [AB.row 83 2 l false, AB.row 83 2 [x] false] c.w0) (.arr 0) u0 := ⟨ab0, hab0, har0⟩
  have hv2 : VR (rcOf c.M0 c.E0 [AB.row 83 2 l false, AB.row 83 2 [x] false] c.w0) (.arr 1) u2 := ⟨ab2, hab2, har2⟩
  have hr := fun ty => appendK_run ttOk zOk hc hs hq ty hv1 hv2
  simp only [List.getElem?_cons_zero, List.getElem?_cons_succ, Option.some.injEq] at hab0 hab2
  subst hab0; subst hab2; subst hu1
  have hvs' : vs = #[u0, .int .i64 l.length, u2] := by rw [← Array.toArray_toList (xs := vs), hvs]
  rw [hvs']
  have hb0 := hs.blk 0 _ rfl
  have hb1 := hs.blk 1 _ rfl
  obtain ⟨_, hxl, hb1⟩ := hb1
  obtain ⟨_, hll, hb0⟩ := hb0
  cases hE1 : c.E0 1 with
  | none => rw [hE1] at hb1; cases hb1
  | some vb =>
  simp only [arRel, hE1] at har2
  obtain ⟨vc, curv, rfl, hhv, hszv⟩ := har2
  obtain ⟨r, w', E', av, L', hrun, ⟨rfl, rfl⟩, hsim, hle, hvr⟩ := hr 37
  simp only [List.length_cons, List.length_nil, Nat.zero_add] at hrun ⊢
  have t0 := Tryz.underlying0; have a0 := Tryz.isAgg0; have z0 := Tryz.sizeOf0; have v0 := Tryz.zeroValue0
  have t3 := Tryz.underlying3; have a3 := Tryz.isAgg3; have z3 := Tryz.sizeOf3; have v3 := Tryz.zeroValue3
  have t4 := Tryz.underlying4; have a4 := Tryz.isAgg4; have z4 := Tryz.sizeOf4; have v4 := Tryz.zeroValue4
  have t22 := Tryz.underlying37; have a22 := Tryz.isAgg37; have z22 := Tryz.sizeOf37; have v22 := Tryz.zeroValue37
  have t68 := Tryz.underlying83; have a68 := Tryz.isAgg83; have z68 := Tryz.sizeOf83; have v68 := Tryz.zeroValue83
  have u0 := run_underlying t0; have u3 := run_underlying t3; have u4 := run_underlying t4; have u22 := run_underlying t22; have u68 := run_underlying t68
  have mixed := mixedOk
  cases hE : c.E0 0 with
  | none =>
    rw [hE] at hb0
    have hb0 : l = [] := hb0
    subst hb0
    simp only [arRel, hE] at har0
    subst har0
    refine Calls.mono (R := fun e w2 => e = .returned r ∧ w2 = w') ?_ (by rintro _ _ ⟨rfl, rfl⟩; exact ⟨_, .arr 2, _, _, rfl, ⟨rfl, rfl⟩, hsim, hvr⟩)
    go_enter Tryz.func135, Tryz.ntmps135
    go_wp2_with (at_builtin; refine Lib.wpList_append_run _ rfl _ _ _ _ rfl _ _ rfl rfl _ _ hrun ?_)
    go_ret
    exact ⟨rfl, rfl⟩
  | some b =>
    rw [hE] at hb0
    simp only [arRel, hE] at har0
    obtain ⟨cap, cur, rfl, hh, hsz⟩ := har0
    obtain ⟨cap', cur', hh', hsz', hcap, hmax, hvd⟩ := hb0
    rw [hh] at hh'; cases hh'
    obtain rfl : cap = cap' := by omega
    have hc63 : cap ≤ 9223372036854775807 := by unfold maxLen at hmax; omega
    refine Calls.mono (R := fun e w2 => e = .returned r ∧ w2 = w') ?_ (by rintro _ _ ⟨rfl, rfl⟩; exact ⟨_, .arr 2, _, _, rfl, ⟨rfl, rfl⟩, hsim, hvr⟩)
    clear hsz hsz' hvr hsim hle
    obtain ⟨n, hn⟩ : ∃ n, l.length = n := ⟨_, rfl⟩
    rw [hn] at hrun hcap ⊢
    go_enter Tryz.func135, Tryz.ntmps135
    go_wp2_with (at_builtin; refine Lib.wpList_append_run _ rfl _ _ _ _ rfl _ _ rfl rfl _ _ hrun ?_)
    all_goals (go_ret; exact ⟨rfl, rfl⟩)
end Go.Proofs.YtmmngmnmghpfaaaGreat
