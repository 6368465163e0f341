/- ImageGoes: abstract runs. -/
import Derived.Test.YtmmngmnmghpfaaaGreatImageGoesLayD
import Derived.Lib.AppendStr
import Derived.Laws.MakeOwn
import Derived.Laws.StructEq
set_option linter.unusedVariables false
set_option linter.unusedSimpArgs false
namespace Go.Ab
noncomputable section
open Go.RowKit
def appendSK (tt : TypeId → Option TI) (t t' : TypeId) (L : List AB) (s x : AV) (K : AV → List AB → Prop) : Prop :=
  ttK tt t fun i => match sliceElem i.desc with
    | some e => ttK tt e fun ei => ttK tt t' fun ni => bif Nat.beq ei.size 1 && Nat.ble 1 ei.bytes && isStrD ni.desc then match x with
        | .d (.str bs) => match s with
          | .arr j => lgetK L j fun ab => match ab with
            | .row e' m xs sh => bif Nat.beq m 1 && Nat.beq e' e then (xs.length + bs.size) * ei.bytes ≤ 140737488355328 ∧
                lsetK L j .dead fun L1 => lpushK L1 (.row e 1 (xs ++ u8s bs.data.toList) sh) 0 fun j' L' => K (.arr j') L' else False
            | _ => False
          | _ => False
        | _ => False
        else False
    | none => False
theorem run_append_string_none {P : Program} (w : World) (t tn ty e : TypeId) (i : TypeInfo) (ht : P.underlying t = some (.slice e)) (htn : P.underlying tn = some .string) (hi : P.info? e = some i)
    (base : Option Addr) (sLen sCap : Nat) (h : sLen ≤ sCap) (s : ByteArray) (h0 : s.size = 0) :
    (Builtin.append_ #[t, tn] ty #[.slice base sLen sCap, .string s]).run P w = .ok (.slice base sLen sCap) w := by
  have hf := Lib.run_firstCells_string (P := P) w i.size s
  have hs : Lib.strCells s = [] := List.eq_nil_of_length_eq_zero (by rw [Lib.strCells_length, h0])
  rw [h0, hs] at hf
  cases base <;> simp [Builtin.append_, run_underlying ht, run_underlying htn, sizeOf, typeInfo, hi, Builtin.lenOf, h0, h, hf, storeCells]
theorem appendSK_ok {P : Program} {tt : TypeId → Option TI} (ht : TTok P tt) (hzo : ∀ e ei, tt e = some ei → ei.zero.cells.size = ei.size) {t t' : TypeId} {c : Ctx} (hc : c.wf) {E : Nat → Option Nat} {L : List AB} {w : World} (hs : SimH c E L w) {s x : AV} {K : AV → List AB → Prop} (h : appendSK tt t t' L s x K) (ty : TypeId)
    {v u : Value} (hv : VR (rcOf c.M0 E L w) s v) (hu' : VR (rcOf c.M0 E L w) x u) :
    ∃ r w' E' av L', (Builtin.append_ #[t, t'] ty #[v, u]).run P w = .ok r w' ∧ K av L' ∧ SimH c E' L' w' ∧ (rcOf c.M0 E L w).le (rcOf c.M0 E' L' w') ∧ VR (rcOf c.M0 E' L' w') av r := by
  unfold appendSK at h
  replace h := ttK_ok h
  obtain ⟨i, hi, h⟩ := h
  split at h
  rotate_left
  · exact h.elim
  rename_i e he
  replace h := ttK_ok h
  obtain ⟨ei, hei, h⟩ := h
  replace h := ttK_ok h
  obtain ⟨ni, hni, h⟩ := h
  have hd : i.desc = .slice e := by
    revert he
    cases i.desc <;> simp [sliceElem]
  obtain ⟨hu, _⟩ := ht t i hi
  rw [hd] at hu
  obtain ⟨htn, _⟩ := ht t' ni hni
  obtain ⟨_, info, k1, k2, k3, k4⟩ := ht e ei hei
  cases hb0 : (Nat.beq ei.size 1 && Nat.ble 1 ei.bytes && isStrD ni.desc) with
  | false => rw [hb0] at h; exact h.elim
  | true =>
  rw [hb0] at h
  simp only [cond_true] at h
  simp only [Bool.and_eq_true] at hb0
  have hsz1 := Nat.eq_of_beq_eq_true hb0.1.1
  have hRN : RN e 1 := ⟨by omega, by rw [ht.sz e ei hei]; exact hsz1⟩
  have hby : 0 < ei.bytes := Nat.le_of_ble_eq_true hb0.1.2
  have hdn : ni.desc = .string := by
    have := hb0.2
    revert this
    cases ni.desc <;> simp [isStrD]
  rw [hdn] at htn
  have hinfo1 : info.size = 1 := by rw [k3, hsz1]
  split at h
  rotate_left
  · exact h.elim
  rename_i bs
  simp only [VR, VD] at hu'
  subst hu'
  split at h
  rotate_left
  · exact h.elim
  rename_i j
  have hz0 : ei.zero.cells.size = 1 := by rw [hzo e ei hei, hsz1]
  obtain ⟨ab, hab, h1⟩ := lgetK_ok h
  cases ab <;> simp only at h1 <;> first | exact h1.elim | skip
  rename_i e' m xs sh
  cases hb : (Nat.beq m 1 && Nat.beq e' e) with
  | false => rw [hb] at h1; exact h1.elim
  | true =>
  rw [hb] at h1
  simp only [Bool.and_eq_true] at hb
  have em := Nat.eq_of_beq_eq_true hb.1
  have ee := Nat.eq_of_beq_eq_true hb.2
  subst em; subst ee
  obtain ⟨hbound, h2⟩ := h1
  have hsc := Lib.strCells_length bs
  have hul : (u8s bs.data.toList).length = bs.size := by rw [u8s_length, Array.length_toList]; rfl
  have hys : bs.size = 0 → u8s bs.data.toList = [] := fun h => List.eq_nil_of_length_eq_zero (by omega)
  generalize hnn : bs.size = n at *
  have h3 := lpushK_ok (lsetK_ok h2)
  rw [Nat.zero_add] at h3
  simp only [List.length_set] at h3
  have hbr := hs.blk j _ hab
  obtain ⟨_, hxlen, hbr2⟩ := hbr
  have hlt : j < L.length := (List.getElem?_eq_some_iff.1 hab).1
  simp only [VR] at hv
  obtain ⟨ab', hab', hrel⟩ := hv
  rw [hab] at hab'; cases hab'
  simp only [arRel] at hrel
  obtain ⟨hk, hkle⟩ := hs.kill hab
  have hklen : (L.set j AB.dead).length = L.length := by simp
  have l1 : VDs (rcOf c.M0 E L w).rd (u8s bs.data.toList).flatten (Lib.strCells bs) := u8s_VDs bs.data.toList
  have l4 : ∀ cs ∈ u8s bs.data.toList, cs.length = 1 := u8s_one _
  have hbn : (xs.length + n) ≤ 140737488355328 := Nat.le_trans (Nat.le_mul_of_pos_right _ hby) hbound
  have hby2 : n * info.bytes ≤ 281474976710656 := by
    rw [k4]
    have : n * ei.bytes ≤ (xs.length + n) * ei.bytes := Nat.mul_le_mul_right _ (by omega)
    omega
  have tr : ∀ {E2 : Nat → Option Nat} {L2 : List AB} {w2 : World}, (rcOf c.M0 E (L.set j AB.dead) w).le (rcOf c.M0 E2 L2 w2) → (rcOf c.M0 E L w).le (rcOf c.M0 E2 L2 w2) :=
    fun hle => (hkle.trans hle)
  cases hE : E j with
  | none =>
    rw [hE] at hbr2 hrel
    simp only at hbr2 hrel
    subst hbr2; subst hrel
    simp only [List.nil_append, List.length_nil, Nat.zero_add] at h3 hbn
    rcases Nat.eq_zero_or_pos n with hn0 | hnp
    · rw [hys hn0] at h3
      obtain ⟨hs', hle⟩ := hk.nilRow hc e' 1 sh hRN
      rw [hklen] at hs' hle
      exact ⟨_, _, _, _, _, run_append_string_none w t t' ty e' info hu htn k1 none 0 0 (Nat.le_refl _) bs (by omega), h3, hs', tr hle, by rw [← hklen]; exact rc_arr_nil⟩
    · have hr := run_append_nil_string (P := P) w t t' ty e' info ei.zero hu htn k1 k2 bs (by omega) (by omega) (by rw [hnn]; exact hby2)
      rw [hnn] at hr
      have hge := grownCap_ge w n 0 e'
      have hcm := grownCap_le_maxLen w n 0 e' (by unfold maxLen; omega)
      have f1 : (bs.data.map (fun b => Value.int .u8 b.toNat) ++ Builtin.zeroCells ei.zero.cells (grownCap w n 0 e' - n)).size = grownCap w n 0 e' * 1 := by
        rw [Array.size_append, size_zeroCells, hz0, Array.size_map, show bs.data.size = n from hnn]; omega
      have f2 : VDs (rcOf c.M0 E L w).rd (u8s bs.data.toList).flatten ((bs.data.map (fun b => Value.int .u8 b.toNat) ++ Builtin.zeroCells ei.zero.cells (grownCap w n 0 e' - n)).toList.take ((u8s bs.data.toList).length * 1)) := by
        have e0 : (bs.data.map (fun b => Value.int .u8 b.toNat)).toList = Lib.strCells bs := by simp [Lib.strCells]
        rw [Array.toList_append, e0, hul, Nat.mul_one]
        rw [List.take_append_of_le_length (by omega), List.take_of_length_le (by omega)]
        exact l1
      have kk : Keeps w (w.drew.alloc (.cells (bs.data.map (fun b => Value.int .u8 b.toNat) ++ Builtin.zeroCells ei.zero.cells (grownCap w n 0 e' - n)) e')) := (Keeps.drew w).trans (Keeps.alloc w.drew _)
      obtain ⟨hs', hle⟩ := hk.newRow hc kk (e := e') (xs := u8s bs.data.toList) sh hRN l4 (heap_alloc_new w.drew _) f1 (by rw [hul]; exact hge) hcm (VDs.mono hkle.rd f2)
      rw [hklen] at hs' hle
      refine ⟨_, _, _, _, _, hr, h3, hs', tr hle, ?_⟩
      rw [← hklen]
      have := rc_arr_new (M0 := c.M0) (E := E) (L := L.set j .dead) (e := e') (n := 1) (xs := u8s bs.data.toList) (sh := sh) (heap_alloc_new w.drew (.cells (bs.data.map (fun b => Value.int .u8 b.toNat) ++ Builtin.zeroCells ei.zero.cells (grownCap w n 0 e' - n)) e')) f1
      rwa [hul] at this
  | some b =>
    rw [hE] at hbr2 hrel
    obtain ⟨cap, cur, rfl, hh, hsz⟩ := hrel
    obtain ⟨cap', cur', hh', hsz', hxc, hxm, hvx⟩ := hbr2
    rw [hh] at hh'; cases hh'
    have ecap : cap = cap' := by omega
    subst ecap
    rw [Nat.mul_one] at hsz hvx
    have hzsl : (xs ++ u8s bs.data.toList).length = xs.length + n := by rw [List.length_append, hul]
    have hall : ∀ cs ∈ xs ++ u8s bs.data.toList, cs.length = 1 := by
      intro cs hcs
      rcases List.mem_append.1 hcs with h | h
      · exact hxlen cs h
      · exact l4 cs h
    have hxcl : (cur.toList.take xs.length).length = xs.length := by rw [List.length_take, Array.length_toList (xs := cur)]; omega
    rcases Nat.eq_zero_or_pos n with hn0 | hnp
    · rw [hys hn0, List.append_nil] at h3
      obtain ⟨hs', hle⟩ := hs.relabel hab (zs := xs) (Nat.le_refl _) (hs.blk j _ hab)
      refine ⟨_, _, _, _, _, run_append_string_none w t t' ty e' info hu htn k1 _ _ _ hxc bs (by omega), h3, hs', hle, ?_⟩
      rw [hE]
      have := rc_arr_new (M0 := c.M0) (E := E) (L := L.set j .dead) (w := w) (e := e') (n := 1) (xs := xs) (sh := sh) hh (by omega : cur.size = cap * 1)
      rw [hklen] at this
      exact this
    · by_cases hroom : xs.length + n ≤ cap
      · have hr := Lib.run_append_room_string (P := P) w t t' ty e' info hu htn k1 hinfo1 b xs.length cap cur hh bs (by omega) (by omega)
        rw [hnn] at hr
        have htk : (cur.toList.take xs.length ++ Lib.strCells bs ++ cur.toList.drop (xs.length + n)).toArray.toList.take (xs.length * 1) = cur.toList.take (xs.length * 1) := by
          simp only [List.append_assoc, Nat.mul_one]
          rw [List.take_append_of_le_length (by omega), List.take_take, Nat.min_self]
        have hsize : (cur.toList.take xs.length ++ Lib.strCells bs ++ cur.toList.drop (xs.length + n)).toArray.size = cur.size := by
          simp only [List.size_toArray, List.length_append, List.length_take, List.length_drop, Array.length_toList, hsc]; omega
        obtain ⟨hs1, hle1⟩ := hs.write hab hE hh (cur' := (cur.toList.take xs.length ++ Lib.strCells bs ++ cur.toList.drop (xs.length + n)).toArray) hsize htk
        have hh1 := setRow_heap w b cur (cur.toList.take xs.length ++ Lib.strCells bs ++ cur.toList.drop (xs.length + n)).toArray e' (0, 0) hh
        have hsz1 : (cur.toList.take xs.length ++ Lib.strCells bs ++ cur.toList.drop (xs.length + n)).toArray.size = cap * 1 := by omega
        obtain ⟨hs2, hle2⟩ := hs1.relabel hab (zs := xs ++ u8s bs.data.toList) (by simp) (by
          rw [hE]
          refine ⟨hRN, hall, cap, _, hh1, hsz1, by omega, hxm, ?_⟩
          rw [List.flatten_append]
          refine VDs.mono hle1.rd ?_
          have e1 : (cur.toList.take xs.length ++ Lib.strCells bs ++ cur.toList.drop (xs.length + n)).toArray.toList.take ((xs ++ u8s bs.data.toList).length * 1) = cur.toList.take xs.length ++ Lib.strCells bs := by
            have : (xs ++ u8s bs.data.toList).length * 1 = (cur.toList.take xs.length ++ Lib.strCells bs).length := by
              rw [hzsl, Nat.mul_one, List.length_append, hxcl, hsc]
            rw [this]
            exact List.take_left
          rw [e1]
          exact Cs_append hvx l1)
        refine ⟨_, _, _, _, _, hr, h3, hs2, (hle1.trans hle2), ?_⟩
        rw [hE]
        have := rc_arr_new (M0 := c.M0) (E := E) (L := L.set j .dead) (e := e') (n := 1) (xs := xs ++ u8s bs.data.toList) (sh := sh) hh1 hsz1
        rw [hklen, hzsl] at this
        exact this
      · have holds : ∀ i u, (cur.toList.take xs.length)[i]? = some u → w.cell? ((⟨b, 0, none⟩ : Addr).add i) = some u := by
          intro i u hi
          rw [add_lit _ rfl, Nat.zero_add, cell_of_row w b i cur e' (0, 0) hh]
          rw [List.getElem?_take] at hi
          split at hi
          · simpa using hi
          · cases hi
        have hr := Lib.run_append_grow_string (P := P) w t t' ty e' info ei.zero hu htn k1 k2 ⟨b, 0, none⟩ xs.length cap (cur.toList.take xs.length) (by rw [hxcl, hinfo1, Nat.mul_one]) holds bs (by omega) (by omega)
          (by rw [k4, hnn]; exact growslice_fits (by omega) hbound)
        rw [hnn] at hr
        have hge := grownCap_ge w (xs.length + n) cap e'
        have hcm := grownCap_le_maxLen w (xs.length + n) cap e' (by unfold maxLen; omega)
        have f1 : ((cur.toList.take xs.length).toArray ++ (Lib.strCells bs).toArray ++ Builtin.zeroCells ei.zero.cells (grownCap w (xs.length + n) cap e' - (xs.length + n))).size = grownCap w (xs.length + n) cap e' * 1 := by
          rw [Array.size_append, Array.size_append, size_zeroCells, hz0, List.size_toArray, List.size_toArray, hxcl, hsc]; omega
        have f2 : VDs (rcOf c.M0 E L w).rd (xs ++ u8s bs.data.toList).flatten (((cur.toList.take xs.length).toArray ++ (Lib.strCells bs).toArray ++ Builtin.zeroCells ei.zero.cells (grownCap w (xs.length + n) cap e' - (xs.length + n))).toList.take ((xs ++ u8s bs.data.toList).length * 1)) := by
          rw [Array.toList_append, Array.toList_append, hzsl, Nat.mul_one]
          have hll : (cur.toList.take xs.length ++ Lib.strCells bs).length = xs.length + n := by rw [List.length_append, hxcl, hsc]
          rw [show (cur.toList.take xs.length).toArray.toList = cur.toList.take xs.length from rfl, show (Lib.strCells bs).toArray.toList = Lib.strCells bs from rfl, List.take_append_of_le_length (by omega), List.take_of_length_le (by omega), List.flatten_append]
          exact Cs_append hvx l1
        have kk : Keeps w (w.drew.alloc (.cells ((cur.toList.take xs.length).toArray ++ (Lib.strCells bs).toArray ++ Builtin.zeroCells ei.zero.cells (grownCap w (xs.length + n) cap e' - (xs.length + n))) e')) := (Keeps.drew w).trans (Keeps.alloc w.drew _)
        obtain ⟨hs', hle⟩ := hk.newRow hc kk (e := e') (xs := xs ++ u8s bs.data.toList) sh hRN hall (heap_alloc_new w.drew _) f1 (by rw [hzsl]; exact hge) hcm (VDs.mono hkle.rd f2)
        rw [hklen] at hs' hle
        refine ⟨_, _, _, _, _, hr, h3, hs', tr hle, ?_⟩
        rw [← hklen, ← hzsl]
        exact rc_arr_new (heap_alloc_new w.drew _) (by rw [hzsl]; exact f1)
def appendXK (tt : TypeId → Option TI) (t t' : TypeId) (L : List AB) (s x : AV) (K : AV → List AB → Prop) : Prop :=
  ttK tt t' fun ni => bif isStrD ni.desc then appendSK tt t t' L s x K else appendZK tt t t' L s x K
theorem appendXK_ok {P : Program} {tt : TypeId → Option TI} (ht : TTok P tt) (hzo : ∀ e ei, tt e = some ei → ei.zero.cells.size = ei.size) {t t' : TypeId} {c : Ctx} (hc : c.wf) {E : Nat → Option Nat} {L : List AB} {w : World} (hs : SimH c E L w) {s x : AV} {K : AV → List AB → Prop} (h : appendXK tt t t' L s x K) (ty : TypeId)
    {v u : Value} (hv : VR (rcOf c.M0 E L w) s v) (hu' : VR (rcOf c.M0 E L w) x u) :
    ∃ r w' E' av L', (Builtin.append_ #[t, t'] ty #[v, u]).run P w = .ok r w' ∧ K av L' ∧ SimH c E' L' w' ∧ (rcOf c.M0 E L w).le (rcOf c.M0 E' L' w') ∧ VR (rcOf c.M0 E' L' w') av r := by
  obtain ⟨ni, _, h1⟩ := ttK_ok h
  cases hb : isStrD ni.desc with
  | true => rw [hb] at h1; exact appendSK_ok ht hzo hc hs h1 ty hv hu'
  | false => rw [hb] at h1; exact appendZK_ok ht hc hs h1 ty hv hu'
end
end Go.Ab
namespace Go.Ab
noncomputable section
open Go.RowKit
def makeSliceK (tt : TypeId → Option TI) (t : TypeId) (l c : AV) (L : List AB) (K : AV → List AB → Prop) : Prop :=
  ttK tt t fun i => match sliceElem i.desc with
    | some e => ttK tt e fun ei => bif Nat.beq ei.size 1 then zeroDK ei.zero fun d => match l with
        | .d (.int _ n) => match c with
          | .d (.int _ m) => n = m ∧ 0 ≤ n ∧ n.toNat * ei.bytes ≤ 140737488355328 ∧ n ≤ 140737488355328 ∧ lpushK L (.row e 1 (List.replicate n.toNat [d]) false) 0 fun j L' => K (.arr j) L'
          | _ => False
        | _ => False
      else False
    | none => False
theorem madeCells_one (v : Value) (n : Nat) : (madeCells #[v] n).toList = List.replicate n v := by
  unfold madeCells
  apply List.ext_getElem
  · simp
  · intro k h1 h2
    simp [Nat.mod_one]
theorem makeSliceK_ok {P : Program} {tt : TypeId → Option TI} (ht : TTok P tt) {t : TypeId} {c : Ctx} (hc : c.wf) {E : Nat → Option Nat} {L : List AB} {w : World} (hs : SimH c E L w) {x y : AV} {K : AV → List AB → Prop} (h : makeSliceK tt t x y L K)
    {v u : Value} (hv : VR (rcOf c.M0 E L w) x v) (hu' : VR (rcOf c.M0 E L w) y u) :
    ∃ r w' E' av L', (Instr.makeSlice t v u).run P w = .ok r w' ∧ K av L' ∧ SimH c E' L' w' ∧ (rcOf c.M0 E L w).le (rcOf c.M0 E' L' w') ∧ VR (rcOf c.M0 E' L' w') av r := by
  unfold makeSliceK at h
  replace h := ttK_ok h
  obtain ⟨i, hi, h⟩ := h
  split at h
  rotate_left
  · exact h.elim
  rename_i e he
  replace h := ttK_ok h
  obtain ⟨ei, hei, h⟩ := h
  have hd : i.desc = .slice e := by
    revert he
    cases i.desc <;> simp [sliceElem]
  obtain ⟨hu, _⟩ := ht t i hi
  rw [hd] at hu
  obtain ⟨_, info, k1, k2, k3, k4⟩ := ht e ei hei
  cases hb0 : (Nat.beq ei.size 1) with
  | false => rw [hb0] at h; exact h.elim
  | true =>
  rw [hb0] at h
  simp only [cond_true] at h
  have hsz1 := Nat.eq_of_beq_eq_true hb0
  have hRN : RN e 1 := ⟨by omega, by rw [ht.sz e ei hei]; exact hsz1⟩
  replace h := zeroDK_ok h
  obtain ⟨d, h, hzc, hz1, hzd⟩ := h
  split at h
  rotate_left
  · exact h.elim
  rename_i kq n
  simp only [VR, VD] at hv
  subst hv
  split at h
  rotate_left
  · exact h.elim
  rename_i kq' m
  simp only [VR, VD] at hu'
  subst hu'
  obtain ⟨rfl, hn0, hbound, hn1, h⟩ := h
  obtain ⟨n, rfl⟩ := Int.eq_ofNat_of_zero_le hn0
  simp only [Int.toNat_natCast] at hbound h
  have h3 := lpushK_ok h
  rw [Nat.zero_add] at h3
  have hby : (info.bytes : Int) * (n : Int) ≤ 281474976710656 := by
    have h : ((info.bytes * n : Nat) : Int) ≤ 281474976710656 := by rw [k4, Nat.mul_comm]; omega
    rwa [Int.natCast_mul] at h
  have hr := run_make (P := P) w t e info ei.zero hu k1 k2 kq kq' (n : Int) (n : Int) hn0 (Int.le_refl _) hby (by omega)
  simp only [Int.toNat_natCast] at hr
  rw [hzc, k3, hsz1, Nat.mul_one] at hr
  have hml : (madeCells #[ei.zero] n).size = n * 1 := by rw [← Array.length_toList, madeCells_one]; simp
  obtain ⟨hs', hle⟩ := hs.newRow hc (Keeps.alloc w (.cells (madeCells #[ei.zero] n) e)) (e := e) (cap := n) (xs := List.replicate n [d]) false hRN (by intro cs hcs; rw [(List.mem_replicate.1 hcs).2]; rfl) (heap_alloc_new w _) hml (by simp) (by unfold maxLen; omega) (by
    rw [madeCells_one, List.length_replicate, Nat.mul_one, List.take_of_length_le (by simp)]
    exact VDs_replicate hz1 (hzd _) n)
  refine ⟨_, _, _, _, _, hr, h3, hs', hle, ?_⟩
  have := rc_arr_new (M0 := c.M0) (E := E) (L := L) (e := e) (n := 1) (xs := List.replicate n [d]) (sh := false) (heap_alloc_new w (.cells (madeCells #[ei.zero] n) e)) hml
  rwa [List.length_replicate] at this
end
end Go.Ab
namespace Go.Ab
noncomputable section
open Go.RowKit
def shpA : AV → Bool
  | .d (.int _ _) => true
  | _ => false
def shpL (xs : List AV) : List Bool := List.rec (motive := fun _ => List Bool) [] (fun x _ ih => shpA x :: ih) xs
def fldB (P : Program) (b : Bool) (t : TypeId) : Bool :=
  match P.underlying t with
  | some (.int _) => b
  | some .string => !b
  | _ => false
def flatB (P : Program) : List Field → Nat → List Bool → Bool
  | [], _, [] => true
  | f :: r, n, b :: l => decide (f.name ≠ "_") && Nat.beq f.offset n && fldB P b f.type && flatB P r (n + 1) l
  | _, _, _ => false
def eqOkB (P : Program) (t : TypeId) (l : List Bool) : Bool :=
  (match P.underlying t with | some (.struct fs) => flatB P fs.toList 0 l | _ => false) && !(P.eqGuardType P.depth t) && !(P.stoodInHeld t)
def eqcK (x y : AV) (K : Bool → Prop) : Prop :=
  match x, y with
  | .d (.int k a), .d (.int k' b) => bif keq k k' then K (a == b) else False
  | .d (.str a), .d (.str b) => K (a.toList == b.toList)
  | _, _ => False
def eqsK (xs ys : List AV) (K : Bool → Prop) : Prop :=
  List.rec (motive := fun _ => List AV → (Bool → Prop) → Prop) (fun ys K => match ys with | [] => K true | _ => False)
    (fun x _ ih ys K => match ys with | [] => False | y :: r => eqcK x y fun b => ih r fun c => K (b && c)) xs ys K
def isAggA (x : AV) : Bool :=
  match x with
  | .agg _ => true
  | _ => false
def aggK (P : Program) (op : BinOp) (t : TypeId) (x y : AV) (K : AV → Prop) : Prop :=
  match x, y with
  | .agg xs, .agg ys =>
    match op with
    | .eql => eqOkB P t (shpL xs) = true ∧ eqsK xs ys fun b => K (.d (.bool b))
    | .neq => eqOkB P t (shpL xs) = true ∧ eqsK xs ys fun b => K (.d (.bool (!b)))
    | _ => False
  | _, _ => False
theorem eqcK_ok {P : Program} {w : World} {R : RC} {x y : AV} {K : Bool → Prop} (h : eqcK x y K) {u v : Value} (hu : VR R x u) (hv : VR R y v) {t : TypeId} (hf : fldB P (shpA x) t = true) (d : Nat) :
    ∃ b, (Op.equalIn (d + 1) t u v).run P w = .ok b w ∧ K b := by
  unfold eqcK at h
  split at h
  · rename_i k a k' b
    simp only [VR, VD] at hu hv
    subst hu; subst hv
    cases hk : keq k k' with
    | false => rw [hk] at h; exact h.elim
    | true =>
      rw [hk] at h
      have := keq_eq hk
      subst this
      unfold fldB at hf
      split at hf
      · rename_i k2 hu2
        exact ⟨_, run_equalIn_int w d t k k2 a b hu2, h⟩
      · simp [shpA] at hf
      · cases hf
  · rename_i a b
    simp only [VR, VD] at hu hv
    subst hu; subst hv
    unfold fldB at hf
    split at hf
    · simp [shpA] at hf
    · rename_i hu2
      exact ⟨_, run_equalIn_string w d t a b hu2, h⟩
    · cases hf
  · exact h.elim
theorem run_part_flat {P : Program} {w : World} {e : TypeId} {b : Bool} (he : fldB P b e = true) {xs : Array Value} {off : Nat} {v : Value} (hx : xs[off]? = some v) : (part e xs off).run P w = .ok v w := by
  unfold fldB at he
  split at he
  · rename_i hu
    simp [part, isAgg, run_underlying hu, hx]
  · rename_i hu
    simp [part, isAgg, run_underlying hu, hx]
  · cases he
theorem drop_cons_at {α : Type} {l r : List α} {n : Nat} {u : α} (h : l.drop n = u :: r) : l[n]? = some u ∧ l.drop (n + 1) = r := by
  have h1 : l[n]? = some u := by
    have := congrArg (fun x => x[0]?) h
    simpa using this
  refine ⟨h1, ?_⟩
  have := congrArg (List.drop 1) h
  simpa [List.drop_drop, Nat.add_comm] using this
theorem eqFields_ok {P : Program} {w : World} {R : RC} {U V : Array Value} (d : Nat) : ∀ {fs : List Field} {n : Nat} {xs ys : List AV} {K : Bool → Prop}, flatB P fs n (shpL xs) = true → VRs R xs (U.toList.drop n) → VRs R ys (V.toList.drop n) → eqsK xs ys K →
    ∃ b, (Op.eqFields (d + 1) U V fs).run P w = .ok b w ∧ K b
  | [], n, [], ys, K, hf, hu, hv, h => by
    cases ys with
    | nil => exact ⟨true, rfl, h⟩
    | cons y r => exact (show False from h).elim
  | [], n, x :: xs, ys, K, hf, hu, hv, h => by cases hf
  | f :: r, n, [], ys, K, hf, hu, hv, h => by cases hf
  | f :: r, n, x :: xs, [], K, hf, hu, hv, h => (show False from h).elim
  | f :: r, n, x :: xs, y :: ys, K, hf, hu, hv, h => by
    replace hf : (decide (f.name ≠ "_") && Nat.beq f.offset n && fldB P (shpA x) f.type && flatB P r (n + 1) (shpL xs)) = true := hf
    simp only [Bool.and_eq_true, decide_eq_true_iff] at hf
    obtain ⟨⟨⟨f1, f2⟩, f3⟩, f4⟩ := hf
    have f2 := Nat.eq_of_beq_eq_true f2
    simp only [VRs] at hu hv
    obtain ⟨u, us', eu, _, hu1, hu2⟩ := hu
    obtain ⟨v, vs', ev, _, hv1, hv2⟩ := hv
    obtain ⟨a1, a2⟩ := drop_cons_at eu
    obtain ⟨b1, b2⟩ := drop_cons_at ev
    replace h : eqcK x y fun b => eqsK xs ys fun c => K (b && c) := h
    obtain ⟨b, hb, hk⟩ := eqcK_ok (P := P) (w := w) h hu1 hv1 f3 d
    obtain ⟨c, hc, hkc⟩ := eqFields_ok (P := P) (w := w) (R := R) (U := U) (V := V) d f4 (by rw [a2]; exact hu2) (by rw [b2]; exact hv2) hk
    have p1 : (part f.type U f.offset).run P w = .ok u w := run_part_flat f3 (by rw [f2, ← Array.getElem?_toList]; exact a1)
    have p2 : (part f.type V f.offset).run P w = .ok v w := run_part_flat f3 (by rw [f2, ← Array.getElem?_toList]; exact b1)
    cases b with
    | true =>
      refine ⟨c, ?_, by simpa using hkc⟩
      simp only [Op.eqFields, if_pos f1, Sem.run_bind, p1, p2, Result.andThen_ok, hb, Bool.not_true, Bool.false_eq_true, if_false]
      exact hc
    | false =>
      refine ⟨false, ?_, by simpa using hkc⟩
      simp only [Op.eqFields, if_pos f1, Sem.run_bind, p1, p2, Result.andThen_ok, hb, Bool.not_false, if_true]
      rfl
theorem aggK_ok {P : Program} {w : World} {R : RC} {op : BinOp} {t : TypeId} {x y : AV} {K : AV → Prop} (h : aggK P op t x y K) {u v : Value} (hu : VR R x u) (hv : VR R y v) (xo yo : Operand) :
    ∃ r av, (eqGuard op t xo yo u v).run P w = .ok () w ∧ (binOp op t u v).run P w = .ok r w ∧ K av ∧ ∀ R, VR R av r := by
  unfold aggK at h
  split at h
  · rename_i xs ys
    simp only [VR] at hu hv
    obtain ⟨us, rfl, hu⟩ := hu
    obtain ⟨vs, rfl, hv⟩ := hv
    have key : ∀ K', eqOkB P t (shpL xs) = true → eqsK xs ys K' → ∃ b, (∀ op, (eqGuard op t xo yo (.agg us) (.agg vs)).run P w = .ok () w) ∧ (Op.equalIn 10000 t (.agg us) (.agg vs)).run P w = .ok b w ∧ K' b := by
      intro K' h1 h2
      unfold eqOkB at h1
      simp only [Bool.and_eq_true, Bool.not_eq_true'] at h1
      obtain ⟨⟨h1, h3⟩, h4⟩ := h1
      split at h1
      · rename_i fs hfs
        have hfo : P.fieldsOf t = fs := by rw [Program.fieldsOf, hfs]
        obtain ⟨b, hb, hk⟩ := eqFields_ok (P := P) (w := w) (R := R) (U := us) (V := vs) 9998 h1 (by simpa using hu) (by simpa using hv) h2
        refine ⟨b, fun op => run_eqGuard_agg w op t xo yo us vs h3, ?_, hk⟩
        rw [show (10000 : Nat) = 9999 + 1 from rfl, run_equalIn_agg w 9999 t us vs (by rw [hfo]; exact hfs) h4, hfo]
        exact hb
      · cases h1
    split at h
    · obtain ⟨b, g1, g2, g3⟩ := key _ h.1 h.2
      exact ⟨.bool b, _, g1 _, by rw [run_eql_struct, g2]; rfl, g3, fun R => by simp [VR, VD]⟩
    · obtain ⟨b, g1, g2, g3⟩ := key _ h.1 h.2
      exact ⟨.bool (!b), _, g1 _, by rw [run_neq_struct, g2]; rfl, g3, fun R => by simp [VR, VD]⟩
    · exact h.elim
  · exact h.elim
end
end Go.Ab
