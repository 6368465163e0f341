/- Part of the proof of AuditShuffles: what an abstract run of the code shows of its runs. -/
import Derived.Test.YtoeppembokpjkaaGreatAuditShufflesLayB
import Derived.Laws.BytesString
import Derived.MapKept
import GoSem.Instr.MapUpdate

set_option linter.unusedVariables false
set_option linter.unusedSimpArgs false
namespace Go.Ab
noncomputable section
open Go.RowKit

/-! ## a store into an element of a row of the call's own -/
def dputK (cs : List DV) : Nat → List DV → (List DV → Prop) → Prop :=
  List.rec (motive := fun _ => Nat → List DV → (List DV → Prop) → Prop) (fun _ vs K => List.rec (motive := fun _ => Prop) (K []) (fun _ _ _ => False) vs)
    (fun c r ih n vs => List.rec (motive := fun _ => (List DV → Prop) → Prop) (fun K => K (c :: r)) (fun v vs' _ => Nat.rec (motive := fun _ => (List DV → Prop) → Prop) (fun K => ih 0 vs' fun l => K (v :: l)) (fun m _ K => ih m (v :: vs') fun l => K (c :: l)) n) vs) cs
theorem dputK_ok : ∀ {cs : List DV} {n : Nat} {vs : List DV} {K : List DV → Prop}, dputK cs n vs K → (vs = [] ∨ n + vs.length ≤ cs.length) ∧ K (overD cs n vs)
  | [], n, [], K, h => ⟨.inl rfl, by
      have : overD ([] : List DV) n [] = [] := by simp [overD]
      rw [this]; exact h⟩
  | [], _, _ :: _, _, h => h.elim
  | c :: cs, n, [], K, h => ⟨.inl rfl, by
      have : overD (c :: cs) n [] = c :: cs := by simp [overD]
      rw [this]; exact h⟩
  | c :: cs, 0, v :: vs, K, h => by
    obtain ⟨h1, h2⟩ := dputK_ok (cs := cs) (n := 0) (vs := vs) (K := fun l => K (v :: l)) h
    refine ⟨.inr ?_, ?_⟩
    · rcases h1 with rfl | h1 <;> simp <;> omega
    · have : overD (c :: cs) 0 (v :: vs) = v :: overD cs 0 vs := by simp [overD]
      rw [this]; exact h2
  | c :: cs, n + 1, v :: vs, K, h => by
    obtain ⟨h1, h2⟩ := dputK_ok (cs := cs) (n := n) (vs := v :: vs) (K := fun l => K (c :: l)) h
    refine ⟨.inr ?_, ?_⟩
    · rcases h1 with h1 | h1
      · cases h1
      · simp at h1 ⊢; omega
    · have e : n + 1 + (v :: vs).length = (n + (v :: vs).length) + 1 := by omega
      have : overD (c :: cs) (n + 1) (v :: vs) = c :: overD cs n (v :: vs) := by
        unfold overD
        rw [e, List.take_succ_cons, List.drop_succ_cons]; rfl
      rw [this]; exact h2

theorem overD_flatten (n : Nat) : ∀ {xs : List (List DV)}, (∀ cs ∈ xs, cs.length = n) → ∀ {k off : Nat} {cs ds : List DV}, xs[k]? = some cs → off + ds.length ≤ n → (xs.set k (overD cs off ds)).flatten = overD xs.flatten (k * n + off) ds
  | [], _, k, off, cs, ds, h, _ => by simp at h
  | c :: r, hl, 0, off, cs, ds, h, hle => by
    simp at h; subst h
    have hc : c.length = n := hl c (by simp)
    simp only [List.set_cons_zero, List.flatten_cons, Nat.zero_mul, Nat.zero_add, overD]
    rw [List.take_append_of_le_length (by omega), List.drop_append_of_le_length (by omega)]
    simp [List.append_assoc]
  | c :: r, hl, k + 1, off, cs, ds, h, hle => by
    have hc : c.length = n := hl c (by simp)
    have ih := overD_flatten n (xs := r) (fun x hx => hl x (by simp [hx])) (k := k) (off := off) (cs := cs) (ds := ds) (by simpa using h) hle
    rw [List.set_cons_succ, List.flatten_cons, ih, List.flatten_cons]
    unfold overD
    have e : (k + 1) * n + off = c.length + (k * n + off) := by rw [hc, Nat.add_mul]; omega
    have e2 : c.length + (k * n + off) + ds.length = c.length + (k * n + off + ds.length) := by omega
    rw [e, e2, List.take_append, List.drop_append, List.take_of_length_le (show c.length ≤ c.length + (k * n + off) by omega), List.drop_eq_nil_of_le (show c.length ≤ c.length + (k * n + off + ds.length) by omega)]
    simp only [Nat.add_sub_cancel_left, List.nil_append, List.append_assoc]

/-- a row whose cells may be written turns to another one -/
theorem SimH.rewrite {c : Ctx} {E : Nat → Option Nat} {L : List AB} {w : World} (h : SimH c E L w) {i e n : Nat} {xs zs : List (List DV)} (hi : L[i]? = some (.row e n xs false)) {b : Nat} (hb : E i = some b)
    {cur cur' : Array Value} (hh : w.heap[b]? = some (.cells cur e (0, 0))) (hs : cur'.size = cur.size) (hz : zs.length = xs.length) (hn : ∀ cs ∈ zs, cs.length = n)
    (hv : VDs (rcOf c.M0 E L w).rd zs.flatten (cur'.toList.take (zs.length * n))) :
    SimH c E (L.set i (.row e n zs false)) (w.setRow b cur') ∧ (rcOf c.M0 E L w).le (rcOf c.M0 E (L.set i (.row e n zs false)) (w.setRow b cur')) := by
  have k : TurnsE (E i) w (w.setRow b cur') := by rw [hb]; exact (Turns.setRow w b cur').toE
  have hle : (rcOf c.M0 E L w).le (rcOf c.M0 E (L.set i (.row e n zs false)) (w.setRow b cur')) := by
    refine le_set h hi rfl k (fun o hm => ?_) ?_ rfl ?_ ?_ (fun _ hb => hb)
    · intro hf; cases hf
    · intro b' o u hb' hnm hc
      exact absurd (fun hf => by cases hf) hnm
    · intro v hv
      simp only [arRel, hb] at hv ⊢
      obtain ⟨cap, cur2, h1, h2, h3⟩ := hv
      rw [hh] at h2; cases h2
      exact ⟨cap, cur', by rw [h1, hz], setRow_heap w b cur cur' e (0, 0) hh, by rw [hs]; exact h3⟩
    · intro j o v hv
      simp only [apRel] at hv ⊢
      exact hv
  refine ⟨h.setE hi rfl k hle rfl ?_ rfl, hle⟩
  have hbr := h.blk i _ hi
  obtain ⟨hn0, hl, h3⟩ := hbr
  refine ⟨hn0, hn, ?_⟩
  rw [hb] at h3 ⊢
  obtain ⟨cap, cur2, h4, h5, h6, h7, h8⟩ := h3
  rw [hh] at h4; cases h4
  exact ⟨cap, cur', setRow_heap w b cur cur' e (0, 0) hh, by rw [hs]; exact h5, by rw [hz]; exact h6, h7, VDs.mono hle.rd hv⟩

def storeApK (tt : TypeId → Option TI) (t : TypeId) (i : TI) (L : List AB) (j k off : Nat) (v : AV) (K : List AB → Prop) : Prop :=
  bif cellsB i.size v then toDsK (cellsOf v) L fun ds L1 => normNs (cellNs tt 6 t) i.size ds 0 fun ds => lgetK L1 j fun ab => match ab with
    | .row e n xs sh => match sh with
      | true => False
      | false => ∃ cs, xs[k]? = some cs ∧ dputK cs off ds fun cs' => lsetK L1 j (.row e n (xs.set k cs') false) K
    | _ => False
  else False

theorem storeApK_ok {P : Program} {tt : TypeId → Option TI} (ht : TTok P tt) {t : TypeId} {i : TI} (hi : tt t = some i) {c : Ctx} (hc : c.wf) {E : Nat → Option Nat} {L : List AB} {w : World} (hs : SimH c E L w)
    {j k off : Nat} {v : AV} {K : List AB → Prop} (h : storeApK tt t i L j k off v K) {p u : Value} (hp : VR (rcOf c.M0 E L w) (.ap j k off) p) (hu : VR (rcOf c.M0 E L w) v u) :
    ∃ w' L', (Instr.storeAt t p u).run P w = .ok () w' ∧ K L' ∧ SimH c E L' w' ∧ (rcOf c.M0 E L w).le (rcOf c.M0 E L' w') := by
  unfold storeApK at h
  cases hsz : cellsB i.size v with
  | false => rw [hsz] at h; exact h.elim
  | true =>
    rw [hsz] at h
    simp only [cond_true] at h
    obtain ⟨hlen, hne⟩ := cellsB_ok hsz
    have hcs := cellsOf_ok hne hu
    obtain ⟨hu', info, k1, k2, k3, k4⟩ := ht t i hi
    obtain ⟨ds0, L1, h1, hL1, hs1, hle1, hds0⟩ := toDsK_ok hc hs h hcs
    obtain ⟨ds, h2, hdl, hds⟩ := normNs_ok _ _ h1
    replace hds := hds _ _ hds0
    obtain ⟨ab, hab, h3⟩ := lgetK_ok h2
    cases ab with
    | row e n xs sh =>
      cases sh with
      | true => exact h3.elim
      | false =>
        obtain ⟨cs, hxk, h4⟩ := h3
        obtain ⟨hov, h5⟩ := dputK_ok h4
        have h6 := lsetK_ok h5
        have hp1 := VR.mono hle1 _ _ hp
        simp only [VR] at hp1
        obtain ⟨ab', hab', hr⟩ := hp1
        rw [hab] at hab'; cases hab'
        obtain ⟨b, hb, rfl⟩ := hr
        have hbr := hs1.blk j _ hab
        obtain ⟨hn0, hl, hb3⟩ := hbr
        rw [hb] at hb3
        obtain ⟨cap, cur, hh, hcs2, hcap, hmax, hvd⟩ := hb3
        have hul : u.cells.toList.length = ds.length := by rw [hdl, ← Cs_length hds0]
        have hcl : cs.length = n := hl cs (List.mem_of_getElem? hxk)
        have hk : k < xs.length := (List.getElem?_eq_some_iff.1 hxk).1
        have hfit : ds = [] ∨ off + ds.length ≤ n := by rw [← hcl]; exact hov
        have hbase : k * n + n ≤ xs.length * n := by
          have := Nat.mul_le_mul_right n (show k + 1 ≤ xs.length from hk)
          rw [Nat.add_mul, Nat.one_mul] at this; exact this
        have hcapn : xs.length * n ≤ cap * n := Nat.mul_le_mul_right n hcap
        have hu1 : u.cells.size = i.size := by rw [← Array.length_toList, ← hlen]; exact VRs_length hcs
        rcases hfit with hnil | hfit
        · -- nothing is written
          have hu0 : u.cells.toList = [] := List.eq_nil_of_length_eq_zero (by rw [hul, hnil]; rfl)
          have hov0 : overD cs off ds = cs := by rw [hnil]; simp [overD]
          have hxs : xs.set k (overD cs off ds) = xs := by
            rw [hov0]
            apply List.ext_getElem?
            intro m
            by_cases hm : m = k
            · subst hm; rw [getElem?_set_same hxk, hxk]
            · rw [getElem?_set_other hm]
          rw [hxs] at h6
          have hLs : L1.set j (.row e n xs false) = L1 := by
            apply List.ext_getElem?
            intro m
            by_cases hm : m = j
            · subst hm; rw [getElem?_set_same hab, hab]
            · rw [getElem?_set_other hm]
          rw [hLs] at h6
          refine ⟨w, L1, ?_, h6, hs1, hle1⟩
          have hu2 : u.cells.size = 0 := by rw [← Array.length_toList, hu0]; rfl
          have hz : i.size = 0 := by rw [← hu1, hu2]
          simp only [Instr.storeAt, Instr.sureAddr, storeVar, Sem.run_bind, Sem.run_pure, Result.andThen_ok, run_sizeOf k1, k3, hz, hu2, hu0]
          rfl
        · have hst := run_storeCells_at P b (k * n + off) e u.cells.toList 0 cur w hh (by rw [hul, hcs2]; omega) (VRs_one hcs)
          simp only [Nat.add_zero] at hst
          have hF := overD_flatten n hl hxk hfit
          have hlen' : ∀ cs' ∈ xs.set k (overD cs off ds), cs'.length = n := by
            intro cs' hm
            rcases List.mem_or_eq_of_mem_set hm with hm | rfl
            · exact hl cs' hm
            · simp only [overD, List.length_append, List.length_take, List.length_drop, hcl]; omega
          have hcurl : cur.toList.length = cap * n := by rw [Array.length_toList, hcs2]
          have hvs' : VDs (rcOf c.M0 E L1 w).rd (xs.set k (overD cs off ds)).flatten ((cur.toList.take (k * n + off) ++ u.cells.toList ++ cur.toList.drop (k * n + off + u.cells.toList.length)).take (xs.length * n)) := by
            rw [hF]
            have e1 : (cur.toList.take (k * n + off) ++ u.cells.toList ++ cur.toList.drop (k * n + off + u.cells.toList.length)).take (xs.length * n) =
                (cur.toList.take (xs.length * n)).take (k * n + off) ++ u.cells.toList ++ (cur.toList.take (xs.length * n)).drop (k * n + off + ds.length) := by
              rw [List.take_take, Nat.min_eq_left (by omega), List.drop_take, hul, List.take_append]
              have hl1 : (cur.toList.take (k * n + off) ++ u.cells.toList).length = k * n + off + ds.length := by
                rw [List.length_append, List.length_take, hul, Nat.min_eq_left (by omega)]
              rw [hl1, List.take_of_length_le (by rw [hl1]; omega)]
            rw [e1]
            unfold overD
            exact Cs_append (Cs_append (Cs_take _ hvd) hds) (Cs_drop _ hvd)
          have hz2 : (xs.set k (overD cs off ds)).length = xs.length := by simp
          obtain ⟨hs', hle⟩ := hs1.rewrite hab hb hh (zs := xs.set k (overD cs off ds)) (cur' := (cur.toList.take (k * n + off) ++ u.cells.toList ++ cur.toList.drop (k * n + off + u.cells.toList.length)).toArray)
            (by
              rw [List.size_toArray, List.length_append, List.length_append, List.length_take, List.length_drop, hul, hcurl, hcs2, Nat.min_eq_left (by omega)]
              omega) hz2 hlen' (by rw [hz2]; simpa using hvs')
          refine ⟨_, _, ?_, h6, hs', hle1.trans hle⟩
          simp only [Instr.storeAt, Instr.sureAddr, storeVar, Sem.run_bind, Sem.run_pure, Result.andThen_ok, run_sizeOf k1, k3, hu1]
          rw [if_neg (by simp)]
          exact hst
    | _ => exact h3.elim

/-- a store, wherever it goes -/
def storeAllK (tt : TypeId → Option TI) (t : TypeId) (L : List AB) (a v : AV) (K : List AB → Prop) : Prop :=
  ttK tt t fun i => match a with
    | .ap j k off => storeApK tt t i L j k off v K
    | a => storeK i L a v K
theorem storeAllK_ok {P : Program} {tt : TypeId → Option TI} (ht : TTok P tt) {t : TypeId} {c : Ctx} (hc : c.wf) {E : Nat → Option Nat} {L : List AB} {w : World} (hs : SimH c E L w)
    {a v : AV} {K : List AB → Prop} (h : storeAllK tt t L a v K) {p u : Value} (hp : VR (rcOf c.M0 E L w) a p) (hu : VR (rcOf c.M0 E L w) v u) :
    ∃ w' L', (Instr.storeAt t p u).run P w = .ok () w' ∧ K L' ∧ SimH c E L' w' ∧ (rcOf c.M0 E L w).le (rcOf c.M0 E L' w') := by
  obtain ⟨i, hi, h1⟩ := ttK_ok h
  split at h1
  · exact storeApK_ok ht hi hc hs h1 hp hu
  · exact storeK_ok ht hi hc hs h1 hp hu
end
end Go.Ab

namespace Go.Ab
noncomputable section
open Go.RowKit

def u8s (bs : List UInt8) : List (List DV) := bs.map fun b => [.int .u8 b.toNat]

def intKindD : TypeDesc → Option IntKind | .int k => some k | _ => none
def isU8D (d : TypeDesc) : Bool := match d with | .int .u8 => true | _ => false

def fltKindD (d : TypeDesc) : Option FloatKind := match d with | .float k => some k | _ => none

def convertK (tt : TypeId → Option TI) (src dst : TypeId) (L : List AB) (x : AV) (K : AV → List AB → Prop) : Prop :=
  ttK tt src fun si => ttK tt dst fun di =>
    match x with
    | .d (.int _ n) => match intKindD di.desc with
      | some k => ∀ z, z = k.wrap n → K (.d (.int k z)) L
      | none => match fltKindD di.desc with
        | some k => K (.d (.flt k (fnear k n))) L
        | none => False
    | .d (.str s) => match di.desc with
      | .string => K (.d (.str s)) L
      | .slice e => ttK tt e fun ei => bif isStrD si.desc && isU8D ei.desc then s.size ≤ maxLen ∧ K (.d (.sl 1 (u8s s.data.toList))) L else False
      | _ => False
    | .d (.sl n xs) => match si.desc, di.desc with
      | .slice e, .string => ttK tt e fun ei => bif isU8D ei.desc && Nat.beq n 1 then ∃ bs, xs = u8s bs ∧ K (.d (.str ⟨bs.toArray⟩)) L else False
      | _, _ => False
    | .arr j => lgetK L j fun ab => match ab with
      | .row e n xs _ => match si.desc, di.desc with
        | .slice e', .string => ttK tt e' fun ei => bif isU8D ei.desc && Nat.beq n 1 then lsetK L j (.row e n xs true) fun L' => ∃ bs, xs = u8s bs ∧ K (.d (.str ⟨bs.toArray⟩)) L' else False
        | .slice e', .slice _ => ttK tt e' fun ei => bif isU8D ei.desc && Nat.beq src dst then lsetK L j .dead fun L' => xs ≠ [] ∧ K (.d (.sl n xs)) L' else False
        | _, _ => False
      | _ => False
    | _ => False

theorem foldl_push_bytes' : ∀ (ns : List UInt8) (s : ByteArray), (ns.map fun b => (b.toNat : Int)).foldl (fun r n => r.push (UInt8.ofNat n.toNat)) s = ⟨s.data ++ ns.toArray⟩
  | [], s => by simp
  | n :: ns, s => by
    simp only [List.map_cons, List.foldl_cons]
    rw [foldl_push_bytes' ns]
    simp [ByteArray.push]

theorem VDs_u8s {rd : Addr → Value → Prop} : ∀ {bs : List UInt8} {us : List Value}, VDs rd (u8s bs).flatten us → us = bs.map fun b => .int .u8 (b.toNat : Int)
  | [], us, h => by simpa [u8s, VDs, Cs] using h
  | b :: bs, us, h => by
    simp only [u8s, List.map_cons, List.flatten_cons, List.singleton_append, VDs, Cs] at h
    obtain ⟨u, us', rfl, _, h1, h2⟩ := h
    simp only [VD] at h1
    subst h1
    have := VDs_u8s (bs := bs) (by simpa [u8s, VDs] using h2)
    simp [this]

theorem u8s_VDs {rd : Addr → Value → Prop} : ∀ (bs : List UInt8), VDs rd (u8s bs).flatten (bs.map fun b => Value.int .u8 (b.toNat : Int))
  | [] => by simp [u8s, VDs, Cs]
  | b :: bs => by
    simp only [u8s, List.map_cons, List.flatten_cons, List.singleton_append, VDs, Cs]
    exact ⟨_, _, rfl, rfl, by simp [VD], by simpa [u8s, VDs] using u8s_VDs bs⟩

theorem u8s_length (bs : List UInt8) : (u8s bs).length = bs.length := by simp [u8s]
theorem u8s_one (bs : List UInt8) : ∀ cs ∈ u8s bs, cs.length = 1 := by
  intro cs h
  simp only [u8s, List.mem_map] at h
  obtain ⟨b, _, rfl⟩ := h; rfl

/-- string(b) -/
theorem string_of_sl {P : Program} {w : World} {src dst e : TypeId} (hs : P.underlying src = some (.slice e)) (he : P.underlying e = some (.int .u8)) (hd : P.underlying dst = some .string)
    {c : Ctx} {E : Nat → Option Nat} {L : List AB} {bs : List UInt8} {v : Value} (hv : VR (rcOf c.M0 E L w) (.d (.sl 1 (u8s bs))) v) : (convert src dst v).run P w = .ok (.string ⟨bs.toArray⟩) w := by
  simp only [VR, VD] at hv
  obtain ⟨_, p, cap, rfl, h1, h2, h3, h4⟩ := hv
  rw [run_convert_bytes_string w src dst e p _ cap hs he hd]
  cases p with
  | none =>
    have := h3 rfl
    have hb : bs = [] := by
      have : (u8s bs).length = 0 := by omega
      rw [u8s_length] at this
      exact List.eq_nil_of_length_eq_zero this
    subst hb
    simp [Conv.bytesToString]; rfl
  | some a =>
    obtain ⟨hsp, hvre⟩ := h4 a rfl
    obtain ⟨us, hlen, hus, hcell⟩ : ∃ us : List Value, us.length = (u8s bs).length ∧ us = bs.map (fun b => Value.int .u8 (b.toNat : Int)) ∧ ∀ (j : Nat) (v : Value), us[j]? = some v → w.cell? (a.add j) = some v := by
      rcases hsp with hb | hsp
      · have : bs = [] := by
          have h0 : (u8s bs).length = 0 := by rw [hb]; rfl
          rw [u8s_length] at h0
          exact List.eq_nil_of_length_eq_zero h0
        subst this
        exact ⟨[], rfl, rfl, fun j v hj => by simp at hj⟩
      · obtain ⟨us, k1, k2, k3⟩ := VDE_vals 1 hvre hsp
        exact ⟨us, by omega, VDs_u8s k1, fun j v hj => by rw [add_lit a hsp]; exact (k3 j v hj).1⟩
    have hl := run_loadCells_list (P := P) w a us hcell
    rw [hlen] at hl
    have := run_bytesToString (P := P) w a (u8s bs).length cap (bs.map fun b => (b.toNat : Int)) (by rw [hl, hus]; simp [Function.comp_def])
    rw [this, foldl_push_bytes']
    simp

theorem convertK_ok {P : Program} {tt : TypeId → Option TI} (ht : TTok P tt) {src dst : TypeId} {c : Ctx} (hc : c.wf) {E : Nat → Option Nat} {L : List AB} {w : World} (hs : SimH c E L w) {x : AV} {K : AV → List AB → Prop}
    (h : convertK tt src dst L x K) {v : Value} (hv : VR (rcOf c.M0 E L w) x v) :
    ∃ r w' E' av L', (convert src dst v).run P w = .ok r w' ∧ K av L' ∧ SimH c E' L' w' ∧ (rcOf c.M0 E L w).le (rcOf c.M0 E' L' w') ∧ VR (rcOf c.M0 E' L' w') av r := by
  obtain ⟨si, hsi, h1⟩ := ttK_ok h
  obtain ⟨di, hdi, h2⟩ := ttK_ok h1
  obtain ⟨hus, _⟩ := ht src si hsi
  obtain ⟨hud, _⟩ := ht dst di hdi
  have idle : (rcOf c.M0 E L w).le (rcOf c.M0 E L w) := ⟨fun _ _ h => h, fun _ _ h => h, fun _ _ h => h, fun _ _ _ _ h => h⟩
  cases x <;> first | exact h2.elim | skip
  case d x =>
   cases x <;> first | exact h2.elim | skip
   case int k n =>
    simp only at h2
    simp only [VR, VD] at hv; subst hv
    split at h2
    · rename_i k' hk'
      have hd : di.desc = .int k' := by
        revert hk'
        cases di.desc <;> simp [intKindD]
      rw [hd] at hud
      exact ⟨.int k' (k'.wrap n), w, E, _, L, by unfold convert; simp only [Sem.run_bind, run_underlying hus, run_underlying hud, Result.andThen_ok]; rfl, h2 _ rfl, hs, idle, by simp [VR, VD]⟩
    · split at h2
      · rename_i k' hk'
        have hd : di.desc = .float k' := by
          revert hk'
          cases di.desc <;> simp [fltKindD]
        rw [hd] at hud
        exact ⟨.float k' (fnear k' n), w, E, _, L, by unfold convert; simp only [Sem.run_bind, run_underlying hus, run_underlying hud, Result.andThen_ok]; cases si.desc <;> rfl, h2, hs, idle, by simp [VR, VD]⟩
      · exact h2.elim
   case str s =>
    simp only at h2
    simp only [VR, VD] at hv; subst hv
    split at h2
    · rename_i hd
      rw [hd] at hud
      exact ⟨.string s, w, E, _, L, by unfold convert; simp only [Sem.run_bind, run_underlying hus, run_underlying hud, Result.andThen_ok]; cases si.desc <;> rfl, h2, hs, idle, by simp [VR, VD]⟩
    · rename_i e hd
      rw [hd] at hud
      obtain ⟨ei, hei, h3⟩ := ttK_ok h2
      obtain ⟨hue, _⟩ := ht e ei hei
      cases hb : (isStrD si.desc && isU8D ei.desc) with
      | false => rw [hb] at h3; exact h3.elim
      | true =>
        rw [hb] at h3
        simp only [Bool.and_eq_true] at hb
        have hsd : si.desc = .string := by
          have := hb.1
          revert this
          cases si.desc <;> simp [isStrD]
        have hed : ei.desc = .int .u8 := by
          have := hb.2
          revert this
          unfold isU8D
          split <;> simp_all
        rw [hsd] at hus
        rw [hed] at hue
        have hr := run_bytes_of_string (P := P) w src dst e s hus hud hue
        have hge := grownCap_ge w s.size 0 e
        have kk : Keeps w (w.drew.alloc (.cells (bytesRow s (grownCap w s.size 0 e)) e ((bytesRow s (grownCap w s.size 0 e)).size, (bytesRow s (grownCap w s.size 0 e)).size + 1))) := (Keeps.drew w).trans (Keeps.alloc w.drew _)
        refine ⟨_, _, E, _, L, hr, h3.2, hs.keeps hc kk, le_keeps kk, ?_⟩
        have hsl : s.data.toList.length = s.size := by rw [Array.length_toList]; rfl
        simp only [VR, VD]
        have hm : grownCap w s.size 0 e ≤ maxLen := grownCap_le_maxLen w s.size 0 e h3.1
        refine ⟨by omega, some ⟨w.heap.size, 0, none⟩, grownCap w s.size 0 e, by rw [u8s_length, hsl], by rw [u8s_length, hsl]; exact hge, hm, (fun h => by cases h), fun a' ha => ?_⟩
        cases ha
        refine ⟨.inr rfl, VDE_of (le_keeps (c := c) (E := E) (L := L) kk).rd 1 (u8s_VDs s.data.toList) (u8s_one _) rfl ?_⟩
        intro j u hj
        have hnew : (w.drew.alloc (.cells (bytesRow s (grownCap w s.size 0 e)) e ((bytesRow s (grownCap w s.size 0 e)).size, (bytesRow s (grownCap w s.size 0 e)).size + 1))).heap[w.heap.size]? = some (.cells (bytesRow s (grownCap w s.size 0 e)) e ((bytesRow s (grownCap w s.size 0 e)).size, (bytesRow s (grownCap w s.size 0 e)).size + 1)) := heap_alloc_new w.drew _
        refine ⟨?_, ?_⟩
        · rw [cell_of_row _ _ _ _ _ _ hnew]
          simp only [Nat.zero_add]
          unfold bytesRow
          have hjl : j < s.data.size := by
            have := (List.getElem?_eq_some_iff.1 hj).1
            simpa using this
          rw [Array.getElem?_append_left (by simpa using hjl)]
          simpa using hj
        · rintro (hm' | ⟨i, ab, hi, he, hm'⟩ | ⟨i, ab, hi, hm'⟩)
          · have := hc.low _ (hc.sub _ _ hm')
            have := hs.size
            simp at *
            omega
          · have := hs.lt hi (AB.mut_live hm') he
            simp at this
          · have := hs.blt hi hm'
            simp at this
    · exact h2.elim
   case sl n xs =>
    simp only at h2
    split at h2
    · rename_i e hsd hdd
      obtain ⟨ei, hei, h3⟩ := ttK_ok h2
      obtain ⟨hue, _⟩ := ht e ei hei
      rw [hsd] at hus
      rw [hdd] at hud
      cases hb : (isU8D ei.desc && Nat.beq n 1) with
      | false => rw [hb] at h3; exact h3.elim
      | true =>
        rw [hb] at h3
        simp only [Bool.and_eq_true] at hb
        have hed : ei.desc = .int .u8 := by
          have := hb.1
          revert this
          unfold isU8D
          split <;> simp_all
        have hn1 := Nat.eq_of_beq_eq_true hb.2
        subst hn1
        rw [hed] at hue
        obtain ⟨bs, rfl, hK⟩ := h3
        exact ⟨_, w, E, _, L, string_of_sl hus hue hud hv, hK, hs, idle, by simp [VR, VD]⟩
    · exact h2.elim
  case arr j =>
    simp only at h2
    obtain ⟨ab, hab, h3⟩ := lgetK_ok h2
    cases ab <;> simp only at h3 <;> first | exact h3.elim | skip
    rename_i e n xs sh
    obtain ⟨hs', hle, hsl⟩ := hs.close hc hab
    split at h3
    · rename_i e' hsd hdd
      obtain ⟨ei, hei, h4⟩ := ttK_ok h3
      obtain ⟨hue, _⟩ := ht e' ei hei
      rw [hsd] at hus
      rw [hdd] at hud
      cases hb : (isU8D ei.desc && Nat.beq n 1) with
      | false => rw [hb] at h4; exact h4.elim
      | true =>
        rw [hb] at h4
        simp only [Bool.and_eq_true] at hb
        have hed : ei.desc = .int .u8 := by
          have := hb.1
          revert this
          unfold isU8D
          split <;> simp_all
        have hn1 := Nat.eq_of_beq_eq_true hb.2
        subst hn1
        rw [hed] at hue
        obtain ⟨bs, rfl, hK⟩ := lsetK_ok h4
        exact ⟨_, w, E, _, _, string_of_sl hus hue hud (hsl v hv), hK, hs', hle, by simp [VR, VD]⟩
    · rename_i e' e'' hsd hdd
      obtain ⟨ei, hei, h4⟩ := ttK_ok h3
      obtain ⟨hue, _⟩ := ht e' ei hei
      rw [hsd] at hus
      cases hb : (isU8D ei.desc && Nat.beq src dst) with
      | false => rw [hb] at h4; exact h4.elim
      | true =>
        rw [hb] at h4
        simp only [Bool.and_eq_true] at hb
        have hed : ei.desc = .int .u8 := by
          have := hb.1
          revert this
          unfold isU8D
          split <;> simp_all
        have esd := Nat.eq_of_beq_eq_true hb.2
        subst esd
        rw [hed] at hue
        obtain ⟨hne, hK⟩ := lsetK_ok h4
        -- the block's mark
        have hsv := hsl v hv
        have hbr := (hs.blk j _ hab).2.2
        simp only [VR] at hv
        obtain ⟨ab', hab', hrel⟩ := hv
        rw [hab] at hab'; cases hab'
        simp only [arRel] at hrel
        cases hE : E j with
        | none => rw [hE] at hbr; exact absurd hbr hne
        | some b =>
          rw [hE] at hrel
          obtain ⟨cap, cur, rfl, hh, hsz⟩ := hrel
          have hlt : b < w.heap.size := (Array.getElem?_eq_some_iff.1 hh).1
          have hge : w.heap[b] = .cells cur e (0, 0) := (Array.getElem?_eq_some_iff.1 hh).2
          have hshape : w.shape? b = some (e, cur.size) := by unfold World.shape?; rw [hh]
          have hfz : (w.freeze ⟨b, cur.size, none⟩ 1).heap[b]? = some (.cells cur e (cur.size, cur.size + 1)) := by
            unfold World.freeze
            rw [if_neg (by decide)]
            simp [hlt, Array.getElem_modify, hge]
          have hfo : ∀ k, k ≠ b → (w.freeze ⟨b, cur.size, none⟩ 1).heap[k]? = w.heap[k]? := by
            intro k hk
            unfold World.freeze
            rw [if_neg (by decide)]
            simp [Array.getElem?_modify, Ne.symm hk]
          have kE : TurnsE (E j) w (w.freeze ⟨b, cur.size, none⟩ 1) := by
            rw [hE]
            refine ⟨?_, ?_, ?_, ?_, fun k hk => hfo k (fun e => hk (by rw [e]))⟩ <;> (unfold World.freeze; rw [if_neg (by decide)]; try simp)
          have hab1 : (L.set j (.row e n xs true))[j]? = some (.row e n xs true) := getElem?_set_same hab
          have hle2 : (rcOf c.M0 E (L.set j (.row e n xs true)) w).le (rcOf c.M0 E ((L.set j (.row e n xs true)).set j .dead) (w.freeze ⟨b, cur.size, none⟩ 1)) :=
            le_set hs' hab1 rfl kE (fun o hm => absurd hm (by simp [AB.mut])) (fun b' o u hb' _ hc' => by
              rw [hE] at hb'; cases hb'
              rw [cell_of_row _ _ _ _ _ _ hfz]
              rw [cell_of_row _ _ _ _ _ _ hh] at hc'
              exact hc') rfl (fun v hv => arRel_slice hv) (fun _ _ _ hv => apRel_pointer hv) (fun _ hb => hb)
          have hs2 := hs'.setE hab1 rfl kE hle2 rfl trivial rfl
          have hLL : (L.set j (.row e n xs true)).set j AB.dead = L.set j .dead := by simp
          rw [hLL] at hle2 hs2
          refine ⟨_, _, E, _, _, ?_, hK, hs2, ⟨fun a u h => hle2.rd _ _ (hle.rd _ _ h), fun a u h => hle2.pt _ _ (hle.pt _ _ h), fun a u h => hle2.ar _ _ (hle.ar _ _ h), fun a b o u h => hle2.ap _ _ _ _ (hle.ap _ _ _ _ h)⟩, VR.mono hle2 _ _ hsv⟩
          simp [convert, run_underlying hus, run_underlying hue, markStringish, hshape]
    · exact h3.elim

end
end Go.Ab

namespace Go.Ab
noncomputable section
open Go.RowKit

/-! ## other numbers for the blocks -/
/-- small numbers, written out -/
def litN (n : Nat) : Nat :=
  match n with
  | 0 => 0 | 1 => 1 | 2 => 2 | 3 => 3 | 4 => 4 | 5 => 5 | 6 => 6 | 7 => 7 | 8 => 8 | 9 => 9 | 10 => 10 | 11 => 11 | 12 => 12 | 13 => 13 | 14 => 14 | 15 => 15 | 16 => 16 | 17 => 17 | 18 => 18 | 19 => 19 | 20 => 20
  | n => n
theorem litN_eq (n : Nat) : litN n = n := by unfold litN; split <;> rfl

mutual
def renA (rho : Nat → Option Nat) : AV → Option AV
  | .d x => some (.d x)
  | .arr i => match rho i with | some j => some (.arr j) | none => none
  | .ptr i o => match rho i with | some j => some (.ptr j o) | none => none
  | .ap i k o => match rho i with | some j => some (.ap j k o) | none => none
  | .im cs o => some (.im cs o)
  | .map i => match rho i with | some j => some (.map j) | none => none
  | .mp i b o => match rho i with | some j => some (.mp j b o) | none => some (.mp 0 b o)
  | .agg cs => match renAs rho cs with | some l => some (.agg l) | none => none
  | .tup cs => match renAs rho cs with | some l => some (.tup l) | none => none
  | .fn f cs => match renAs rho cs with | some l => some (.fn f l) | none => none
  | .sub i n => match rho i with | some j => some (.sub j n) | none => none
def renAs (rho : Nat → Option Nat) : List AV → Option (List AV)
  | [] => some []
  | x :: r => match renA rho x with
    | some y => match renAs rho r with
      | some l => some (y :: l)
      | none => none
    | none => none
end

/-- what a renaming leads from R to R' by -/
structure Leads (R R' : RC) (rho : Nat → Option Nat) : Prop where
  rd : ∀ a u, R.rd a u → R'.rd a u
  pt : ∀ i j, rho i = some j → ∀ b, R.pt i b → R'.pt j b
  ar : ∀ i j, rho i = some j → ∀ v, R.ar i v → R'.ar j v
  ap : ∀ i j, rho i = some j → ∀ k o v, R.ap i k o v → R'.ap j k o v

mutual
theorem renA_ok {R R' : RC} {rho : Nat → Option Nat} (h : Leads R R' rho) : ∀ (x y : AV), renA rho x = some y → ∀ v, VR R x v → VR R' y v
  | .d x, y, k, v, hv => by simp only [renA, Option.some.injEq] at k; subst k; simp only [VR] at hv ⊢; exact VD.mono h.rd x v hv
  | .arr i, y, k, v, hv => by
    simp only [renA] at k
    split at k
    · rename_i j hj; cases k; simp only [VR] at hv ⊢; exact h.ar i j hj v hv
    · cases k
  | .ptr i o, y, k, v, hv => by
    simp only [renA] at k
    split at k
    · rename_i j hj; cases k; simp only [VR] at hv ⊢; obtain ⟨b, h5, h6⟩ := hv; exact ⟨b, h.pt i j hj b h5, h6⟩
    · cases k
  | .sub i n, y, k, v, hv => by
    simp only [renA] at k
    split at k
    · rename_i j hj; cases k; simp only [VR] at hv ⊢; obtain ⟨p, cap, h5, h6, h7, h8⟩ := hv; exact ⟨p, cap, h5, h6, h7, h.ap i j hj _ _ _ h8⟩
    · cases k
  | .ap i k' o, y, k, v, hv => by
    simp only [renA] at k
    split at k
    · rename_i j hj; cases k; simp only [VR] at hv ⊢; exact h.ap i j hj _ _ v hv
    · cases k
  | .im cs o, y, k, v, hv => by
    simp only [renA, Option.some.injEq] at k; subst k
    simp only [VR] at hv ⊢; obtain ⟨a, h1, h2, h3, h4⟩ := hv; exact ⟨a, h1, h2, h3, VDC.mono h.rd cs a h4⟩
  | .map i, y, k, v, hv => by
    simp only [renA] at k
    split at k
    · rename_i j hj; cases k; simp only [VR] at hv ⊢; obtain ⟨b, h5, h6⟩ := hv; exact ⟨b, h.pt i j hj b h5, h6⟩
    · cases k
  | .mp i b o, y, k, v, hv => by
    simp only [renA] at k
    split at k
    · cases k; simpa only [VR] using hv
    · cases k; simpa only [VR] using hv
  | .agg cs, y, k, v, hv => by
    simp only [renA] at k
    split at k
    · rename_i l hl; cases k; simp only [VR] at hv ⊢; obtain ⟨us, h3, h4⟩ := hv; exact ⟨us, h3, (renAs_ok h cs l hl).1 _ h4⟩
    · cases k
  | .tup cs, y, k, v, hv => by
    simp only [renA] at k
    split at k
    · rename_i l hl; cases k; simp only [VR] at hv ⊢; obtain ⟨us, h3, h4⟩ := hv; exact ⟨us, h3, (renAs_ok h cs l hl).2 _ h4⟩
    · cases k
  | .fn f cs, y, k, v, hv => by
    simp only [renA] at k
    split at k
    · rename_i l hl; cases k; simp only [VR] at hv ⊢; obtain ⟨us, h3, h4⟩ := hv; exact ⟨us, h3, (renAs_ok h cs l hl).2 _ h4⟩
    · cases k
theorem renAs_ok {R R' : RC} {rho : Nat → Option Nat} (h : Leads R R' rho) : ∀ (xs ys : List AV), renAs rho xs = some ys → (∀ us, VRs R xs us → VRs R' ys us) ∧ (∀ us, VRt R xs us → VRt R' ys us)
  | [], ys, k => by simp only [renAs, Option.some.injEq] at k; subst k; exact ⟨fun us hv => by simpa [VRs] using hv, fun us hv => by simpa [VRt] using hv⟩
  | x :: xs, ys, k => by
    simp only [renAs] at k
    split at k
    · rename_i y hy
      split at k
      · rename_i l hl
        cases k
        have h1 := renA_ok h x y hy
        have h2 := renAs_ok h xs l hl
        constructor
        · intro us hv
          simp only [VRs] at hv ⊢
          obtain ⟨u, us', e1, e2, e3, e4⟩ := hv
          exact ⟨u, us', e1, e2, h1 _ e3, h2.1 _ e4⟩
        · intro us hv
          simp only [VRt] at hv ⊢
          obtain ⟨u, us', e1, e3, e4⟩ := hv
          exact ⟨u, us', e1, h1 _ e3, h2.2 _ e4⟩
      · cases k
    · cases k
end

def renAB (rho : Nat → Option Nat) (ab : AB) : Option AB :=
  match ab with
  | .cells cs => match renAs rho cs with | some l => some (.cells l) | none => none
  | .row e n xs sh => some (.row e n xs sh)
  | .map es => some (.map es)
  | .pool b cs => some (.pool b cs)
  | .dead => some .dead

/-- two blocks that are one but for the numbers of blocks in it -/
def Alike (ab ab' : AB) : Prop :=
  match ab, ab' with
  | .cells _, .cells _ => True
  | .row e n xs sh, ab' => ab' = .row e n xs sh
  | .map es, ab' => ab' = .map es
  | .pool b cs, ab' => ab' = .pool b cs
  | .dead, ab' => ab' = .dead
  | _, _ => False

theorem Alike.isCell {ab ab' : AB} (h : Alike ab ab') : ab'.isCell = ab.isCell := by
  cases ab <;> cases ab' <;> simp_all [Alike, AB.isCell]
theorem Alike.live {ab ab' : AB} (h : Alike ab ab') : ab'.live = ab.live := by
  cases ab <;> cases ab' <;> simp_all [Alike, AB.live]
theorem Alike.mut {ab ab' : AB} (h : Alike ab ab') (o : Nat) : ab'.mut o ↔ ab.mut o := by
  cases ab <;> cases ab' <;> simp_all [Alike, AB.mut]
theorem Alike.boxes {ab ab' : AB} (h : Alike ab ab') : ab'.boxes = ab.boxes := by
  cases ab <;> cases ab' <;> simp_all [Alike, AB.boxes]
theorem Alike.ar {ab ab' : AB} (h : Alike ab ab') {E E' : Nat → Option Nat} {i j : Nat} (he : E' j = E i) {w : World} {v : Value} (k : arRel E w i v ab) : arRel E' w j v ab' := by
  cases ab with
  | cells cs => exact k.elim
  | map es => exact k.elim
  | pool b cs => exact k.elim
  | row e n xs sh =>
    simp only [Alike] at h; subst h
    simp only [arRel] at k ⊢; rw [he]; exact k
  | dead => simp only [Alike] at h; subst h; exact k
theorem Alike.ap {ab ab' : AB} (h : Alike ab ab') {E E' : Nat → Option Nat} {i j : Nat} (he : E' j = E i) {k o : Nat} {v : Value} (hk : apRel E i k o v ab) : apRel E' j k o v ab' := by
  cases ab with
  | cells cs => exact hk.elim
  | map es => exact hk.elim
  | pool b cs => exact hk.elim
  | row e n xs sh =>
    simp only [Alike] at h; subst h
    simp only [apRel] at hk ⊢; rw [he]; exact hk
  | dead => simp only [Alike] at h; subst h; exact hk

theorem renAB_alike {rho : Nat → Option Nat} {ab ab' : AB} (k : renAB rho ab = some ab') : Alike ab ab' := by
  cases ab with
  | cells cs =>
    simp only [renAB] at k
    split at k
    · cases k; trivial
    · cases k
  | row e n xs sh => simp only [renAB, Option.some.injEq] at k; subst k; rfl
  | map es => simp only [renAB, Option.some.injEq] at k; subst k; rfl
  | pool b cs => simp only [renAB, Option.some.injEq] at k; subst k; rfl
  | dead => simp only [renAB, Option.some.injEq] at k; subst k; rfl

theorem renAB_ok {R R' : RC} {rho : Nat → Option Nat} (h : Leads R R' rho) {ab ab' : AB} (k : renAB rho ab = some ab') {w : World} {eb : Option Nat} (hb : BR R w eb ab) : BR R' w eb ab' := by
  cases ab with
  | cells cs =>
    simp only [renAB] at k
    split at k
    · rename_i l hl
      cases k
      obtain ⟨b, cur, e, e1, e2, e3⟩ := hb
      exact ⟨b, cur, e, e1, e2, (renAs_ok h cs l hl).1 _ e3⟩
    · cases k
  | row e n xs sh =>
    simp only [renAB, Option.some.injEq] at k; subst k
    obtain ⟨e1, e2, e3⟩ := hb
    refine ⟨e1, e2, ?_⟩
    cases eb with
    | none => exact e3
    | some b =>
      obtain ⟨cap, cur, e4, e5, e6, e7, e8⟩ := e3
      exact ⟨cap, cur, e4, e5, e6, e7, VDs.mono h.rd e8⟩
  | map es =>
    simp only [renAB, Option.some.injEq] at k; subst k
    obtain ⟨b, ents, clock, e1, e2, e3, e4, e5⟩ := hb
    exact ⟨b, ents, clock, e1, e2, VME.mono h.rd (fun _ _ => rfl) e3, e4, e5⟩
  | pool b cs =>
    simp only [renAB, Option.some.injEq] at k; subst k
    exact VBox.mono h.rd rfl hb
  | dead => simp only [renAB, Option.some.injEq] at k; subst k; trivial

/-! ## a part of the blocks -/
/-- where a block's number stands in a list -/
def posN : List Nat → Nat → Nat → Option Nat
  | [], _, _ => none
  | i :: r, n, k => bif Nat.beq i n then some (litN k) else posN r n (k + 1)
theorem posN_ok : ∀ {ix : List Nat} {n k m : Nat}, posN ix n k = some m → ∃ j, ix[j]? = some n ∧ m = k + j
  | [], _, _, _, h => by cases h
  | i :: r, n, k, m, h => by
    simp only [posN] at h
    cases hb : Nat.beq i n with
    | true => rw [hb] at h; simp only [cond_true, Option.some.injEq] at h; exact ⟨0, by simp [Nat.eq_of_beq_eq_true hb], by rw [← h, litN_eq]; rfl⟩
    | false =>
      rw [hb] at h
      obtain ⟨j, h1, h2⟩ := posN_ok (ix := r) (k := k + 1) h
      exact ⟨j + 1, by simpa using h1, by omega⟩

def linA (rho : Nat → Option Nat) (L : List AB) : List Nat → Option (List AB)
  | [] => some []
  | i :: r => match L[i]? with
    | some ab => match renAB rho ab with
      | some ab' => match linA rho L r with
        | some l => some (ab' :: l)
        | none => none
      | none => none
    | none => none
theorem linA_ok {rho : Nat → Option Nat} {L : List AB} : ∀ {ix : List Nat} {l : List AB}, linA rho L ix = some l → l.length = ix.length ∧ ∀ (j i : Nat), ix[j]? = some i → ∃ ab ab', L[i]? = some ab ∧ l[j]? = some ab' ∧ renAB rho ab = some ab'
  | [], l, h => by simp only [linA, Option.some.injEq] at h; subst h; exact ⟨rfl, by simp⟩
  | i :: r, l, h => by
    simp only [linA] at h
    split at h
    · rename_i ab hab
      split at h
      · rename_i ab' hab'
        split at h
        · rename_i l' hl'
          cases h
          obtain ⟨h1, h2⟩ := linA_ok hl'
          refine ⟨by simp [h1], fun j i' hj => ?_⟩
          cases j with
          | zero => simp at hj; subst hj; exact ⟨ab, ab', hab, by simp, hab'⟩
          | succ j => simp only [List.getElem?_cons_succ] at hj ⊢; exact h2 j i' hj
        · cases h
      · cases h
    · cases h

noncomputable def memB (n : Nat) (l : List Nat) : Bool := List.rec (motive := fun _ => Bool) false (fun i _ ih => bif Nat.beq i n then true else ih) l
theorem memB_nil (n : Nat) : memB n [] = false := rfl
theorem memB_cons (n i : Nat) (r : List Nat) : memB n (i :: r) = (Nat.beq i n || memB n r) := by show (bif Nat.beq i n then true else memB n r) = _; cases Nat.beq i n <;> rfl
def nodupB : List Nat → Bool
  | [] => true
  | i :: r => !(memB i r) && nodupB r
theorem memB_ok {n : Nat} : ∀ {l : List Nat}, memB n l = false → n ∉ l
  | [], _ => by simp
  | i :: r, h => by
    simp only [memB_nil, memB_cons, Bool.or_eq_false_iff] at h
    intro hm
    rcases List.mem_cons.1 hm with rfl | hm
    · have h1 := h.1; rw [Nat.beq_refl] at h1; cases h1
    · exact memB_ok h.2 hm
theorem nodupB_ok : ∀ {l : List Nat}, nodupB l = true → l.Nodup
  | [], _ => by simp
  | i :: r, h => by
    simp only [nodupB, Bool.and_eq_true, Bool.not_eq_true'] at h
    exact List.nodup_cons.2 ⟨memB_ok h.1, nodupB_ok h.2⟩
theorem nodup_inj {l : List Nat} (h : l.Nodup) {i j n : Nat} (hi : l[i]? = some n) (hj : l[j]? = some n) : i = j := by
  have h1 := (List.getElem?_eq_some_iff.1 hi)
  have h2 := (List.getElem?_eq_some_iff.1 hj)
  obtain ⟨h1l, h1e⟩ := h1
  obtain ⟨h2l, h2e⟩ := h2
  have hp := List.pairwise_iff_getElem.1 h
  rcases Nat.lt_trichotomy i j with h3 | h3 | h3
  · exact absurd (h1e.trans h2e.symm) (hp i j h1l h2l h3)
  · exact h3
  · exact absurd (h2e.trans h1e.symm) (hp j i h2l h1l h3)

/-- The environment of a part. -/
def Esub (E : Nat → Option Nat) (ix : List Nat) : Nat → Option Nat := fun j => match ix[j]? with | some i => E i | none => none

/-- A part reads as the whole does. -/
theorem sub_leads {M0 M0' : Nat → Nat → Prop} {E : Nat → Option Nat} {L l : List AB} {w : World} {ix : List Nat} (hl : linA (posN ix · 0) L ix = some l)
    (hM : ∀ b o, M0' b o → Mut M0 E L b o) : Leads (rcOf M0 E L w) (rcOf M0' (Esub E ix) l w) (posN ix · 0) := by
  obtain ⟨hlen, hlook⟩ := linA_ok hl
  have pos : ∀ i j, posN ix i 0 = some j → ix[j]? = some i := by
    intro i j h
    obtain ⟨m, h1, h2⟩ := posN_ok h
    rw [Nat.zero_add] at h2; rw [h2]; exact h1
  have hE : ∀ i j, posN ix i 0 = some j → Esub E ix j = E i := by
    intro i j h
    simp only [Esub, pos i j h]
  refine ⟨?_, ?_, ?_, ?_⟩
  · rintro a u ⟨h1, h2⟩
    refine ⟨h1, ?_⟩
    rintro (hm | ⟨j, ab', hj, he, hm⟩ | ⟨j, ab', hj, hm⟩)
    · exact h2 (hM _ _ hm)
    rotate_left
    · have hjl : j < ix.length := by rw [← hlen]; exact (List.getElem?_eq_some_iff.1 hj).1
      obtain ⟨ab, ab2, h3, h4, h5⟩ := hlook j ix[j] (List.getElem?_eq_getElem hjl)
      rw [hj] at h4; cases h4
      exact h2 (.inr (.inr ⟨_, ab, h3, by rw [← (renAB_alike h5).boxes]; exact hm⟩))
    · have hjl : j < ix.length := by rw [← hlen]; exact (List.getElem?_eq_some_iff.1 hj).1
      obtain ⟨ab, ab2, h3, h4, h5⟩ := hlook j ix[j] (List.getElem?_eq_getElem hjl)
      rw [hj] at h4; cases h4
      have he' : E ix[j] = some a.block := by
        simp only [Esub, List.getElem?_eq_getElem hjl] at he; exact he
      exact h2 (.inr (.inl ⟨_, ab, h3, he', ((renAB_alike h5).mut _).1 hm⟩))
  · intro i j hij b ⟨ab, h1, h2, h3⟩
    obtain ⟨ab1, ab', h4, h5, h6⟩ := hlook j i (pos i j hij)
    rw [h1] at h4; cases h4
    exact ⟨ab', h5, by rw [(renAB_alike h6).isCell]; exact h2, by rw [hE i j hij]; exact h3⟩
  · intro i j hij v ⟨ab, h1, h2⟩
    obtain ⟨ab1, ab', h4, h5, h6⟩ := hlook j i (pos i j hij)
    rw [h1] at h4; cases h4
    exact ⟨ab', h5, (renAB_alike h6).ar (hE i j hij) h2⟩
  · intro i j hij k o v ⟨ab, h1, h2⟩
    obtain ⟨ab1, ab', h4, h5, h6⟩ := hlook j i (pos i j hij)
    rw [h1] at h4; cases h4
    exact ⟨ab', h5, (renAB_alike h6).ap (hE i j hij) h2⟩

/-- the blocks of a part, and that they are apart -/
theorem sub_blocks {c : Ctx} {M0' : Nat → Nat → Prop} {E : Nat → Option Nat} {L l : List AB} {w : World} (hs : SimH c E L w) {ix : List Nat} (hnd : ix.Nodup) (hl : linA (posN ix · 0) L ix = some l)
    (hM : ∀ b o, M0' b o → Mut c.M0 E L b o) :
    (∀ j ab, l[j]? = some ab → BR (rcOf M0' (Esub E ix) l w) w (Esub E ix j) ab) ∧
    (∀ j ab b, l[j]? = some ab → ab.live = true → Esub E ix j = some b → ∃ i ab0, ix[j]? = some i ∧ L[i]? = some ab0 ∧ ab0.live = true ∧ E i = some b) ∧
    (∀ j1 j2 ab1 ab2 b, l[j1]? = some ab1 → l[j2]? = some ab2 → ab1.live = true → ab2.live = true → Esub E ix j1 = some b → Esub E ix j2 = some b → j1 = j2) ∧
    (∀ (P1 : Nat → Prop), (∀ b, P1 b → ∀ (j : Nat) (ab : AB), l[j]? = some ab → b ∉ ab.boxes) → Boxy P1 (Esub E ix) l) := by
  have hleads := sub_leads (w := w) hl hM
  obtain ⟨hlen, hlook⟩ := linA_ok hl
  have hback : ∀ j ab, l[j]? = some ab → ∃ i ab0, ix[j]? = some i ∧ L[i]? = some ab0 ∧ renAB (posN ix · 0) ab0 = some ab ∧ Esub E ix j = E i := by
    intro j ab hj
    have hjl : j < ix.length := by rw [← hlen]; exact (List.getElem?_eq_some_iff.1 hj).1
    obtain ⟨ab0, ab2, h3, h4, h5⟩ := hlook j ix[j] (List.getElem?_eq_getElem hjl)
    rw [hj] at h4; cases h4
    exact ⟨ix[j], ab0, List.getElem?_eq_getElem hjl, h3, h5, by simp only [Esub, List.getElem?_eq_getElem hjl]⟩
  have h2 : ∀ j ab b, l[j]? = some ab → ab.live = true → Esub E ix j = some b → ∃ i ab0, ix[j]? = some i ∧ L[i]? = some ab0 ∧ ab0.live = true ∧ E i = some b := by
    intro j ab b hj hlv he
    obtain ⟨i, ab0, k1, k2, k3, k4⟩ := hback j ab hj
    exact ⟨i, ab0, k1, k2, by rw [← (renAB_alike k3).live]; exact hlv, by rw [← k4]; exact he⟩
  refine ⟨?_, h2, ?_, ?_⟩
  rotate_right
  · intro P1 hP1
    refine ⟨fun j ab b hj hb hp => hP1 b hp j ab hj hb, ?_, ?_, ?_⟩
    · intro j1 j2 ab1 ab2 b hj1 hb hj2 hl2 he2
      obtain ⟨i1, a1, k1, k2, k3, k4⟩ := hback j1 ab1 hj1
      obtain ⟨i2, a2, m1, m2, m3, m4⟩ := h2 j2 ab2 b hj2 hl2 he2
      exact hs.bx.own i1 i2 a1 a2 b k2 (by rw [← (renAB_alike k3).boxes]; exact hb) m2 m3 m4
    · intro j ab hj
      obtain ⟨i1, a1, k1, k2, k3, k4⟩ := hback j ab hj
      rw [(renAB_alike k3).boxes]; exact hs.bx.nd i1 a1 k2
    · intro j1 j2 ab1 ab2 b hj1 hj2 hb1 hb2
      obtain ⟨i1, a1, k1, k2, k3, k4⟩ := hback j1 ab1 hj1
      obtain ⟨i2, a2, m1, m2, m3, m4⟩ := hback j2 ab2 hj2
      have := hs.bx.dj i1 i2 a1 a2 b k2 m2 (by rw [← (renAB_alike k3).boxes]; exact hb1) (by rw [← (renAB_alike m3).boxes]; exact hb2)
      subst this
      exact nodup_inj hnd k1 m1
  · intro j ab hj
    obtain ⟨i, ab0, k1, k2, k3, k4⟩ := hback j ab hj
    rw [k4]
    exact renAB_ok hleads k3 (hs.blk i ab0 k2)
  · intro j1 j2 ab1 ab2 b hj1 hj2 l1 l2 e1 e2
    obtain ⟨i1, a1, k1, k2, k3, k4⟩ := h2 j1 ab1 b hj1 l1 e1
    obtain ⟨i2, a2, m1, m2, m3, m4⟩ := h2 j2 ab2 b hj2 l2 e2
    have := hs.inj i1 i2 a1 a2 b k2 m2 k3 m3 k4 m4
    subst this
    exact nodup_inj hnd k1 m1

end
end Go.Ab

namespace Go.Ab
noncomputable section
open Go.RowKit

/-- THE CONTRACT OF A FUNCTION: what it hands back, and what has become of the blocks that it was handed. -/
def ACalls (P : Program) (f : FuncId) (avs : List AV) (Lin : List AB) (post : AV → List AB → Prop) : Prop :=
  ∀ (c : Ctx) (vs : Array Value), c.wf → c.L0 = Lin → SimH c c.E0 Lin c.w0 → VRt (rcOf c.M0 c.E0 Lin c.w0) avs vs.toList →
    Calls P f vs c.w0 fun e w' => ∃ v av L' E', e = .returned v ∧ post av L' ∧ SimH c E' L' w' ∧ VR (rcOf c.M0 E' L' w') av v

theorem ACalls.mono {P : Program} {f : FuncId} {avs : List AV} {Lin : List AB} {post post' : AV → List AB → Prop} (h : ACalls P f avs Lin post) (hp : ∀ av L, post av L → post' av L) : ACalls P f avs Lin post' :=
  fun c vs h1 h2 h3 h4 => (h c vs h1 h2 h3 h4).mono fun _ _ ⟨v, av, L', E', e1, e2, e3, e4⟩ => ⟨v, av, L', E', e1, hp _ _ e2, e3, e4⟩

/-! ## forcing -/
def litK (n : Nat) (K : Nat → Prop) : Prop :=
  match n with
  | 0 => K 0 | 1 => K 1 | 2 => K 2 | 3 => K 3 | 4 => K 4 | 5 => K 5 | 6 => K 6 | 7 => K 7 | 8 => K 8 | 9 => K 9 | 10 => K 10 | 11 => K 11 | 12 => K 12 | 13 => K 13 | 14 => K 14 | 15 => K 15 | 16 => K 16
  | 17 => K 17 | 18 => K 18 | 19 => K 19 | 20 => K 20 | 21 => K 21 | 22 => K 22 | 23 => K 23 | 24 => K 24
  | n => K n
theorem litK_ok {n : Nat} {K : Nat → Prop} (h : litK n K) : K n := by unfold litK at h; split at h <;> exact h
noncomputable def fA (x : AV) : (AV → Prop) → Prop :=
  AV.rec (motive_1 := fun _ => (AV → Prop) → Prop) (motive_2 := fun _ => (List AV → Prop) → Prop) (fun x K => K (.d x)) (fun i K => litK i fun i => K (.arr i)) (fun i o K => litK i fun i => K (.ptr i o)) (fun i k o K => litK i fun i => K (.ap i k o)) (fun cs o K => K (.im cs o)) (fun i K => litK i fun i => K (.map i)) (fun i b o K => litK i fun i => K (.mp i b o))
    (fun _ ih K => ih fun l => K (.agg l)) (fun _ ih K => ih fun l => K (.tup l)) (fun f _ ih K => ih fun l => K (.fn f l)) (fun i n K => litK i fun i => K (.sub i n)) (fun K => K []) (fun _ _ ihx ihr K => ihx fun y => ihr fun l => K (y :: l)) x
noncomputable def fAs (xs : List AV) : (List AV → Prop) → Prop :=
  AV.rec_1 (motive_1 := fun _ => (AV → Prop) → Prop) (motive_2 := fun _ => (List AV → Prop) → Prop) (fun x K => K (.d x)) (fun i K => litK i fun i => K (.arr i)) (fun i o K => litK i fun i => K (.ptr i o)) (fun i k o K => litK i fun i => K (.ap i k o)) (fun cs o K => K (.im cs o)) (fun i K => litK i fun i => K (.map i)) (fun i b o K => litK i fun i => K (.mp i b o))
    (fun _ ih K => ih fun l => K (.agg l)) (fun _ ih K => ih fun l => K (.tup l)) (fun f _ ih K => ih fun l => K (.fn f l)) (fun i n K => litK i fun i => K (.sub i n)) (fun K => K []) (fun _ _ ihx ihr K => ihx fun y => ihr fun l => K (y :: l)) xs
mutual
theorem fA_ok : ∀ (x : AV) (K : AV → Prop), fA x K → K x
  | .d x, K, h => h
  | .arr i, K, h => litK_ok (K := fun i => K (.arr i)) h
  | .ptr i o, K, h => litK_ok (K := fun i => K (.ptr i o)) h
  | .ap i k o, K, h => litK_ok (K := fun i => K (.ap i k o)) h
  | .im cs o, K, h => h
  | .map i, K, h => litK_ok (K := fun i => K (.map i)) h
  | .mp i b o, K, h => litK_ok (K := fun i => K (.mp i b o)) h
  | .agg cs, K, h => fAs_ok cs (fun l => K (.agg l)) h
  | .tup cs, K, h => fAs_ok cs (fun l => K (.tup l)) h
  | .fn f cs, K, h => fAs_ok cs (fun l => K (.fn f l)) h
  | .sub i n, K, h => litK_ok (K := fun i => K (.sub i n)) h
theorem fAs_ok : ∀ (xs : List AV) (K : List AV → Prop), fAs xs K → K xs
  | [], K, h => h
  | x :: r, K, h => fAs_ok r (fun l => K (x :: l)) (fA_ok x (fun y => fAs r fun l => K (y :: l)) h)
end
def fB (ab : AB) (K : AB → Prop) : Prop :=
  match ab with
  | .cells cs => fAs cs fun l => K (.cells l)
  | .row e n xs sh => K (.row e n xs sh)
  | .map es => K (.map es)
  | .pool b cs => K (.pool b cs)
  | .dead => K .dead
theorem fB_ok {ab : AB} {K : AB → Prop} (h : fB ab K) : K ab := by
  cases ab with
  | cells cs => exact fAs_ok cs _ h
  | row e n xs sh => exact h
  | map es => exact h
  | pool b cs => exact h
  | dead => exact h
noncomputable def fL (xs : List AB) : (List AB → Prop) → Prop :=
  List.rec (motive := fun _ => (List AB → Prop) → Prop) (fun K => K []) (fun x _ ih K => fB x fun y => ih fun l => K (y :: l)) xs
theorem fL_ok : ∀ {xs : List AB} {K : List AB → Prop}, fL xs K → K xs
  | [], _, h => h
  | x :: r, K, h => fL_ok (xs := r) (K := fun l => K (x :: l)) (fB_ok (show fB x fun y => fL r fun l => K (y :: l) from h))

/-! ## which blocks a call is handed -/
def addK (i : Nat) (acc : List Nat) (K : List Nat → Prop) : Prop := bif memB i acc then K acc else K (acc ++ [i])
noncomputable def idsK (x : AV) : List Nat → (List Nat → Prop) → Prop :=
  AV.rec (motive_1 := fun _ => List Nat → (List Nat → Prop) → Prop) (motive_2 := fun _ => List Nat → (List Nat → Prop) → Prop) (fun _ acc K => K acc) (fun i acc K => addK i acc K) (fun i _ acc K => addK i acc K) (fun i _ _ acc K => addK i acc K) (fun _ _ acc K => K acc) (fun i acc K => addK i acc K) (fun i _ _ acc K => addK i acc K)
    (fun _ ih acc K => ih acc K) (fun _ ih acc K => ih acc K) (fun _ _ ih acc K => ih acc K) (fun i _ acc K => addK i acc K) (fun acc K => K acc) (fun _ _ ihx ihr acc K => ihx acc fun acc => ihr acc K) x
noncomputable def idsKs (xs : List AV) : List Nat → (List Nat → Prop) → Prop :=
  AV.rec_1 (motive_1 := fun _ => List Nat → (List Nat → Prop) → Prop) (motive_2 := fun _ => List Nat → (List Nat → Prop) → Prop) (fun _ acc K => K acc) (fun i acc K => addK i acc K) (fun i _ acc K => addK i acc K) (fun i _ _ acc K => addK i acc K) (fun _ _ acc K => K acc) (fun i acc K => addK i acc K) (fun i _ _ acc K => addK i acc K)
    (fun _ ih acc K => ih acc K) (fun _ ih acc K => ih acc K) (fun _ _ ih acc K => ih acc K) (fun i _ acc K => addK i acc K) (fun acc K => K acc) (fun _ _ ihx ihr acc K => ihx acc fun acc => ihr acc K) xs
noncomputable def fN (xs : List Nat) : (List Nat → Prop) → Prop :=
  List.rec (motive := fun _ => (List Nat → Prop) → Prop) (fun K => K []) (fun x _ ih K => litK x fun y => ih fun l => K (y :: l)) xs
theorem fN_ok : ∀ {xs : List Nat} {K : List Nat → Prop}, fN xs K → K xs
  | [], _, h => h
  | x :: r, K, h => fN_ok (xs := r) (K := fun l => K (x :: l)) (litK_ok (show litK x fun y => fN r fun l => K (y :: l) from h))
noncomputable def reachK (fuel : Nat) : List Nat → Nat → List AB → (List Nat → Prop) → Prop :=
  Nat.rec (motive := fun _ => List Nat → Nat → List AB → (List Nat → Prop) → Prop) (fun _ _ _ _ => False) (fun _ ih ix k L K => match ix[k]? with
    | none => fN ix K
    | some i => lgetK L i fun ab => match ab with
      | .cells cs => idsKs cs ix fun ix' => ih ix' (k + 1) L K
      | _ => ih ix (k + 1) L K) fuel
theorem addK_ok {i : Nat} {acc : List Nat} {K : List Nat → Prop} (h : addK i acc K) : ∃ l, K l := by unfold addK at h; cases hb : memB i acc <;> rw [hb] at h <;> exact ⟨_, h⟩
mutual
theorem idsK_ok : ∀ (x : AV) (acc : List Nat) (K : List Nat → Prop), idsK x acc K → ∃ l, K l
  | .d _, acc, K, h => ⟨_, h⟩
  | .arr i, acc, K, h => addK_ok h
  | .ptr i _, acc, K, h => addK_ok h
  | .ap i _ _, acc, K, h => addK_ok h
  | .im _ _, acc, K, h => ⟨_, h⟩
  | .map i, acc, K, h => addK_ok h
  | .mp i _ _, acc, K, h => addK_ok h
  | .agg cs, acc, K, h => idsKs_ok cs acc K h
  | .tup cs, acc, K, h => idsKs_ok cs acc K h
  | .fn _ cs, acc, K, h => idsKs_ok cs acc K h
  | .sub i _, acc, K, h => addK_ok h
theorem idsKs_ok : ∀ (xs : List AV) (acc : List Nat) (K : List Nat → Prop), idsKs xs acc K → ∃ l, K l
  | [], acc, K, h => ⟨_, h⟩
  | x :: r, acc, K, h => by
    obtain ⟨l, h1⟩ := idsK_ok x acc (fun acc => idsKs r acc K) h
    exact idsKs_ok r l K h1
end
theorem reachK_ok : ∀ {fuel : Nat} {ix : List Nat} {k : Nat} {L : List AB} {K : List Nat → Prop}, reachK fuel ix k L K → ∃ l, K l
  | 0, _, _, _, _, h => h.elim
  | fuel + 1, ix, k, L, K, h => by
    replace h : (match ix[k]? with
      | none => fN ix K
      | some i => lgetK L i fun ab => match ab with
        | .cells cs => idsKs cs ix fun ix' => reachK fuel ix' (k + 1) L K
        | _ => reachK fuel ix (k + 1) L K) := h
    split at h
    · exact ⟨_, fN_ok h⟩
    · obtain ⟨ab, _, h1⟩ := lgetK_ok h
      cases ab with
      | cells cs =>
        obtain ⟨l, h2⟩ := idsKs_ok cs _ _ h1
        exact reachK_ok h2
      | _ => exact reachK_ok h1

def argK (x : AV) (L : List AB) (K : AV → List AB → Prop) : Prop :=
  match x with
  | .arr j => toDK (.arr j) L fun d L' => K (.d d) L'
  | x => K x L
noncomputable def argsK (xs : List AV) : List AB → (List AV → List AB → Prop) → Prop :=
  List.rec (motive := fun _ => List AB → (List AV → List AB → Prop) → Prop) (fun L K => K [] L) (fun x _ ih L K => argK x L fun y L1 => ih L1 fun l L2 => K (y :: l) L2) xs

theorem argK_ok {c : Ctx} (hc : c.wf) {E : Nat → Option Nat} {L : List AB} {w : World} (hs : SimH c E L w) {x : AV} {K : AV → List AB → Prop} (h : argK x L K) {v : Value} (hv : VR (rcOf c.M0 E L w) x v) :
    ∃ y L', K y L' ∧ SimH c E L' w ∧ (rcOf c.M0 E L w).le (rcOf c.M0 E L' w) ∧ VR (rcOf c.M0 E L' w) y v := by
  cases x <;> first | exact ⟨_, L, h, hs, .refl _, hv⟩ | skip
  case arr j =>
    have h' : toDK (.arr j) L (fun d L' => K (.d d) L') := h
    obtain ⟨d, L', h1, _, h2, h3, h4⟩ := toDK_ok hc hs h' hv
    exact ⟨_, L', h1, h2, h3, by simp only [VR]; exact h4⟩
theorem argsK_ok {c : Ctx} (hc : c.wf) {E : Nat → Option Nat} {w : World} : ∀ {xs : List AV} {L : List AB} {K : List AV → List AB → Prop} {us : List Value}, SimH c E L w → argsK xs L K → VRt (rcOf c.M0 E L w) xs us →
    ∃ ys L', K ys L' ∧ SimH c E L' w ∧ (rcOf c.M0 E L w).le (rcOf c.M0 E L' w) ∧ VRt (rcOf c.M0 E L' w) ys us
  | [], L, K, us, hs, h, hv => ⟨[], L, h, hs, .refl _, by simpa [VRt] using hv⟩
  | x :: xs, L, K, us, hs, h, hv => by
    simp only [VRt] at hv
    obtain ⟨u, us', rfl, h1, h2⟩ := hv
    obtain ⟨y, L1, k1, k2, k3, k4⟩ := argK_ok hc hs (show argK x L fun y L1 => argsK xs L1 fun l L2 => K (y :: l) L2 from h) h1
    obtain ⟨ys, L2, m1, m2, m3, m4⟩ := argsK_ok hc (xs := xs) k2 k1 (VRt.mono k3 _ _ h2)
    exact ⟨y :: ys, L2, m1, m2, k3.trans m3, by simp only [VRt]; exact ⟨u, us', rfl, VR.mono m3 _ _ k4, m4⟩⟩

/-! ## behind a call -/
def unN (ix : List Nat) (base j : Nat) : Option Nat :=
  match ix[j]? with
  | some i => some i
  | none => some (base + (j - ix.length))
def renL (rho : Nat → Option Nat) : List AB → Option (List AB)
  | [] => some []
  | ab :: r => match renAB rho ab with
    | some ab' => match renL rho r with
      | some l => some (ab' :: l)
      | none => none
    | none => none
def sets : List Nat → List AB → List AB → List AB
  | i :: ix, ab :: r, L => sets ix r (L.set i ab)
  | _, _, L => L
def mergeA (ix : List Nat) (Lo L : List AB) : Option (List AB) := bif Nat.ble ix.length Lo.length then some (sets ix Lo L ++ Lo.drop ix.length) else none

theorem renL_ok {rho : Nat → Option Nat} : ∀ {l l' : List AB}, renL rho l = some l' → l'.length = l.length ∧ ∀ (j : Nat) (ab' : AB), l'[j]? = some ab' → ∃ ab, l[j]? = some ab ∧ renAB rho ab = some ab'
  | [], l', h => by simp only [renL, Option.some.injEq] at h; subst h; exact ⟨rfl, by simp⟩
  | ab :: r, l', h => by
    simp only [renL] at h
    split at h
    · rename_i ab' hab
      split at h
      · rename_i l2 hl2
        cases h
        obtain ⟨h1, h2⟩ := renL_ok hl2
        refine ⟨by simp [h1], fun j ab'' hj => ?_⟩
        cases j with
        | zero => simp at hj; subst hj; exact ⟨ab, by simp, hab⟩
        | succ j => simp only [List.getElem?_cons_succ] at hj ⊢; exact h2 j ab'' hj
      · cases h
    · cases h

theorem sets_length : ∀ (ix : List Nat) (Lo L : List AB), (sets ix Lo L).length = L.length
  | [], _, L => by simp [sets]
  | i :: ix, [], L => by simp [sets]
  | i :: ix, ab :: r, L => by simp only [sets]; rw [sets_length]; simp
theorem sets_other : ∀ (ix : List Nat) (Lo L : List AB) (k : Nat), k ∉ ix → (sets ix Lo L)[k]? = L[k]?
  | [], _, L, k, _ => by simp [sets]
  | i :: ix, [], L, k, _ => by simp [sets]
  | i :: ix, ab :: r, L, k, h => by
    simp only [List.mem_cons, not_or] at h
    simp only [sets]
    rw [sets_other ix r _ k h.2, getElem?_set_other h.1]
theorem sets_at : ∀ (ix : List Nat) (Lo L : List AB), ix.Nodup → (∀ i ∈ ix, i < L.length) → ix.length ≤ Lo.length → ∀ (j i : Nat), ix[j]? = some i → (sets ix Lo L)[i]? = Lo[j]?
  | [], _, L, _, _, _, j, i, h => by simp at h
  | a :: ix, [], L, _, _, hl, j, i, h => by simp at hl
  | a :: ix, ab :: r, L, hnd, hlt, hl, j, i, h => by
    rw [List.nodup_cons] at hnd
    simp only [sets]
    cases j with
    | zero =>
      simp at h; subst h
      rw [sets_other ix r _ a hnd.1]
      have := hlt a (by simp)
      rw [List.getElem?_set]; simp [this]
    | succ j =>
      simp only [List.getElem?_cons_succ] at h ⊢
      exact sets_at ix r _ hnd.2 (fun i hi => by simpa using hlt i (by simp [hi])) (by simpa using hl) j i h

/-- a call that is handed its arguments as they are -/
def callRawK (P : Program) (f : FuncId) (avs1 : List AV) (L1 : List AB) (K : AV → List AB → Prop) : Prop :=
  idsKs avs1 [] fun ix0 => reachK 64 ix0 0 L1 fun ix =>
  bif nodupB ix then
    match renAs (posN ix · 0) avs1, linA (posN ix · 0) L1 ix with
    | some avs2, some Lin => fAs avs2 fun avs2 => fL Lin fun Lin => ACalls P f avs2 Lin fun av Lout => litK L1.length fun base =>
        match renL (unN ix base) Lout, renA (unN ix base) av with
        | some Lo, some av' => match mergeA ix Lo L1 with
          | some L2 => fL L2 fun L2 => fA av' fun av' => K av' L2
          | none => False
        | _, _ => False
    | _, _ => False
  else False

/-- a call whose slices of the call's own go over as data -/
def callK (P : Program) (f : FuncId) (avs : List AV) (L : List AB) (K : AV → List AB → Prop) : Prop := argsK avs L fun avs1 L1 => callRawK P f avs1 L1 K

end
end Go.Ab

namespace Go.Ab
noncomputable section
open Go.RowKit

def fEnd (ix : List Nat) (n0 base : Nat) (E E' : Nat → Option Nat) : Nat → Option Nat := fun i =>
  if base ≤ i then E' (n0 + (i - base)) else match posN ix i 0 with | some j => E' j | none => E i

theorem posN_some {ix : List Nat} (hnd : ix.Nodup) {i j : Nat} (h : ix[j]? = some i) : posN ix i 0 = some j := by
  cases hp : posN ix i 0 with
  | some m =>
    obtain ⟨m', h1, h2⟩ := posN_ok hp
    rw [Nat.zero_add] at h2; subst h2
    rw [nodup_inj hnd h h1]
  | none =>
    exfalso
    have key : ∀ (l : List Nat) (k j : Nat), l[j]? = some i → posN l i k ≠ none := by
      intro l
      induction l with
      | nil => intro k j h; simp at h
      | cons a l ih =>
        intro k j h
        simp only [posN]
        cases hb : Nat.beq a i with
        | true => simp
        | false =>
          cases j with
          | zero => simp at h; subst h; rw [Nat.beq_refl] at hb; cases hb
          | succ j => exact ih (k + 1) j (by simpa using h)
    exact key ix 0 j h hp

theorem posN_mem {ix : List Nat} {i j : Nat} (h : posN ix i 0 = some j) : ix[j]? = some i := by
  obtain ⟨m, h1, h2⟩ := posN_ok h
  rw [Nat.zero_add] at h2; rw [h2]; exact h1

theorem posN_none {ix : List Nat} {i : Nat} (h : i ∉ ix) : posN ix i 0 = none := by
  cases hp : posN ix i 0 with
  | none => rfl
  | some j => exact absurd (List.mem_of_getElem? (posN_mem hp)) h

set_option maxHeartbeats 1000000 in
theorem callRawK_ok {P : Program} {f : FuncId} {c : Ctx} (hc : c.wf) {E : Nat → Option Nat} {L1 : List AB} {w : World} (hs1 : SimH c E L1 w) {avs1 : List AV} {K : AV → List AB → Prop} (h1 : callRawK P f avs1 L1 K)
    {vs : Array Value} (hv1 : VRt (rcOf c.M0 E L1 w) avs1 vs.toList) :
    Calls P f vs w fun e w' => ∃ v av E' L', e = .returned v ∧ K av L' ∧ SimH c E' L' w' ∧ (rcOf c.M0 E L1 w).le (rcOf c.M0 E' L' w') ∧ VR (rcOf c.M0 E' L' w') av v := by
  obtain ⟨ix0, h2⟩ := idsKs_ok _ _ _ h1
  obtain ⟨ix, h3⟩ := reachK_ok h2
  cases hnd0 : nodupB ix with
  | false => rw [hnd0] at h3; exact h3.elim
  | true =>
    rw [hnd0] at h3
    simp only [cond_true] at h3
    have hnd := nodupB_ok hnd0
    split at h3
    · rename_i avs2 Lin hren hlin
      have h4 := fL_ok (fAs_ok _ _ h3)
      clear h3 h2 h1
      obtain ⟨hlen, hlook⟩ := linA_ok hlin
      have hixlt : ∀ i ∈ ix, i < L1.length := by
        intro i hi
        obtain ⟨j, hj⟩ := List.mem_iff_getElem?.1 hi
        obtain ⟨ab, _, h5, _⟩ := hlook j i hj
        exact (List.getElem?_eq_some_iff.1 h5).1
      -- the callee's own ground
      let P0' : Nat → Prop := fun b => b < w.heap.size ∧ ∀ (i : Nat) (ab : AB), i ∈ ix → L1[i]? = some ab → (ab.live = true → E i ≠ some b) ∧ b ∉ ab.boxes
      let M0' : Nat → Nat → Prop := fun b o => P0' b ∧ Mut c.M0 E L1 b o
      have hP0 : ∀ b, c.P0 b → P0' b := by
        intro b hb
        refine ⟨Nat.lt_of_lt_of_le (hc.low b hb) hs1.size, fun i ab hi hab => ⟨fun hl he => hs1.low i ab b hab hl he hb, fun hbx => hs1.bx.low i ab b hab hbx hb⟩⟩
      have hM : ∀ b o, M0' b o → Mut c.M0 E L1 b o := fun b o h => h.2
      have hleads := sub_leads (w := w) hlin hM
      obtain ⟨hblk, hlow, hinj, hboxy⟩ := sub_blocks hs1 hnd hlin hM
      let c' : Ctx := { w0 := w, P0 := P0', M0 := M0', E0 := Esub E ix, L0 := Lin, n := 0 }
      have hc' : c'.wf := ⟨fun b hb => hb.1, fun b o h => h.1⟩
      have hsim' : SimH c' c'.E0 Lin c'.w0 := by
        refine ⟨rfl, rfl, rfl, Nat.le_refl _, fun _ _ => rfl, hblk, ?_, hinj, .refl _, hboxy _ fun b hp j ab hj hb => ?_⟩
        rotate_left
        · have hjl : j < ix.length := by rw [← hlen]; exact (List.getElem?_eq_some_iff.1 hj).1
          obtain ⟨ab1, ab2, h3, h4, h5⟩ := hlook j ix[j] (List.getElem?_eq_getElem hjl)
          rw [hj] at h4; cases h4
          exact (hp.2 ix[j] ab1 (List.getElem_mem hjl) h3).2 (by rw [← (renAB_alike h5).boxes]; exact hb)
        intro j ab b hj hl he hp
        obtain ⟨i, ab0, k1, k2, k3, k4⟩ := hlow j ab b hj hl he
        exact (hp.2 i ab0 (List.mem_of_getElem? k1) k2).1 k3 k4
      have hargs : VRt (rcOf c'.M0 c'.E0 Lin c'.w0) avs2 vs.toList := (renAs_ok hleads avs1 avs2 hren).2 _ hv1
      refine (h4 c' vs hc' rfl hsim' hargs).mono ?_
      rintro e w' ⟨v, av, Lout, E', rfl, hpost, hsE, hvE⟩
      clear h4
      have hpost := litK_ok hpost
      split at hpost
      · rename_i Lo av' hLo hav'
        split at hpost
        · rename_i L2 hmerge
          have hK := fA_ok _ _ (fL_ok hpost)
          clear hpost
          unfold mergeA at hmerge
          cases hble : Nat.ble ix.length Lo.length with
          | false => rw [hble] at hmerge; cases hmerge
          | true =>
            rw [hble] at hmerge
            simp only [cond_true, Option.some.injEq] at hmerge
            have hle0 : ix.length ≤ Lo.length := Nat.le_of_ble_eq_true hble
            obtain ⟨hLol, hLoook⟩ := renL_ok hLo
            let E2 := fEnd ix ix.length L1.length E E'
            have hSl : (sets ix Lo L1).length = L1.length := sets_length ix Lo L1
            -- what stands at each number
            have look : ∀ i ab, L2[i]? = some ab → (∃ j ab0, Lout[j]? = some ab0 ∧ renAB (unN ix L1.length) ab0 = some ab ∧ E2 i = E' j ∧ unN ix L1.length j = some i) ∨ (i ∉ ix ∧ L1[i]? = some ab ∧ E2 i = E i) := by
              intro i ab hi
              rw [← hmerge] at hi
              rcases Nat.lt_or_ge i L1.length with hlt | hge
              · rw [List.getElem?_append_left (by rw [hSl]; exact hlt)] at hi
                by_cases him : i ∈ ix
                · obtain ⟨j, hj⟩ := List.mem_iff_getElem?.1 him
                  rw [sets_at ix Lo L1 hnd hixlt hle0 j i hj] at hi
                  obtain ⟨ab0, h5, h6⟩ := hLoook j ab hi
                  refine .inl ⟨j, ab0, h5, h6, ?_, by simp only [unN, hj]⟩
                  show fEnd ix ix.length L1.length E E' i = _
                  unfold fEnd
                  rw [if_neg (by omega), posN_some hnd hj]
                · rw [sets_other ix Lo L1 i him] at hi
                  refine .inr ⟨him, hi, ?_⟩
                  show fEnd ix ix.length L1.length E E' i = _
                  unfold fEnd
                  rw [if_neg (by omega), posN_none him]
              · rw [List.getElem?_append_right (by rw [hSl]; exact hge), hSl, List.getElem?_drop] at hi
                obtain ⟨ab0, h5, h6⟩ := hLoook _ ab hi
                refine .inl ⟨ix.length + (i - L1.length), ab0, h5, h6, ?_, ?_⟩
                · show fEnd ix ix.length L1.length E E' i = _
                  unfold fEnd
                  rw [if_pos hge]
                · have hn : ix[ix.length + (i - L1.length)]? = none := by rw [List.getElem?_eq_none (by omega)]
                  simp only [unN, hn]
                  congr 1
                  omega
            -- and back
            have back : ∀ j i, unN ix L1.length j = some i → ∀ ab0, Lout[j]? = some ab0 → ∃ ab, L2[i]? = some ab ∧ renAB (unN ix L1.length) ab0 = some ab ∧ E2 i = E' j := by
              intro j i hji ab0 hab0
              have hjl : j < Lo.length := by rw [hLol]; exact (List.getElem?_eq_some_iff.1 hab0).1
              have hL2 : L2[i]? = Lo[j]? ∧ E2 i = E' j := by
                unfold unN at hji
                split at hji
                · rename_i i' hi'
                  cases hji
                  have hil := hixlt i (List.mem_of_getElem? hi')
                  constructor
                  · rw [← hmerge, List.getElem?_append_left (by rw [hSl]; exact hil), sets_at ix Lo L1 hnd hixlt hle0 j i hi']
                  · show fEnd ix ix.length L1.length E E' i = _
                    unfold fEnd
                    rw [if_neg (by omega), posN_some hnd hi']
                · rename_i hn
                  cases hji
                  have hge : ix.length ≤ j := by
                    rcases Nat.lt_or_ge j ix.length with h | h
                    · rw [List.getElem?_eq_getElem h] at hn; cases hn
                    · exact h
                  constructor
                  · rw [← hmerge, List.getElem?_append_right (by rw [hSl]; omega), hSl, List.getElem?_drop]
                    congr 1; omega
                  · show fEnd ix ix.length L1.length E E' _ = _
                    unfold fEnd
                    rw [if_pos (by omega)]
                    congr 1; omega
              rw [hL2.1]
              obtain ⟨ab1, h5, h6⟩ := hLoook j Lo[j] (List.getElem?_eq_getElem hjl)
              rw [hab0] at h5; cases h5
              exact ⟨Lo[j], List.getElem?_eq_getElem hjl, h6, hL2.2⟩
            -- what may change behind the call could have changed for the callee
            have hmut : ∀ b o, Mut c.M0 E2 L2 b o → Mut M0' E' Lout b o := by
              rintro b o (hm | ⟨i, ab, hi, he, hm⟩ | ⟨i, ab, hi, hm⟩)
              · exact .inl ⟨hP0 b (hc.sub b o hm), .inl hm⟩
              rotate_left
              · rcases look i ab hi with ⟨j, ab0, k1, k2, k3, k4⟩ | ⟨k1, k2, k3⟩
                · exact .inr (.inr ⟨j, ab0, k1, by rw [← (renAB_alike k2).boxes]; exact hm⟩)
                · refine .inl ⟨⟨hs1.blt k2 hm, fun i2 ab2 hi2 hab2 => ⟨fun hl2 he2 => hs1.bx.own i i2 ab ab2 b k2 hm hab2 hl2 he2, fun hb2 => ?_⟩⟩, .inr (.inr ⟨i, ab, k2, hm⟩)⟩
                  exact k1 (by rw [hs1.bx.dj i i2 ab ab2 b k2 hab2 hm hb2]; exact hi2)
              · rcases look i ab hi with ⟨j, ab0, k1, k2, k3, k4⟩ | ⟨k1, k2, k3⟩
                · exact .inr (.inl ⟨j, ab0, k1, by rw [← k3]; exact he, ((renAB_alike k2).mut o).1 hm⟩)
                · rw [k3] at he
                  have hl := AB.mut_live hm
                  refine .inl ⟨⟨hs1.lt k2 hl he, fun i2 ab2 hi2 hab2 => ⟨fun hl2 he2 => ?_, fun hb2 => hs1.bx.own i2 i ab2 ab b hab2 hb2 k2 hl he⟩⟩, .inr (.inl ⟨i, ab, k2, he, hm⟩)⟩
                  exact k1 (by rw [hs1.inj i i2 ab ab2 b k2 hab2 hl hl2 he he2]; exact hi2)
            have hrd : ∀ a u, (rcOf M0' E' Lout w').rd a u → (rcOf c.M0 E2 L2 w').rd a u := fun a u h => ⟨h.1, fun hm => h.2 (hmut _ _ hm)⟩
            have hleads2 : Leads (rcOf M0' E' Lout w') (rcOf c.M0 E2 L2 w') (unN ix L1.length) := by
              refine ⟨hrd, ?_, ?_, ?_⟩
              · intro j i hji b ⟨ab0, k1, k2, k3⟩
                obtain ⟨ab, m1, m2, m3⟩ := back j i hji ab0 k1
                exact ⟨ab, m1, by rw [(renAB_alike m2).isCell]; exact k2, by rw [m3]; exact k3⟩
              · intro j i hji v ⟨ab0, k1, k2⟩
                obtain ⟨ab, m1, m2, m3⟩ := back j i hji ab0 k1
                exact ⟨ab, m1, (renAB_alike m2).ar m3 k2⟩
              · intro j i hji k o v ⟨ab0, k1, k2⟩
                obtain ⟨ab, m1, m2, m3⟩ := back j i hji ab0 k1
                exact ⟨ab, m1, (renAB_alike m2).ap m3 k2⟩
            -- a block that is none of the callee's has not turned
            have hother : ∀ i ab b, i ∉ ix → L1[i]? = some ab → ab.live = true → E i = some b → w'.heap[b]? = w.heap[b]? := by
              intro i ab b hi hab hl he
              refine hsE.prot b ⟨hs1.lt hab hl he, fun i2 ab2 hi2 hab2 => ⟨fun hl2 he2 => ?_, fun hb2 => hs1.bx.own i2 i ab2 ab b hab2 hb2 hab hl he⟩⟩
              exact hi (by rw [hs1.inj i i2 ab ab2 b hab hab2 hl hl2 he he2]; exact hi2)
            have hotherB : ∀ i ab b, i ∉ ix → L1[i]? = some ab → b ∈ ab.boxes → w'.heap[b]? = w.heap[b]? := by
              intro i ab b hi hab hb
              refine hsE.prot b ⟨hs1.blt hab hb, fun i2 ab2 hi2 hab2 => ⟨fun hl2 he2 => hs1.bx.own i i2 ab ab2 b hab hb hab2 hl2 he2, fun hb2 => ?_⟩⟩
              exact hi (by rw [hs1.bx.dj i i2 ab ab2 b hab hab2 hb hb2]; exact hi2)
            have hback1 : ∀ i, i ∉ ix → ∀ ab, L1[i]? = some ab → L2[i]? = some ab ∧ E2 i = E i := by
              intro i hi ab hab
              have hil : i < L1.length := (List.getElem?_eq_some_iff.1 hab).1
              constructor
              · rw [← hmerge, List.getElem?_append_left (by rw [hSl]; exact hil), sets_other ix Lo L1 i hi]; exact hab
              · show fEnd ix ix.length L1.length E E' i = _
                unfold fEnd
                rw [if_neg (by omega), posN_none hi]
            have hun : ∀ j i, ix[j]? = some i → unN ix L1.length j = some i := by
              intro j i h; simp only [unN, h]
            -- what was true of the caller's own values is true still
            have hle : (rcOf c.M0 E L1 w).le (rcOf c.M0 E2 L2 w') := by
              refine ⟨?_, ?_, ?_, ?_⟩
              · intro a u h
                exact hrd a u (hsE.old.rd a u (hleads.rd a u h))
              · rintro i b ⟨ab, k1, k2, k3⟩
                by_cases hi : i ∈ ix
                · obtain ⟨j, hj⟩ := List.mem_iff_getElem?.1 hi
                  exact hleads2.pt j i (hun j i hj) b (hsE.old.pt j b (hleads.pt i j (posN_some hnd hj) b ⟨ab, k1, k2, k3⟩))
                · obtain ⟨m1, m2⟩ := hback1 i hi ab k1
                  exact ⟨ab, m1, k2, by rw [m2]; exact k3⟩
              · rintro i v ⟨ab, k1, k2⟩
                by_cases hi : i ∈ ix
                · obtain ⟨j, hj⟩ := List.mem_iff_getElem?.1 hi
                  exact hleads2.ar j i (hun j i hj) v (hsE.old.ar j v (hleads.ar i j (posN_some hnd hj) v ⟨ab, k1, k2⟩))
                · obtain ⟨m1, m2⟩ := hback1 i hi ab k1
                  refine ⟨ab, m1, ?_⟩
                  cases ab with
                  | cells cs => exact k2.elim
                  | map es => exact k2.elim
                  | pool b cs => exact k2.elim
                  | dead => exact k2
                  | row e n xs sh =>
                    simp only [arRel, m2] at k2 ⊢
                    cases hE : E i with
                    | none => rw [hE] at k2; exact k2
                    | some b =>
                      rw [hE] at k2
                      obtain ⟨cap, cur, q1, q2, q3⟩ := k2
                      exact ⟨cap, cur, q1, by rw [hother i _ b hi k1 rfl hE]; exact q2, q3⟩
              · rintro i k o v ⟨ab, k1, k2⟩
                by_cases hi : i ∈ ix
                · obtain ⟨j, hj⟩ := List.mem_iff_getElem?.1 hi
                  exact hleads2.ap j i (hun j i hj) k o v (hsE.old.ap j k o v (hleads.ap i j (posN_some hnd hj) k o v ⟨ab, k1, k2⟩))
                · obtain ⟨m1, m2⟩ := hback1 i hi ab k1
                  refine ⟨ab, m1, ?_⟩
                  cases ab with
                  | cells cs => exact k2.elim
                  | map es => exact k2.elim
                  | pool b cs => exact k2.elim
                  | dead => exact k2
                  | row e n xs sh => simp only [apRel, m2] at k2 ⊢; exact k2
            refine ⟨v, av', E2, L2, rfl, hK, ?_, hle, renA_ok hleads2 av av' hav' v hvE⟩
            refine ⟨hsE.os.trans hs1.os, hsE.tape.trans hs1.tape, hsE.output.trans hs1.output, Nat.le_trans hs1.size hsE.size, ?_, ?_, ?_, ?_, hs1.old.trans hle, ?_⟩
            · intro b hb
              rw [hsE.prot b (hP0 b hb)]; exact hs1.prot b hb
            · intro i ab hi
              rcases look i ab hi with ⟨j, ab0, k1, k2, k3, k4⟩ | ⟨k1, k2, k3⟩
              · rw [k3]; exact renAB_ok hleads2 k2 (hsE.blk j ab0 k1)
              · rw [k3]; exact BR.mono hle (hs1.blk i ab k2) (fun b he hl => hother i ab b k1 k2 hl he) fun b hb => hotherB i ab b k1 k2 hb
            · intro i ab b hi hl he hp
              rcases look i ab hi with ⟨j, ab0, k1, k2, k3, k4⟩ | ⟨k1, k2, k3⟩
              · rw [k3] at he
                exact hsE.low j ab0 b k1 (by rw [← (renAB_alike k2).live]; exact hl) he (hP0 b hp)
              · rw [k3] at he
                exact hs1.low i ab b k2 hl he hp
            · intro i1 i2 ab1 ab2 b hi1 hi2 hl1 hl2 he1 he2
              rcases look i1 ab1 hi1 with ⟨j1, a1, k1, k2, k3, k4⟩ | ⟨k1, k2, k3⟩ <;> rcases look i2 ab2 hi2 with ⟨j2, a2, m1, m2, m3, m4⟩ | ⟨m1, m2, m3⟩
              · rw [k3] at he1; rw [m3] at he2
                have := hsE.inj j1 j2 a1 a2 b k1 m1 (by rw [← (renAB_alike k2).live]; exact hl1) (by rw [← (renAB_alike m2).live]; exact hl2) he1 he2
                subst this
                rw [k4] at m4; cases m4; rfl
              · rw [k3] at he1; rw [m3] at he2
                exfalso
                refine hsE.low j1 a1 b k1 (by rw [← (renAB_alike k2).live]; exact hl1) he1 ⟨hs1.lt m2 hl2 he2, fun i3 ab3 hi3 hab3 => ⟨fun hl3 he3 => ?_, fun hb3 => hs1.bx.own i3 i2 ab3 ab2 b hab3 hb3 m2 hl2 he2⟩⟩
                exact m1 (by rw [hs1.inj i2 i3 ab2 ab3 b m2 hab3 hl2 hl3 he2 he3]; exact hi3)
              · rw [k3] at he1; rw [m3] at he2
                exfalso
                refine hsE.low j2 a2 b m1 (by rw [← (renAB_alike m2).live]; exact hl2) he2 ⟨hs1.lt k2 hl1 he1, fun i3 ab3 hi3 hab3 => ⟨fun hl3 he3 => ?_, fun hb3 => hs1.bx.own i3 i1 ab3 ab1 b hab3 hb3 k2 hl1 he1⟩⟩
                exact k1 (by rw [hs1.inj i1 i3 ab1 ab3 b k2 hab3 hl1 hl3 he1 he3]; exact hi3)
              · rw [k3] at he1; rw [m3] at he2
                exact hs1.inj i1 i2 ab1 ab2 b k2 m2 hl1 hl2 he1 he2
            · -- owned blocks
              have hprB : ∀ i ab b, i ∉ ix → L1[i]? = some ab → b ∈ ab.boxes → P0' b := by
                intro i ab b hi hab hb
                refine ⟨hs1.blt hab hb, fun i2 ab2 hi2 hab2 => ⟨fun hl2 he2 => hs1.bx.own i i2 ab ab2 b hab hb hab2 hl2 he2, fun hb2 => ?_⟩⟩
                exact hi (by rw [hs1.bx.dj i i2 ab ab2 b hab hab2 hb hb2]; exact hi2)
              have hprL : ∀ i ab b, i ∉ ix → L1[i]? = some ab → ab.live = true → E i = some b → P0' b := by
                intro i ab b hi hab hl he
                refine ⟨hs1.lt hab hl he, fun i2 ab2 hi2 hab2 => ⟨fun hl2 he2 => ?_, fun hb2 => hs1.bx.own i2 i ab2 ab b hab2 hb2 hab hl he⟩⟩
                exact hi (by rw [hs1.inj i i2 ab ab2 b hab hab2 hl hl2 he he2]; exact hi2)
              refine ⟨?_, ?_, ?_, ?_⟩
              · intro i ab b hi hb hp
                rcases look i ab hi with ⟨j, ab0, k1, k2, k3, k4⟩ | ⟨k1, k2, k3⟩
                · exact hsE.bx.low j ab0 b k1 (by rw [← (renAB_alike k2).boxes]; exact hb) (hP0 b hp)
                · exact hs1.bx.low i ab b k2 hb hp
              · intro i1 i2 ab1 ab2 b hi1 hb hi2 hl2 he2
                rcases look i1 ab1 hi1 with ⟨j1, a1, k1, k2, k3, k4⟩ | ⟨k1, k2, k3⟩ <;> rcases look i2 ab2 hi2 with ⟨j2, a2, m1, m2, m3, m4⟩ | ⟨m1, m2, m3⟩
                · rw [m3] at he2
                  exact hsE.bx.own j1 j2 a1 a2 b k1 (by rw [← (renAB_alike k2).boxes]; exact hb) m1 (by rw [← (renAB_alike m2).live]; exact hl2) he2
                · rw [m3] at he2
                  exact hsE.bx.low j1 a1 b k1 (by rw [← (renAB_alike k2).boxes]; exact hb) (hprL i2 ab2 b m1 m2 hl2 he2)
                · rw [m3] at he2
                  exact hsE.low j2 a2 b m1 (by rw [← (renAB_alike m2).live]; exact hl2) he2 (hprB i1 ab1 b k1 k2 hb)
                · rw [m3] at he2
                  exact hs1.bx.own i1 i2 ab1 ab2 b k2 hb m2 hl2 he2
              · intro i ab hi
                rcases look i ab hi with ⟨j, ab0, k1, k2, k3, k4⟩ | ⟨k1, k2, k3⟩
                · rw [(renAB_alike k2).boxes]; exact hsE.bx.nd j ab0 k1
                · exact hs1.bx.nd i ab k2
              · intro i1 i2 ab1 ab2 b hi1 hi2 hb1 hb2
                rcases look i1 ab1 hi1 with ⟨j1, a1, k1, k2, k3, k4⟩ | ⟨k1, k2, k3⟩ <;> rcases look i2 ab2 hi2 with ⟨j2, a2, m1, m2, m3, m4⟩ | ⟨m1, m2, m3⟩
                · have := hsE.bx.dj j1 j2 a1 a2 b k1 m1 (by rw [← (renAB_alike k2).boxes]; exact hb1) (by rw [← (renAB_alike m2).boxes]; exact hb2)
                  subst this
                  rw [k4] at m4; cases m4; rfl
                · exact absurd (hprB i2 ab2 b m1 m2 hb2) (hsE.bx.low j1 a1 b k1 (by rw [← (renAB_alike k2).boxes]; exact hb1))
                · exact absurd (hprB i1 ab1 b k1 k2 hb1) (hsE.bx.low j2 a2 b m1 (by rw [← (renAB_alike m2).boxes]; exact hb2))
                · exact hs1.bx.dj i1 i2 ab1 ab2 b k2 m2 hb1 hb2
        · exact hpost.elim
      · exact hpost.elim
    · exact h3.elim


theorem callK_ok {P : Program} {f : FuncId} {c : Ctx} (hc : c.wf) {E : Nat → Option Nat} {L : List AB} {w : World} (hs : SimH c E L w) {avs : List AV} {K : AV → List AB → Prop} (h : callK P f avs L K)
    {vs : Array Value} (hv : VRt (rcOf c.M0 E L w) avs vs.toList) :
    Calls P f vs w fun e w' => ∃ v av E' L', e = .returned v ∧ K av L' ∧ SimH c E' L' w' ∧ (rcOf c.M0 E L w).le (rcOf c.M0 E' L' w') ∧ VR (rcOf c.M0 E' L' w') av v := by
  obtain ⟨avs1, L1, h1, hs1, hle1, hv1⟩ := argsK_ok hc hs h hv
  refine (callRawK_ok hc hs1 h1 hv1).mono ?_
  rintro e w' ⟨v, av, E', L', k1, k2, k3, k4, k5⟩
  exact ⟨v, av, E', L', k1, k2, k3, hle1.trans k4, k5⟩
end
end Go.Ab

namespace Go.Ab
noncomputable section
open Go.RowKit Go.MapKept

/-! ## maps -/
def mb : MV → List Nat
  | .box b _ => [b]
  | .v _ => []
theorem boxesM_cons (p : KV × MV) (r : List (KV × MV)) : boxesM (p :: r) = mb p.2 ++ boxesM r := by
  obtain ⟨k, m⟩ := p
  cases m <;> rfl
theorem boxesM_append : ∀ (l r : List (KV × MV)), boxesM (l ++ r) = boxesM l ++ boxesM r
  | [], r => by simp [boxesM]
  | p :: l, r => by rw [List.cons_append, boxesM_cons, boxesM_cons, boxesM_append l r, List.append_assoc]

theorem VME_length {rd : Addr → Value → Prop} {w : World} : ∀ {es : List (KV × MV)} {us : List MapEntry}, VME rd w es us → us.length = es.length
  | [], us, hv => by simp only [VME] at hv; subst hv; rfl
  | (k, m) :: r, us, hv => by
    simp only [VME] at hv
    obtain ⟨u, us', rfl, h1, h2, h3⟩ := hv
    simp [VME_length (es := r) h3]
theorem VME_set {rd : Addr → Value → Prop} {w : World} {k : KV} {m : MV} {u' : MapEntry} (hk : VKV rd k u'.key) (hm : VMV rd w m u'.val) : ∀ {es : List (KV × MV)} {us : List MapEntry}, VME rd w es us → ∀ (j : Nat), VME rd w (es.set j (k, m)) (us.set j u')
  | [], us, hv, j => by simp only [VME] at hv; subst hv; simp [VME]
  | (k0, m0) :: r, us, hv, j => by
    simp only [VME] at hv
    obtain ⟨u, us', rfl, h1, h2, h3⟩ := hv
    cases j with
    | zero => simp only [List.set_cons_zero, VME]; exact ⟨_, _, rfl, hk, hm, h3⟩
    | succ j => simp only [List.set_cons_succ, VME]; exact ⟨_, _, rfl, h1, h2, VME_set hk hm (es := r) h3 j⟩
theorem VME_erase {rd : Addr → Value → Prop} {w : World} : ∀ {es : List (KV × MV)} {us : List MapEntry}, VME rd w es us → ∀ (j : Nat), VME rd w (es.eraseIdx j) (us.eraseIdx j)
  | [], us, hv, j => by simp only [VME] at hv; subst hv; simp [VME]
  | (k0, m0) :: r, us, hv, j => by
    simp only [VME] at hv
    obtain ⟨u, us', rfl, h1, h2, h3⟩ := hv
    cases j with
    | zero => simpa using h3
    | succ j => simp only [List.eraseIdx_cons_succ, VME]; exact ⟨_, _, rfl, h1, h2, VME_erase (es := r) h3 j⟩
theorem VME_push {rd : Addr → Value → Prop} {w : World} {k : KV} {m : MV} {u' : MapEntry} (hk : VKV rd k u'.key) (hm : VMV rd w m u'.val) : ∀ {es : List (KV × MV)} {us : List MapEntry}, VME rd w es us → VME rd w (es ++ [(k, m)]) (us ++ [u'])
  | [], us, hv => by simp only [VME] at hv; subst hv; simp only [List.nil_append, VME]; exact ⟨_, _, rfl, hk, hm, rfl⟩
  | (k0, m0) :: r, us, hv => by
    simp only [VME] at hv
    obtain ⟨u, us', rfl, h1, h2, h3⟩ := hv
    simp only [List.cons_append, VME]
    exact ⟨_, _, rfl, h1, h2, VME_push hk hm (es := r) h3⟩

/-- other blocks, and a map's new contents -/
theorem SimH.remap {c : Ctx} {E : Nat → Option Nat} {L L' : List AB} {w : World} (h : SimH c E L w) {i : Nat} {es es' : List (KV × MV)} {b : Nat} {ents ents' : Array MapEntry} {clock clock' : Nat}
    (hi : L[i]? = some (.map es)) (hE : E i = some b) (hh : w.heap[b]? = some (.map ents clock))
    (look : ∀ (j : Nat) (ab : AB), L'[j]? = some ab → (j = i ∧ ab = .map es') ∨ (j ≠ i ∧ L[j]? = some ab) ∨ (j ≠ i ∧ (ab = .dead ∨ ∃ b1 cs, ab = .pool b1 cs ∧ VBox (rcOf c.M0 E L w).rd w b1 cs)))
    (hi' : L'[i]? = some (.map es')) (keep : ∀ (j : Nat) (ab : AB), L[j]? = some ab → j ≠ i → (ab.live = true ∨ ab = .dead) → L'[j]? = some ab)
    (src : ∀ (j : Nat) (ab : AB) (x : Nat), L'[j]? = some ab → x ∈ ab.boxes → ∃ (j0 : Nat) (ab0 : AB), L[j0]? = some ab0 ∧ x ∈ ab0.boxes)
    (nd : ∀ (j : Nat) (ab : AB), L'[j]? = some ab → ab.boxes.Nodup) (dj : ∀ (j k : Nat) (ab ab' : AB) (x : Nat), L'[j]? = some ab → L'[k]? = some ab' → x ∈ ab.boxes → x ∈ ab'.boxes → j = k)
    (hv : VME (rcOf c.M0 E L w).rd w es' ents'.toList) (hborn : (ents'.toList.map (·.born)).Pairwise (· < ·)) (hclock : ∀ x ∈ ents'.toList, x.born < clock') :
    SimH c E L' { w with heap := w.heap.setIfInBounds b (.map ents' clock') } ∧ (rcOf c.M0 E L w).le (rcOf c.M0 E L' { w with heap := w.heap.setIfInBounds b (.map ents' clock') }) := by
  have hset := heap_set (o' := .map ents' clock') hh
  have hblk : ∀ x, x ≠ b → (w.heap.setIfInBounds b (.map ents' clock'))[x]? = w.heap[x]? := fun x hx => hset.2 x hx
  have hnb : ∀ x (j0 : Nat) (ab0 : AB), L[j0]? = some ab0 → x ∈ ab0.boxes → x ≠ b := fun x j0 ab0 h0 hx he => h.bx.own j0 i ab0 _ x h0 hx hi rfl (he ▸ hE)
  have hle : (rcOf c.M0 E L w).le (rcOf c.M0 E L' { w with heap := w.heap.setIfInBounds b (.map ents' clock') }) := by
    refine ⟨?_, ?_, ?_, ?_⟩
    · rintro a u ⟨h1, h2⟩
      have hab : a.block ≠ b := fun he => h2 (.inr (.inl ⟨i, _, hi, by rw [hE, he], trivial⟩))
      refine ⟨by rw [World.cell?_of_block (w := w) (hblk a.block hab)]; exact h1, ?_⟩
      rintro (hm' | ⟨j, abj, hj, he, hmm⟩ | ⟨j, abj, hj, hmm⟩)
      · exact h2 (.inl hm')
      · rcases look j abj hj with ⟨rfl, rfl⟩ | ⟨_, hj'⟩ | ⟨_, rfl | ⟨b1, cs, rfl, _⟩⟩
        · exact h2 (.inr (.inl ⟨_, _, hi, he, trivial⟩))
        · exact h2 (.inr (.inl ⟨_, _, hj', he, hmm⟩))
        · exact hmm
        · exact hmm
      · obtain ⟨j0, ab0, k1, k2⟩ := src j abj _ hj hmm
        exact h2 (.inr (.inr ⟨j0, ab0, k1, k2⟩))
    · rintro j x ⟨abj, h1, h2, h3⟩
      by_cases hji : j = i
      · subst hji
        exact ⟨_, hi', rfl, h3⟩
      · exact ⟨abj, keep j abj h1 hji (.inl (by cases abj <;> first | rfl | cases h2)), h2, h3⟩
    · rintro j v ⟨abj, h1, h2⟩
      by_cases hji : j = i
      · subst hji
        rw [hi] at h1; cases h1
        exact h2.elim
      · cases abj with
        | cells cs => exact h2.elim
        | map es => exact h2.elim
        | pool b cs => exact h2.elim
        | dead => exact ⟨_, keep j _ h1 hji (.inr rfl), h2⟩
        | row e n xs sh =>
          refine ⟨_, keep j _ h1 hji (.inl rfl), ?_⟩
          simp only [arRel] at h2 ⊢
          cases hEj : E j with
          | none => rw [hEj] at h2; exact h2
          | some x =>
            rw [hEj] at h2
            obtain ⟨cap, cur2, h3, h4, h5⟩ := h2
            exact ⟨cap, cur2, h3, (hblk x (fun he => hji (h.inj j i _ _ b h1 hi rfl rfl (he ▸ hEj) hE))).trans h4, h5⟩
    · rintro j x o v ⟨abj, h1, h2⟩
      by_cases hji : j = i
      · subst hji
        rw [hi] at h1; cases h1
        exact h2.elim
      · cases abj with
        | cells cs => exact h2.elim
        | map es => exact h2.elim
        | pool b cs => exact h2.elim
        | dead => exact ⟨_, keep j _ h1 hji (.inr rfl), h2⟩
        | row e n xs sh => exact ⟨_, keep j _ h1 hji (.inl rfl), h2⟩
  refine ⟨⟨h.os, h.tape, h.output, by simpa using h.size, ?_, ?_, ?_, ?_, h.old.trans hle, ?_⟩, hle⟩
  · intro x hp
    exact (hblk x (fun he => h.low i _ b hi rfl hE (he ▸ hp))).trans (h.prot x hp)
  · intro j abj hj
    rcases look j abj hj with ⟨rfl, rfl⟩ | ⟨hne, hj'⟩ | ⟨_, rfl | ⟨b1, cs, rfl, hb1⟩⟩
    · exact ⟨b, ents', clock', hE, hset.1, VME.mono hle.rd (fun x hx => by
        obtain ⟨j0, ab0, k1, k2⟩ := src j _ x hj hx
        exact hblk x (hnb x j0 ab0 k1 k2)) hv, hborn, hclock⟩
    · exact BR.mono hle (h.blk j abj hj') (fun x he hl => hblk x fun e => hne (h.inj j i _ _ b hj' hi hl rfl (e ▸ he) hE)) fun x hx => hblk x (hnb x j abj hj' hx)
    · trivial
    · obtain ⟨j0, ab0, k1, k2⟩ := src j _ b1 hj (by simp [AB.boxes])
      exact VBox.mono hle.rd (hblk b1 (hnb b1 j0 ab0 k1 k2)) hb1
  · intro j abj x hj hl he
    rcases look j abj hj with ⟨rfl, rfl⟩ | ⟨hne, hj'⟩ | ⟨_, rfl | ⟨b1, cs, rfl, hb1⟩⟩
    · exact h.low _ _ x hi rfl he
    · exact h.low j abj x hj' hl he
    · cases hl
    · cases hl
  · intro j1 j2 ab1 ab2 x h1 h2 l1 l2 e1 e2
    have old : ∀ (j : Nat) (ab : AB), L'[j]? = some ab → ab.live = true → ∃ ab0, L[j]? = some ab0 ∧ ab0.live = true := by
      intro j ab hj hl
      rcases look j ab hj with ⟨rfl, rfl⟩ | ⟨hne, hj'⟩ | ⟨_, rfl | ⟨b1, cs, rfl, hb1⟩⟩
      · exact ⟨_, hi, rfl⟩
      · exact ⟨_, hj', hl⟩
      · cases hl
      · cases hl
    obtain ⟨a1, k1, k2⟩ := old j1 ab1 h1 l1
    obtain ⟨a2, m1, m2⟩ := old j2 ab2 h2 l2
    exact h.inj j1 j2 a1 a2 x k1 m1 k2 m2 e1 e2
  · refine ⟨?_, ?_, nd, dj⟩
    · intro j ab x hj hx
      obtain ⟨j0, ab0, k1, k2⟩ := src j ab x hj hx
      exact h.bx.low j0 ab0 x k1 k2
    · intro j1 j2 ab1 ab2 x h1 hx h2 hl he
      obtain ⟨j0, ab0, k1, k2⟩ := src j1 ab1 x h1 hx
      rcases look j2 ab2 h2 with ⟨rfl, rfl⟩ | ⟨hne, hj'⟩ | ⟨_, rfl | ⟨b1, cs, rfl, hb1⟩⟩
      · exact h.bx.own j0 _ ab0 _ x k1 k2 hi rfl he
      · exact h.bx.own j0 _ ab0 _ x k1 k2 hj' hl he
      · cases hl
      · cases hl

/-! keys -/
def keqM (a b : KV) : Option Bool :=
  match a, b with
  | .one (.str s), .one (.str t) => some (s == t)
  | .one (.int k n), .one (.int k' m) => bif keq k k' then some (n == m) else none
  | .one (.bool p), .one (.bool q) => some (p == q)
  | _, _ => none
/-- where a key is, and what is there -/
def mfind (key : KV) : List (KV × MV) → Nat → Option (Option (Nat × MV))
  | [], _ => some none
  | (k, m) :: r, j => match keqM key k with
    | some true => some (some (j, m))
    | some false => mfind key r (j + 1)
    | none => none
def keyOf (x : AV) : Option KV :=
  match x with
  | .d (.str s) => some (.one (.str s))
  | .d (.int k n) => some (.one (.int k n))
  | .d (.bool b) => some (.one (.bool b))
  | _ => none
def kdOk (d : TypeDesc) (k : KV) : Bool :=
  match d, k with
  | .string, .one (.str _) => true
  | .int k, .one (.int k' _) => keq k k'
  | .bool, .one (.bool _) => true
  | _, _ => false

theorem keyOf_ok {x : AV} {k : KV} (h : keyOf x = some k) {R : RC} {v : Value} (hv : VR R x v) : VKV R.rd k v := by
  unfold keyOf at h
  split at h <;> first | (cases h; done) | skip
  all_goals
    cases h
    simp only [VR] at hv
    refine ⟨?_, hv⟩
    simp only [VD] at hv
    subst hv
    rfl

theorem keqM_now {d : TypeDesc} {k k' : KV} {rd : Addr → Value → Prop} {v v' : Value} (hd : kdOk d k = true) (hv : VKV rd k v) (hv' : VKV rd k' v') {b : Bool} (h : keqM k k' = some b) :
    Instr.sameNow d v v' = some b ∧ (b = true → Instr.sameBits 10000 v' v = true) := by
  unfold keqM at h
  split at h
  · rename_i s t
    simp only [VKV, VD] at hv hv'
    obtain ⟨_, rfl⟩ := hv
    obtain ⟨_, rfl⟩ := hv'
    cases h
    cases d <;> simp only [kdOk] at hd <;> first | (cases hd; done) | skip
    refine ⟨rfl, fun hb => ?_⟩
    have : s = t := (bytes_beq s t).1 hb
    subst this
    simpa [Instr.sameBits] using (bytes_beq s s).2 rfl
  · rename_i q n q' m
    simp only [VKV, VD] at hv hv'
    obtain ⟨_, rfl⟩ := hv
    obtain ⟨_, rfl⟩ := hv'
    cases hk : keq q q' with
    | false => rw [hk] at h; cases h
    | true =>
      rw [hk] at h
      cases h
      have := keq_eq hk
      subst this
      cases d <;> simp only [kdOk] at hd <;> first | (cases hd; done) | skip
      refine ⟨by simp [Instr.sameNow], fun hb => ?_⟩
      have : n = m := by simpa using hb
      subst this
      simp [Instr.sameBits]
  · rename_i p q
    simp only [VKV, VD] at hv hv'
    obtain ⟨_, rfl⟩ := hv
    obtain ⟨_, rfl⟩ := hv'
    cases h
    cases d <;> simp only [kdOk] at hd <;> first | (cases hd; done) | skip
    refine ⟨rfl, fun hb => ?_⟩
    have : p = q := by simpa using hb
    subst this
    simp [Instr.sameBits]
  · cases h

theorem mfind_now {d : TypeDesc} {key : KV} {rd : Addr → Value → Prop} {w : World} {v : Value} (hd : kdOk d key = true) (hv : VKV rd key v) : ∀ {es : List (KV × MV)} {us : List MapEntry} {j : Nat} {r : Option (Nat × MV)}, VME rd w es us → mfind key es j = some r →
    (r = none → Instr.findNow d v us j = some none) ∧ (∀ i m, r = some (i, m) → ∃ t u k', i = j + t ∧ us[t]? = some u ∧ es[t]? = some (k', m) ∧ Instr.findNow d v us j = some (some (i, u.val)) ∧ Instr.sameBits 10000 u.key v = true ∧ VMV rd w m u.val)
  | [], us, j, r, hu, h => by
    simp only [VME] at hu
    subst hu
    simp only [mfind, Option.some.injEq] at h
    subst h
    exact ⟨fun _ => rfl, by simp⟩
  | (k, m) :: rest, us, j, r, hu, h => by
    simp only [VME] at hu
    obtain ⟨u, us', rfl, h1, h2, h3⟩ := hu
    simp only [mfind] at h
    cases hq : keqM key k with
    | none => rw [hq] at h; cases h
    | some b =>
      obtain ⟨k1, k2⟩ := keqM_now hd hv h1 hq
      rw [hq] at h
      cases b with
      | true =>
        simp only [Option.some.injEq] at h
        subst h
        refine ⟨by simp, ?_⟩
        rintro i m' he
        cases he
        exact ⟨0, u, k, rfl, by simp, by simp, by simp [Instr.findNow, k1], k2 rfl, h2⟩
      | false =>
        simp only at h
        obtain ⟨m1, m2⟩ := mfind_now hd hv (es := rest) h3 h
        refine ⟨fun hr => by simp [Instr.findNow, k1, m1 hr], ?_⟩
        rintro i m' he
        obtain ⟨t, u', k', e1, e2, e3, e4, e5, e6⟩ := m2 i m' he
        exact ⟨t + 1, u', k', by omega, by simpa using e2, by simpa using e3, by simp [Instr.findNow, k1, e4], e5, e6⟩


/-! the operations -/
def mapDesc : TypeDesc → Option (Nat × Nat) | .map k e => some (k, e) | _ => none

def makeMapK (L : List AB) (K : AV → List AB → Prop) : Prop := lpushK L (.map []) 0 fun i L' => K (.map i) L'

theorem makeMapK_ok {P : Program} {c : Ctx} (hc : c.wf) {E : Nat → Option Nat} {L : List AB} {w : World} (hs : SimH c E L w) {K : AV → List AB → Prop} (h : makeMapK L K) (t : TypeId) :
    ∃ r w' E' av L', (Instr.makeMap t none).run P w = .ok r w' ∧ K av L' ∧ SimH c E' L' w' ∧ (rcOf c.M0 E L w).le (rcOf c.M0 E' L' w') ∧ VR (rcOf c.M0 E' L' w') av r := by
  have h1 := lpushK_ok h
  rw [Nat.zero_add] at h1
  have k := Keeps.alloc w (.map #[] 0)
  have hbx : ∀ x ∈ (AB.map []).boxes, w.heap.size ≤ x := by simp [AB.boxes, boxesM]
  have hb : ∀ x, some w.heap.size = some x → w.heap.size ≤ x := by intro x hx; cases hx; exact Nat.le_refl _
  have hle := le_extend (c := c) (E := E) (L := L) k (.map []) (some w.heap.size) hb hbx
  have hs' := hs.extend hc k (.map []) (some w.heap.size) hb hbx (by simp [AB.boxes, boxesM]) (by simp [AB.boxes, boxesM]) ⟨w.heap.size, #[], 0, rfl, heap_alloc_new w _, by simp [VME], by simp, by simp⟩
  refine ⟨.map (some w.heap.size), w.alloc (.map #[] 0), _, _, _, ?_, h1, hs', hle, ?_⟩
  · simp only [Instr.makeMap, Sem.run_bind, Sem.run_pure, Result.andThen_ok]
    rfl
  · simp only [VR]
    exact ⟨w.heap.size, ⟨.map [], by simp, rfl, by simp [Eupd]⟩, rfl⟩

def lookRes (L : List AB) (i : Nat) (z : AV) (ok : Bool) (r : Option (Nat × MV)) (K : AV → List AB → Prop) : Prop :=
  match r with
  | none => match ok with
    | false => K z L
    | true => K (.tup [z, .d (.bool false)]) L
  | some (_, .v (.one x)) => match ok with
    | false => K (.d x) L
    | true => K (.tup [.d x, .d (.bool true)]) L
  | some (_, .v (.agg cs)) => match ok with
    | false => K (.agg (cs.map AV.d)) L
    | true => K (.tup [.agg (cs.map AV.d), .d (.bool true)]) L
  | some (_, .box b _) => match ok with
    | false => K (.mp i b 0) L
    | true => K (.tup [.mp i b 0, .d (.bool true)]) L

def keyK (d : TypeDesc) (k : AV) (K : KV → Prop) : Prop :=
  match keyOf k with
  | some kv => bif kdOk d kv then K kv else False
  | none => False
theorem keyK_ok {d : TypeDesc} {k : AV} {K : KV → Prop} (h : keyK d k K) : ∃ kv, keyOf k = some kv ∧ kdOk d kv = true ∧ K kv := by
  unfold keyK at h
  split at h
  · rename_i kv hk
    cases hd : kdOk d kv with
    | false => rw [hd] at h; exact h.elim
    | true => rw [hd] at h; exact ⟨kv, hk, hd, h⟩
  · exact h.elim

def mapTK (tt : TypeId → Option TI) (t : TypeId) (K : TI → TI → TypeId → Prop) : Prop :=
  ttK tt t fun i => match mapDesc i.desc with
    | some (kt, et) => ttK tt kt fun ki => ttK tt et fun ei => K ki ei et
    | none => False
theorem mapTK_ok {P : Program} {tt : TypeId → Option TI} (ht : TTok P tt) {t : TypeId} {K : TI → TI → TypeId → Prop} (h : mapTK tt t K) :
    ∃ kt et ki ei, P.underlying t = some (.map kt et) ∧ tt kt = some ki ∧ P.underlying kt = some ki.desc ∧ tt et = some ei ∧ K ki ei et := by
  obtain ⟨i, hi, h1⟩ := ttK_ok h
  split at h1
  · rename_i kt et hd
    obtain ⟨ki, hki, h2⟩ := ttK_ok h1
    obtain ⟨ei, hei, h3⟩ := ttK_ok h2
    have hu := (ht t i hi).1
    cases hq : i.desc <;> rw [hq] at hd <;> simp only [mapDesc] at hd <;> first | (cases hd; done) | skip
    cases hd
    rw [hq] at hu
    exact ⟨kt, et, ki, ei, hu, hki, (ht kt ki hki).1, hei, h3⟩
  · exact h1.elim

def lookupK (tt : TypeId → Option TI) (t : TypeId) (ok : Bool) (L : List AB) (x k : AV) (K : AV → List AB → Prop) : Prop :=
  mapTK tt t fun ki ei _ => keyK ki.desc k fun kv => match x with
    | .map i => lgetK L i fun ab => match ab with
      | .map es => ∃ r, mfind kv es 0 = some r ∧ lookRes L i (avOf ei.zero) ok r K
      | _ => False
    | _ => False

theorem isKey_of {d : TypeDesc} {kv : KV} {rd : Addr → Value → Prop} {v : Value} (hd : kdOk d kv = true) (hv : VKV rd kv v) : IsKey d v := by
  cases kv with
  | agg cs => cases d <;> simp [kdOk] at hd
  | one x =>
    cases x <;> (try (cases d <;> simp [kdOk] at hd; done))
    case int k n =>
      simp only [VKV, VD] at hv
      obtain ⟨_, rfl⟩ := hv
      cases d <;> simp only [kdOk] at hd <;> first | (cases hd; done) | skip
      rw [keq_eq hd]
      simp [IsKey]
    case bool b =>
      simp only [VKV, VD] at hv
      obtain ⟨_, rfl⟩ := hv
      cases d <;> simp only [kdOk] at hd <;> first | (cases hd; done) | skip
      simp [IsKey]
    case str s =>
      simp only [VKV, VD] at hv
      obtain ⟨_, rfl⟩ := hv
      cases d <;> simp only [kdOk] at hd <;> first | (cases hd; done) | skip
      simp [IsKey]

end
end Go.Ab
