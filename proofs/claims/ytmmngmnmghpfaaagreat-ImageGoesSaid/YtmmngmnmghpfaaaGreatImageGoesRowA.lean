/- ImageGoes: what an input reads as. -/
import Derived.Test.YtmmngmnmghpfaaaGreatImageGoesLync
import Derived.SizedLaws
import Derived.ProofKit
set_option linter.unusedVariables false
set_option linter.unusedSimpArgs false
namespace Go.Ab
open Go.RowKit
def packB (tt : TypeId → Option TI) : List Field → Nat → Nat → Bool
  | [], o, n => Nat.beq o n
  | f :: r, o, n => match tt f.type with
    | some j => Nat.beq f.offset o && packB tt r (o + j.size) n
    | none => false
def tyOk (tt : TypeId → Option TI) : Nat → TypeId → Bool
  | 0, _ => false
  | n + 1, t => match tt t with
    | none => false
    | some i => match i.desc with
      | .bool => true
      | .int _ => true
      | .string => true
      | .slice e => tyOk tt n e && match tt e with | some ei => !(Nat.beq ei.size 0) | none => false
      | .struct fs => packB tt fs.toList 0 i.size && fs.toList.all fun f => tyOk tt n f.type
      | _ => false
def DTyF (p : TypeId → List DV → Prop) : List TypeId → List DV → Prop
  | [], ds => ds = []
  | t :: ts, ds => ∃ a b, ds = a ++ b ∧ p t a ∧ DTyF p ts b
def DTy (tt : TypeId → Option TI) : Nat → TypeId → List DV → Prop
  | 0, _, _ => False
  | n + 1, t, ds => match tt t with
    | none => False
    | some i => match i.desc with
      | .bool => ∃ b, ds = [.bool b]
      | .int k => ∃ x, ds = [.int k x] ∧ (Lit.int k x).wf = true
      | .string => ∃ s, ds = [.str s] ∧ s.size ≤ 140737488355328
      | .slice e => match tt e with
        | some ei => ∃ xs, ds = [.sl ei.size xs] ∧ xs.length * ei.bytes ≤ 140737488355328 ∧ ∀ x ∈ xs, DTy tt n e x
        | none => False
      | .struct fs => DTyF (DTy tt n) (fs.toList.map (·.type)) ds
      | _ => False
theorem mapM_some {α β : Type} {f : α → Option β} : ∀ {l : List α} {ys : List β}, l.mapM f = some ys → ys.length = l.length ∧ ∀ (i : Nat) (a : α), l[i]? = some a → ∃ y, f a = some y ∧ ys[i]? = some y
  | [], ys, h => by
    simp at h
    subst h
    exact ⟨rfl, fun i a h => by simp at h⟩
  | x :: r, ys, h => by
    rw [List.mapM_cons] at h
    cases hx : f x with
    | none => rw [hx] at h; cases h
    | some y =>
      rw [hx] at h
      cases hr : r.mapM f with
      | none => rw [hr] at h; cases h
      | some zs =>
        rw [hr] at h
        have : ys = y :: zs := (Option.some.inj h).symm
        subst this
        obtain ⟨h1, h2⟩ := mapM_some hr
        refine ⟨by simp [h1], fun i a hi => ?_⟩
        cases i with
        | zero => simp at hi; subst hi; exact ⟨y, hx, by simp⟩
        | succ i => simp at hi; obtain ⟨z, k1, k2⟩ := h2 i a hi; exact ⟨z, k1, by simpa using k2⟩
theorem choose_list {α : Type} {p : Nat → α → Prop} : ∀ {n : Nat}, (∀ i, i < n → ∃ x, p i x) → ∃ xs : List α, xs.length = n ∧ ∀ (i : Nat) (x : α), xs[i]? = some x → p i x
  | 0, _ => ⟨[], rfl, fun i x h => by simp at h⟩
  | n + 1, h => by
    obtain ⟨xs, h1, h2⟩ := choose_list (n := n) (fun i hi => h i (by omega))
    obtain ⟨x, hx⟩ := h n (by omega)
    refine ⟨xs ++ [x], by simp [h1], fun i y hi => ?_⟩
    rcases Nat.lt_or_ge i xs.length with hl | hl
    · rw [List.getElem?_append_left hl] at hi; exact h2 i y hi
    · rw [List.getElem?_append_right hl] at hi
      have : i = n := by
        have := (List.getElem?_eq_some_iff.1 hi).1
        simp at this; omega
      subst this
      rw [h1] at hi; simp at hi; subst hi; exact hx
theorem VDE_mk {rd : Addr → Value → Prop} {m : Nat} : ∀ {xs : List (List DV)} {a : Addr}, (∀ (i : Nat) (x : List DV), xs[i]? = some x → x.length = m ∧ VDC rd x ⟨a.block, a.off + i * m, none⟩) → a.spot = none → VDE rd m xs a
  | [], a, _, _ => by simp [VDE]
  | x :: r, a, h, ha => by
    simp only [VDE]
    obtain ⟨h1, h2⟩ := h 0 x (by simp)
    refine ⟨h1, by simpa [addr_eta a ha] using h2, VDE_mk (fun i y hy => ?_) rfl⟩
    obtain ⟨k1, k2⟩ := h (i + 1) y (by simpa using hy)
    refine ⟨k1, ?_⟩
    have e : a.off + m + i * m = a.off + (i + 1) * m := by rw [Nat.add_mul]; omega
    simpa [e] using k2
theorem weights_mem {H : Type} {P : Program} {e : TypeId} : ∀ {l : List (DataW H)} {d : DataW H}, d ∈ l → ∀ x ∈ d.weights P e, x ∈ DataW.weightsAll P e l
  | y :: r, d, h, x, hx => by
    simp only [DataW.weightsAll, List.mem_append]
    rcases List.mem_cons.1 h with rfl | h
    · exact .inl hx
    · exact .inr (weights_mem h x hx)
section
variable {H : Type} {enc : TypeId × Value → H} {P : Program} {tt : TypeId → Option TI} {W : World} {sp : Nat → Bool} {held : Bool}
theorem cellsOf_tt (ht : TTok P tt) {t : TypeId} {i : TI} (hi : tt t = some i) : P.cellsOf t = i.size := by
  obtain ⟨_, info, h1, _, h2, _⟩ := ht t i hi
  simp [Program.cellsOf, h1, h2]
theorem bytesOf_tt (ht : TTok P tt) {t : TypeId} {i : TI} (hi : tt t = some i) : P.bytesOf t = i.bytes := by
  obtain ⟨_, info, h1, _, _, h2⟩ := ht t i hi
  simp [Program.bytesOf, h1, h2]
theorem VDs_one {rd : Addr → Value → Prop} {x : DV} {u : Value} (h1 : u.oneCell' = true) (h : VD rd x u) : VDs rd [x] [u] := by simp only [VDs, Cs]; exact ⟨u, [], rfl, h1, h, rfl⟩
theorem readsF (ht : TTok P tt) {p : TypeId → List DV → Prop} {g : TypeId → List Value → Option (DataW H × List MemPlace)} {cs : List Value} {N : Nat} (hN : cs.length = N)
    {q : TypeId → Prop} (ih : ∀ t, q t → ∀ c d ps, g t c = some (d, ps) → (∀ x ∈ d.weights P t, x ≤ reachBytes) → ∃ ds, p t ds ∧ VDs (rdW W) ds c) :
    ∀ {fs : List Field} {o : Nat} {xs : List (DataW H × List MemPlace)}, (∀ f ∈ fs, q f.type) → packB tt fs o N = true → xs.length = fs.length → (∀ (i : Nat) (f : Field), fs[i]? = some f → g f.type ((cs.drop f.offset).take (P.cellsOf f.type)) = xs[i]?) →
      (∀ x ∈ DataW.weightsEach P (fs.map (·.type)) (xs.map (·.1)), x ≤ reachBytes) → ∃ ds, DTyF p (fs.map (·.type)) ds ∧ VDs (rdW W) ds (cs.drop o)
  | [], o, xs, hq, hp, hl, hm, hw => by
    have : o = N := Nat.eq_of_beq_eq_true hp
    subst this
    exact ⟨[], rfl, by rw [List.drop_of_length_le (by omega)]; simp [VDs, Cs]⟩
  | f :: r, o, [], hq, hp, hl, hm, hw => by simp at hl
  | f :: r, o, y :: zs, hq, hp, hl, hm, hw => by
    simp only [packB] at hp
    split at hp
    · rename_i j hj
      simp only [Bool.and_eq_true] at hp
      have ho : f.offset = o := Nat.eq_of_beq_eq_true hp.1
      have hx := hm 0 f (by simp)
      simp only [List.getElem?_cons_zero] at hx
      simp only [List.map_cons, DataW.weightsEach, List.mem_append] at hw
      obtain ⟨d1, k1, k2⟩ := ih f.type (hq f (by simp)) _ y.1 y.2 hx (fun x hx => hw x (.inl hx))
      obtain ⟨d2, k3, k4⟩ := readsF ht hN ih (fs := r) (xs := zs) (fun f hf => hq f (by simp [hf])) hp.2 (by simpa using hl) (fun i f' hf => by have := hm (i + 1) f' (by simpa using hf); simpa using this) (fun x hx => hw x (.inr hx))
      refine ⟨d1 ++ d2, ⟨d1, d2, rfl, k1, k3⟩, ?_⟩
      rw [cellsOf_tt ht hj, ho] at k2
      have := Cs_append k2 k4
      have e : (cs.drop o).take j.size ++ cs.drop (o + j.size) = cs.drop o := by rw [← List.drop_drop, List.take_append_drop]
      rw [e] at this
      exact this
    · cases hp
theorem reads (ht : TTok P tt) : ∀ (n : Nat) (t : TypeId), tyOk tt n t = true → ∀ (fuel : Nat) (cs : List Value) (d : DataW H) (ps : List MemPlace), DataW.trod enc P W 0 sp held fuel t cs = some (d, ps) →
    (∀ x ∈ d.weights P t, x ≤ reachBytes) → ∃ ds, DTy tt n t ds ∧ VDs (rdW W) ds cs
  | 0, t, h, _, _, _, _, _, _ => by cases h
  | n + 1, t, h, fuel, cs, d, ps, hr, hw => by
    simp only [tyOk] at h
    simp only [DTy]
    cases hi : tt t with
    | none => rw [hi] at h; cases h
    | some i =>
      rw [hi] at h
      simp only at h ⊢
      have hu := (ht t i hi).1
      cases hd : i.desc <;> rw [hd] at h hu <;> simp only at h ⊢ <;> first | (cases h; done) | skip
      case bool =>
        obtain ⟨b, rfl, _⟩ := DataW.trod_bool hu hr
        exact ⟨[.bool b], ⟨b, rfl⟩, VDs_one rfl (by simp only [VD])⟩
      case int k =>
        obtain ⟨x, rfl, _, hwf⟩ := DataW.trod_int hu hr
        exact ⟨[.int k x], ⟨x, rfl, hwf⟩, VDs_one rfl (by simp only [VD])⟩
      case string =>
        obtain ⟨s, rfl, he, _⟩ := DataW.trod_string hu hr
        cases he
        have hs : s.size ≤ reachBytes := by
          have := hw s.data.toList.length (by simp [DataW.weights])
          simpa using this
        refine ⟨[.str s], ⟨s, rfl, Nat.le_trans hs (by unfold reachBytes; omega)⟩, VDs_one rfl (by simp only [VD])⟩
      case slice e =>
        simp only [Bool.and_eq_true] at h
        obtain ⟨he, hs⟩ := h
        cases hei : tt e with
        | none => rw [hei] at hs; cases hs
        | some ei =>
          rw [hei] at hs
          simp only at hs ⊢
          have hn : 0 < ei.size := by
            rcases Nat.eq_zero_or_pos ei.size with h | h
            · rw [h] at hs; cases hs
            · exact h
          rcases DataW.trod_slice hu hr with ⟨rfl, _⟩ | ⟨a, len, cap, elems, rest, m, rfl, rfl, hx, _, hlc, hcm, hel, hat, _, _⟩
          · refine ⟨[.sl ei.size []], ⟨[], rfl, by simp, by simp⟩, ?_⟩
            simp only [VDs, Cs, VD]
            exact ⟨_, [], rfl, rfl, ⟨hn, none, 0, rfl, by simp, by simp [maxLen], fun _ => rfl, (fun _ h => by cases h)⟩, rfl⟩
          · cases hx
            simp only [DataW.weights, hu, List.mem_cons, List.mem_append] at hw
            have hbytes : len * ei.bytes ≤ 140737488355328 := by
              have h1 := hw _ (.inl rfl)
              simp only [List.length_map, hel, bytesOf_tt ht hei] at h1
              have h2 : len * ei.bytes ≤ (len + rest.length) * ei.bytes := Nat.mul_le_mul_right _ (by omega)
              exact Nat.le_trans h2 (Nat.le_trans h1 (by unfold reachBytes; omega))
            have hce := cellsOf_tt ht hei
            rw [hce] at hat
            have key : ∀ i, i < len → ∃ x : List DV, DTy tt n e x ∧ x.length = ei.size ∧ (i = 0 → a.spot = none) ∧ VDC (rdW W) x ⟨a.block, a.off + i * ei.size, none⟩ := by
              intro i hi'
              have h1 := hat i hi'
              obtain ⟨y, hy⟩ : ∃ y, elems[i]? = some y := ⟨_, List.getElem?_eq_getElem (by omega)⟩
              rw [hy] at h1
              cases hc : W.cells? 0 (a.add (i * ei.size)) ei.size with
              | none => rw [hc] at h1; cases h1
              | some csi =>
                rw [hc] at h1
                simp only [Option.bind_some] at h1
                obtain ⟨ds, k1, k2⟩ := reads ht n e he m csi y.1 y.2 h1 (fun x hx => hw x (.inr (.inl (weights_mem (List.mem_map.2 ⟨y, List.mem_of_getElem? hy, rfl⟩) x hx))))
                unfold World.cells? at hc
                rw [if_pos (Nat.zero_le _)] at hc
                obtain ⟨c1, c2⟩ := mapM_some hc
                simp only [List.length_range] at c1
                have c3 : ∀ j, j < ei.size → W.cell? ((a.add (i * ei.size)).add j) = csi[j]? := by
                  intro j hj
                  obtain ⟨u, u1, u2⟩ := c2 j j (by rw [List.getElem?_range hj])
                  rw [u1, u2]
                have hadd : (a.add (i * ei.size)).spot = none → ∀ j, (a.add (i * ei.size)).add j = ⟨a.block, a.off + i * ei.size + j, none⟩ := by
                  intro hh j
                  rw [add_lit _ hh]
                  congr 1
                  · unfold Addr.add; split <;> rfl
                  · unfold Addr.add; split
                    · rename_i h0; rw [h0]; rfl
                    · rfl
                have hspot0 : (a.add (i * ei.size)).spot = none := by
                  have h0 := c3 0 hn
                  have h2 : (a.add (i * ei.size)).add 0 = a.add (i * ei.size) := by simp [Addr.add]
                  rw [h2, List.getElem?_eq_getElem (by omega)] at h0
                  exact spot_none h0
                refine ⟨ds, k1, by rw [← Cs_length k2, c1], ?_, ?_⟩
                · intro hi0
                  subst hi0
                  simpa [Addr.add] using hspot0
                · refine VDC_of (fun _ _ h => h) k2 rfl ?_
                  intro j u hj
                  have hjl : j < ei.size := by rw [← c1]; exact (List.getElem?_eq_some_iff.1 hj).1
                  have := c3 j hjl
                  rw [hadd hspot0 j, hj] at this
                  exact .inl this
            obtain ⟨xs, x1, x2⟩ := choose_list key
            refine ⟨[.sl ei.size xs], ⟨xs, rfl, by rw [x1]; exact hbytes, fun x hx => ?_⟩, VDs_one rfl ?_⟩
            · obtain ⟨i, hi'⟩ := List.mem_iff_getElem?.1 hx
              exact (x2 i x hi').1
            · simp only [VD]
              refine ⟨hn, some a, cap, by rw [x1], by rw [x1]; exact hlc, hcm, (fun h => by cases h), fun a' ha => ?_⟩
              cases ha
              cases hxs : xs with
              | nil => exact ⟨.inl rfl, fun _ => .inr ⟨_, rfl⟩, by simp [VDE]⟩
              | cons y r =>
                have hsp : a.spot = none := (x2 0 y (by rw [hxs]; rfl)).2.2.1 rfl
                refine ⟨.inr hsp, fun _ => .inr ⟨_, rfl⟩, ?_⟩
                rw [← hxs]
                exact VDE_mk (fun i x hx => ⟨(x2 i x hx).2.1, (x2 i x hx).2.2.2⟩) hsp
      case struct fs =>
        obtain ⟨xs, m, rfl, hx, hl, hxl, hat⟩ := DataW.trod_struct hu hr
        cases hx
        simp only [Bool.and_eq_true, List.all_eq_true] at h
        rw [cellsOf_tt ht hi] at hl
        simp only [DataW.weights, hu] at hw
        have := readsF (W := W) (p := DTy tt n) (q := fun t => tyOk tt n t = true) ht hl (fun t hq c d ps hg hw => reads ht n t hq m c d ps hg hw) (fs := fs.toList) (o := 0) (xs := xs) h.2 h.1 (by simpa using hxl) (fun i f hf => hat i f (by simpa using hf)) hw
        simpa using this
end
end Go.Ab
namespace Go.Ab
open Go.RowKit Go.ChangeShapes Go.WideShapes Go.ChangeAt
theorem rd_start (W : World) : (rcOf M00 (fun _ => none) [] W).rd = rdW W := by
  funext a u
  simp only [rcOf, Mut]
  refine propext ⟨fun h => h.elim (fun h => .inl h.1) fun ⟨n, h, _⟩ => .inr ⟨n, h⟩, fun h => h.elim (fun h => .inl ⟨h, ?_⟩) fun ⟨n, h⟩ => .inr (Tk.any h)⟩
  rintro (h | ⟨i, ab, h, _⟩ | ⟨i, ab, h, _⟩)
  · exact h
  · simp at h
  · simp at h
theorem run_of {P : Program} {f : FuncId} {av : AV} {W : World} {v0 : Value} (h : ACalls P f [av] [] (fun av L => av = .d (.bool true) ∧ L = [])) (hv : VR (rcOf M00 (fun _ => none) [] W) av v0) :
    Calls P f #[v0] W fun e W' => e = .returned (.bool true) ∧ Below W.heap.size W W' := by
  let c : Ctx := { w0 := W, P0 := fun b => b < W.heap.size, M0 := M00, E0 := fun _ => none, L0 := [], n := 0 }
  have hc : c.wf := ⟨fun b h => h, fun b o h => h.elim, fun s h => by cases h⟩
  have hs : SimH c c.E0 [] c.w0 := by
    refine ⟨rfl, rfl, rfl, Nat.le_refl _, fun _ _ => rfl, ?_, ?_, ?_, .refl _, ⟨?_, ?_, ?_, ?_⟩, .refl _, fun s h => by cases h⟩ <;> intros <;> simp_all
  refine (h c #[v0] hc rfl hs (by simp only [VRt]; exact ⟨v0, [], rfl, hv, rfl⟩)).mono ?_
  rintro e W' ⟨v, av', L', E', rfl, ⟨rfl, rfl⟩, hs', hv'⟩
  simp only [VR, VD] at hv'
  subst hv'
  exact ⟨rfl, ⟨hs'.os, hs'.tape, hs'.output, hs'.size, fun k hk => hs'.prot k hk⟩⟩
theorem kept_below {W W' : World} (h : Below W.heap.size W W') (may : MemPlace → Prop) : W.keptBut W' may := by
  refine ⟨h.os, h.output, fun i hi => ?_⟩
  rw [h.block i hi]
  cases W.heap[i]? with
  | none => trivial
  | some o => cases o <;> simp
section
variable {P : Program} {tt : TypeId → Option TI}
def argS (ds : List DV) : AV := .agg (ds.map AV.d)
theorem argS_ok {W : World} {base : Nat} {t : TypeId} {fs : Array Field} {v : Value} {ds : List DV} (hu : P.underlying t = some (.struct fs)) (hv : Value.okWide P W .any base t v) (hd : VDs (rdW W) ds v.cells.toList) :
    VR (rcOf M00 (fun _ => none) [] W) (argS ds) v := by
  simp only [Value.okWide, hu] at hv
  obtain ⟨cs, rfl, _⟩ := hv
  simp only [argS, VR]
  refine ⟨cs, rfl, VRs_d.2 ?_⟩
  rw [rd_start]
  exact hd
theorem law_contract (ht : TTok P tt) {f : Func} {fi : FuncId} {s : ChangeSpec} {t tb : TypeId} (hpar : f.params = #[t]) (hres : f.resultTypes = #[tb]) (hub : P.underlying tb = some .bool) (hvars : s.vars = [])
    (hfn : ∀ (H : Type) (d : DataW H), s.fn H [d] = { results := [.lit (.bool true)], args := [d] }) (laid : laidOutB P = true) (hrd : P.readableRec t = true) (hrow : t < P.types.size)
    (n : Nat) (hty : tyOk tt n t = true) (mk : List DV → AV) (hmk : ∀ (W : World) (base : Nat) (v : Value) (ds : List DV), Value.okWide P W .any base t v → VDs (rdW W) ds v.cells.toList → VR (rcOf M00 (fun _ => none) [] W) (mk ds) v)
    (hcall : ∀ ds, DTy tt n t ds → ACalls P fi [mk ds] [] (fun av L => av = .d (.bool true) ∧ L = []))
    {H : Type} {enc : TypeId × Value → H} {W : World} {base : Nat} {args : Array Value} {ds gs : List (DataW H)} {before : List MemPlace}
    (hval : ∀ (j : Nat) t v, f.params[j]? = some t → args[j]? = some v → Value.okWide P W .any base t v)
    (hW : DataW.Whole enc P f.params.toList s.vars false W args.toList ds gs before) {vt : List TypeId} (hsz : (DataW.weightsEach P (f.params.toList ++ vt) (ds ++ gs)).all (· ≤ reachBytes) = true) :
    Calls P fi args W fun e W' => ∃ v, e = .returned v ∧ s.post enc P f false true false false W args v W' := by
  have hW' := hW
  obtain ⟨p, q, hA, hV, rfl, hfz, hnd⟩ := hW
  rw [hpar] at hA hval hsz
  rw [hvars] at hV
  obtain ⟨v0, d0, hargs, rfl, h0⟩ := trodAll_one hA
  obtain rfl : args = #[v0] := by cases args; simp_all
  obtain ⟨rfl, rfl⟩ := trodVars_none hV
  simp only [List.append_nil] at hW' hsz
  have h0k := h0
  obtain ⟨fuel, hr⟩ := h0
  have hwt : ∀ x ∈ d0.weights P t, x ≤ reachBytes := by
    intro x hx
    rw [List.all_eq_true] at hsz
    have := hsz x (by simp only [List.cons_append, List.nil_append, DataW.weightsEach, List.mem_append]; exact .inl hx)
    simpa using this
  obtain ⟨dv, k1, k2⟩ := reads ht n t hty fuel _ d0 p hr hwt
  have hlt : ∀ x ∈ p, x.block < W.heap.size := fun x hx => by simpa using hW'.lt x hx
  refine (run_of (hcall dv k1) (hmk W base v0 dv (hval 0 t v0 (by simp) (by simp)) k2)).mono ?_
  rintro e W' ⟨rfl, hb⟩
  refine ⟨_, rfl, [d0], [], p, [], p, [], by simpa using hW', ?_, ?_, ?_, kept_below hb _, fun h => by cases h⟩
  · rw [List.append_nil, hfn, hres]
    exact trodAll_mk1 (shut_bool hub true)
  · rw [List.append_nil, hfn, hpar]
    exact trodAll_mk1 (Below.trod laid hrd hrow h0k hb hlt)
  · rw [hvars, List.append_nil, hfn]; rfl
end
theorem map_of {α : Type} {f : α → List DV} {ok : α → Prop} : ∀ {xs : List (List DV)}, (∀ x ∈ xs, ∃ a, x = f a ∧ ok a) → ∃ l : List α, xs = l.map f ∧ ∀ a ∈ l, ok a
  | [], _ => ⟨[], rfl, by simp⟩
  | x :: r, h => by
    obtain ⟨a, h1, h2⟩ := h x (by simp)
    obtain ⟨l, h3, h4⟩ := map_of (xs := r) fun y hy => h y (by simp [hy])
    exact ⟨a :: l, by simp [h1, h3], fun b hb => by rcases List.mem_cons.1 hb with rfl | hb; exact h2; exact h4 b hb⟩
end Go.Ab
