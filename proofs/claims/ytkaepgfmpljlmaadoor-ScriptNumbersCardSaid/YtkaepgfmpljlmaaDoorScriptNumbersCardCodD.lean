/- ScriptNumbers: for every list of acts and lines the law returns true, and its argument reads behind the call as it read before; the tied card of it. No condition of ours. -/
import Derived.Test.YtkaepgfmpljlmaaDoorScriptNumbersCardCodC
import Derived.Handed
import Derived.HandedShaped
import Derived.Lay
import Derived.LaidLaws
import Derived.LaidHandle
import Derived.MakeChecks
import Derived.Lib.LaidU8
import Derived.Shelf.Vars
import Derived.ProofKit
import Derived.Test.YtkaepgfmpljlmaaDoorRows
import Derived.SevenTiedAt
import Derived.Test.YtkaepgfmpljlmaaDoorCards
import Derived.Test.YtkaepgfmpljlmaaDoorTie
set_option linter.unusedVariables false
set_option linter.unusedSimpArgs false
namespace Go.Proofs.YtkaepgfmpljlmaaDoor
open Go.Ab Go.RowKit Go.Scr Go.Proofs
theorem rd_i64 {n : Int} (h2 : (Lit.int .i64 n).wf = true) : i64S n := by
  have hb : -9223372036854775808 ≤ n ∧ n ≤ 9223372036854775807 := by simpa [Lit.wf, IntKind.min, IntKind.max, IntKind.signed, IntKind.bits] using h2
  exact hb
theorem rd_nums {a : List DV} (h : ∃ xs, a = [DV.sl 1 xs] ∧ xs.length * 8 ≤ 140737488355328 ∧ ∀ x ∈ xs, ∃ n, x = [DV.int .i64 n] ∧ (Lit.int .i64 n).wf = true) : ∃ l : List Int, a = [.sl 1 (nums l)] ∧ few l ∧ ∀ n ∈ l, i64S n := by
  obtain ⟨xs, rfl, h1, h2⟩ := h
  obtain ⟨l, rfl, hl⟩ := map_of (f := fun n : Int => [.int .i64 n]) (ok := i64S) fun x hx => by
    obtain ⟨n, e, hw⟩ := h2 x hx
    exact ⟨n, e, rd_i64 hw⟩
  rw [List.length_map] at h1
  exact ⟨l, rfl, by unfold few; omega, hl⟩
theorem rd_hd (k : Nat) {ds : List DV} (h : DTy tt (k + 3) 31 ds) : ∃ c : Hd, ds = c.cs ∧ c.few := by
  replace h : DTyF (DTy tt (k + 2)) [3, 3, 24, 24] ds := h
  obtain ⟨a4, b4, rfl, h4, a5, b5, rfl, h5, a6, b6, rfl, h6, a7, b7, rfl, h7, rfl⟩ := h
  replace h4 : ∃ x, a4 = [.int .i64 x] ∧ (Lit.int .i64 x).wf = true := h4
  replace h5 : ∃ x, a5 = [.int .i64 x] ∧ (Lit.int .i64 x).wf = true := h5
  obtain ⟨l6, rfl, f6, e6⟩ := rd_nums h6
  obtain ⟨l7, rfl, f7, e7⟩ := rd_nums h7
  obtain ⟨x4, rfl, w4⟩ := h4
  obtain ⟨x5, rfl, w5⟩ := h5
  exact ⟨⟨x4, x5, l6, l7⟩, rfl, f6, f7⟩
theorem rd_txs (k : Nat) {a : List DV} (h : DTy tt (k + 3) 27 a) : ∃ l : List Tx, a = [.sl 4 (txsD l)] ∧ few l ∧ ∀ t ∈ l, t.key.size ≤ 140737488355328 ∧ t.val.size ≤ 140737488355328 := by
  replace h : ∃ xs, a = [.sl 4 xs] ∧ xs.length * 48 ≤ 140737488355328 ∧ ∀ x ∈ xs, DTy tt (k + 2) 26 x := h
  obtain ⟨x3, rfl, w3, e3⟩ := h
  obtain ⟨l, rfl, hl⟩ := map_of (f := Tx.cs) (ok := fun t => t.key.size ≤ 140737488355328 ∧ t.val.size ≤ 140737488355328) (xs := x3) fun x hx => by
    have h := e3 x hx
    replace h : DTyF (DTy tt (k + 1)) [3, 3, 9, 9] x := h
    obtain ⟨a1, b1, rfl, h1, a2, b2, rfl, h2, a3, b3, rfl, h3, a4, b4, rfl, h4, rfl⟩ := h
    replace h1 : ∃ x, a1 = [.int .i64 x] ∧ (Lit.int .i64 x).wf = true := h1
    replace h2 : ∃ x, a2 = [.int .i64 x] ∧ (Lit.int .i64 x).wf = true := h2
    replace h3 : ∃ s, a3 = [.str s] ∧ s.size ≤ 140737488355328 := h3
    replace h4 : ∃ s, a4 = [.str s] ∧ s.size ≤ 140737488355328 := h4
    obtain ⟨x1, rfl, _⟩ := h1
    obtain ⟨x2, rfl, _⟩ := h2
    obtain ⟨x3, rfl, w3⟩ := h3
    obtain ⟨x4, rfl, w4⟩ := h4
    exact ⟨⟨x1, x2, x3, x4⟩, rfl, w3, w4⟩
  simp only [List.length_map] at w3
  exact ⟨l, rfl, by unfold few; omega, hl⟩
theorem rd_msg (k : Nat) {ds : List DV} (h : DTy tt (k + 5) 35 ds) : ∃ m : Msg, ds = m.cs ∧ m.few ∧ ∀ t ∈ m.txs, t.key.size ≤ 140737488355328 ∧ t.val.size ≤ 140737488355328 := by
  replace h : DTyF (DTy tt (k + 4)) [3, 3, 3, 3, 29, 31, 33, 24] ds := h
  obtain ⟨a1, b1, rfl, h1, a2, b2, rfl, h2, a3, b3, rfl, h3, a4, b4, rfl, h4, a5, b5, rfl, h5, a6, b6, rfl, h6, a7, b7, rfl, h7, a8, b8, rfl, h8, rfl⟩ := h
  replace h1 : ∃ x, a1 = [.int .i64 x] ∧ (Lit.int .i64 x).wf = true := h1
  replace h2 : ∃ x, a2 = [.int .i64 x] ∧ (Lit.int .i64 x).wf = true := h2
  replace h3 : ∃ x, a3 = [.int .i64 x] ∧ (Lit.int .i64 x).wf = true := h3
  replace h4 : ∃ x, a4 = [.int .i64 x] ∧ (Lit.int .i64 x).wf = true := h4
  replace h5 : DTyF (DTy tt (k + 3)) [3, 3, 27] a5 := h5
  replace h7 : DTyF (DTy tt (k + 3)) [31, 3, 24] a7 := h7
  obtain ⟨c1, d1, rfl, g1, c2, d2, rfl, g2, c3, d3, rfl, g3, rfl⟩ := h5
  obtain ⟨e1, f1, rfl, i1, e2, f2, rfl, i2, e3, f3, rfl, i3, rfl⟩ := h7
  replace g1 : ∃ x, c1 = [.int .i64 x] ∧ (Lit.int .i64 x).wf = true := g1
  replace g2 : ∃ x, c2 = [.int .i64 x] ∧ (Lit.int .i64 x).wf = true := g2
  replace i2 : ∃ x, e2 = [.int .i64 x] ∧ (Lit.int .i64 x).wf = true := i2
  obtain ⟨x1, rfl, _⟩ := h1
  obtain ⟨x2, rfl, _⟩ := h2
  obtain ⟨x3, rfl, _⟩ := h3
  obtain ⟨x4, rfl, _⟩ := h4
  obtain ⟨y1, rfl, _⟩ := g1
  obtain ⟨y2, rfl, _⟩ := g2
  obtain ⟨l, rfl, fl, hl⟩ := rd_txs k g3
  obtain ⟨hh, rfl, fh⟩ := rd_hd (k + 1) h6
  obtain ⟨ch, rfl, fc⟩ := rd_hd k i1
  obtain ⟨z2, rfl, _⟩ := i2
  obtain ⟨sg, rfl, fs, _⟩ := rd_nums i3
  obtain ⟨dg, rfl, fd, _⟩ := rd_nums h8
  exact ⟨⟨x1, x2, x3, x4, y1, y2, l, hh, ch, z2, sg, dg⟩, by simp [Msg.cs, Hd.cs], ⟨fl, fh, fc, fs, fd⟩, hl⟩
theorem bw_of (s : ByteArray) : s = bw s.data.toList := rfl
theorem rd_act {ds : List DV} (h : DTy tt 7 38 ds) : ∃ (a : Sa) (m : Msg), ds = actD a m ∧ Sa.sized a ∧ m.few ∧ a.quiet = m.zero ∧ ∀ t ∈ m.txs, t.key.size ≤ 140737488355328 ∧ t.val.size ≤ 140737488355328 := by
  replace h : DTyF (DTy tt 6) [3, 3, 3, 3, 24, 26, 35, 36] ds := h
  obtain ⟨a1, b1, rfl, h1, a2, b2, rfl, h2, a3, b3, rfl, h3, a4, b4, rfl, h4, a5, b5, rfl, h5, a6, b6, rfl, h6, a7, b7, rfl, h7, a8, b8, rfl, h8, rfl⟩ := h
  replace h1 : ∃ x, a1 = [.int .i64 x] ∧ (Lit.int .i64 x).wf = true := h1
  replace h2 : ∃ x, a2 = [.int .i64 x] ∧ (Lit.int .i64 x).wf = true := h2
  replace h3 : ∃ x, a3 = [.int .i64 x] ∧ (Lit.int .i64 x).wf = true := h3
  replace h4 : ∃ x, a4 = [.int .i64 x] ∧ (Lit.int .i64 x).wf = true := h4
  obtain ⟨x1, rfl, w1⟩ := h1
  obtain ⟨x2, rfl, w2⟩ := h2
  obtain ⟨x3, rfl, w3⟩ := h3
  obtain ⟨x4, rfl, w4⟩ := h4
  obtain ⟨pk, rfl, fp, ep⟩ := rd_nums h5
  replace h6 : DTyF (DTy tt 5) [3, 3, 9, 9] a6 := h6
  obtain ⟨c1, d1, rfl, g1, c2, d2, rfl, g2, c3, d3, rfl, g3, c4, d4, rfl, g4, rfl⟩ := h6
  replace g1 : ∃ x, c1 = [.int .i64 x] ∧ (Lit.int .i64 x).wf = true := g1
  replace g2 : ∃ x, c2 = [.int .i64 x] ∧ (Lit.int .i64 x).wf = true := g2
  replace g3 : ∃ s, c3 = [.str s] ∧ s.size ≤ 140737488355328 := g3
  replace g4 : ∃ s, c4 = [.str s] ∧ s.size ≤ 140737488355328 := g4
  obtain ⟨y1, rfl, v1⟩ := g1
  obtain ⟨y2, rfl, v2⟩ := g2
  obtain ⟨y3, rfl, v3⟩ := g3
  obtain ⟨y4, rfl, v4⟩ := g4
  obtain ⟨m, rfl, fm, ht⟩ := rd_msg 1 h7
  replace h8 : ∃ xs, a8 = [.sl 1 xs] ∧ xs.length * 1 ≤ 140737488355328 ∧ ∀ x ∈ xs, ∃ n, x = [DV.int .u8 n] ∧ (Lit.int .u8 n).wf = true := h8
  obtain ⟨xs, rfl, w8, e8⟩ := h8
  obtain ⟨bs, rfl⟩ := u8_of e8
  rw [u8s_length] at w8
  exact ⟨⟨x1, x2, x3, x4, y1, y2, y3.data.toList, y4.data.toList, bs, pk, m.zero⟩, m, by simp [actD, ← bw_of], ⟨⟨rd_i64 w2, rd_i64 w3, rd_i64 w4, rd_i64 v1, rd_i64 v2, ep⟩, fp, v3, v4, by show bs.length ≤ 140737488355328; omega⟩, fm, rfl, ht⟩
def Ask.okT (q : Ask) : Prop := q.ok ∧ ∀ t ∈ q.m.txs, t.key.size ≤ 140737488355328 ∧ t.val.size ≤ 140737488355328
theorem rd_asks {ds : List DV} (h : DTy tt 9 22 ds) : ∃ l : List Ask, arg1 ds = .d (.sl 29 (asksD l)) ∧ few l ∧ ∀ q ∈ l, q.okT := by
  replace h : ∃ xs, ds = [.sl 29 xs] ∧ xs.length * 400 ≤ 140737488355328 ∧ ∀ x ∈ xs, DTy tt 8 40 x := h
  obtain ⟨xs, rfl, h1, h2⟩ := h
  obtain ⟨l, rfl, hl⟩ := map_of (f := Ask.cs) (ok := Ask.okT) fun x hx => by
    have h3 : DTyF (DTy tt 7) [38, 9] x := h2 x hx
    obtain ⟨a1, b1, rfl, h4, a2, b2, rfl, h5, rfl⟩ := h3
    obtain ⟨a, m, rfl, k1, k2, k3, k4⟩ := rd_act h4
    replace h5 : ∃ s, a2 = [.str s] ∧ s.size ≤ 140737488355328 := h5
    obtain ⟨s, rfl, k5⟩ := h5
    exact ⟨⟨a, m, s⟩, by simp [Ask.cs], ⟨k1, k2, k3, k5⟩, k4⟩
  rw [List.length_map] at h1
  refine ⟨l, rfl, ?_, hl⟩
  unfold few
  omega
end Go.Proofs.YtkaepgfmpljlmaaDoor
namespace Go.Proofs.YtkaepgfmpljlmaaDoor
open Go.Ab Go.RowKit Go.ChangeShapes Go.WideShapes Go.ChangeAt
variable {H : Type} {enc : TypeId × Value → H}
theorem wrap_and_shaped {a : Assume} {C : Checked} {os : Os} {f : FuncId} {fn : Func} {s : ChangeSpec} {conds : List PathCond} {apart fresh handsOn again : Bool} {X : World → Array Value → Prop}
    (hX : ∀ (w w' : World) (args : Array Value), w.heap = w'.heap → X w args → X w' args)
    (own : ownKnob C.prog.godebug = none) (started : os.Started) (noInit : C.prog.inits.idxOf? f = none) (hfn : C.prog.funcs[f]? = some fn)
    (witness : ∃ (w : World) (tape : Tape) (i : Input), w.os = os ∧ (w.forCall tape i).Shaped C.prog ∧ i.vars = [] ∧ Input.okWide C.prog (w.forCall tape i) .any w.heap.size f i ∧
      ((s.pre enc C.prog fn conds apart (w.forCall tape i).memory i.args ∧ X (w.forCall tape i).memory i.args) ∧ sizedMet enc C.prog fn (OpenSpec.ofChange s) apart (w.forCall tape i).memory i.args) ∧ a.holds C.prog (lone (Frame.enter C.prog f i.args .normal) [] (w.forCall tape i)))
    (contract : ∀ (W : World) (base : Nat) (args : Array Value) (ds gs : List (DataW H)) (before : List MemPlace),
      (∀ (j : Nat) t v, fn.params[j]? = some t → args[j]? = some v → Value.okWide C.prog W .any base t v) →
      DataW.Whole enc C.prog fn.params.toList s.vars apart W args.toList ds gs before →
      (DataW.weightsEach C.prog (fn.params.toList ++ s.plain.varTypes C.prog) (ds ++ gs)).all (· ≤ reachBytes) = true → X W args → W.ShapedOpen C.prog →
      Calls C.prog f args W fun e W' => ∃ v, e = .returned v ∧ s.post enc C.prog fn apart fresh handsOn again W args v W') :
    ReturnsInHanded a C os f .any (fun w args => (s.pre enc C.prog fn conds apart w args ∧ X w args) ∧ sizedMet enc C.prog fn (OpenSpec.ofChange s) apart w args) (s.post enc C.prog fn apart fresh handsOn again) := by
  refine returnsInHanded_of_calls own started noInit witness ?_
  intro w tape i _ hsh _ hok hpre hholds
  obtain ⟨_, _, _, fn', hfn', _, _, _, _, hval⟩ := hok
  have e : fn' = fn := Option.some.inj (hfn'.symm.trans hfn)
  subst e
  obtain ⟨⟨⟨ds, gs, before, hw, hc⟩, hx⟩, hz⟩ := hpre
  have hw' := DataW.Whole.of_heap (w' := w.forCall tape i) (by rfl) hw
  refine (contract (w.forCall tape i) w.heap.size i.args ds gs before hval hw' (hz.weights hw) (hX _ _ _ (by rfl) hx) hsh).mono fun e W' ⟨v, he, hp⟩ => ?_
  subst he
  exact ChangeSpec.post_blind hp
theorem iface_of_reads {P : Program} {w : World} {n : String} {d : DataW Unit} {g : Nat} {t : TypeId} {ms : Array (String × TypeId)} (h : Lib.VarReads P w n d) (hg : P.globalNamed n = some g) (ht : (P.globals[g]?).map (·.type) = some t) (hu : P.underlying t = some (.interface ms)) :
    ∃ ev, w.cell? ⟨g, 0, none⟩ = some ev ∧ (ev = .nilIface ∨ ∃ te pe, ev = .iface te pe) := by
  obtain ⟨g', t', cs, fuel, p, h1, h2, h3, h4⟩ := h
  obtain rfl := Option.some.inj (hg.symm.trans h1)
  obtain rfl := Option.some.inj (ht.symm.trans h2)
  have key : ∃ ev, cs.toList = [ev] ∧ (ev = .nilIface ∨ ∃ te pe, ev = .iface te pe) := by
    cases fuel with
    | zero => cases h4
    | succ fuel =>
      generalize cs.toList = l at h4
      rcases l with _ | ⟨x, _ | ⟨y, r⟩⟩
      · simp only [DataW.trod, hu] at h4
        cases h4
      · cases x <;> first | exact ⟨_, rfl, .inl rfl⟩ | exact ⟨_, rfl, .inr ⟨_, _, rfl⟩⟩ | (simp only [DataW.trod, hu] at h4; cases h4)
      · cases x <;> (simp only [DataW.trod, hu] at h4; cases h4)
  obtain ⟨ev, e, hev⟩ := key
  refine ⟨ev, ?_, hev⟩
  have := World.var?_cell hg h3 0
  rw [this]
  have : cs = #[ev] := by rw [← Array.toArray_toList (xs := cs), e]
  rw [this]
  rfl
theorem tab_of_reads {P : Program} {W : World} {name : String} {k : IntKind} {zs : List Int} {g : Nat} {t e : TypeId} {n : Nat}
    (hg : P.globalNamed name = some g) (hty : (P.globals[g]?).map (·.type) = some t) (ht : P.underlying t = some (.array n e)) (he : P.underlying e = some (.int k)) (hce : P.cellsOf e = 1) (hct : P.cellsOf t = n)
    (h : Lib.VarReads P W name (Lib.tabData k zs)) : Lib.TabIs P W name k zs := by
  obtain ⟨g', t', cs, fuel, p, hg', ht', hvar, hd⟩ := h
  obtain rfl := Option.some.inj (hg.symm.trans hg')
  obtain rfl := Option.some.inj (hty.symm.trans ht')
  unfold Lib.TabIs
  rw [hvar, ← Lib.cells_of_tab ht he hce hct hd]
theorem gDb : Tryd.prog.globalNamed "math/bits.deBruijn64tab" = some 7 := by kernel_rfl
theorem gSyn : Tryd.prog.globalNamed "strconv.ErrSyntax" = some 4 := by kernel_rfl
theorem gRan : Tryd.prog.globalNamed "strconv.ErrRange" = some 5 := by kernel_rfl
def laidL : List (String × DataW Unit) := Rows.scriptBytesRow.laid
theorem laid_plain : (laidL.all fun x => x.2.handleName?.isNone) = true := by kernel_rfl
theorem gs_of {W : World} (hL : laidMetH Tryd.prog laidL W) (hsh : W.ShapedOpen Tryd.prog) : GS W ∧ ∀ b, gblk b → b < W.heap.size := by
  rw [MakeChecks.laidMetH_plain _ _ _ laid_plain] at hL
  have r3 := Lib.laidMet.reads hL (n := "internal/strconv.uint64pow10") (d := Rows.laid_internal_strconv_uint64pow10) (.tail _ (.tail _ (.head _)))
  have r4 := Lib.laidMet.reads hL (n := "strconv.ErrSyntax") (d := Rows.laid_strconv_ErrSyntax) (.tail _ (.tail _ (.tail _ (.tail _ (.tail _ (.head _))))))
  have r5 := Lib.laidMet.reads hL (n := "strconv.ErrRange") (d := Rows.laid_strconv_ErrRange) (.tail _ (.tail _ (.tail _ (.tail _ (.head _)))))
  have r7 := Lib.laidMet.reads hL (n := "math/bits.deBruijn64tab") (d := Rows.laid_math_bits_deBruijn64tab) (.tail _ (.head _))
  refine ⟨⟨?_, ?_, ?_, ?_⟩, fun b hb => ?_⟩
  · exact cell_of_shapedOpen_int (P := Tryd.prog) (g := 0) (t := 3) (zero := #[.int .i64 0]) hsh (of_decide_eq_true (by kernel_rfl)) (by kernel_rfl) rfl (by kernel_rfl) (by kernel_rfl) Tryd.underlying3
  · exact tab_of_reads (g := 3) (t := 144) (e := 105) (n := 20) gTab (by kernel_rfl) (by kernel_rfl) (by kernel_rfl) (by kernel_rfl) (by kernel_rfl) r3
  · exact iface_of_reads r4 gSyn (t := 98) (by kernel_rfl) Tryd.underlying98
  · exact iface_of_reads r5 gRan (t := 98) (by kernel_rfl) Tryd.underlying98
  · obtain ⟨g', t', cs, fuel, p, h1, _, h3, _⟩ := r7
    obtain rfl := Option.some.inj (gDb.symm.trans h1)
    cases hh : W.heap[7]? with
    | none => simp [World.var?, gDb, hh] at h3
    | some o =>
      have := (Array.getElem?_eq_some_iff.1 hh).1
      have hb : b < 8 := hb
      omega
end Go.Proofs.YtkaepgfmpljlmaaDoor
/- ScriptNumbers: for every list of acts and lines the law returns true, and its argument reads behind the call as it read before; the tied card of it. The package-level variables that its row lists read as its row says (the tie is given). No condition of ours. -/
namespace Go.Proofs.YtkaepgfmpljlmaaDoor
open Go.Ab Go.RowKit Go.ChangeShapes Go.WideShapes Go.ChangeAt
theorem okWide_slice {P : Program} {W : World} {base : Nat} {t e : TypeId} {v : Value} (hu : P.underlying t = some (.slice e)) (hv : Value.okWide P W .any base t v) : v.oneCell' = true := by
  cases v <;> simp_all [Value.okWide, Cell.okWide, Cell.ok, Value.oneCell']
theorem own : ownKnob Tryd.prog.godebug = none := by kernel_rfl
theorem laidOut : laidOutB Tryd.prog = true := by kernel_rfl
set_option maxRecDepth 100000 in
theorem scriptNumbers_lifted (os : Os) (started : os.Started) (H : Type) (enc : TypeId × Value → H) :
    ReturnsInHanded {} Tryd.checked os 6 .any (fun w args => (Rows.scriptNumbersSpec.pre enc Tryd.prog Tryd.f6 [] false w args ∧ laidMetH Tryd.prog laidL w) ∧ sizedMet enc Tryd.prog Tryd.f6 (OpenSpec.ofChange Rows.scriptNumbersSpec) false w args)
      (Rows.scriptNumbersSpec.post enc Tryd.prog Tryd.f6 false true false false) := by
  refine wrap_and_shaped (C := Tryd.checked) (X := fun w _ => laidMetH Tryd.prog laidL w) (fun _ _ _ hh h => h.of_heap hh) own started (by kernel_rfl) Tryd.func6
    (ChangeSpec.witness_shaped (enc := enc) (C := Tryd.checked) (os := os) (X := fun w _ => laidMetH Tryd.prog laidL w) false (World.laidAll Tryd.prog os laidL) #[.slice none 0 0] 8 (World.laidAll_os _ _ _)
      (World.shaped_of_ZipB (by kernel_rfl) (by kernel_rfl)) (by kernel_rfl) (by kernel_rfl) (by kernel_rfl)
      (by rw [MakeChecks.laidMetH_plain _ _ _ laid_plain]; exact laidMet_laidAll _ (by kernel_rfl) (by kernel_rfl))) ?_
  intro W base args ds gs before hval hW hsz hL hsh
  exact law_contract ttOk (f := Tryd.f6) (tb := 4) (t := 22) rfl rfl Tryd.underlying4 rfl (fun _ _ => rfl) laidOut (by kernel_rfl) (of_decide_eq_true (by kernel_rfl)) 9 (by kernel_rfl) arg1
    (fun W base v ds h1 h2 => arg1_ok (okWide_slice Tryd.underlying22 h1) h2)
    (fun ds hd => by
      obtain ⟨l, hl, fl, ho⟩ := rd_asks hd
      rw [hl]
      exact scriptNumbers_ok l fl fun q hq => (ho q hq).1) hval hW hsz (gs_of hL hsh)
theorem scriptNumbers_said : Rows.ScriptNumbersSaid :=
  OpenClaim.holds_of_wide 6 Tryd.f6 rfl rfl rfl rfl rfl rfl rfl ⟨rfl, rfl, rfl, rfl, rfl⟩ rfl rfl rfl rfl rfl (by kernel_rfl) Tryd.func6 (by kernel_rfl)
    (of_decide_eq_true (by kernel_rfl)) (by unfold Func.isWrapper; first | (rw [if_pos (by decide +kernel)]; kernel_rfl) | (rw [if_neg (by decide +kernel)]; exact ⟨rfl, rfl⟩))
    (fun os started H enc _ => scriptNumbers_lifted os started H enc)
theorem scriptNumbersCard_holds : Rows.ScriptNumbersCardSaid :=
  Claim7.holds_tied_plain_at .later [] [.data, .data, .data, .data, .sentinel, .sentinel, .pinned] true (true, "638c714ce6cbec5477be3a1e74b477be8c0c818e704eb2b60715e3e7b56e668c") true scriptNumbers_said (fun _ h => by cases h) (by kernel_rfl) (fun _ h => by cases h) scriptNumbers_row_tie rfl ⟨rfl, rfl⟩ (by kernel_rfl) rfl
    (fun f fn hf hfn => by
      obtain rfl : f = 6 := Option.some.inj ((show Tryd.prog.funcNamed "drover/droverlaw28.ScriptNumbers" = some 6 by kernel_rfl).symm.trans hf) |>.symm
      obtain rfl : fn = Tryd.f6 := (Option.some.inj (Tryd.func6.symm.trans hfn)).symm
      exact ⟨by kernel_rfl, fun j t ht => by
        rw [Tryd.params6] at ht
        have hm : t ∈ [22] := by simpa using Array.mem_of_getElem? ht
        have hall : ([22].all fun u => !Tryd.prog.wantsStandIn u) = true := by kernel_rfl
        exact (show Tryd.prog.wantsStandIn t = false by simpa using List.all_eq_true.1 hall t hm)⟩)
    (by kernel_rfl)
#print axioms scriptNumbersCard_holds
end Go.Proofs.YtkaepgfmpljlmaaDoor
