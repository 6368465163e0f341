/- ScriptPrints: every act that Heavy lets through has just the line that the page gives it, or has none, as the page says. -/
import Derived.Test.YtkaepgfmpljlmaaDoorScriptPrintsCardCodD
import Derived.Handed
import Derived.HandedShaped
import Derived.Lay
import Derived.LaidLaws
import Derived.LaidHandle
import Derived.MakeChecks
import Derived.Lib.LaidU8
import Derived.Shelf.Vars
import Derived.ProofKit
import Derived.Test.YtkaepgfmpljlmaaDoorRows
import Derived.SevenTiedAt
import Derived.Test.YtkaepgfmpljlmaaDoorCards
import Derived.Test.YtkaepgfmpljlmaaDoorTie
set_option linter.unusedVariables false
set_option linter.unusedSimpArgs false
namespace Go.Proofs.YtkaepgfmpljlmaaDoor
open Go.Ab Go.RowKit Go.Scr Go.Proofs
attribute [local irreducible] ACalls AW ADraw Into fltB fnear
set_option maxRecDepth 100000
def ptSt (l : List Ask) (i : Nat) : AF × List AB := ([(0, .d (.sl 29 (asksD l))), (3, .d (.int .i64 (i : Int)))], [])
set_option maxHeartbeats 2000000 in
theorem scriptPrints_ok (l : List Ask) (hl : few l) (ho : ∀ q ∈ l, q.okT) : ACalls Tryd.prog 4 [.d (.sl 29 (asksD l))] [] (fun av L => av = .d (.bool true) ∧ L = []) := by
  have n0 := num_ok 0
  have n1 := num_ok 1
  have hcl := asksD_length l
  unfold few at hl
  (refine acalls_go ttOk zOk foOk Tryd.func4 rfl Tryd.ntmps4 rfl false rfl ?_); (conv => whnf)
  refine rdz ?_; repeat' ((with_reducible apply tw) <;> intro _)
  refine loop_go ttOk zOk foOk (σ := Nat) (ptSt l) (fun i => i ≤ 20) (fun i => 20 - i) [0, 3] ?_ ?_
  · conv => whnf
    exact ⟨0, rfl, rfl, Nat.zero_le _⟩
  · intro i hi2
    conv => whnf
    refine rdz ?_; repeat' ((with_reducible apply tw) <;> intro _)
    · rename_i h1 h2
      replace h1 : (i : Int) < ((asksD l).length : Nat) := h1
      replace h2 : (i : Int) < 20 := h2
      refine Exists.elim (⟨_, List.getElem?_eq_getElem (by omega)⟩ : ∃ q, l[i]? = some q) fun q hq => ?_
      have hidx : (asksD l)[((i : Nat) : Int).toNat]? = some q.cs := by rw [Int.toNat_natCast]; simp [asksD, hq]
      have hok := ho q (List.mem_of_getElem? hq)
      refine ⟨by omega, q.cs, hidx, ?_⟩
      conv => whnf
      refine rdz ?_; repeat' ((with_reducible apply tw) <;> intro _)
      refine (heavy_ok q hok).mono ?_
      rintro _ _ ⟨⟨b, rfl, hb⟩, rfl⟩
      cases b with
      | true =>
        conv => whnf
        refine rdz ?_; repeat' ((with_reducible apply tw) <;> intro _)
        exact ⟨rfl, rfl⟩
      | false =>
        have hsm := (hb rfl).1
        have h28 := print28_ok q.a q.m hsm hok.1.m hok.1.quiet
        conv => whnf
        refine rdz ?_; repeat' ((with_reducible apply tw) <;> intro _)
        refine ⟨by omega, q.cs, hidx, ?_⟩
        conv => whnf
        refine rdz ?_; repeat' ((with_reducible apply tw) <;> intro _)
        cases hp : printS q.a with
        | none =>
          rw [hp] at h28
          refine (print_no hsm.fine hok.1.m hok.1.quiet hp).mono ?_
          rintro _ _ ⟨rfl, rfl⟩
          conv => whnf
          refine rdz ?_; repeat' ((with_reducible apply tw) <;> intro _)
          refine ⟨by omega, q.cs, hidx, ?_⟩
          conv => whnf
          refine rdz ?_; repeat' ((with_reducible apply tw) <;> intro _)
          (refine (h28).mono ?_; rintro _ _ ⟨rfl, rfl⟩; (conv => whnf))
          refine rdz ?_; repeat' ((with_reducible apply tw) <;> intro _)
          (refine (n1).mono ?_; rintro _ _ ⟨rfl, rfl⟩; (conv => whnf))
          refine rdz ?_; repeat' ((with_reducible apply tw) <;> intro _)
          (refine (n1).mono ?_; rintro _ _ ⟨rfl, rfl⟩; (conv => whnf))
          refine rdz ?_; repeat' ((with_reducible apply tw) <;> intro _)
          · rename_i hx
            have e : ((bw []).toList == (bw []).toList) = true := beq_self_eq_true _
            replace hx : ((bw []).toList == (bw []).toList) = false := hx
            rw [e] at hx
            cases hx
          · exact ⟨i + 1, rfl, rfl, by omega, by omega⟩
        | some s =>
          rw [hp] at h28
          refine (print_yes hsm.fine hok.1.m hok.1.quiet hp).mono ?_
          rintro _ _ ⟨rfl, rfl⟩
          conv => whnf
          refine rdz ?_; repeat' ((with_reducible apply tw) <;> intro _)
          refine ⟨by omega, q.cs, hidx, ?_⟩
          conv => whnf
          refine rdz ?_; repeat' ((with_reducible apply tw) <;> intro _)
          (refine (h28).mono ?_; rintro _ _ ⟨rfl, rfl⟩; (conv => whnf))
          refine rdz ?_; repeat' ((with_reducible apply tw) <;> intro _)
          (refine (n0).mono ?_; rintro _ _ ⟨rfl, rfl⟩; (conv => whnf))
          refine rdz ?_; repeat' ((with_reducible apply tw) <;> intro _)
          · rename_i hx
            have e : ((bw s).toList == (bw s).toList) = true := beq_self_eq_true _
            replace hx : ((bw s).toList == (bw s).toList) = false := hx
            rw [e] at hx
            cases hx
          · exact ⟨i + 1, rfl, rfl, by omega, by omega⟩
    · (refine (wakes_ok).mono ?_; rintro _ _ ⟨rfl, rfl⟩; (conv => whnf))
      refine rdz ?_; repeat' ((with_reducible apply tw) <;> intro _)
      exact ⟨rfl, rfl⟩
    · (refine (wakes_ok).mono ?_; rintro _ _ ⟨rfl, rfl⟩; (conv => whnf))
      refine rdz ?_; repeat' ((with_reducible apply tw) <;> intro _)
      exact ⟨rfl, rfl⟩
end Go.Proofs.YtkaepgfmpljlmaaDoor
namespace Go.Proofs.YtkaepgfmpljlmaaDoor
open Go.Ab Go.RowKit Go.ChangeShapes Go.WideShapes Go.ChangeAt
variable {H : Type} {enc : TypeId × Value → H}
theorem wrap_and_shaped {a : Assume} {C : Checked} {os : Os} {f : FuncId} {fn : Func} {s : ChangeSpec} {conds : List PathCond} {apart fresh handsOn again : Bool} {X : World → Array Value → Prop}
    (hX : ∀ (w w' : World) (args : Array Value), w.heap = w'.heap → X w args → X w' args)
    (own : ownKnob C.prog.godebug = none) (started : os.Started) (noInit : C.prog.inits.idxOf? f = none) (hfn : C.prog.funcs[f]? = some fn)
    (witness : ∃ (w : World) (tape : Tape) (i : Input), w.os = os ∧ (w.forCall tape i).Shaped C.prog ∧ i.vars = [] ∧ Input.okWide C.prog (w.forCall tape i) .any w.heap.size f i ∧
      ((s.pre enc C.prog fn conds apart (w.forCall tape i).memory i.args ∧ X (w.forCall tape i).memory i.args) ∧ sizedMet enc C.prog fn (OpenSpec.ofChange s) apart (w.forCall tape i).memory i.args) ∧ a.holds C.prog (lone (Frame.enter C.prog f i.args .normal) [] (w.forCall tape i)))
    (contract : ∀ (W : World) (base : Nat) (args : Array Value) (ds gs : List (DataW H)) (before : List MemPlace),
      (∀ (j : Nat) t v, fn.params[j]? = some t → args[j]? = some v → Value.okWide C.prog W .any base t v) →
      DataW.Whole enc C.prog fn.params.toList s.vars apart W args.toList ds gs before →
      (DataW.weightsEach C.prog (fn.params.toList ++ s.plain.varTypes C.prog) (ds ++ gs)).all (· ≤ reachBytes) = true → X W args → W.ShapedOpen C.prog →
      Calls C.prog f args W fun e W' => ∃ v, e = .returned v ∧ s.post enc C.prog fn apart fresh handsOn again W args v W') :
    ReturnsInHanded a C os f .any (fun w args => (s.pre enc C.prog fn conds apart w args ∧ X w args) ∧ sizedMet enc C.prog fn (OpenSpec.ofChange s) apart w args) (s.post enc C.prog fn apart fresh handsOn again) := by
  refine returnsInHanded_of_calls own started noInit witness ?_
  intro w tape i _ hsh _ hok hpre hholds
  obtain ⟨_, _, _, fn', hfn', _, _, _, _, hval⟩ := hok
  have e : fn' = fn := Option.some.inj (hfn'.symm.trans hfn)
  subst e
  obtain ⟨⟨⟨ds, gs, before, hw, hc⟩, hx⟩, hz⟩ := hpre
  have hw' := DataW.Whole.of_heap (w' := w.forCall tape i) (by rfl) hw
  refine (contract (w.forCall tape i) w.heap.size i.args ds gs before hval hw' (hz.weights hw) (hX _ _ _ (by rfl) hx) hsh).mono fun e W' ⟨v, he, hp⟩ => ?_
  subst he
  exact ChangeSpec.post_blind hp
theorem iface_of_reads {P : Program} {w : World} {n : String} {d : DataW Unit} {g : Nat} {t : TypeId} {ms : Array (String × TypeId)} (h : Lib.VarReads P w n d) (hg : P.globalNamed n = some g) (ht : (P.globals[g]?).map (·.type) = some t) (hu : P.underlying t = some (.interface ms)) :
    ∃ ev, w.cell? ⟨g, 0, none⟩ = some ev ∧ (ev = .nilIface ∨ ∃ te pe, ev = .iface te pe) := by
  obtain ⟨g', t', cs, fuel, p, h1, h2, h3, h4⟩ := h
  obtain rfl := Option.some.inj (hg.symm.trans h1)
  obtain rfl := Option.some.inj (ht.symm.trans h2)
  have key : ∃ ev, cs.toList = [ev] ∧ (ev = .nilIface ∨ ∃ te pe, ev = .iface te pe) := by
    cases fuel with
    | zero => cases h4
    | succ fuel =>
      generalize cs.toList = l at h4
      rcases l with _ | ⟨x, _ | ⟨y, r⟩⟩
      · simp only [DataW.trod, hu] at h4
        cases h4
      · cases x <;> first | exact ⟨_, rfl, .inl rfl⟩ | exact ⟨_, rfl, .inr ⟨_, _, rfl⟩⟩ | (simp only [DataW.trod, hu] at h4; cases h4)
      · cases x <;> (simp only [DataW.trod, hu] at h4; cases h4)
  obtain ⟨ev, e, hev⟩ := key
  refine ⟨ev, ?_, hev⟩
  have := World.var?_cell hg h3 0
  rw [this]
  have : cs = #[ev] := by rw [← Array.toArray_toList (xs := cs), e]
  rw [this]
  rfl
theorem tab_of_reads {P : Program} {W : World} {name : String} {k : IntKind} {zs : List Int} {g : Nat} {t e : TypeId} {n : Nat}
    (hg : P.globalNamed name = some g) (hty : (P.globals[g]?).map (·.type) = some t) (ht : P.underlying t = some (.array n e)) (he : P.underlying e = some (.int k)) (hce : P.cellsOf e = 1) (hct : P.cellsOf t = n)
    (h : Lib.VarReads P W name (Lib.tabData k zs)) : Lib.TabIs P W name k zs := by
  obtain ⟨g', t', cs, fuel, p, hg', ht', hvar, hd⟩ := h
  obtain rfl := Option.some.inj (hg.symm.trans hg')
  obtain rfl := Option.some.inj (hty.symm.trans ht')
  unfold Lib.TabIs
  rw [hvar, ← Lib.cells_of_tab ht he hce hct hd]
theorem gDb : Tryd.prog.globalNamed "math/bits.deBruijn64tab" = some 7 := by kernel_rfl
theorem gSyn : Tryd.prog.globalNamed "strconv.ErrSyntax" = some 4 := by kernel_rfl
theorem gRan : Tryd.prog.globalNamed "strconv.ErrRange" = some 5 := by kernel_rfl
def laidL : List (String × DataW Unit) := Rows.scriptBytesRow.laid
theorem laid_plain : (laidL.all fun x => x.2.handleName?.isNone) = true := by kernel_rfl
theorem gs_of {W : World} (hL : laidMetH Tryd.prog laidL W) (hsh : W.ShapedOpen Tryd.prog) : GS W ∧ ∀ b, gblk b → b < W.heap.size := by
  rw [MakeChecks.laidMetH_plain _ _ _ laid_plain] at hL
  have r3 := Lib.laidMet.reads hL (n := "internal/strconv.uint64pow10") (d := Rows.laid_internal_strconv_uint64pow10) (.tail _ (.tail _ (.head _)))
  have r4 := Lib.laidMet.reads hL (n := "strconv.ErrSyntax") (d := Rows.laid_strconv_ErrSyntax) (.tail _ (.tail _ (.tail _ (.tail _ (.tail _ (.head _))))))
  have r5 := Lib.laidMet.reads hL (n := "strconv.ErrRange") (d := Rows.laid_strconv_ErrRange) (.tail _ (.tail _ (.tail _ (.tail _ (.head _)))))
  have r7 := Lib.laidMet.reads hL (n := "math/bits.deBruijn64tab") (d := Rows.laid_math_bits_deBruijn64tab) (.tail _ (.head _))
  refine ⟨⟨?_, ?_, ?_, ?_⟩, fun b hb => ?_⟩
  · exact cell_of_shapedOpen_int (P := Tryd.prog) (g := 0) (t := 3) (zero := #[.int .i64 0]) hsh (of_decide_eq_true (by kernel_rfl)) (by kernel_rfl) rfl (by kernel_rfl) (by kernel_rfl) Tryd.underlying3
  · exact tab_of_reads (g := 3) (t := 144) (e := 105) (n := 20) gTab (by kernel_rfl) (by kernel_rfl) (by kernel_rfl) (by kernel_rfl) (by kernel_rfl) r3
  · exact iface_of_reads r4 gSyn (t := 98) (by kernel_rfl) Tryd.underlying98
  · exact iface_of_reads r5 gRan (t := 98) (by kernel_rfl) Tryd.underlying98
  · obtain ⟨g', t', cs, fuel, p, h1, _, h3, _⟩ := r7
    obtain rfl := Option.some.inj (gDb.symm.trans h1)
    cases hh : W.heap[7]? with
    | none => simp [World.var?, gDb, hh] at h3
    | some o =>
      have := (Array.getElem?_eq_some_iff.1 hh).1
      have hb : b < 8 := hb
      omega
end Go.Proofs.YtkaepgfmpljlmaaDoor
/- ScriptPrints: every act that Heavy lets through has just the line that the page gives it, or has none as the page says -/
namespace Go.Proofs.YtkaepgfmpljlmaaDoor
open Go.Ab Go.RowKit Go.ChangeShapes Go.WideShapes Go.ChangeAt
theorem okWide_slice {P : Program} {W : World} {base : Nat} {t e : TypeId} {v : Value} (hu : P.underlying t = some (.slice e)) (hv : Value.okWide P W .any base t v) : v.oneCell' = true := by
  cases v <;> simp_all [Value.okWide, Cell.okWide, Cell.ok, Value.oneCell']
theorem own : ownKnob Tryd.prog.godebug = none := by kernel_rfl
theorem laidOut : laidOutB Tryd.prog = true := by kernel_rfl
set_option maxRecDepth 100000 in
theorem scriptPrints_lifted (os : Os) (started : os.Started) (H : Type) (enc : TypeId × Value → H) :
    ReturnsInHanded {} Tryd.checked os 4 .any (fun w args => (Rows.scriptPrintsSpec.pre enc Tryd.prog Tryd.f4 [] false w args ∧ laidMetH Tryd.prog laidL w) ∧ sizedMet enc Tryd.prog Tryd.f4 (OpenSpec.ofChange Rows.scriptPrintsSpec) false w args)
      (Rows.scriptPrintsSpec.post enc Tryd.prog Tryd.f4 false true false false) := by
  refine wrap_and_shaped (C := Tryd.checked) (X := fun w _ => laidMetH Tryd.prog laidL w) (fun _ _ _ hh h => h.of_heap hh) own started (by kernel_rfl) Tryd.func4
    (ChangeSpec.witness_shaped (enc := enc) (C := Tryd.checked) (os := os) (X := fun w _ => laidMetH Tryd.prog laidL w) false (World.laidAll Tryd.prog os laidL) #[.slice none 0 0] 8 (World.laidAll_os _ _ _)
      (World.shaped_of_ZipB (by kernel_rfl) (by kernel_rfl)) (by kernel_rfl) (by kernel_rfl) (by kernel_rfl)
      (by rw [MakeChecks.laidMetH_plain _ _ _ laid_plain]; exact laidMet_laidAll _ (by kernel_rfl) (by kernel_rfl))) ?_
  intro W base args ds gs before hval hW hsz hL hsh
  exact law_contract ttOk (f := Tryd.f4) (tb := 4) (t := 22) rfl rfl Tryd.underlying4 rfl (fun _ _ => rfl) laidOut (by kernel_rfl) (of_decide_eq_true (by kernel_rfl)) 9 (by kernel_rfl) arg1
    (fun W base v ds h1 h2 => arg1_ok (okWide_slice Tryd.underlying22 h1) h2)
    (fun ds hd => by
      obtain ⟨l, hl, fl, ho⟩ := rd_asks hd
      rw [hl]
      exact scriptPrints_ok l fl ho) hval hW hsz (gs_of hL hsh)
theorem scriptPrints_said : Rows.ScriptPrintsSaid :=
  OpenClaim.holds_of_wide 4 Tryd.f4 rfl rfl rfl rfl rfl rfl rfl ⟨rfl, rfl, rfl, rfl, rfl⟩ rfl rfl rfl rfl rfl (by kernel_rfl) Tryd.func4 (by kernel_rfl)
    (of_decide_eq_true (by kernel_rfl)) (by unfold Func.isWrapper; first | (rw [if_pos (by decide +kernel)]; kernel_rfl) | (rw [if_neg (by decide +kernel)]; exact ⟨rfl, rfl⟩))
    (fun os started H enc _ => scriptPrints_lifted os started H enc)
theorem scriptPrintsCard_holds : Rows.ScriptPrintsCardSaid :=
  Claim7.holds_tied_plain_at .later [] [.data, .data, .data, .data, .sentinel, .sentinel, .pinned] true (true, "638c714ce6cbec5477be3a1e74b477be8c0c818e704eb2b60715e3e7b56e668c") true scriptPrints_said (fun _ h => by cases h) (by kernel_rfl) (fun _ h => by cases h) scriptPrints_row_tie rfl ⟨rfl, rfl⟩ (by kernel_rfl) rfl
    (fun f fn hf hfn => by
      obtain rfl : f = 4 := Option.some.inj ((show Tryd.prog.funcNamed "drover/droverlaw28.ScriptPrints" = some 4 by kernel_rfl).symm.trans hf) |>.symm
      obtain rfl : fn = Tryd.f4 := (Option.some.inj (Tryd.func4.symm.trans hfn)).symm
      exact ⟨by kernel_rfl, fun j t ht => by
        rw [Tryd.params4] at ht
        have hm : t ∈ [22] := by simpa using Array.mem_of_getElem? ht
        have hall : ([22].all fun u => !Tryd.prog.wantsStandIn u) = true := by kernel_rfl
        exact (show Tryd.prog.wantsStandIn t = false by simpa using List.all_eq_true.1 hall t hm)⟩)
    (by kernel_rfl)
#print axioms scriptPrintsCard_holds
end Go.Proofs.YtkaepgfmpljlmaaDoor
