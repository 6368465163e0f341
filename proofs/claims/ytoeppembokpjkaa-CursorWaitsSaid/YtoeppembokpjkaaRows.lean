/-
  No cell of these rows narrows 'for every input' (looked for: loops, veiled, ifaces, maps, wideKeys, modest, calm, conditions, laid).
  DERIVED. THE GIVEN ROWS OF THIS SEAT. 7 by the template 'for every input the law returns true; each argument reads behind the call as it read before'; 0 by the template 'total and deterministic' (their statements: YtoeppembokpjkaaTotals.lean).
  GIVEN WITH THE SEED: the statements are not yours to turn. If you find one false, say at which input.
  Laid BY PROGRAM, IN A SANDBOX (cutbox-rows.mjs): the forced cells as the released guide's own fill.sh prints them over the translation 99d9c5f5c27f6a53… (all of the seat's roots in one cut). By AI agents, Wed Nov 11 2026. No macro, syntax, notation, axiom, sorry.
-/
import Derived.Test.YtoeppembokpjkaaChecked
import GoSem.Claim
import GoSem.ClaimJoined
import GoSem.ClaimMapViews
import Derived.JoinedTies
import Derived.KernelRfl
namespace Go.Proofs.Ytoeppembokpjkaa
/- THE CELL 'sum', in the pinned program and in every row, IS THE sha256 OF THE DUMP (.gsa) THAT YtoeppembokpjkaaProg.lean LOADS. Nothing in Lean hashes anything: it is a label: what it is worth is what the hold of that sum in a sandbox is worth. -/
noncomputable def Try.pinned : Pinned := { name := "ytoeppembokpjkaa", sum := "99d9c5f5c27f6a53c1e9ca5e0ad18b710d812e30d3e0c71ca69dc203e57104db", checked := Try.checked }
namespace Rows
def none {H : Type} : Left H := { results := [], args := [] }

/-- 'droverlaw18.CursorPrefix': WHATEVER THE INPUT: true; the input reads as it did. -/
def cursorPrefixSpec : ChangeSpec := { name := "cursorPrefix", fn := fun _ => fun
  | [d] => { results := [.lit (.bool true)], args := [d] }
  | _ => none }
def cursorPrefixRow : OpenClaim := { program := "ytoeppembokpjkaa", sum := "99d9c5f5c27f6a53c1e9ca5e0ad18b710d812e30d3e0c71ca69dc203e57104db", func := "drover/droverlaw18.CursorPrefix", spec := "cursorPrefix", unfollowed := true, recurses := true, apart := false }
def CursorPrefixSaid : Prop := cursorPrefixRow.holds Try.pinned (OpenSpec.ofChange cursorPrefixSpec)

/-- ITS FALSE NEIGHBOUR: 'it returns false'. Refute it at one input. -/
def cursorPrefixWrong : ChangeSpec := { name := "cursorPrefix", fn := fun _ => fun
  | [d] => { results := [.lit (.bool false)], args := [d] }
  | _ => none }
def CursorPrefixWrongFalsely : Prop := cursorPrefixRow.holds Try.pinned (OpenSpec.ofChange cursorPrefixWrong)

/-- 'droverlaw18.CursorViews': WHATEVER THE INPUT: true; the input reads as it did. -/
def cursorViewsSpec : ChangeSpec := { name := "cursorViews", fn := fun _ => fun
  | [d] => { results := [.lit (.bool true)], args := [d] }
  | _ => none }
def cursorViewsRow : OpenClaim := { program := "ytoeppembokpjkaa", sum := "99d9c5f5c27f6a53c1e9ca5e0ad18b710d812e30d3e0c71ca69dc203e57104db", func := "drover/droverlaw18.CursorViews", spec := "cursorViews", unfollowed := true, recurses := true, apart := false }
def CursorViewsSaid : Prop := cursorViewsRow.holds Try.pinned (OpenSpec.ofChange cursorViewsSpec)

/-- ITS FALSE NEIGHBOUR: 'it returns false'. Refute it at one input. -/
def cursorViewsWrong : ChangeSpec := { name := "cursorViews", fn := fun _ => fun
  | [d] => { results := [.lit (.bool false)], args := [d] }
  | _ => none }
def CursorViewsWrongFalsely : Prop := cursorViewsRow.holds Try.pinned (OpenSpec.ofChange cursorViewsWrong)

/-- 'droverlaw18.CursorSteps': WHATEVER THE INPUT: true; the input reads as it did. -/
def cursorStepsSpec : ChangeSpec := { name := "cursorSteps", fn := fun _ => fun
  | [d] => { results := [.lit (.bool true)], args := [d] }
  | _ => none }
def cursorStepsRow : OpenClaim := { program := "ytoeppembokpjkaa", sum := "99d9c5f5c27f6a53c1e9ca5e0ad18b710d812e30d3e0c71ca69dc203e57104db", func := "drover/droverlaw18.CursorSteps", spec := "cursorSteps", unfollowed := true, recurses := true, apart := false }
def CursorStepsSaid : Prop := cursorStepsRow.holds Try.pinned (OpenSpec.ofChange cursorStepsSpec)

/-- ITS FALSE NEIGHBOUR: 'it returns false'. Refute it at one input. -/
def cursorStepsWrong : ChangeSpec := { name := "cursorSteps", fn := fun _ => fun
  | [d] => { results := [.lit (.bool false)], args := [d] }
  | _ => none }
def CursorStepsWrongFalsely : Prop := cursorStepsRow.holds Try.pinned (OpenSpec.ofChange cursorStepsWrong)

/-- 'droverlaw18.CursorTrims': WHATEVER THE INPUT: true; the input reads as it did. -/
def cursorTrimsSpec : ChangeSpec := { name := "cursorTrims", fn := fun _ => fun
  | [d] => { results := [.lit (.bool true)], args := [d] }
  | _ => none }
def cursorTrimsRow : OpenClaim := { program := "ytoeppembokpjkaa", sum := "99d9c5f5c27f6a53c1e9ca5e0ad18b710d812e30d3e0c71ca69dc203e57104db", func := "drover/droverlaw18.CursorTrims", spec := "cursorTrims", unfollowed := true, recurses := true, apart := false }
def CursorTrimsSaid : Prop := cursorTrimsRow.holds Try.pinned (OpenSpec.ofChange cursorTrimsSpec)

/-- ITS FALSE NEIGHBOUR: 'it returns false'. Refute it at one input. -/
def cursorTrimsWrong : ChangeSpec := { name := "cursorTrims", fn := fun _ => fun
  | [d] => { results := [.lit (.bool false)], args := [d] }
  | _ => none }
def CursorTrimsWrongFalsely : Prop := cursorTrimsRow.holds Try.pinned (OpenSpec.ofChange cursorTrimsWrong)

/-- 'droverlaw18.CursorWaits': WHATEVER THE INPUT: true; the input reads as it did. -/
def cursorWaitsSpec : ChangeSpec := { name := "cursorWaits", fn := fun _ => fun
  | [d] => { results := [.lit (.bool true)], args := [d] }
  | _ => none }
def cursorWaitsRow : OpenClaim := { program := "ytoeppembokpjkaa", sum := "99d9c5f5c27f6a53c1e9ca5e0ad18b710d812e30d3e0c71ca69dc203e57104db", func := "drover/droverlaw18.CursorWaits", spec := "cursorWaits", unfollowed := true, recurses := true, apart := false }
def CursorWaitsSaid : Prop := cursorWaitsRow.holds Try.pinned (OpenSpec.ofChange cursorWaitsSpec)

/-- ITS FALSE NEIGHBOUR: 'it returns false'. Refute it at one input. -/
def cursorWaitsWrong : ChangeSpec := { name := "cursorWaits", fn := fun _ => fun
  | [d] => { results := [.lit (.bool false)], args := [d] }
  | _ => none }
def CursorWaitsWrongFalsely : Prop := cursorWaitsRow.holds Try.pinned (OpenSpec.ofChange cursorWaitsWrong)

/-- 'droverlaw18.CursorOnce': WHATEVER THE INPUT: true; the input reads as it did. -/
def cursorOnceSpec : ChangeSpec := { name := "cursorOnce", fn := fun _ => fun
  | [d] => { results := [.lit (.bool true)], args := [d] }
  | _ => none }
def cursorOnceRow : OpenClaim := { program := "ytoeppembokpjkaa", sum := "99d9c5f5c27f6a53c1e9ca5e0ad18b710d812e30d3e0c71ca69dc203e57104db", func := "drover/droverlaw18.CursorOnce", spec := "cursorOnce", unfollowed := true, recurses := true, apart := false }
def CursorOnceSaid : Prop := cursorOnceRow.holds Try.pinned (OpenSpec.ofChange cursorOnceSpec)

/-- ITS FALSE NEIGHBOUR: 'it returns false'. Refute it at one input. -/
def cursorOnceWrong : ChangeSpec := { name := "cursorOnce", fn := fun _ => fun
  | [d] => { results := [.lit (.bool false)], args := [d] }
  | _ => none }
def CursorOnceWrongFalsely : Prop := cursorOnceRow.holds Try.pinned (OpenSpec.ofChange cursorOnceWrong)

/-- 'droverlaw18.CursorHistory': WHATEVER THE INPUT: true; the input reads as it did. -/
def cursorHistorySpec : ChangeSpec := { name := "cursorHistory", fn := fun _ => fun
  | [d] => { results := [.lit (.bool true)], args := [d] }
  | _ => none }
def cursorHistoryRow : OpenClaim := { program := "ytoeppembokpjkaa", sum := "99d9c5f5c27f6a53c1e9ca5e0ad18b710d812e30d3e0c71ca69dc203e57104db", func := "drover/droverlaw18.CursorHistory", spec := "cursorHistory", unfollowed := true, recurses := true, apart := false }
def CursorHistorySaid : Prop := cursorHistoryRow.holds Try.pinned (OpenSpec.ofChange cursorHistorySpec)

/-- ITS FALSE NEIGHBOUR: 'it returns false'. Refute it at one input. -/
def cursorHistoryWrong : ChangeSpec := { name := "cursorHistory", fn := fun _ => fun
  | [d] => { results := [.lit (.bool false)], args := [d] }
  | _ => none }
def CursorHistoryWrongFalsely : Prop := cursorHistoryRow.holds Try.pinned (OpenSpec.ofChange cursorHistoryWrong)

/- THE SECOND FORM. 'bulk': how many values and letters a reading holds, each counted each time it is reached (what is shared counts as often as it is met; a slice's spare places count too). A statement '..UptoSaid' is the law's where the arguments, and the package variables that the reading takes, are together of bulk at most 1048576: NARROWER than '..Said'. Prove '..Said' where nothing that the law and all that it calls make is longer than what came in: it says more and counts as full. Else prove '..UptoSaid'. A law counts once. -/
mutual
def uptoBulk {H : Type} : DataW H → Nat
  | .lit (.string bytes) => bytes.length + 1
  | .lit _ => 1
  | .nil => 1
  | .ptr d => uptoBulk d + 1
  | .slice elems spare => uptoBulkAll elems + uptoBulkAll spare + 1
  | .agg parts => uptoBulkAll parts + 1
  | .iface _ d => uptoBulk d + 1
  | .map entries => uptoBulkEntries entries + 1
  | .held _ => 1
def uptoBulkAll {H : Type} : List (DataW H) → Nat
  | [] => 0
  | d :: r => uptoBulk d + uptoBulkAll r
def uptoBulkEntries {H : Type} : List (Lit × DataW H) → Nat
  | [] => 0
  | x :: r => uptoBulkEntry x + uptoBulkEntries r
def uptoBulkEntry {H : Type} : Lit × DataW H → Nat
  | (.string bytes, d) => bytes.length + uptoBulk d + 1
  | (_, d) => uptoBulk d + 1
 end
def uptoSmall : (H : Type) → List (DataW H) → Bool := fun _ ds => decide (uptoBulkAll ds ≤ 1048576)
def OpenSpec.upto (s : _root_.Go.ChangeSpec) : _root_.Go.OpenSpec := { _root_.Go.OpenSpec.ofChange s with cond := some uptoSmall }

/-- 'droverlaw18.CursorPrefix', WHERE WHAT IT READS IS OF BULK AT MOST 1048576: true; the input reads as it did. -/
def cursorPrefixUptoRow : OpenClaim := { program := "ytoeppembokpjkaa", sum := "99d9c5f5c27f6a53c1e9ca5e0ad18b710d812e30d3e0c71ca69dc203e57104db", func := "drover/droverlaw18.CursorPrefix", spec := "cursorPrefix", unfollowed := true, recurses := true, apart := false, narrowed := true }
def CursorPrefixUptoSaid : Prop := cursorPrefixUptoRow.holds Try.pinned (OpenSpec.upto cursorPrefixSpec)

/-- 'droverlaw18.CursorViews', WHERE WHAT IT READS IS OF BULK AT MOST 1048576: true; the input reads as it did. -/
def cursorViewsUptoRow : OpenClaim := { program := "ytoeppembokpjkaa", sum := "99d9c5f5c27f6a53c1e9ca5e0ad18b710d812e30d3e0c71ca69dc203e57104db", func := "drover/droverlaw18.CursorViews", spec := "cursorViews", unfollowed := true, recurses := true, apart := false, narrowed := true }
def CursorViewsUptoSaid : Prop := cursorViewsUptoRow.holds Try.pinned (OpenSpec.upto cursorViewsSpec)

/-- 'droverlaw18.CursorSteps', WHERE WHAT IT READS IS OF BULK AT MOST 1048576: true; the input reads as it did. -/
def cursorStepsUptoRow : OpenClaim := { program := "ytoeppembokpjkaa", sum := "99d9c5f5c27f6a53c1e9ca5e0ad18b710d812e30d3e0c71ca69dc203e57104db", func := "drover/droverlaw18.CursorSteps", spec := "cursorSteps", unfollowed := true, recurses := true, apart := false, narrowed := true }
def CursorStepsUptoSaid : Prop := cursorStepsUptoRow.holds Try.pinned (OpenSpec.upto cursorStepsSpec)

/-- 'droverlaw18.CursorTrims', WHERE WHAT IT READS IS OF BULK AT MOST 1048576: true; the input reads as it did. -/
def cursorTrimsUptoRow : OpenClaim := { program := "ytoeppembokpjkaa", sum := "99d9c5f5c27f6a53c1e9ca5e0ad18b710d812e30d3e0c71ca69dc203e57104db", func := "drover/droverlaw18.CursorTrims", spec := "cursorTrims", unfollowed := true, recurses := true, apart := false, narrowed := true }
def CursorTrimsUptoSaid : Prop := cursorTrimsUptoRow.holds Try.pinned (OpenSpec.upto cursorTrimsSpec)

/-- 'droverlaw18.CursorWaits', WHERE WHAT IT READS IS OF BULK AT MOST 1048576: true; the input reads as it did. -/
def cursorWaitsUptoRow : OpenClaim := { program := "ytoeppembokpjkaa", sum := "99d9c5f5c27f6a53c1e9ca5e0ad18b710d812e30d3e0c71ca69dc203e57104db", func := "drover/droverlaw18.CursorWaits", spec := "cursorWaits", unfollowed := true, recurses := true, apart := false, narrowed := true }
def CursorWaitsUptoSaid : Prop := cursorWaitsUptoRow.holds Try.pinned (OpenSpec.upto cursorWaitsSpec)

/-- 'droverlaw18.CursorOnce', WHERE WHAT IT READS IS OF BULK AT MOST 1048576: true; the input reads as it did. -/
def cursorOnceUptoRow : OpenClaim := { program := "ytoeppembokpjkaa", sum := "99d9c5f5c27f6a53c1e9ca5e0ad18b710d812e30d3e0c71ca69dc203e57104db", func := "drover/droverlaw18.CursorOnce", spec := "cursorOnce", unfollowed := true, recurses := true, apart := false, narrowed := true }
def CursorOnceUptoSaid : Prop := cursorOnceUptoRow.holds Try.pinned (OpenSpec.upto cursorOnceSpec)

/-- 'droverlaw18.CursorHistory', WHERE WHAT IT READS IS OF BULK AT MOST 1048576: true; the input reads as it did. -/
def cursorHistoryUptoRow : OpenClaim := { program := "ytoeppembokpjkaa", sum := "99d9c5f5c27f6a53c1e9ca5e0ad18b710d812e30d3e0c71ca69dc203e57104db", func := "drover/droverlaw18.CursorHistory", spec := "cursorHistory", unfollowed := true, recurses := true, apart := false, narrowed := true }
def CursorHistoryUptoSaid : Prop := cursorHistoryUptoRow.holds Try.pinned (OpenSpec.upto cursorHistorySpec)

end Rows
end Go.Proofs.Ytoeppembokpjkaa
