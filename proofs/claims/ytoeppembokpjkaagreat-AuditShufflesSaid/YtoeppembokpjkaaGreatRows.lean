/-
  No cell of these rows narrows 'for every input' (looked for: loops, veiled, ifaces, maps, wideKeys, modest, calm, conditions, laid).
  DERIVED. THE GIVEN ROWS OF THIS SEAT. 5 by the template 'for every input the law returns true; each argument reads behind the call as it read before'; 0 by the template 'total and deterministic' (their statements: YtoeppembokpjkaaGreatTotals.lean).
  GIVEN WITH THE SEED: the statements are not yours to turn. If you find one false, say at which input.
  Laid BY PROGRAM, IN A SANDBOX (cutbox-rows.mjs): the forced cells as the released guide's own fill.sh prints them over the translation e69f0b7841684335… (all of the seat's roots in one cut). By AI agents, Wed Nov 11 2026. No macro, syntax, notation, axiom, sorry.
-/
import Derived.Test.YtoeppembokpjkaaGreatChecked
import GoSem.Claim
import GoSem.ClaimJoined
import GoSem.ClaimMapViews
import Derived.JoinedTies
import Derived.KernelRfl
namespace Go.Proofs.YtoeppembokpjkaaGreat
/- THE CELL 'sum', in the pinned program and in every row, IS THE sha256 OF THE DUMP (.gsa) THAT YtoeppembokpjkaaGreatProg.lean LOADS. Nothing in Lean hashes anything: it is a label: what it is worth is what the hold of that sum in a sandbox is worth. -/
noncomputable def Tryz.pinned : Pinned := { name := "ytoeppembokpjkaagreat", sum := "e69f0b7841684335283d6647bf10be146fffed333afe868e143f3cad90982404", checked := Tryz.checked }
namespace Rows
def none {H : Type} : Left H := { results := [], args := [] }

/-- 'droverlaw18.CursorExact': WHATEVER THE INPUT: true; the input reads as it did. -/
def cursorExactSpec : ChangeSpec := { name := "cursorExact", fn := fun _ => fun
  | [d] => { results := [.lit (.bool true)], args := [d] }
  | _ => none }
def cursorExactRow : OpenClaim := { program := "ytoeppembokpjkaagreat", sum := "e69f0b7841684335283d6647bf10be146fffed333afe868e143f3cad90982404", func := "drover/droverlaw18.CursorExact", spec := "cursorExact", unfollowed := true, recurses := true, apart := false }
def CursorExactSaid : Prop := cursorExactRow.holds Tryz.pinned (OpenSpec.ofChange cursorExactSpec)

/-- ITS FALSE NEIGHBOUR: 'it returns false'. Refute it at one input. -/
def cursorExactWrong : ChangeSpec := { name := "cursorExact", fn := fun _ => fun
  | [d] => { results := [.lit (.bool false)], args := [d] }
  | _ => none }
def CursorExactWrongFalsely : Prop := cursorExactRow.holds Tryz.pinned (OpenSpec.ofChange cursorExactWrong)

/-- 'droverlaw25.AuditDags': WHATEVER THE INPUT: true; the input reads as it did. -/
def auditDagsSpec : ChangeSpec := { name := "auditDags", fn := fun _ => fun
  | [d] => { results := [.lit (.bool true)], args := [d] }
  | _ => none }
def auditDagsRow : OpenClaim := { program := "ytoeppembokpjkaagreat", sum := "e69f0b7841684335283d6647bf10be146fffed333afe868e143f3cad90982404", func := "drover/droverlaw25.AuditDags", spec := "auditDags", inPlace := ["slices.overlaps[drover/api.Cert]"], unfollowed := true, recurses := true, apart := false }
def AuditDagsSaid : Prop := auditDagsRow.holds Tryz.pinned (OpenSpec.ofChange auditDagsSpec)

/-- ITS FALSE NEIGHBOUR: 'it returns false'. Refute it at one input. -/
def auditDagsWrong : ChangeSpec := { name := "auditDags", fn := fun _ => fun
  | [d] => { results := [.lit (.bool false)], args := [d] }
  | _ => none }
def AuditDagsWrongFalsely : Prop := auditDagsRow.holds Tryz.pinned (OpenSpec.ofChange auditDagsWrong)

/-- 'droverlaw25.AuditOrders': WHATEVER THE INPUT: true; the input reads as it did. -/
def auditOrdersSpec : ChangeSpec := { name := "auditOrders", fn := fun _ => fun
  | [d] => { results := [.lit (.bool true)], args := [d] }
  | _ => none }
def auditOrdersRow : OpenClaim := { program := "ytoeppembokpjkaagreat", sum := "e69f0b7841684335283d6647bf10be146fffed333afe868e143f3cad90982404", func := "drover/droverlaw25.AuditOrders", spec := "auditOrders", inPlace := ["slices.overlaps[drover/api.Cert]"], unfollowed := true, recurses := true, apart := false }
def AuditOrdersSaid : Prop := auditOrdersRow.holds Tryz.pinned (OpenSpec.ofChange auditOrdersSpec)

/-- ITS FALSE NEIGHBOUR: 'it returns false'. Refute it at one input. -/
def auditOrdersWrong : ChangeSpec := { name := "auditOrders", fn := fun _ => fun
  | [d] => { results := [.lit (.bool false)], args := [d] }
  | _ => none }
def AuditOrdersWrongFalsely : Prop := auditOrdersRow.holds Tryz.pinned (OpenSpec.ofChange auditOrdersWrong)

/-- 'droverlaw25.AuditShuffles': WHATEVER THE INPUT: true; the input reads as it did. -/
def auditShufflesSpec : ChangeSpec := { name := "auditShuffles", fn := fun _ => fun
  | [d] => { results := [.lit (.bool true)], args := [d] }
  | _ => none }
def auditShufflesRow : OpenClaim := { program := "ytoeppembokpjkaagreat", sum := "e69f0b7841684335283d6647bf10be146fffed333afe868e143f3cad90982404", func := "drover/droverlaw25.AuditShuffles", spec := "auditShuffles", inPlace := ["slices.overlaps[drover/api.Cert]"], unfollowed := true, recurses := true, apart := false }
def AuditShufflesSaid : Prop := auditShufflesRow.holds Tryz.pinned (OpenSpec.ofChange auditShufflesSpec)

/-- ITS FALSE NEIGHBOUR: 'it returns false'. Refute it at one input. -/
def auditShufflesWrong : ChangeSpec := { name := "auditShuffles", fn := fun _ => fun
  | [d] => { results := [.lit (.bool false)], args := [d] }
  | _ => none }
def AuditShufflesWrongFalsely : Prop := auditShufflesRow.holds Tryz.pinned (OpenSpec.ofChange auditShufflesWrong)

/-- 'droverlaw25.AuditBatches': WHATEVER THE INPUT: true; the input reads as it did. -/
def auditBatchesSpec : ChangeSpec := { name := "auditBatches", fn := fun _ => fun
  | [d] => { results := [.lit (.bool true)], args := [d] }
  | _ => none }
def auditBatchesRow : OpenClaim := { program := "ytoeppembokpjkaagreat", sum := "e69f0b7841684335283d6647bf10be146fffed333afe868e143f3cad90982404", func := "drover/droverlaw25.AuditBatches", spec := "auditBatches", inPlace := ["slices.overlaps[drover/api.Cert]"], unfollowed := true, recurses := true, apart := false }
def AuditBatchesSaid : Prop := auditBatchesRow.holds Tryz.pinned (OpenSpec.ofChange auditBatchesSpec)

/-- ITS FALSE NEIGHBOUR: 'it returns false'. Refute it at one input. -/
def auditBatchesWrong : ChangeSpec := { name := "auditBatches", fn := fun _ => fun
  | [d] => { results := [.lit (.bool false)], args := [d] }
  | _ => none }
def AuditBatchesWrongFalsely : Prop := auditBatchesRow.holds Tryz.pinned (OpenSpec.ofChange auditBatchesWrong)

/- THE SECOND FORM. 'bulk': how many values and letters a reading holds, each counted each time it is reached (what is shared counts as often as it is met; a slice's spare places count too). A statement '..UptoSaid' is the law's where the arguments, and the package variables that the reading takes, are together of bulk at most 1048576: NARROWER than '..Said'. Prove '..Said' where nothing that the law and all that it calls make is longer than what came in: it says more and counts as full. Else prove '..UptoSaid'. A law counts once. -/
mutual
def uptoBulk {H : Type} : DataW H → Nat
  | .lit (.string bytes) => bytes.length + 1
  | .lit _ => 1
  | .nil => 1
  | .ptr d => uptoBulk d + 1
  | .slice elems spare => uptoBulkAll elems + uptoBulkAll spare + 1
  | .agg parts => uptoBulkAll parts + 1
  | .iface _ d => uptoBulk d + 1
  | .map entries => uptoBulkEntries entries + 1
  | .held _ => 1
def uptoBulkAll {H : Type} : List (DataW H) → Nat
  | [] => 0
  | d :: r => uptoBulk d + uptoBulkAll r
def uptoBulkEntries {H : Type} : List (Lit × DataW H) → Nat
  | [] => 0
  | x :: r => uptoBulkEntry x + uptoBulkEntries r
def uptoBulkEntry {H : Type} : Lit × DataW H → Nat
  | (.string bytes, d) => bytes.length + uptoBulk d + 1
  | (_, d) => uptoBulk d + 1
 end
def uptoSmall : (H : Type) → List (DataW H) → Bool := fun _ ds => decide (uptoBulkAll ds ≤ 1048576)
def OpenSpec.upto (s : _root_.Go.ChangeSpec) : _root_.Go.OpenSpec := { _root_.Go.OpenSpec.ofChange s with cond := some uptoSmall }

/-- 'droverlaw18.CursorExact', WHERE WHAT IT READS IS OF BULK AT MOST 1048576: true; the input reads as it did. -/
def cursorExactUptoRow : OpenClaim := { program := "ytoeppembokpjkaagreat", sum := "e69f0b7841684335283d6647bf10be146fffed333afe868e143f3cad90982404", func := "drover/droverlaw18.CursorExact", spec := "cursorExact", unfollowed := true, recurses := true, apart := false, narrowed := true }
def CursorExactUptoSaid : Prop := cursorExactUptoRow.holds Tryz.pinned (OpenSpec.upto cursorExactSpec)

/-- 'droverlaw25.AuditDags', WHERE WHAT IT READS IS OF BULK AT MOST 1048576: true; the input reads as it did. -/
def auditDagsUptoRow : OpenClaim := { program := "ytoeppembokpjkaagreat", sum := "e69f0b7841684335283d6647bf10be146fffed333afe868e143f3cad90982404", func := "drover/droverlaw25.AuditDags", spec := "auditDags", inPlace := ["slices.overlaps[drover/api.Cert]"], unfollowed := true, recurses := true, apart := false, narrowed := true }
def AuditDagsUptoSaid : Prop := auditDagsUptoRow.holds Tryz.pinned (OpenSpec.upto auditDagsSpec)

/-- 'droverlaw25.AuditOrders', WHERE WHAT IT READS IS OF BULK AT MOST 1048576: true; the input reads as it did. -/
def auditOrdersUptoRow : OpenClaim := { program := "ytoeppembokpjkaagreat", sum := "e69f0b7841684335283d6647bf10be146fffed333afe868e143f3cad90982404", func := "drover/droverlaw25.AuditOrders", spec := "auditOrders", inPlace := ["slices.overlaps[drover/api.Cert]"], unfollowed := true, recurses := true, apart := false, narrowed := true }
def AuditOrdersUptoSaid : Prop := auditOrdersUptoRow.holds Tryz.pinned (OpenSpec.upto auditOrdersSpec)

/-- 'droverlaw25.AuditShuffles', WHERE WHAT IT READS IS OF BULK AT MOST 1048576: true; the input reads as it did. -/
def auditShufflesUptoRow : OpenClaim := { program := "ytoeppembokpjkaagreat", sum := "e69f0b7841684335283d6647bf10be146fffed333afe868e143f3cad90982404", func := "drover/droverlaw25.AuditShuffles", spec := "auditShuffles", inPlace := ["slices.overlaps[drover/api.Cert]"], unfollowed := true, recurses := true, apart := false, narrowed := true }
def AuditShufflesUptoSaid : Prop := auditShufflesUptoRow.holds Tryz.pinned (OpenSpec.upto auditShufflesSpec)

/-- 'droverlaw25.AuditBatches', WHERE WHAT IT READS IS OF BULK AT MOST 1048576: true; the input reads as it did. -/
def auditBatchesUptoRow : OpenClaim := { program := "ytoeppembokpjkaagreat", sum := "e69f0b7841684335283d6647bf10be146fffed333afe868e143f3cad90982404", func := "drover/droverlaw25.AuditBatches", spec := "auditBatches", inPlace := ["slices.overlaps[drover/api.Cert]"], unfollowed := true, recurses := true, apart := false, narrowed := true }
def AuditBatchesUptoSaid : Prop := auditBatchesUptoRow.holds Tryz.pinned (OpenSpec.upto auditBatchesSpec)

end Rows
end Go.Proofs.YtoeppembokpjkaaGreat
