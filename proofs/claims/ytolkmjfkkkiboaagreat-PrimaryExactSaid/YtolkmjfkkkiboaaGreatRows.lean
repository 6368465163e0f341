/-
  No cell of these rows narrows 'for every input' (looked for: loops, veiled, ifaces, maps, wideKeys, modest, calm, conditions, laid).
  DERIVED. THE GIVEN ROWS OF THIS SEAT. 9 by the template 'for every input the law returns true; each argument reads behind the call as it read before'; 0 by the template 'total and deterministic' (their statements: YtolkmjfkkkiboaaGreatTotals.lean).
  GIVEN WITH THE SEED: the statements are not yours to turn. If you find one false, say at which input.
  Laid BY PROGRAM, IN A SANDBOX (cutbox-rows.mjs): the forced cells as the released guide's own fill.sh prints them over the translation 775ba721af02845e… (all of the seat's roots in one cut). By AI agents, Wed Nov 11 2026. No macro, syntax, notation, axiom, sorry.
-/
import Derived.Test.YtolkmjfkkkiboaaGreatChecked
import GoSem.Claim
import GoSem.ClaimJoined
import GoSem.ClaimMapViews
import Derived.JoinedTies
import Derived.KernelRfl
namespace Go.Proofs.YtolkmjfkkkiboaaGreat
/- THE CELL 'sum', in the pinned program and in every row, IS THE sha256 OF THE DUMP (.gsa) THAT YtolkmjfkkkiboaaGreatProg.lean LOADS. Nothing in Lean hashes anything: it is a label: what it is worth is what the hold of that sum in a sandbox is worth. -/
noncomputable def Tryz.pinned : Pinned := { name := "ytolkmjfkkkiboaagreat", sum := "775ba721af02845e14da4c7f07f2bd8f8eea1307a48d6b322e5b48196b25c0d8", checked := Tryz.checked }
namespace Rows
def none {H : Type} : Left H := { results := [], args := [] }

/-- 'droverlaw20.PrimaryProposes': WHATEVER THE INPUT: true; the input reads as it did. -/
def primaryProposesSpec : ChangeSpec := { name := "primaryProposes", fn := fun _ => fun
  | [d] => { results := [.lit (.bool true)], args := [d] }
  | _ => none }
def primaryProposesRow : OpenClaim := { program := "ytolkmjfkkkiboaagreat", sum := "775ba721af02845e14da4c7f07f2bd8f8eea1307a48d6b322e5b48196b25c0d8", func := "drover/droverlaw20.PrimaryProposes", spec := "primaryProposes", inPlace := ["slices.overlaps[drover/api.Vote]", "slices.overlaps[drover/api.Cert]", "slices.overlaps[int]"], unfollowed := true, recurses := true, apart := false }
def PrimaryProposesSaid : Prop := primaryProposesRow.holds Tryz.pinned (OpenSpec.ofChange primaryProposesSpec)

/-- ITS FALSE NEIGHBOUR: 'it returns false'. Refute it at one input. -/
def primaryProposesWrong : ChangeSpec := { name := "primaryProposes", fn := fun _ => fun
  | [d] => { results := [.lit (.bool false)], args := [d] }
  | _ => none }
def PrimaryProposesWrongFalsely : Prop := primaryProposesRow.holds Tryz.pinned (OpenSpec.ofChange primaryProposesWrong)

/-- 'droverlaw20.PrimaryStrange': WHATEVER THE INPUT: true; the input reads as it did. -/
def primaryStrangeSpec : ChangeSpec := { name := "primaryStrange", fn := fun _ => fun
  | [d] => { results := [.lit (.bool true)], args := [d] }
  | _ => none }
def primaryStrangeRow : OpenClaim := { program := "ytolkmjfkkkiboaagreat", sum := "775ba721af02845e14da4c7f07f2bd8f8eea1307a48d6b322e5b48196b25c0d8", func := "drover/droverlaw20.PrimaryStrange", spec := "primaryStrange", inPlace := ["slices.overlaps[drover/api.Vote]", "slices.overlaps[drover/api.Cert]", "slices.overlaps[int]"], unfollowed := true, recurses := true, apart := false }
def PrimaryStrangeSaid : Prop := primaryStrangeRow.holds Tryz.pinned (OpenSpec.ofChange primaryStrangeSpec)

/-- ITS FALSE NEIGHBOUR: 'it returns false'. Refute it at one input. -/
def primaryStrangeWrong : ChangeSpec := { name := "primaryStrange", fn := fun _ => fun
  | [d] => { results := [.lit (.bool false)], args := [d] }
  | _ => none }
def PrimaryStrangeWrongFalsely : Prop := primaryStrangeRow.holds Tryz.pinned (OpenSpec.ofChange primaryStrangeWrong)

/-- 'droverlaw20.PrimaryTicks': WHATEVER THE INPUT: true; the input reads as it did. -/
def primaryTicksSpec : ChangeSpec := { name := "primaryTicks", fn := fun _ => fun
  | [d] => { results := [.lit (.bool true)], args := [d] }
  | _ => none }
def primaryTicksRow : OpenClaim := { program := "ytolkmjfkkkiboaagreat", sum := "775ba721af02845e14da4c7f07f2bd8f8eea1307a48d6b322e5b48196b25c0d8", func := "drover/droverlaw20.PrimaryTicks", spec := "primaryTicks", inPlace := ["slices.overlaps[drover/api.Vote]", "slices.overlaps[drover/api.Cert]", "slices.overlaps[int]"], unfollowed := true, recurses := true, apart := false }
def PrimaryTicksSaid : Prop := primaryTicksRow.holds Tryz.pinned (OpenSpec.ofChange primaryTicksSpec)

/-- ITS FALSE NEIGHBOUR: 'it returns false'. Refute it at one input. -/
def primaryTicksWrong : ChangeSpec := { name := "primaryTicks", fn := fun _ => fun
  | [d] => { results := [.lit (.bool false)], args := [d] }
  | _ => none }
def PrimaryTicksWrongFalsely : Prop := primaryTicksRow.holds Tryz.pinned (OpenSpec.ofChange primaryTicksWrong)

/-- 'droverlaw20.PrimaryTrims': WHATEVER THE INPUT: true; the input reads as it did. -/
def primaryTrimsSpec : ChangeSpec := { name := "primaryTrims", fn := fun _ => fun
  | [d] => { results := [.lit (.bool true)], args := [d] }
  | _ => none }
def primaryTrimsRow : OpenClaim := { program := "ytolkmjfkkkiboaagreat", sum := "775ba721af02845e14da4c7f07f2bd8f8eea1307a48d6b322e5b48196b25c0d8", func := "drover/droverlaw20.PrimaryTrims", spec := "primaryTrims", inPlace := ["slices.overlaps[drover/api.Vote]", "slices.overlaps[drover/api.Cert]", "slices.overlaps[int]"], unfollowed := true, recurses := true, apart := false }
def PrimaryTrimsSaid : Prop := primaryTrimsRow.holds Tryz.pinned (OpenSpec.ofChange primaryTrimsSpec)

/-- ITS FALSE NEIGHBOUR: 'it returns false'. Refute it at one input. -/
def primaryTrimsWrong : ChangeSpec := { name := "primaryTrims", fn := fun _ => fun
  | [d] => { results := [.lit (.bool false)], args := [d] }
  | _ => none }
def PrimaryTrimsWrongFalsely : Prop := primaryTrimsRow.holds Tryz.pinned (OpenSpec.ofChange primaryTrimsWrong)

/-- 'droverlaw20.PrimaryAsked': WHATEVER THE INPUT: true; the input reads as it did. -/
def primaryAskedSpec : ChangeSpec := { name := "primaryAsked", fn := fun _ => fun
  | [d] => { results := [.lit (.bool true)], args := [d] }
  | _ => none }
def primaryAskedRow : OpenClaim := { program := "ytolkmjfkkkiboaagreat", sum := "775ba721af02845e14da4c7f07f2bd8f8eea1307a48d6b322e5b48196b25c0d8", func := "drover/droverlaw20.PrimaryAsked", spec := "primaryAsked", inPlace := ["slices.overlaps[drover/api.Vote]", "slices.overlaps[drover/api.Cert]", "slices.overlaps[int]"], unfollowed := true, recurses := true, apart := false }
def PrimaryAskedSaid : Prop := primaryAskedRow.holds Tryz.pinned (OpenSpec.ofChange primaryAskedSpec)

/-- ITS FALSE NEIGHBOUR: 'it returns false'. Refute it at one input. -/
def primaryAskedWrong : ChangeSpec := { name := "primaryAsked", fn := fun _ => fun
  | [d] => { results := [.lit (.bool false)], args := [d] }
  | _ => none }
def PrimaryAskedWrongFalsely : Prop := primaryAskedRow.holds Tryz.pinned (OpenSpec.ofChange primaryAskedWrong)

/-- 'droverlaw20.PrimaryVoted': WHATEVER THE INPUT: true; the input reads as it did. -/
def primaryVotedSpec : ChangeSpec := { name := "primaryVoted", fn := fun _ => fun
  | [d] => { results := [.lit (.bool true)], args := [d] }
  | _ => none }
def primaryVotedRow : OpenClaim := { program := "ytolkmjfkkkiboaagreat", sum := "775ba721af02845e14da4c7f07f2bd8f8eea1307a48d6b322e5b48196b25c0d8", func := "drover/droverlaw20.PrimaryVoted", spec := "primaryVoted", inPlace := ["slices.overlaps[drover/api.Vote]", "slices.overlaps[drover/api.Cert]", "slices.overlaps[int]"], unfollowed := true, recurses := true, apart := false }
def PrimaryVotedSaid : Prop := primaryVotedRow.holds Tryz.pinned (OpenSpec.ofChange primaryVotedSpec)

/-- ITS FALSE NEIGHBOUR: 'it returns false'. Refute it at one input. -/
def primaryVotedWrong : ChangeSpec := { name := "primaryVoted", fn := fun _ => fun
  | [d] => { results := [.lit (.bool false)], args := [d] }
  | _ => none }
def PrimaryVotedWrongFalsely : Prop := primaryVotedRow.holds Tryz.pinned (OpenSpec.ofChange primaryVotedWrong)

/-- 'droverlaw20.PrimaryComes': WHATEVER THE INPUT: true; the input reads as it did. -/
def primaryComesSpec : ChangeSpec := { name := "primaryComes", fn := fun _ => fun
  | [d] => { results := [.lit (.bool true)], args := [d] }
  | _ => none }
def primaryComesRow : OpenClaim := { program := "ytolkmjfkkkiboaagreat", sum := "775ba721af02845e14da4c7f07f2bd8f8eea1307a48d6b322e5b48196b25c0d8", func := "drover/droverlaw20.PrimaryComes", spec := "primaryComes", inPlace := ["slices.overlaps[drover/api.Vote]", "slices.overlaps[drover/api.Cert]", "slices.overlaps[int]"], unfollowed := true, recurses := true, apart := false }
def PrimaryComesSaid : Prop := primaryComesRow.holds Tryz.pinned (OpenSpec.ofChange primaryComesSpec)

/-- ITS FALSE NEIGHBOUR: 'it returns false'. Refute it at one input. -/
def primaryComesWrong : ChangeSpec := { name := "primaryComes", fn := fun _ => fun
  | [d] => { results := [.lit (.bool false)], args := [d] }
  | _ => none }
def PrimaryComesWrongFalsely : Prop := primaryComesRow.holds Tryz.pinned (OpenSpec.ofChange primaryComesWrong)

/-- 'droverlaw20.PrimaryWanted': WHATEVER THE INPUT: true; the input reads as it did. -/
def primaryWantedSpec : ChangeSpec := { name := "primaryWanted", fn := fun _ => fun
  | [d] => { results := [.lit (.bool true)], args := [d] }
  | _ => none }
def primaryWantedRow : OpenClaim := { program := "ytolkmjfkkkiboaagreat", sum := "775ba721af02845e14da4c7f07f2bd8f8eea1307a48d6b322e5b48196b25c0d8", func := "drover/droverlaw20.PrimaryWanted", spec := "primaryWanted", inPlace := ["slices.overlaps[drover/api.Vote]", "slices.overlaps[drover/api.Cert]", "slices.overlaps[int]"], unfollowed := true, recurses := true, apart := false }
def PrimaryWantedSaid : Prop := primaryWantedRow.holds Tryz.pinned (OpenSpec.ofChange primaryWantedSpec)

/-- ITS FALSE NEIGHBOUR: 'it returns false'. Refute it at one input. -/
def primaryWantedWrong : ChangeSpec := { name := "primaryWanted", fn := fun _ => fun
  | [d] => { results := [.lit (.bool false)], args := [d] }
  | _ => none }
def PrimaryWantedWrongFalsely : Prop := primaryWantedRow.holds Tryz.pinned (OpenSpec.ofChange primaryWantedWrong)

/-- 'droverlaw20.PrimaryExact': WHATEVER THE INPUT: true; the input reads as it did. -/
def primaryExactSpec : ChangeSpec := { name := "primaryExact", fn := fun _ => fun
  | [d] => { results := [.lit (.bool true)], args := [d] }
  | _ => none }
def primaryExactRow : OpenClaim := { program := "ytolkmjfkkkiboaagreat", sum := "775ba721af02845e14da4c7f07f2bd8f8eea1307a48d6b322e5b48196b25c0d8", func := "drover/droverlaw20.PrimaryExact", spec := "primaryExact", inPlace := ["slices.overlaps[drover/api.Vote]", "slices.overlaps[drover/api.Cert]", "slices.overlaps[int]"], unfollowed := true, recurses := true, apart := false }
def PrimaryExactSaid : Prop := primaryExactRow.holds Tryz.pinned (OpenSpec.ofChange primaryExactSpec)

/-- ITS FALSE NEIGHBOUR: 'it returns false'. Refute it at one input. -/
def primaryExactWrong : ChangeSpec := { name := "primaryExact", fn := fun _ => fun
  | [d] => { results := [.lit (.bool false)], args := [d] }
  | _ => none }
def PrimaryExactWrongFalsely : Prop := primaryExactRow.holds Tryz.pinned (OpenSpec.ofChange primaryExactWrong)

/- THE SECOND FORM. 'bulk': how many values and letters a reading holds, each counted each time it is reached (what is shared counts as often as it is met; a slice's spare places count too). A statement '..UptoSaid' is the law's where the arguments, and the package variables that the reading takes, are together of bulk at most 1048576: NARROWER than '..Said'. Prove '..Said' where nothing that the law and all that it calls make is longer than what came in: it says more and counts as full. Else prove '..UptoSaid'. A law counts once. -/
mutual
def uptoBulk {H : Type} : DataW H → Nat
  | .lit (.string bytes) => bytes.length + 1
  | .lit _ => 1
  | .nil => 1
  | .ptr d => uptoBulk d + 1
  | .slice elems spare => uptoBulkAll elems + uptoBulkAll spare + 1
  | .agg parts => uptoBulkAll parts + 1
  | .iface _ d => uptoBulk d + 1
  | .map entries => uptoBulkEntries entries + 1
  | .held _ => 1
def uptoBulkAll {H : Type} : List (DataW H) → Nat
  | [] => 0
  | d :: r => uptoBulk d + uptoBulkAll r
def uptoBulkEntries {H : Type} : List (Lit × DataW H) → Nat
  | [] => 0
  | x :: r => uptoBulkEntry x + uptoBulkEntries r
def uptoBulkEntry {H : Type} : Lit × DataW H → Nat
  | (.string bytes, d) => bytes.length + uptoBulk d + 1
  | (_, d) => uptoBulk d + 1
 end
def uptoSmall : (H : Type) → List (DataW H) → Bool := fun _ ds => decide (uptoBulkAll ds ≤ 1048576)
def OpenSpec.upto (s : _root_.Go.ChangeSpec) : _root_.Go.OpenSpec := { _root_.Go.OpenSpec.ofChange s with cond := some uptoSmall }

/-- 'droverlaw20.PrimaryProposes', WHERE WHAT IT READS IS OF BULK AT MOST 1048576: true; the input reads as it did. -/
def primaryProposesUptoRow : OpenClaim := { program := "ytolkmjfkkkiboaagreat", sum := "775ba721af02845e14da4c7f07f2bd8f8eea1307a48d6b322e5b48196b25c0d8", func := "drover/droverlaw20.PrimaryProposes", spec := "primaryProposes", inPlace := ["slices.overlaps[drover/api.Vote]", "slices.overlaps[drover/api.Cert]", "slices.overlaps[int]"], unfollowed := true, recurses := true, apart := false, narrowed := true }
def PrimaryProposesUptoSaid : Prop := primaryProposesUptoRow.holds Tryz.pinned (OpenSpec.upto primaryProposesSpec)

/-- 'droverlaw20.PrimaryStrange', WHERE WHAT IT READS IS OF BULK AT MOST 1048576: true; the input reads as it did. -/
def primaryStrangeUptoRow : OpenClaim := { program := "ytolkmjfkkkiboaagreat", sum := "775ba721af02845e14da4c7f07f2bd8f8eea1307a48d6b322e5b48196b25c0d8", func := "drover/droverlaw20.PrimaryStrange", spec := "primaryStrange", inPlace := ["slices.overlaps[drover/api.Vote]", "slices.overlaps[drover/api.Cert]", "slices.overlaps[int]"], unfollowed := true, recurses := true, apart := false, narrowed := true }
def PrimaryStrangeUptoSaid : Prop := primaryStrangeUptoRow.holds Tryz.pinned (OpenSpec.upto primaryStrangeSpec)

/-- 'droverlaw20.PrimaryTicks', WHERE WHAT IT READS IS OF BULK AT MOST 1048576: true; the input reads as it did. -/
def primaryTicksUptoRow : OpenClaim := { program := "ytolkmjfkkkiboaagreat", sum := "775ba721af02845e14da4c7f07f2bd8f8eea1307a48d6b322e5b48196b25c0d8", func := "drover/droverlaw20.PrimaryTicks", spec := "primaryTicks", inPlace := ["slices.overlaps[drover/api.Vote]", "slices.overlaps[drover/api.Cert]", "slices.overlaps[int]"], unfollowed := true, recurses := true, apart := false, narrowed := true }
def PrimaryTicksUptoSaid : Prop := primaryTicksUptoRow.holds Tryz.pinned (OpenSpec.upto primaryTicksSpec)

/-- 'droverlaw20.PrimaryTrims', WHERE WHAT IT READS IS OF BULK AT MOST 1048576: true; the input reads as it did. -/
def primaryTrimsUptoRow : OpenClaim := { program := "ytolkmjfkkkiboaagreat", sum := "775ba721af02845e14da4c7f07f2bd8f8eea1307a48d6b322e5b48196b25c0d8", func := "drover/droverlaw20.PrimaryTrims", spec := "primaryTrims", inPlace := ["slices.overlaps[drover/api.Vote]", "slices.overlaps[drover/api.Cert]", "slices.overlaps[int]"], unfollowed := true, recurses := true, apart := false, narrowed := true }
def PrimaryTrimsUptoSaid : Prop := primaryTrimsUptoRow.holds Tryz.pinned (OpenSpec.upto primaryTrimsSpec)

/-- 'droverlaw20.PrimaryAsked', WHERE WHAT IT READS IS OF BULK AT MOST 1048576: true; the input reads as it did. -/
def primaryAskedUptoRow : OpenClaim := { program := "ytolkmjfkkkiboaagreat", sum := "775ba721af02845e14da4c7f07f2bd8f8eea1307a48d6b322e5b48196b25c0d8", func := "drover/droverlaw20.PrimaryAsked", spec := "primaryAsked", inPlace := ["slices.overlaps[drover/api.Vote]", "slices.overlaps[drover/api.Cert]", "slices.overlaps[int]"], unfollowed := true, recurses := true, apart := false, narrowed := true }
def PrimaryAskedUptoSaid : Prop := primaryAskedUptoRow.holds Tryz.pinned (OpenSpec.upto primaryAskedSpec)

/-- 'droverlaw20.PrimaryVoted', WHERE WHAT IT READS IS OF BULK AT MOST 1048576: true; the input reads as it did. -/
def primaryVotedUptoRow : OpenClaim := { program := "ytolkmjfkkkiboaagreat", sum := "775ba721af02845e14da4c7f07f2bd8f8eea1307a48d6b322e5b48196b25c0d8", func := "drover/droverlaw20.PrimaryVoted", spec := "primaryVoted", inPlace := ["slices.overlaps[drover/api.Vote]", "slices.overlaps[drover/api.Cert]", "slices.overlaps[int]"], unfollowed := true, recurses := true, apart := false, narrowed := true }
def PrimaryVotedUptoSaid : Prop := primaryVotedUptoRow.holds Tryz.pinned (OpenSpec.upto primaryVotedSpec)

/-- 'droverlaw20.PrimaryComes', WHERE WHAT IT READS IS OF BULK AT MOST 1048576: true; the input reads as it did. -/
def primaryComesUptoRow : OpenClaim := { program := "ytolkmjfkkkiboaagreat", sum := "775ba721af02845e14da4c7f07f2bd8f8eea1307a48d6b322e5b48196b25c0d8", func := "drover/droverlaw20.PrimaryComes", spec := "primaryComes", inPlace := ["slices.overlaps[drover/api.Vote]", "slices.overlaps[drover/api.Cert]", "slices.overlaps[int]"], unfollowed := true, recurses := true, apart := false, narrowed := true }
def PrimaryComesUptoSaid : Prop := primaryComesUptoRow.holds Tryz.pinned (OpenSpec.upto primaryComesSpec)

/-- 'droverlaw20.PrimaryWanted', WHERE WHAT IT READS IS OF BULK AT MOST 1048576: true; the input reads as it did. -/
def primaryWantedUptoRow : OpenClaim := { program := "ytolkmjfkkkiboaagreat", sum := "775ba721af02845e14da4c7f07f2bd8f8eea1307a48d6b322e5b48196b25c0d8", func := "drover/droverlaw20.PrimaryWanted", spec := "primaryWanted", inPlace := ["slices.overlaps[drover/api.Vote]", "slices.overlaps[drover/api.Cert]", "slices.overlaps[int]"], unfollowed := true, recurses := true, apart := false, narrowed := true }
def PrimaryWantedUptoSaid : Prop := primaryWantedUptoRow.holds Tryz.pinned (OpenSpec.upto primaryWantedSpec)

/-- 'droverlaw20.PrimaryExact', WHERE WHAT IT READS IS OF BULK AT MOST 1048576: true; the input reads as it did. -/
def primaryExactUptoRow : OpenClaim := { program := "ytolkmjfkkkiboaagreat", sum := "775ba721af02845e14da4c7f07f2bd8f8eea1307a48d6b322e5b48196b25c0d8", func := "drover/droverlaw20.PrimaryExact", spec := "primaryExact", inPlace := ["slices.overlaps[drover/api.Vote]", "slices.overlaps[drover/api.Cert]", "slices.overlaps[int]"], unfollowed := true, recurses := true, apart := false, narrowed := true }
def PrimaryExactUptoSaid : Prop := primaryExactUptoRow.holds Tryz.pinned (OpenSpec.upto primaryExactSpec)

end Rows
end Go.Proofs.YtolkmjfkkkiboaaGreat
