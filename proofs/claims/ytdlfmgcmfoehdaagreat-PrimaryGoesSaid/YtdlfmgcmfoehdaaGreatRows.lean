/-
  No cell of these rows narrows 'for every input' (looked for: loops, veiled, ifaces, maps, wideKeys, modest, calm, conditions, laid).
  DERIVED. THE GIVEN ROWS OF THIS SEAT. 5 by the template 'for every input the law returns true; each argument reads behind the call as it read before'; 0 by the template 'total and deterministic' (their statements: YtdlfmgcmfoehdaaGreatTotals.lean).
  GIVEN WITH THE SEED: the statements are not yours to turn. If you find one false, say at which input.
  Laid BY PROGRAM, IN A SANDBOX (cutbox-rows.mjs): the forced cells as the released guide's own fill.sh prints them over the translation 077b9e1ee9e687ae… (all of the seat's roots in one cut). By AI agents, Wed Nov 11 2026. No macro, syntax, notation, axiom, sorry.
-/
import Derived.Test.YtdlfmgcmfoehdaaGreatChecked
import GoSem.Claim
import GoSem.ClaimJoined
import GoSem.ClaimMapViews
import Derived.JoinedTies
import Derived.KernelRfl
namespace Go.Proofs.YtdlfmgcmfoehdaaGreat
/- THE CELL 'sum', in the pinned program and in every row, IS THE sha256 OF THE DUMP (.gsa) THAT YtdlfmgcmfoehdaaGreatProg.lean LOADS. Nothing in Lean hashes anything: it is a label: what it is worth is what the hold of that sum in a sandbox is worth. -/
noncomputable def Tryz.pinned : Pinned := { name := "ytdlfmgcmfoehdaagreat", sum := "077b9e1ee9e687aea25ee238d9b97fd14ab5841efb8c6c23b3b35ab1dcd687ff", checked := Tryz.checked }
namespace Rows
def none {H : Type} : Left H := { results := [], args := [] }

/-- 'droverlaw20.PrimaryLate': WHATEVER THE INPUT: true; the input reads as it did. -/
def primaryLateSpec : ChangeSpec := { name := "primaryLate", fn := fun _ => fun
  | [d] => { results := [.lit (.bool true)], args := [d] }
  | _ => none }
def primaryLateRow : OpenClaim := { program := "ytdlfmgcmfoehdaagreat", sum := "077b9e1ee9e687aea25ee238d9b97fd14ab5841efb8c6c23b3b35ab1dcd687ff", func := "drover/droverlaw20.PrimaryLate", spec := "primaryLate", inPlace := ["slices.overlaps[drover/api.Vote]", "slices.overlaps[int]", "slices.overlaps[drover/api.Cert]"], unfollowed := true, recurses := true, apart := false }
def PrimaryLateSaid : Prop := primaryLateRow.holds Tryz.pinned (OpenSpec.ofChange primaryLateSpec)

/-- ITS FALSE NEIGHBOUR: 'it returns false'. Refute it at one input. -/
def primaryLateWrong : ChangeSpec := { name := "primaryLate", fn := fun _ => fun
  | [d] => { results := [.lit (.bool false)], args := [d] }
  | _ => none }
def PrimaryLateWrongFalsely : Prop := primaryLateRow.holds Tryz.pinned (OpenSpec.ofChange primaryLateWrong)

/-- 'droverlaw20.PrimaryKeeps': WHATEVER THE INPUT: true; the input reads as it did. -/
def primaryKeepsSpec : ChangeSpec := { name := "primaryKeeps", fn := fun _ => fun
  | [d] => { results := [.lit (.bool true)], args := [d] }
  | _ => none }
def primaryKeepsRow : OpenClaim := { program := "ytdlfmgcmfoehdaagreat", sum := "077b9e1ee9e687aea25ee238d9b97fd14ab5841efb8c6c23b3b35ab1dcd687ff", func := "drover/droverlaw20.PrimaryKeeps", spec := "primaryKeeps", inPlace := ["slices.overlaps[drover/api.Vote]", "slices.overlaps[drover/api.Cert]", "slices.overlaps[int]"], unfollowed := true, recurses := true, apart := false }
def PrimaryKeepsSaid : Prop := primaryKeepsRow.holds Tryz.pinned (OpenSpec.ofChange primaryKeepsSpec)

/-- ITS FALSE NEIGHBOUR: 'it returns false'. Refute it at one input. -/
def primaryKeepsWrong : ChangeSpec := { name := "primaryKeeps", fn := fun _ => fun
  | [d] => { results := [.lit (.bool false)], args := [d] }
  | _ => none }
def PrimaryKeepsWrongFalsely : Prop := primaryKeepsRow.holds Tryz.pinned (OpenSpec.ofChange primaryKeepsWrong)

/-- 'droverlaw20.PrimaryWorld': WHATEVER THE INPUT: true; the input reads as it did. -/
def primaryWorldSpec : ChangeSpec := { name := "primaryWorld", fn := fun _ => fun
  | [d] => { results := [.lit (.bool true)], args := [d] }
  | _ => none }
def primaryWorldRow : OpenClaim := { program := "ytdlfmgcmfoehdaagreat", sum := "077b9e1ee9e687aea25ee238d9b97fd14ab5841efb8c6c23b3b35ab1dcd687ff", func := "drover/droverlaw20.PrimaryWorld", spec := "primaryWorld", inPlace := ["slices.overlaps[drover/api.Vote]", "slices.overlaps[drover/api.Cert]", "slices.overlaps[int]"], unfollowed := true, recurses := true, apart := false }
def PrimaryWorldSaid : Prop := primaryWorldRow.holds Tryz.pinned (OpenSpec.ofChange primaryWorldSpec)

/-- ITS FALSE NEIGHBOUR: 'it returns false'. Refute it at one input. -/
def primaryWorldWrong : ChangeSpec := { name := "primaryWorld", fn := fun _ => fun
  | [d] => { results := [.lit (.bool false)], args := [d] }
  | _ => none }
def PrimaryWorldWrongFalsely : Prop := primaryWorldRow.holds Tryz.pinned (OpenSpec.ofChange primaryWorldWrong)

/-- 'droverlaw20.PrimaryGoes': WHATEVER THE INPUT: true; the input reads as it did. -/
def primaryGoesSpec : ChangeSpec := { name := "primaryGoes", fn := fun _ => fun
  | [d] => { results := [.lit (.bool true)], args := [d] }
  | _ => none }
def primaryGoesRow : OpenClaim := { program := "ytdlfmgcmfoehdaagreat", sum := "077b9e1ee9e687aea25ee238d9b97fd14ab5841efb8c6c23b3b35ab1dcd687ff", func := "drover/droverlaw20.PrimaryGoes", spec := "primaryGoes", inPlace := ["slices.overlaps[drover/api.Vote]", "slices.overlaps[drover/api.Cert]", "slices.overlaps[int]"], unfollowed := true, recurses := true, apart := false }
def PrimaryGoesSaid : Prop := primaryGoesRow.holds Tryz.pinned (OpenSpec.ofChange primaryGoesSpec)

/-- ITS FALSE NEIGHBOUR: 'it returns false'. Refute it at one input. -/
def primaryGoesWrong : ChangeSpec := { name := "primaryGoes", fn := fun _ => fun
  | [d] => { results := [.lit (.bool false)], args := [d] }
  | _ => none }
def PrimaryGoesWrongFalsely : Prop := primaryGoesRow.holds Tryz.pinned (OpenSpec.ofChange primaryGoesWrong)

/-- 'droverlaw20.PrimaryWaits': WHATEVER THE INPUT: true; the input reads as it did. -/
def primaryWaitsSpec : ChangeSpec := { name := "primaryWaits", fn := fun _ => fun
  | [d] => { results := [.lit (.bool true)], args := [d] }
  | _ => none }
def primaryWaitsRow : OpenClaim := { program := "ytdlfmgcmfoehdaagreat", sum := "077b9e1ee9e687aea25ee238d9b97fd14ab5841efb8c6c23b3b35ab1dcd687ff", func := "drover/droverlaw20.PrimaryWaits", spec := "primaryWaits", inPlace := ["slices.overlaps[drover/api.Vote]", "slices.overlaps[int]", "slices.overlaps[drover/api.Cert]"], unfollowed := true, recurses := true, apart := false }
def PrimaryWaitsSaid : Prop := primaryWaitsRow.holds Tryz.pinned (OpenSpec.ofChange primaryWaitsSpec)

/-- ITS FALSE NEIGHBOUR: 'it returns false'. Refute it at one input. -/
def primaryWaitsWrong : ChangeSpec := { name := "primaryWaits", fn := fun _ => fun
  | [d] => { results := [.lit (.bool false)], args := [d] }
  | _ => none }
def PrimaryWaitsWrongFalsely : Prop := primaryWaitsRow.holds Tryz.pinned (OpenSpec.ofChange primaryWaitsWrong)

/- THE SECOND FORM. 'bulk': how many values and letters a reading holds, each counted each time it is reached (what is shared counts as often as it is met; a slice's spare places count too). A statement '..UptoSaid' is the law's where the arguments, and the package variables that the reading takes, are together of bulk at most 1048576: NARROWER than '..Said'. Prove '..Said' where nothing that the law and all that it calls make is longer than what came in: it says more and counts as full. Else prove '..UptoSaid'. A law counts once. -/
mutual
def uptoBulk {H : Type} : DataW H → Nat
  | .lit (.string bytes) => bytes.length + 1
  | .lit _ => 1
  | .nil => 1
  | .ptr d => uptoBulk d + 1
  | .slice elems spare => uptoBulkAll elems + uptoBulkAll spare + 1
  | .agg parts => uptoBulkAll parts + 1
  | .iface _ d => uptoBulk d + 1
  | .map entries => uptoBulkEntries entries + 1
  | .held _ => 1
def uptoBulkAll {H : Type} : List (DataW H) → Nat
  | [] => 0
  | d :: r => uptoBulk d + uptoBulkAll r
def uptoBulkEntries {H : Type} : List (Lit × DataW H) → Nat
  | [] => 0
  | x :: r => uptoBulkEntry x + uptoBulkEntries r
def uptoBulkEntry {H : Type} : Lit × DataW H → Nat
  | (.string bytes, d) => bytes.length + uptoBulk d + 1
  | (_, d) => uptoBulk d + 1
 end
def uptoSmall : (H : Type) → List (DataW H) → Bool := fun _ ds => decide (uptoBulkAll ds ≤ 1048576)
def OpenSpec.upto (s : _root_.Go.ChangeSpec) : _root_.Go.OpenSpec := { _root_.Go.OpenSpec.ofChange s with cond := some uptoSmall }

/-- 'droverlaw20.PrimaryLate', WHERE WHAT IT READS IS OF BULK AT MOST 1048576: true; the input reads as it did. -/
def primaryLateUptoRow : OpenClaim := { program := "ytdlfmgcmfoehdaagreat", sum := "077b9e1ee9e687aea25ee238d9b97fd14ab5841efb8c6c23b3b35ab1dcd687ff", func := "drover/droverlaw20.PrimaryLate", spec := "primaryLate", inPlace := ["slices.overlaps[drover/api.Vote]", "slices.overlaps[int]", "slices.overlaps[drover/api.Cert]"], unfollowed := true, recurses := true, apart := false, narrowed := true }
def PrimaryLateUptoSaid : Prop := primaryLateUptoRow.holds Tryz.pinned (OpenSpec.upto primaryLateSpec)

/-- 'droverlaw20.PrimaryKeeps', WHERE WHAT IT READS IS OF BULK AT MOST 1048576: true; the input reads as it did. -/
def primaryKeepsUptoRow : OpenClaim := { program := "ytdlfmgcmfoehdaagreat", sum := "077b9e1ee9e687aea25ee238d9b97fd14ab5841efb8c6c23b3b35ab1dcd687ff", func := "drover/droverlaw20.PrimaryKeeps", spec := "primaryKeeps", inPlace := ["slices.overlaps[drover/api.Vote]", "slices.overlaps[drover/api.Cert]", "slices.overlaps[int]"], unfollowed := true, recurses := true, apart := false, narrowed := true }
def PrimaryKeepsUptoSaid : Prop := primaryKeepsUptoRow.holds Tryz.pinned (OpenSpec.upto primaryKeepsSpec)

/-- 'droverlaw20.PrimaryWorld', WHERE WHAT IT READS IS OF BULK AT MOST 1048576: true; the input reads as it did. -/
def primaryWorldUptoRow : OpenClaim := { program := "ytdlfmgcmfoehdaagreat", sum := "077b9e1ee9e687aea25ee238d9b97fd14ab5841efb8c6c23b3b35ab1dcd687ff", func := "drover/droverlaw20.PrimaryWorld", spec := "primaryWorld", inPlace := ["slices.overlaps[drover/api.Vote]", "slices.overlaps[drover/api.Cert]", "slices.overlaps[int]"], unfollowed := true, recurses := true, apart := false, narrowed := true }
def PrimaryWorldUptoSaid : Prop := primaryWorldUptoRow.holds Tryz.pinned (OpenSpec.upto primaryWorldSpec)

/-- 'droverlaw20.PrimaryGoes', WHERE WHAT IT READS IS OF BULK AT MOST 1048576: true; the input reads as it did. -/
def primaryGoesUptoRow : OpenClaim := { program := "ytdlfmgcmfoehdaagreat", sum := "077b9e1ee9e687aea25ee238d9b97fd14ab5841efb8c6c23b3b35ab1dcd687ff", func := "drover/droverlaw20.PrimaryGoes", spec := "primaryGoes", inPlace := ["slices.overlaps[drover/api.Vote]", "slices.overlaps[drover/api.Cert]", "slices.overlaps[int]"], unfollowed := true, recurses := true, apart := false, narrowed := true }
def PrimaryGoesUptoSaid : Prop := primaryGoesUptoRow.holds Tryz.pinned (OpenSpec.upto primaryGoesSpec)

/-- 'droverlaw20.PrimaryWaits', WHERE WHAT IT READS IS OF BULK AT MOST 1048576: true; the input reads as it did. -/
def primaryWaitsUptoRow : OpenClaim := { program := "ytdlfmgcmfoehdaagreat", sum := "077b9e1ee9e687aea25ee238d9b97fd14ab5841efb8c6c23b3b35ab1dcd687ff", func := "drover/droverlaw20.PrimaryWaits", spec := "primaryWaits", inPlace := ["slices.overlaps[drover/api.Vote]", "slices.overlaps[int]", "slices.overlaps[drover/api.Cert]"], unfollowed := true, recurses := true, apart := false, narrowed := true }
def PrimaryWaitsUptoSaid : Prop := primaryWaitsUptoRow.holds Tryz.pinned (OpenSpec.upto primaryWaitsSpec)

end Rows
end Go.Proofs.YtdlfmgcmfoehdaaGreat
