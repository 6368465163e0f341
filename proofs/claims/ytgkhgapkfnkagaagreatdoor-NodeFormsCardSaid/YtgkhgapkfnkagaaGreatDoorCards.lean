/-
  DERIVED. GIVEN WITH THE SEED: THE CARDS: each row of YtgkhgapkfnkagaaGreatDoorRows.lean that lists a variable, with what it lists TIED to the program's text (the seventh form; the later family's looks); each row that meets fmt, with fmt's text TOLD by the authors' own Lean function (tested against real Go, not proved from fmt's source: count such statements apart). THE CARD IS WHAT COUNTS. Prove the row's statement (the work); the ties are given (YtgkhgapkfnkagaaGreatDoorTie.lean); close each card by the builder's one call (the guide's Derived/Test/ToyasCard.lean, 'card_holds'). Laid BY PROGRAM, IN A SANDBOX (cutbox-door.mjs). By AI agents, Wed Nov 11 2026. No macro, syntax, notation, axiom, sorry.
-/
import Derived.Test.YtgkhgapkfnkagaaGreatDoorRows
import GoSem.ClaimSeven
namespace Go.Proofs.YtgkhgapkfnkagaaGreatDoor
namespace Rows

/-- THE TIED CARD OF 'droverlaw26.NodeForms'. -/
def nodeFormsCard : Claim7 := { stood := { row := nodeFormsRow, standIns := [], harness := (true, "416382e0c6c350adc1884a1ca276f1975b18003cd6de93818a1bf815c3388241"), looks := true }, kinds := [], alts := [], laidByText := true, laidKinds := [.data, .data, .data, .sentinel, .sentinel], laidTests := true, laidLooks := .later }
def NodeFormsCardSaid : Prop := Claim7.holds Tryz.pinned (.plain (OpenSpec.ofChange nodeFormsSpec)) nodeFormsCard

/-- THE SECOND FORM's CARD OF 'droverlaw26.NodeForms'. -/
def nodeFormsUptoCard : Claim7 := { stood := { row := nodeFormsUptoRow, standIns := [], harness := (true, "416382e0c6c350adc1884a1ca276f1975b18003cd6de93818a1bf815c3388241"), looks := true }, kinds := [], alts := [], laidByText := true, laidKinds := [.data, .data, .data, .sentinel, .sentinel], laidTests := true, laidLooks := .later }
def NodeFormsUptoCardSaid : Prop := Claim7.holds Tryz.pinned (.plain (OpenSpec.upto nodeFormsSpec)) nodeFormsUptoCard
end Rows
end Go.Proofs.YtgkhgapkfnkagaaGreatDoor
