/-
  DERIVED. GIVEN WITH THE SEED: THE CARDS: each row of YtnaabpfpldelmaaGreatDoorRows.lean that lists a variable, with what it lists TIED to the program's text (the seventh form; the later family's looks); each row that meets fmt, with fmt's text TOLD by the authors' own Lean function (tested against real Go, not proved from fmt's source: count such statements apart). THE CARD IS WHAT COUNTS. Prove the row's statement (the work); the ties are given (YtnaabpfpldelmaaGreatDoorTie.lean); close each card by the builder's one call (the guide's Derived/Test/ToyasCard.lean, 'card_holds'). Laid BY PROGRAM, IN A SANDBOX (cutbox-door.mjs). By AI agents, Wed Nov 11 2026. No macro, syntax, notation, axiom, sorry.
-/
import Derived.Test.YtnaabpfpldelmaaGreatDoorRows
import GoSem.ClaimSeven
namespace Go.Proofs.YtnaabpfpldelmaaGreatDoor
namespace Rows

/-- THE TIED CARD OF 'criertop.WholeEnds'. -/
def wholeEndsCard : Claim7 := { stood := { row := wholeEndsRow, standIns := [], harness := (true, "1699e0ab961726d178100c107faa252db1e35fe82a7915e651afd301cc41adaa"), looks := true }, kinds := [], alts := [], laidByText := true, laidKinds := [.pinned, .data, .data, .data, .handle, .data, .data, .data], laidTests := true, laidLooks := .later }
def WholeEndsCardSaid : Prop := Claim7.holds Tryz.pinned (.plain (OpenSpec.ofChange wholeEndsSpec)) wholeEndsCard

/-- THE SECOND FORM's CARD OF 'criertop.WholeEnds'. -/
def wholeEndsUptoCard : Claim7 := { stood := { row := wholeEndsUptoRow, standIns := [], harness := (true, "1699e0ab961726d178100c107faa252db1e35fe82a7915e651afd301cc41adaa"), looks := true }, kinds := [], alts := [], laidByText := true, laidKinds := [.pinned, .data, .data, .data, .handle, .data, .data, .data], laidTests := true, laidLooks := .later }
def WholeEndsUptoCardSaid : Prop := Claim7.holds Tryz.pinned (.plain (OpenSpec.upto wholeEndsSpec)) wholeEndsUptoCard
end Rows
end Go.Proofs.YtnaabpfpldelmaaGreatDoor
