/-
  DERIVED. GIVEN WITH THE SEED: THE CARDS: each row of YtmlcikcdegodaaaDoorRows.lean that lists a variable, with what it lists TIED to the program's text (the seventh form; the later family's looks); each row that meets fmt, with fmt's text TOLD by the authors' own Lean function (tested against real Go, not proved from fmt's source: count such statements apart). THE CARD IS WHAT COUNTS. Prove the row's statement (the work); the ties are given (YtmlcikcdegodaaaDoorTie.lean); close each card by the builder's one call (the guide's Derived/Test/ToyasCard.lean, 'card_holds'). Laid BY PROGRAM, IN A SANDBOX (cutbox-door.mjs). By AI agents, Wed Nov 11 2026. No macro, syntax, notation, axiom, sorry.
-/
import Derived.Test.YtmlcikcdegodaaaDoorRows
import GoSem.ClaimSeven
namespace Go.Proofs.YtmlcikcdegodaaaDoor
namespace Rows

/-- THE TIED CARD OF 'crierlaw28.SessionsOne'. -/
def sessionsOneCard : Claim7 := { stood := { row := sessionsOneRow, standIns := [], harness := (true, "a941e25fb2202dec755401f3a5f8fa9b27864b3c5b43d1198bb844578d49ac6b"), looks := true }, kinds := [], alts := [], laidByText := true, laidKinds := [.data, .pinned], laidTests := true, laidLooks := .later }
def SessionsOneCardSaid : Prop := Claim7.holds Tryd.pinned (.plain (OpenSpec.ofChange sessionsOneSpec)) sessionsOneCard

/-- THE TIED CARD OF 'crierlaw28.SessionsZero'. -/
def sessionsZeroCard : Claim7 := { stood := { row := sessionsZeroRow, standIns := [], harness := (true, "a941e25fb2202dec755401f3a5f8fa9b27864b3c5b43d1198bb844578d49ac6b"), looks := true }, kinds := [], alts := [], laidByText := true, laidKinds := [.data, .pinned], laidTests := true, laidLooks := .later }
def SessionsZeroCardSaid : Prop := Claim7.holds Tryd.pinned (.plain (OpenSpec.ofChange sessionsZeroSpec)) sessionsZeroCard

/-- THE TIED CARD OF 'crierlaw28.SessionsGoOn'. -/
def sessionsGoOnCard : Claim7 := { stood := { row := sessionsGoOnRow, standIns := [], harness := (true, "a941e25fb2202dec755401f3a5f8fa9b27864b3c5b43d1198bb844578d49ac6b"), looks := true }, kinds := [], alts := [], laidByText := true, laidKinds := [.data, .pinned], laidTests := true, laidLooks := .later }
def SessionsGoOnCardSaid : Prop := Claim7.holds Tryd.pinned (.plain (OpenSpec.ofChange sessionsGoOnSpec)) sessionsGoOnCard

/-- THE TIED CARD OF 'crierlaw28.SessionsPlays'. -/
def sessionsPlaysCard : Claim7 := { stood := { row := sessionsPlaysRow, standIns := [], harness := (true, "a941e25fb2202dec755401f3a5f8fa9b27864b3c5b43d1198bb844578d49ac6b"), looks := true }, kinds := [], alts := [], laidByText := true, laidKinds := [.data, .pinned], laidTests := true, laidLooks := .later }
def SessionsPlaysCardSaid : Prop := Claim7.holds Tryd.pinned (.plain (OpenSpec.ofChange sessionsPlaysSpec)) sessionsPlaysCard

/-- THE SECOND FORM's CARD OF 'crierlaw28.SessionsOne'. -/
def sessionsOneUptoCard : Claim7 := { stood := { row := sessionsOneUptoRow, standIns := [], harness := (true, "a941e25fb2202dec755401f3a5f8fa9b27864b3c5b43d1198bb844578d49ac6b"), looks := true }, kinds := [], alts := [], laidByText := true, laidKinds := [.data, .pinned], laidTests := true, laidLooks := .later }
def SessionsOneUptoCardSaid : Prop := Claim7.holds Tryd.pinned (.plain (OpenSpec.upto sessionsOneSpec)) sessionsOneUptoCard

/-- THE SECOND FORM's CARD OF 'crierlaw28.SessionsZero'. -/
def sessionsZeroUptoCard : Claim7 := { stood := { row := sessionsZeroUptoRow, standIns := [], harness := (true, "a941e25fb2202dec755401f3a5f8fa9b27864b3c5b43d1198bb844578d49ac6b"), looks := true }, kinds := [], alts := [], laidByText := true, laidKinds := [.data, .pinned], laidTests := true, laidLooks := .later }
def SessionsZeroUptoCardSaid : Prop := Claim7.holds Tryd.pinned (.plain (OpenSpec.upto sessionsZeroSpec)) sessionsZeroUptoCard

/-- THE SECOND FORM's CARD OF 'crierlaw28.SessionsGoOn'. -/
def sessionsGoOnUptoCard : Claim7 := { stood := { row := sessionsGoOnUptoRow, standIns := [], harness := (true, "a941e25fb2202dec755401f3a5f8fa9b27864b3c5b43d1198bb844578d49ac6b"), looks := true }, kinds := [], alts := [], laidByText := true, laidKinds := [.data, .pinned], laidTests := true, laidLooks := .later }
def SessionsGoOnUptoCardSaid : Prop := Claim7.holds Tryd.pinned (.plain (OpenSpec.upto sessionsGoOnSpec)) sessionsGoOnUptoCard

/-- THE SECOND FORM's CARD OF 'crierlaw28.SessionsPlays'. -/
def sessionsPlaysUptoCard : Claim7 := { stood := { row := sessionsPlaysUptoRow, standIns := [], harness := (true, "a941e25fb2202dec755401f3a5f8fa9b27864b3c5b43d1198bb844578d49ac6b"), looks := true }, kinds := [], alts := [], laidByText := true, laidKinds := [.data, .pinned], laidTests := true, laidLooks := .later }
def SessionsPlaysUptoCardSaid : Prop := Claim7.holds Tryd.pinned (.plain (OpenSpec.upto sessionsPlaysSpec)) sessionsPlaysUptoCard
end Rows
end Go.Proofs.YtmlcikcdegodaaaDoor
