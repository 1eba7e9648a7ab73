/-
  DERIVED. GIVEN WITH THE SEED: THE CARDS: each row of YtaodhkiejnipmaaDoorRows.lean that lists a variable, with what it lists TIED to the program's text (the seventh form; the later family's looks); each row that meets fmt, with fmt's text TOLD by the authors' own Lean function (tested against real Go, not proved from fmt's source: count such statements apart). THE CARD IS WHAT COUNTS. Prove the row's statement (the work); the ties are given (YtaodhkiejnipmaaDoorTie.lean); close each card by the builder's one call (the guide's Derived/Test/ToyasCard.lean, 'card_holds'). Laid BY PROGRAM, IN A SANDBOX (cutbox-door.mjs). By AI agents, Wed Nov 11 2026. No macro, syntax, notation, axiom, sorry.
-/
import Derived.Test.YtaodhkiejnipmaaDoorRows
import GoSem.ClaimSeven
namespace Go.Proofs.YtaodhkiejnipmaaDoor
namespace Rows

/-- THE TIED CARD OF 'crierlaw25.SessionRoom'. -/
def sessionRoomCard : Claim7 := { stood := { row := sessionRoomRow, standIns := [], harness := (true, "d97080bf96509bfb81a650977fd666ca234ab3eb3fe72e8555227fb9b9df0cf0"), looks := true }, kinds := [], alts := [], laidByText := true, laidKinds := [.data, .pinned], laidTests := true, laidLooks := .later }
def SessionRoomCardSaid : Prop := Claim7.holds Tryd.pinned (.plain (OpenSpec.ofChange sessionRoomSpec)) sessionRoomCard

/-- THE TIED CARD OF 'crierlaw25.SessionOnce'. -/
def sessionOnceCard : Claim7 := { stood := { row := sessionOnceRow, standIns := [], harness := (true, "d97080bf96509bfb81a650977fd666ca234ab3eb3fe72e8555227fb9b9df0cf0"), looks := true }, kinds := [], alts := [], laidByText := true, laidKinds := [.data, .pinned], laidTests := true, laidLooks := .later }
def SessionOnceCardSaid : Prop := Claim7.holds Tryd.pinned (.plain (OpenSpec.ofChange sessionOnceSpec)) sessionOnceCard

/-- THE TIED CARD OF 'crierlaw25.SessionPlays'. -/
def sessionPlaysCard : Claim7 := { stood := { row := sessionPlaysRow, standIns := [], harness := (true, "d97080bf96509bfb81a650977fd666ca234ab3eb3fe72e8555227fb9b9df0cf0"), looks := true }, kinds := [], alts := [], laidByText := true, laidKinds := [.data, .pinned], laidTests := true, laidLooks := .later }
def SessionPlaysCardSaid : Prop := Claim7.holds Tryd.pinned (.plain (OpenSpec.ofChange sessionPlaysSpec)) sessionPlaysCard

/-- THE TIED CARD OF 'crierlaw25.SessionZero'. -/
def sessionZeroCard : Claim7 := { stood := { row := sessionZeroRow, standIns := [], harness := (true, "d97080bf96509bfb81a650977fd666ca234ab3eb3fe72e8555227fb9b9df0cf0"), looks := true }, kinds := [], alts := [], laidByText := true, laidKinds := [.data, .pinned], laidTests := true, laidLooks := .later }
def SessionZeroCardSaid : Prop := Claim7.holds Tryd.pinned (.plain (OpenSpec.ofChange sessionZeroSpec)) sessionZeroCard

/-- THE SECOND FORM's CARD OF 'crierlaw25.SessionRoom'. -/
def sessionRoomUptoCard : Claim7 := { stood := { row := sessionRoomUptoRow, standIns := [], harness := (true, "d97080bf96509bfb81a650977fd666ca234ab3eb3fe72e8555227fb9b9df0cf0"), looks := true }, kinds := [], alts := [], laidByText := true, laidKinds := [.data, .pinned], laidTests := true, laidLooks := .later }
def SessionRoomUptoCardSaid : Prop := Claim7.holds Tryd.pinned (.plain (OpenSpec.upto sessionRoomSpec)) sessionRoomUptoCard

/-- THE SECOND FORM's CARD OF 'crierlaw25.SessionOnce'. -/
def sessionOnceUptoCard : Claim7 := { stood := { row := sessionOnceUptoRow, standIns := [], harness := (true, "d97080bf96509bfb81a650977fd666ca234ab3eb3fe72e8555227fb9b9df0cf0"), looks := true }, kinds := [], alts := [], laidByText := true, laidKinds := [.data, .pinned], laidTests := true, laidLooks := .later }
def SessionOnceUptoCardSaid : Prop := Claim7.holds Tryd.pinned (.plain (OpenSpec.upto sessionOnceSpec)) sessionOnceUptoCard

/-- THE SECOND FORM's CARD OF 'crierlaw25.SessionPlays'. -/
def sessionPlaysUptoCard : Claim7 := { stood := { row := sessionPlaysUptoRow, standIns := [], harness := (true, "d97080bf96509bfb81a650977fd666ca234ab3eb3fe72e8555227fb9b9df0cf0"), looks := true }, kinds := [], alts := [], laidByText := true, laidKinds := [.data, .pinned], laidTests := true, laidLooks := .later }
def SessionPlaysUptoCardSaid : Prop := Claim7.holds Tryd.pinned (.plain (OpenSpec.upto sessionPlaysSpec)) sessionPlaysUptoCard

/-- THE SECOND FORM's CARD OF 'crierlaw25.SessionZero'. -/
def sessionZeroUptoCard : Claim7 := { stood := { row := sessionZeroUptoRow, standIns := [], harness := (true, "d97080bf96509bfb81a650977fd666ca234ab3eb3fe72e8555227fb9b9df0cf0"), looks := true }, kinds := [], alts := [], laidByText := true, laidKinds := [.data, .pinned], laidTests := true, laidLooks := .later }
def SessionZeroUptoCardSaid : Prop := Claim7.holds Tryd.pinned (.plain (OpenSpec.upto sessionZeroSpec)) sessionZeroUptoCard
end Rows
end Go.Proofs.YtaodhkiejnipmaaDoor
