/-
  NARROWER THAN 'FOR EVERY INPUT', by the rows' own cells (each row's printed sentence says how): SessionsOne: laid · SessionsZero: laid · SessionsGoOn: laid · SessionsPlays: laid.
  DERIVED. THE GIVEN ROWS OF THIS SEAT. 4 by the template 'for every input the law returns true; each argument reads behind the call as it read before'; 0 by the template 'total and deterministic' (their statements: YtmlcikcdegodaaaDoorTotals.lean).
  GIVEN WITH THE SEED: the statements are not yours to turn. If you find one false, say at which input.
  Laid BY PROGRAM, IN A SANDBOX (cutbox-rows.mjs): the forced cells as the released guide's own fill.sh prints them over the translation cbd8370673e961df… (all of the seat's roots in one cut). By AI agents, Wed Nov 11 2026. No macro, syntax, notation, axiom, sorry.
-/
import Derived.Test.YtmlcikcdegodaaaDoorChecked
import GoSem.PinnedTables
import GoSem.Claim
import GoSem.ClaimJoined
import GoSem.ClaimMapViews
import Derived.JoinedTies
import Derived.KernelRfl
namespace Go.Proofs.YtmlcikcdegodaaaDoor
/- THE CELL 'sum', in the pinned program and in every row, IS THE sha256 OF THE DUMP (.gsa) THAT YtmlcikcdegodaaaDoorProg.lean LOADS. Nothing in Lean hashes anything: it is a label: what it is worth is what the hold of that sum in a sandbox is worth. -/
noncomputable def Tryd.pinned : Pinned := { name := "ytmlcikcdegodaaadoor", sum := "cbd8370673e961dfe3947d0ec42fe8d9f6b3a1170a750b1dedccbcfc6ea4d663", checked := Tryd.checked }
namespace Rows
def none {H : Type} : Left H := { results := [], args := [] }

/- WHAT THE LISTED PACKAGE-LEVEL VARIABLES READ AS WHEN THE CALL BEGINS. Each datum BY PROGRAM (the guide's laid-datum.mjs) off the statement by which the dump's own 'gosem.cut.vars' lays the variable. In a bare row this is a premise. The card (YtmlcikcdegodaaaDoorCards.lean) ties it to the program's text. -/
def laid_unicode_utf8_acceptRanges {H : Type} : DataW H := .agg [.agg [.lit (.int .u8 128), .lit (.int .u8 191)], .agg [.lit (.int .u8 160), .lit (.int .u8 191)], .agg [.lit (.int .u8 128), .lit (.int .u8 159)], .agg [.lit (.int .u8 144), .lit (.int .u8 191)], .agg [.lit (.int .u8 128), .lit (.int .u8 143)], .agg [.lit (.int .u8 0), .lit (.int .u8 0)], .agg [.lit (.int .u8 0), .lit (.int .u8 0)], .agg [.lit (.int .u8 0), .lit (.int .u8 0)], .agg [.lit (.int .u8 0), .lit (.int .u8 0)], .agg [.lit (.int .u8 0), .lit (.int .u8 0)], .agg [.lit (.int .u8 0), .lit (.int .u8 0)], .agg [.lit (.int .u8 0), .lit (.int .u8 0)], .agg [.lit (.int .u8 0), .lit (.int .u8 0)], .agg [.lit (.int .u8 0), .lit (.int .u8 0)], .agg [.lit (.int .u8 0), .lit (.int .u8 0)], .agg [.lit (.int .u8 0), .lit (.int .u8 0)]]
/-- One of Go's own tables, pinned by name: the form's constant. -/
def laid_unicode_utf8_first : DataW Unit := Go.Pinned.utf8First

/-- 'crierlaw28.SessionsOne': WHATEVER THE INPUT: true; the input reads as it did. -/
def sessionsOneSpec : ChangeSpec := { name := "sessionsOne", fn := fun _ => fun
  | [d] => { results := [.lit (.bool true)], args := [d] }
  | _ => none }
def sessionsOneRow : OpenClaim := { program := "ytmlcikcdegodaaadoor", sum := "cbd8370673e961dfe3947d0ec42fe8d9f6b3a1170a750b1dedccbcfc6ea4d663", func := "crier/crierlaw28.SessionsOne", spec := "sessionsOne", unfollowed := true, recurses := true, named := ["unicode/utf8.first", "unicode/utf8.acceptRanges"], apart := false, laid := [("unicode/utf8.acceptRanges", laid_unicode_utf8_acceptRanges), ("unicode/utf8.first", laid_unicode_utf8_first)] }
def SessionsOneSaid : Prop := sessionsOneRow.holds Tryd.pinned (OpenSpec.ofChange sessionsOneSpec)

/-- ITS FALSE NEIGHBOUR: 'it returns false'. Refute it at one input. -/
def sessionsOneWrong : ChangeSpec := { name := "sessionsOne", fn := fun _ => fun
  | [d] => { results := [.lit (.bool false)], args := [d] }
  | _ => none }
def SessionsOneWrongFalsely : Prop := sessionsOneRow.holds Tryd.pinned (OpenSpec.ofChange sessionsOneWrong)

/-- 'crierlaw28.SessionsZero': WHATEVER THE INPUT: true; the input reads as it did. -/
def sessionsZeroSpec : ChangeSpec := { name := "sessionsZero", fn := fun _ => fun
  | [d1, d2] => { results := [.lit (.bool true)], args := [d1, d2] }
  | _ => none }
def sessionsZeroRow : OpenClaim := { program := "ytmlcikcdegodaaadoor", sum := "cbd8370673e961dfe3947d0ec42fe8d9f6b3a1170a750b1dedccbcfc6ea4d663", func := "crier/crierlaw28.SessionsZero", spec := "sessionsZero", unfollowed := true, recurses := true, named := ["unicode/utf8.first", "unicode/utf8.acceptRanges"], apart := false, laid := [("unicode/utf8.acceptRanges", laid_unicode_utf8_acceptRanges), ("unicode/utf8.first", laid_unicode_utf8_first)] }
def SessionsZeroSaid : Prop := sessionsZeroRow.holds Tryd.pinned (OpenSpec.ofChange sessionsZeroSpec)

/-- ITS FALSE NEIGHBOUR: 'it returns false'. Refute it at one input. -/
def sessionsZeroWrong : ChangeSpec := { name := "sessionsZero", fn := fun _ => fun
  | [d1, d2] => { results := [.lit (.bool false)], args := [d1, d2] }
  | _ => none }
def SessionsZeroWrongFalsely : Prop := sessionsZeroRow.holds Tryd.pinned (OpenSpec.ofChange sessionsZeroWrong)

/-- 'crierlaw28.SessionsGoOn': WHATEVER THE INPUT: true; the input reads as it did. -/
def sessionsGoOnSpec : ChangeSpec := { name := "sessionsGoOn", fn := fun _ => fun
  | [d1, d2, d3] => { results := [.lit (.bool true)], args := [d1, d2, d3] }
  | _ => none }
def sessionsGoOnRow : OpenClaim := { program := "ytmlcikcdegodaaadoor", sum := "cbd8370673e961dfe3947d0ec42fe8d9f6b3a1170a750b1dedccbcfc6ea4d663", func := "crier/crierlaw28.SessionsGoOn", spec := "sessionsGoOn", unfollowed := true, recurses := true, named := ["unicode/utf8.first", "unicode/utf8.acceptRanges"], apart := false, laid := [("unicode/utf8.acceptRanges", laid_unicode_utf8_acceptRanges), ("unicode/utf8.first", laid_unicode_utf8_first)] }
def SessionsGoOnSaid : Prop := sessionsGoOnRow.holds Tryd.pinned (OpenSpec.ofChange sessionsGoOnSpec)

/-- ITS FALSE NEIGHBOUR: 'it returns false'. Refute it at one input. -/
def sessionsGoOnWrong : ChangeSpec := { name := "sessionsGoOn", fn := fun _ => fun
  | [d1, d2, d3] => { results := [.lit (.bool false)], args := [d1, d2, d3] }
  | _ => none }
def SessionsGoOnWrongFalsely : Prop := sessionsGoOnRow.holds Tryd.pinned (OpenSpec.ofChange sessionsGoOnWrong)

/-- 'crierlaw28.SessionsPlays': WHATEVER THE INPUT: true; the input reads as it did. -/
def sessionsPlaysSpec : ChangeSpec := { name := "sessionsPlays", fn := fun _ => fun
  | [d] => { results := [.lit (.bool true)], args := [d] }
  | _ => none }
def sessionsPlaysRow : OpenClaim := { program := "ytmlcikcdegodaaadoor", sum := "cbd8370673e961dfe3947d0ec42fe8d9f6b3a1170a750b1dedccbcfc6ea4d663", func := "crier/crierlaw28.SessionsPlays", spec := "sessionsPlays", unfollowed := true, recurses := true, named := ["unicode/utf8.first", "unicode/utf8.acceptRanges"], apart := false, laid := [("unicode/utf8.acceptRanges", laid_unicode_utf8_acceptRanges), ("unicode/utf8.first", laid_unicode_utf8_first)] }
def SessionsPlaysSaid : Prop := sessionsPlaysRow.holds Tryd.pinned (OpenSpec.ofChange sessionsPlaysSpec)

/-- ITS FALSE NEIGHBOUR: 'it returns false'. Refute it at one input. -/
def sessionsPlaysWrong : ChangeSpec := { name := "sessionsPlays", fn := fun _ => fun
  | [d] => { results := [.lit (.bool false)], args := [d] }
  | _ => none }
def SessionsPlaysWrongFalsely : Prop := sessionsPlaysRow.holds Tryd.pinned (OpenSpec.ofChange sessionsPlaysWrong)

/- THE SECOND FORM. 'bulk': how many values and letters a reading holds, each counted each time it is reached (what is shared counts as often as it is met; a slice's spare places count too). A statement '..UptoSaid' is the law's where the arguments, and the package variables that the reading takes, are together of bulk at most 1048576: NARROWER than '..Said'. Prove '..Said' where nothing that the law and all that it calls make is longer than what came in: it says more and counts as full. Else prove '..UptoSaid'. A law counts once. -/
mutual
def uptoBulk {H : Type} : DataW H → Nat
  | .lit (.string bytes) => bytes.length + 1
  | .lit _ => 1
  | .nil => 1
  | .ptr d => uptoBulk d + 1
  | .slice elems spare => uptoBulkAll elems + uptoBulkAll spare + 1
  | .agg parts => uptoBulkAll parts + 1
  | .iface _ d => uptoBulk d + 1
  | .map entries => uptoBulkEntries entries + 1
  | .held _ => 1
def uptoBulkAll {H : Type} : List (DataW H) → Nat
  | [] => 0
  | d :: r => uptoBulk d + uptoBulkAll r
def uptoBulkEntries {H : Type} : List (Lit × DataW H) → Nat
  | [] => 0
  | x :: r => uptoBulkEntry x + uptoBulkEntries r
def uptoBulkEntry {H : Type} : Lit × DataW H → Nat
  | (.string bytes, d) => bytes.length + uptoBulk d + 1
  | (_, d) => uptoBulk d + 1
 end
def uptoSmall : (H : Type) → List (DataW H) → Bool := fun _ ds => decide (uptoBulkAll ds ≤ 1048576)
def OpenSpec.upto (s : _root_.Go.ChangeSpec) : _root_.Go.OpenSpec := { _root_.Go.OpenSpec.ofChange s with cond := some uptoSmall }

/-- 'crierlaw28.SessionsOne', WHERE WHAT IT READS IS OF BULK AT MOST 1048576: true; the input reads as it did. -/
def sessionsOneUptoRow : OpenClaim := { program := "ytmlcikcdegodaaadoor", sum := "cbd8370673e961dfe3947d0ec42fe8d9f6b3a1170a750b1dedccbcfc6ea4d663", func := "crier/crierlaw28.SessionsOne", spec := "sessionsOne", unfollowed := true, recurses := true, named := ["unicode/utf8.first", "unicode/utf8.acceptRanges"], apart := false, laid := [("unicode/utf8.acceptRanges", laid_unicode_utf8_acceptRanges), ("unicode/utf8.first", laid_unicode_utf8_first)], narrowed := true }
def SessionsOneUptoSaid : Prop := sessionsOneUptoRow.holds Tryd.pinned (OpenSpec.upto sessionsOneSpec)

/-- 'crierlaw28.SessionsZero', WHERE WHAT IT READS IS OF BULK AT MOST 1048576: true; the input reads as it did. -/
def sessionsZeroUptoRow : OpenClaim := { program := "ytmlcikcdegodaaadoor", sum := "cbd8370673e961dfe3947d0ec42fe8d9f6b3a1170a750b1dedccbcfc6ea4d663", func := "crier/crierlaw28.SessionsZero", spec := "sessionsZero", unfollowed := true, recurses := true, named := ["unicode/utf8.first", "unicode/utf8.acceptRanges"], apart := false, laid := [("unicode/utf8.acceptRanges", laid_unicode_utf8_acceptRanges), ("unicode/utf8.first", laid_unicode_utf8_first)], narrowed := true }
def SessionsZeroUptoSaid : Prop := sessionsZeroUptoRow.holds Tryd.pinned (OpenSpec.upto sessionsZeroSpec)

/-- 'crierlaw28.SessionsGoOn', WHERE WHAT IT READS IS OF BULK AT MOST 1048576: true; the input reads as it did. -/
def sessionsGoOnUptoRow : OpenClaim := { program := "ytmlcikcdegodaaadoor", sum := "cbd8370673e961dfe3947d0ec42fe8d9f6b3a1170a750b1dedccbcfc6ea4d663", func := "crier/crierlaw28.SessionsGoOn", spec := "sessionsGoOn", unfollowed := true, recurses := true, named := ["unicode/utf8.first", "unicode/utf8.acceptRanges"], apart := false, laid := [("unicode/utf8.acceptRanges", laid_unicode_utf8_acceptRanges), ("unicode/utf8.first", laid_unicode_utf8_first)], narrowed := true }
def SessionsGoOnUptoSaid : Prop := sessionsGoOnUptoRow.holds Tryd.pinned (OpenSpec.upto sessionsGoOnSpec)

/-- 'crierlaw28.SessionsPlays', WHERE WHAT IT READS IS OF BULK AT MOST 1048576: true; the input reads as it did. -/
def sessionsPlaysUptoRow : OpenClaim := { program := "ytmlcikcdegodaaadoor", sum := "cbd8370673e961dfe3947d0ec42fe8d9f6b3a1170a750b1dedccbcfc6ea4d663", func := "crier/crierlaw28.SessionsPlays", spec := "sessionsPlays", unfollowed := true, recurses := true, named := ["unicode/utf8.first", "unicode/utf8.acceptRanges"], apart := false, laid := [("unicode/utf8.acceptRanges", laid_unicode_utf8_acceptRanges), ("unicode/utf8.first", laid_unicode_utf8_first)], narrowed := true }
def SessionsPlaysUptoSaid : Prop := sessionsPlaysUptoRow.holds Tryd.pinned (OpenSpec.upto sessionsPlaysSpec)

end Rows
end Go.Proofs.YtmlcikcdegodaaaDoor
