/-
  No cell of these rows narrows 'for every input' (looked for: loops, veiled, ifaces, maps, wideKeys, modest, calm, conditions, laid).
  DERIVED. THE GIVEN ROWS OF THIS SEAT. 4 by the template 'for every input the law returns true; each argument reads behind the call as it read before'; 0 by the template 'total and deterministic' (their statements: YtgdofniaalpgpaaTotals.lean).
  GIVEN WITH THE SEED: the statements are not yours to turn. If you find one false, say at which input.
  Laid BY PROGRAM, IN A SANDBOX (cutbox-rows.mjs): the forced cells as the released guide's own fill.sh prints them over the translation 476e7336b4339930… (all of the seat's roots in one cut). By AI agents, Wed Nov 11 2026. No macro, syntax, notation, axiom, sorry.
-/
import Derived.Test.YtgdofniaalpgpaaChecked
import GoSem.Claim
import GoSem.ClaimJoined
import GoSem.ClaimMapViews
import Derived.JoinedTies
import Derived.KernelRfl
namespace Go.Proofs.Ytgdofniaalpgpaa
/- THE CELL 'sum', in the pinned program and in every row, IS THE sha256 OF THE DUMP (.gsa) THAT YtgdofniaalpgpaaProg.lean LOADS. Nothing in Lean hashes anything: it is a label: what it is worth is what the hold of that sum in a sandbox is worth. -/
noncomputable def Try.pinned : Pinned := { name := "ytgdofniaalpgpaa", sum := "476e7336b43399302c3fe322a8f6b68e77f454a56d145406d19721fd747f213b", checked := Try.checked }
namespace Rows
def none {H : Type} : Left H := { results := [], args := [] }

/-- 'crierlaw23.FlightOne': WHATEVER THE INPUT: true; the input reads as it did. -/
def flightOneSpec : ChangeSpec := { name := "flightOne", fn := fun _ => fun
  | [d] => { results := [.lit (.bool true)], args := [d] }
  | _ => none }
def flightOneRow : OpenClaim := { program := "ytgdofniaalpgpaa", sum := "476e7336b43399302c3fe322a8f6b68e77f454a56d145406d19721fd747f213b", func := "crier/crierlaw23.FlightOne", spec := "flightOne", unfollowed := true, recurses := true, apart := false }
def FlightOneSaid : Prop := flightOneRow.holds Try.pinned (OpenSpec.ofChange flightOneSpec)

/-- ITS FALSE NEIGHBOUR: 'it returns false'. Refute it at one input. -/
def flightOneWrong : ChangeSpec := { name := "flightOne", fn := fun _ => fun
  | [d] => { results := [.lit (.bool false)], args := [d] }
  | _ => none }
def FlightOneWrongFalsely : Prop := flightOneRow.holds Try.pinned (OpenSpec.ofChange flightOneWrong)

/-- 'crierlaw23.FlightPlays': WHATEVER THE INPUT: true; the input reads as it did. -/
def flightPlaysSpec : ChangeSpec := { name := "flightPlays", fn := fun _ => fun
  | [d] => { results := [.lit (.bool true)], args := [d] }
  | _ => none }
def flightPlaysRow : OpenClaim := { program := "ytgdofniaalpgpaa", sum := "476e7336b43399302c3fe322a8f6b68e77f454a56d145406d19721fd747f213b", func := "crier/crierlaw23.FlightPlays", spec := "flightPlays", unfollowed := true, recurses := true, apart := false }
def FlightPlaysSaid : Prop := flightPlaysRow.holds Try.pinned (OpenSpec.ofChange flightPlaysSpec)

/-- ITS FALSE NEIGHBOUR: 'it returns false'. Refute it at one input. -/
def flightPlaysWrong : ChangeSpec := { name := "flightPlays", fn := fun _ => fun
  | [d] => { results := [.lit (.bool false)], args := [d] }
  | _ => none }
def FlightPlaysWrongFalsely : Prop := flightPlaysRow.holds Try.pinned (OpenSpec.ofChange flightPlaysWrong)

/-- 'crierlaw23.FlightEnds': WHATEVER THE INPUT: true; the input reads as it did. -/
def flightEndsSpec : ChangeSpec := { name := "flightEnds", fn := fun _ => fun
  | [d1, d2] => { results := [.lit (.bool true)], args := [d1, d2] }
  | _ => none }
def flightEndsRow : OpenClaim := { program := "ytgdofniaalpgpaa", sum := "476e7336b43399302c3fe322a8f6b68e77f454a56d145406d19721fd747f213b", func := "crier/crierlaw23.FlightEnds", spec := "flightEnds", unfollowed := true, recurses := true, apart := false }
def FlightEndsSaid : Prop := flightEndsRow.holds Try.pinned (OpenSpec.ofChange flightEndsSpec)

/-- ITS FALSE NEIGHBOUR: 'it returns false'. Refute it at one input. -/
def flightEndsWrong : ChangeSpec := { name := "flightEnds", fn := fun _ => fun
  | [d1, d2] => { results := [.lit (.bool false)], args := [d1, d2] }
  | _ => none }
def FlightEndsWrongFalsely : Prop := flightEndsRow.holds Try.pinned (OpenSpec.ofChange flightEndsWrong)

/-- 'crierlaw23.FlightZero': WHATEVER THE INPUT: true; the input reads as it did. -/
def flightZeroSpec : ChangeSpec := { name := "flightZero", fn := fun _ => fun
  | [d1, d2] => { results := [.lit (.bool true)], args := [d1, d2] }
  | _ => none }
def flightZeroRow : OpenClaim := { program := "ytgdofniaalpgpaa", sum := "476e7336b43399302c3fe322a8f6b68e77f454a56d145406d19721fd747f213b", func := "crier/crierlaw23.FlightZero", spec := "flightZero", unfollowed := true, recurses := true, apart := false }
def FlightZeroSaid : Prop := flightZeroRow.holds Try.pinned (OpenSpec.ofChange flightZeroSpec)

/-- ITS FALSE NEIGHBOUR: 'it returns false'. Refute it at one input. -/
def flightZeroWrong : ChangeSpec := { name := "flightZero", fn := fun _ => fun
  | [d1, d2] => { results := [.lit (.bool false)], args := [d1, d2] }
  | _ => none }
def FlightZeroWrongFalsely : Prop := flightZeroRow.holds Try.pinned (OpenSpec.ofChange flightZeroWrong)

/- THE SECOND FORM. 'bulk': how many values and letters a reading holds, each counted each time it is reached (what is shared counts as often as it is met; a slice's spare places count too). A statement '..UptoSaid' is the law's where the arguments, and the package variables that the reading takes, are together of bulk at most 1048576: NARROWER than '..Said'. Prove '..Said' where nothing that the law and all that it calls make is longer than what came in: it says more and counts as full. Else prove '..UptoSaid'. A law counts once. -/
mutual
def uptoBulk {H : Type} : DataW H → Nat
  | .lit (.string bytes) => bytes.length + 1
  | .lit _ => 1
  | .nil => 1
  | .ptr d => uptoBulk d + 1
  | .slice elems spare => uptoBulkAll elems + uptoBulkAll spare + 1
  | .agg parts => uptoBulkAll parts + 1
  | .iface _ d => uptoBulk d + 1
  | .map entries => uptoBulkEntries entries + 1
  | .held _ => 1
def uptoBulkAll {H : Type} : List (DataW H) → Nat
  | [] => 0
  | d :: r => uptoBulk d + uptoBulkAll r
def uptoBulkEntries {H : Type} : List (Lit × DataW H) → Nat
  | [] => 0
  | x :: r => uptoBulkEntry x + uptoBulkEntries r
def uptoBulkEntry {H : Type} : Lit × DataW H → Nat
  | (.string bytes, d) => bytes.length + uptoBulk d + 1
  | (_, d) => uptoBulk d + 1
 end
def uptoSmall : (H : Type) → List (DataW H) → Bool := fun _ ds => decide (uptoBulkAll ds ≤ 1048576)
def OpenSpec.upto (s : _root_.Go.ChangeSpec) : _root_.Go.OpenSpec := { _root_.Go.OpenSpec.ofChange s with cond := some uptoSmall }

/-- 'crierlaw23.FlightOne', WHERE WHAT IT READS IS OF BULK AT MOST 1048576: true; the input reads as it did. -/
def flightOneUptoRow : OpenClaim := { program := "ytgdofniaalpgpaa", sum := "476e7336b43399302c3fe322a8f6b68e77f454a56d145406d19721fd747f213b", func := "crier/crierlaw23.FlightOne", spec := "flightOne", unfollowed := true, recurses := true, apart := false, narrowed := true }
def FlightOneUptoSaid : Prop := flightOneUptoRow.holds Try.pinned (OpenSpec.upto flightOneSpec)

/-- 'crierlaw23.FlightPlays', WHERE WHAT IT READS IS OF BULK AT MOST 1048576: true; the input reads as it did. -/
def flightPlaysUptoRow : OpenClaim := { program := "ytgdofniaalpgpaa", sum := "476e7336b43399302c3fe322a8f6b68e77f454a56d145406d19721fd747f213b", func := "crier/crierlaw23.FlightPlays", spec := "flightPlays", unfollowed := true, recurses := true, apart := false, narrowed := true }
def FlightPlaysUptoSaid : Prop := flightPlaysUptoRow.holds Try.pinned (OpenSpec.upto flightPlaysSpec)

/-- 'crierlaw23.FlightEnds', WHERE WHAT IT READS IS OF BULK AT MOST 1048576: true; the input reads as it did. -/
def flightEndsUptoRow : OpenClaim := { program := "ytgdofniaalpgpaa", sum := "476e7336b43399302c3fe322a8f6b68e77f454a56d145406d19721fd747f213b", func := "crier/crierlaw23.FlightEnds", spec := "flightEnds", unfollowed := true, recurses := true, apart := false, narrowed := true }
def FlightEndsUptoSaid : Prop := flightEndsUptoRow.holds Try.pinned (OpenSpec.upto flightEndsSpec)

/-- 'crierlaw23.FlightZero', WHERE WHAT IT READS IS OF BULK AT MOST 1048576: true; the input reads as it did. -/
def flightZeroUptoRow : OpenClaim := { program := "ytgdofniaalpgpaa", sum := "476e7336b43399302c3fe322a8f6b68e77f454a56d145406d19721fd747f213b", func := "crier/crierlaw23.FlightZero", spec := "flightZero", unfollowed := true, recurses := true, apart := false, narrowed := true }
def FlightZeroUptoSaid : Prop := flightZeroUptoRow.holds Try.pinned (OpenSpec.upto flightZeroSpec)

end Rows
end Go.Proofs.Ytgdofniaalpgpaa
