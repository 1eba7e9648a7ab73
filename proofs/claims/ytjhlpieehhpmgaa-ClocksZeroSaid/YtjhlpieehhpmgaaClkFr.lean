/-
  What the laws' arguments hold.
-/
import Derived.Test.YtjhlpieehhpmgaaSxJ
import Derived.Test.YtjhlpieehhpmgaaClkP
set_option linter.unusedSimpArgs false
set_option linter.unusedVariables false
namespace Go.Proofs.Ytjhlpieehhpmgaa
open Go Go.Sx
open Go.ChangeShapes Go.WideShapes Go.ChangeAt Go.RowKit
theorem own_knob : ownKnob Try.prog.godebug = none := by kernel_rfl
theorem laid_out : laidOutB Try.prog = true := by kernel_rfl
section
variable {H : Type} {enc : TypeId × Value → H} {W : World} {base : Nat} {spare : Nat → Bool} {held : Bool} {cs : List Value}
theorem act_open (h : Opn enc Try.prog W base spare held 44 cs) : ∃ m : CAct, cs = actC m ∧ True := by
  obtain ⟨hl, hp⟩ := h.struct Try.underlying44
  obtain ⟨k, e0, _⟩ := (hp 0 _ rfl).i64 Try.underlying3
  obtain ⟨w, e1, _⟩ := (hp 1 _ rfl).i64 Try.underlying3
  obtain ⟨n, e2, _⟩ := (hp 2 _ rfl).i64 Try.underlying3
  have c1 : Try.prog.cellsOf 3 = 1 := by kernel_rfl
  have c3 : Try.prog.cellsOf 44 = 3 := by kernel_rfl
  simp only [c1] at e0 e1 e2
  rw [c3] at hl
  refine ⟨⟨k, w, n⟩, ?_, trivial⟩
  match cs, hl with
  | [v0, v1, v2], _ =>
    simp at e0 e1 e2
    simp [actC, e0, e1, e2]
theorem acts_open (h : Opn enc Try.prog W base spare held 40 cs) : ∃ (l : List CAct) (v : Value), cs = [v] ∧ rowsAt (ph W) 3 v (l.map actC) ∧ (∀ m ∈ l, True) ∧ l.length * Try.prog.bytesOf 44 ≤ reachBytes :=
  Opn.rows actC (fun _ => True) (fun _ => rfl) (fun _ => rfl) (by omega) Try.underlying40 (by kernel_rfl) (fun cs h => act_open h) h
end
end Go.Proofs.Ytjhlpieehhpmgaa
