/-
  What the laws' arguments hold: messages, acts.
-/
import Derived.Test.YtgdofniaalpgpaaSxJ
import Derived.Test.YtgdofniaalpgpaaFltS
set_option linter.unusedSimpArgs false
set_option linter.unusedVariables false
set_option maxRecDepth 20000
namespace Go.Proofs.Ytgdofniaalpgpaa
open Go Go.Sx
open Go.ChangeShapes Go.WideShapes Go.ChangeAt Go.RowKit
theorem own_knob : ownKnob Try.prog.godebug = none := by kernel_rfl
theorem laid_out : laidOutB Try.prog = true := by kernel_rfl
section
variable {H : Type} {enc : TypeId × Value → H} {W : World} {base : Nat} {spare : Nat → Bool} {held : Bool} {cs : List Value}
theorem msg_open (h : Opn enc Try.prog W base spare held 31 cs) : ∃ m : PMsg, cs = m.cells ∧ True := by
  obtain ⟨hl, hp⟩ := h.struct Try.underlying31
  obtain ⟨s0, e0, _⟩ := (hp 0 _ rfl).str Try.underlying9
  obtain ⟨s1, e1, _⟩ := (hp 1 _ rfl).str Try.underlying9
  obtain ⟨s2, e2, _⟩ := (hp 2 _ rfl).i64 Try.underlying3
  obtain ⟨s3, e3⟩ := (hp 3 _ rfl).bool Try.underlying4
  refine ⟨⟨s0, s1, s2, s3⟩, ?_, trivial⟩
  have c1 : Try.prog.cellsOf 9 = 1 := by kernel_rfl
  have c2 : Try.prog.cellsOf 3 = 1 := by kernel_rfl
  have c3 : Try.prog.cellsOf 4 = 1 := by kernel_rfl
  have c4 : Try.prog.cellsOf 31 = 4 := by kernel_rfl
  simp only [c1, c2, c3] at e0 e1 e2 e3
  rw [c4] at hl
  match cs, hl with
  | [v0, v1, v2, v3], _ =>
    simp at e0 e1 e2 e3
    simp [PMsg.cells, e0, e1, e2, e3]
theorem act_open (h : Opn enc Try.prog W base spare held 33 cs) : ∃ m : FAct, cs = actC m ∧ True := by
  obtain ⟨hl, hp⟩ := h.struct Try.underlying33
  obtain ⟨k, e0, _⟩ := (hp 0 _ rfl).i64 Try.underlying3
  obtain ⟨i, e1, _⟩ := (hp 1 _ rfl).i64 Try.underlying3
  obtain ⟨m, e2, _⟩ := msg_open (hp 2 _ rfl)
  have c1 : Try.prog.cellsOf 3 = 1 := by kernel_rfl
  have c2 : Try.prog.cellsOf 31 = 4 := by kernel_rfl
  have c3 : Try.prog.cellsOf 33 = 6 := by kernel_rfl
  simp only [c1, c2] at e0 e1 e2
  rw [c3] at hl
  refine ⟨⟨k, i, m⟩, ?_, trivial⟩
  match cs, hl with
  | [v0, v1, v2, v3, v4, v5], _ =>
    simp [PMsg.cells] at e0 e1 e2
    simp [actC, e0, e1, e2]
theorem acts_open (h : Opn enc Try.prog W base spare held 22 cs) : ∃ (l : List FAct) (v : Value), cs = [v] ∧ rowsAt (ph W) 6 v (l.map actC) ∧ (∀ m ∈ l, True) ∧ l.length * Try.prog.bytesOf 33 ≤ reachBytes :=
  Opn.rows actC (fun _ => True) (fun _ => rfl) (fun _ => rfl) (by omega) Try.underlying22 (by kernel_rfl) (fun cs h => act_open h) h
end
end Go.Proofs.Ytgdofniaalpgpaa
