/-
  What the laws' arguments hold: messages.
-/
import Derived.Test.YtaodhkiejnipmaaDoorSesFr
set_option linter.unusedSimpArgs false
set_option linter.unusedVariables false
set_option maxRecDepth 20000
namespace Go.Proofs.YtaodhkiejnipmaaDoor
open Go Go.Sx
open Go.ChangeShapes Go.WideShapes Go.ChangeAt Go.RowKit
section
variable {H : Type} {enc : TypeId × Value → H} {W : World} {base : Nat} {spare : Nat → Bool} {held : Bool} {cs : List Value}
theorem msg_open (h : Opn enc Tryd.prog W base spare held 30 cs) : ∃ m : PMsg, cs = m.cells ∧ True := by
  obtain ⟨hl, hp⟩ := h.struct Tryd.underlying30
  obtain ⟨s0, e0, _⟩ := (hp 0 _ rfl).str Tryd.underlying9
  obtain ⟨s1, e1, _⟩ := (hp 1 _ rfl).str Tryd.underlying9
  obtain ⟨s2, e2, _⟩ := (hp 2 _ rfl).i64 Tryd.underlying3
  obtain ⟨s3, e3⟩ := (hp 3 _ rfl).bool Tryd.underlying4
  refine ⟨⟨s0, s1, s2, s3⟩, ?_, trivial⟩
  have c1 : Tryd.prog.cellsOf 9 = 1 := by kernel_rfl
  have c2 : Tryd.prog.cellsOf 3 = 1 := by kernel_rfl
  have c3 : Tryd.prog.cellsOf 4 = 1 := by kernel_rfl
  have c4 : Tryd.prog.cellsOf 30 = 4 := by kernel_rfl
  simp only [c1, c2, c3] at e0 e1 e2 e3
  rw [c4] at hl
  match cs, hl with
  | [v0, v1, v2, v3], _ =>
    simp at e0 e1 e2 e3
    simp [PMsg.cells, e0, e1, e2, e3]
end
end Go.Proofs.YtaodhkiejnipmaaDoor
