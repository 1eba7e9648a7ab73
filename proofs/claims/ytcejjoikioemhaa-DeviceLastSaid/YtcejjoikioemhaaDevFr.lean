/-
  What the laws' arguments hold: items, acts.
-/
import Derived.Test.YtcejjoikioemhaaSxJ
import Derived.Test.YtcejjoikioemhaaDevP
set_option linter.unusedSimpArgs false
set_option linter.unusedVariables false
namespace Go.Proofs.Ytcejjoikioemhaa
open Go Go.Sx
open Go.ChangeShapes Go.WideShapes Go.ChangeAt Go.RowKit

theorem own_knob : ownKnob Try.prog.godebug = none := by kernel_rfl
theorem laid_out : laidOutB Try.prog = true := by kernel_rfl
instance : Inhabited Item := ⟨⟨.empty, false, 0, 0, false, 0, 0, .empty⟩⟩
instance : Inhabited PAct := ⟨⟨0, none, 0, []⟩⟩

section
variable {H : Type} {enc : TypeId × Value → H} {W : World} {base : Nat} {spare : Nat → Bool} {held : Bool} {cs : List Value}
theorem item_open (h : Opn enc Try.prog W base spare held 49 cs) : ∃ m : Item, cs = m.cells ∧ m.name.size ≤ reachBytes := by
  obtain ⟨hl, hp⟩ := h.struct Try.underlying49
  obtain ⟨s0, e0, b0⟩ := (hp 0 _ rfl).str Try.underlying9
  obtain ⟨s1, e1⟩ := (hp 1 _ rfl).bool Try.underlying4
  obtain ⟨s2, e2, _⟩ := (hp 2 _ rfl).u64 Try.underlying44
  obtain ⟨s3, e3, _⟩ := (hp 3 _ rfl).u32 Try.underlying45
  obtain ⟨s4, e4⟩ := (hp 4 _ rfl).bool Try.underlying4
  obtain ⟨hl5, hp5⟩ := (hp 5 _ rfl).struct Try.underlying47
  obtain ⟨s5, e5, _⟩ := (hp5 0 _ rfl).i64 Try.underlying3
  obtain ⟨s6, e6, _⟩ := (hp5 1 _ rfl).u64 Try.underlying44
  obtain ⟨s7, e7, _⟩ := (hp5 2 _ rfl).str Try.underlying9
  refine ⟨⟨s0, s1, s2, s3, s4, s5, s6, s7⟩, ?_, b0⟩
  have c1 : Try.prog.cellsOf 9 = 1 := by kernel_rfl
  have c2 : Try.prog.cellsOf 3 = 1 := by kernel_rfl
  have c3 : Try.prog.cellsOf 4 = 1 := by kernel_rfl
  have c4 : Try.prog.cellsOf 44 = 1 := by kernel_rfl
  have c5 : Try.prog.cellsOf 45 = 1 := by kernel_rfl
  have c6 : Try.prog.cellsOf 47 = 3 := by kernel_rfl
  have c7 : Try.prog.cellsOf 49 = 8 := by kernel_rfl
  simp only [c1, c2, c3, c4, c5, c6] at e0 e1 e2 e3 e4 e5 e6 e7
  rw [c7] at hl
  match cs, hl with
  | [v0, v1, v2, v3, v4, v5, v6, v7], _ =>
    simp at e0 e1 e2 e3 e4 e5 e6 e7
    simp [Item.cells, e0, e1, e2, e3, e4, e5, e6, e7]
theorem items_open (h : Opn enc Try.prog W base spare held 29 cs) : ∃ (l : List Item) (v : Value), cs = [v] ∧ rowsAt (ph W) 8 v (l.map Item.cells) ∧ (∀ m ∈ l, m.name.size ≤ reachBytes) ∧ l.length * Try.prog.bytesOf 49 ≤ reachBytes :=
  Opn.rows Item.cells (fun m => m.name.size ≤ reachBytes) item_len item_one (by omega) Try.underlying29 (by kernel_rfl) (fun cs h => item_open h) h
theorem item_bytes : Try.prog.bytesOf 49 = 72 := by kernel_rfl
theorem reach_room : reachBytes ≤ 140737488355328 := by decide
def actFits (H : PHeap) (m : PAct) : Prop := rowsAt H 8 m.v (m.l.map Item.cells) ∧ m.l.length * 72 ≤ reachBytes ∧ ∀ x ∈ m.l, x.name.size ≤ reachBytes
theorem act_open (h : Opn enc Try.prog W base spare held 35 cs) : ∃ m : PAct, cs = m.cells ∧ actFits (ph W) m := by
  obtain ⟨hl, hp⟩ := h.struct Try.underlying35
  obtain ⟨k, e0, _⟩ := (hp 0 _ rfl).i64 Try.underlying3
  obtain ⟨l, v, e1, hr, hf, hb⟩ := items_open (hp 1 _ rfl)
  obtain ⟨a, cap, rfl⟩ := hr.slice
  have c1 : Try.prog.cellsOf 3 = 1 := by kernel_rfl
  have c2 : Try.prog.cellsOf 29 = 1 := by kernel_rfl
  have c3 : Try.prog.cellsOf 35 = 2 := by kernel_rfl
  simp only [c1, c2] at e0 e1
  rw [c3] at hl
  rw [item_bytes] at hb
  rw [List.length_map] at hr e1
  refine ⟨⟨k, a, cap, l⟩, ?_, hr, hb, hf⟩
  match cs, hl with
  | [v0, v1], _ =>
    simp at e0 e1
    simp [PAct.cells, e0, e1]
theorem act_len (m : PAct) : m.cells.length = 2 := rfl
theorem act_one (m : PAct) : m.cells.all (·.oneCell') = true := rfl
theorem acts_open (h : Opn enc Try.prog W base spare held 22 cs) : ∃ (l : List PAct) (v : Value), cs = [v] ∧ rowsAt (ph W) 2 v (l.map PAct.cells) ∧ (∀ m ∈ l, actFits (ph W) m) ∧ l.length * Try.prog.bytesOf 35 ≤ reachBytes :=
  Opn.rows PAct.cells (actFits (ph W)) act_len act_one (by omega) Try.underlying22 (by kernel_rfl) (fun cs h => act_open h) h
end
theorem acts_ok {H : PHeap} {l : List PAct} (h : ∀ m ∈ l, actFits H m) : actsOk H l := fun m hm => ⟨(h m hm).1, Nat.le_trans (h m hm).2.1 reach_room⟩
end Go.Proofs.Ytcejjoikioemhaa
