/-
  What the laws' arguments hold: a row of messages, read out of the given memory.
-/
import Derived.Test.YthpmadkccdfnkaaQueE
import Derived.WalkKit
import Derived.ProofKit
import Derived.ChangeOld
import Derived.OpenShut
import Derived.ShutString
import Derived.Deep.Slices
import Derived.Lib.SmallJoins
set_option linter.unusedSimpArgs false
set_option linter.unusedVariables false
namespace Go.Proofs.Ythpmadkccdfnkaa
open Go Go.Sx
open Go.ChangeShapes Go.WideShapes Go.ChangeAt Go.RowKit

theorem ph_cell (w : World) (a : Addr) : (ph w).cell? a = w.cell? a := rfl
theorem own_knob : ownKnob Try.prog.godebug = none := by kernel_rfl
theorem laid_out : laidOutB Try.prog = true := by kernel_rfl

def Msg.fits (m : Msg) : Prop := -9223372036854775808 ≤ m.qos ∧ m.qos ≤ 9223372036854775807

section
variable {H : Type} {enc : TypeId × Value → H} {W : World} {base : Nat} {spare : Nat → Bool} {held : Bool} {fuel : Nat} {cs : List Value} {x : DataW H × List MemPlace}
theorem msg_open (h : DataW.trod enc Try.prog W base spare held fuel 29 cs = some x) : ∃ m : Msg, cs = m.cells ∧ m.fits := by
  obtain ⟨y0, y1, y2, y3, n, _, hl, h0, h1, h2, h3⟩ := Go.Joins.trod_struct4 Try.underlying29 h
  obtain ⟨s0, e0, _, _⟩ := DataW.trod_string Try.underlying9 h0
  obtain ⟨s1, e1, _, _⟩ := DataW.trod_string Try.underlying9 h1
  obtain ⟨k, e2, _, w2⟩ := DataW.trod_int Try.underlying3 h2
  obtain ⟨b, e3, _⟩ := DataW.trod_bool Try.underlying4 h3
  refine ⟨⟨s0, s1, k, b⟩, ?_, by simp [Lit.wf, IntKind.min, IntKind.max, IntKind.signed, IntKind.bits] at w2; exact w2⟩
  have c1 : Try.prog.cellsOf 9 = 1 := by kernel_rfl
  have c2 : Try.prog.cellsOf 3 = 1 := by kernel_rfl
  have c3 : Try.prog.cellsOf 4 = 1 := by kernel_rfl
  have c4 : Try.prog.cellsOf 29 = 4 := by kernel_rfl
  simp only [c1, c2, c3] at e0 e1 e2 e3
  rw [c4] at hl
  match cs, hl with
  | [v0, v1, v2, v3], _ =>
    simp at e0 e1 e2 e3
    subst e0 e1 e2 e3
    rfl

theorem msgs_open (h : DataW.trod enc Try.prog W base spare held fuel 36 cs = some x) : ∃ a l cap, cs = [.slice a (List.length l) cap] ∧ msgsAt (ph W) a l ∧ ∀ m ∈ l, m.fits := by
  have c4 : Try.prog.cellsOf 29 = 4 := by kernel_rfl
  rcases Go.Deep.open_slice Try.underlying36 h with ⟨rfl, _⟩ | ⟨a, len, cap, m, n, D, Pl, rfl, _, hl, _, hm, _, hx⟩
  · exact ⟨none, [], 0, rfl, fun h => absurd rfl h, fun m hm => by cases hm⟩
  · have hle : len ≤ m := by rw [hm]; split <;> omega
    have hb : ∀ i, i < len → ∃ b : Msg, W.cells? base (a.add (i * 4)) 4 = some b.cells ∧ b.fits := fun i hi => by
      obtain ⟨cs', hc, ht⟩ := hx i (by omega)
      obtain ⟨b, e, hf⟩ := msg_open ht
      rw [c4] at hc
      exact ⟨b, by rw [hc, e], hf⟩
    letI : Inhabited Msg := ⟨Msg.zero⟩
    obtain ⟨f, hf⟩ := Go.Deep.choose_lt hb
    refine ⟨some a, (List.range len).map f, cap, by simp, fun hne => ?_, fun m hm => ?_⟩
    · have hlen : 0 < len := by
        rcases Nat.eq_zero_or_pos len with h0 | h0
        · subst h0; exact absurd rfl hne
        · exact h0
      obtain ⟨b, off, spot⟩ := a
      have hs : spot = none := by
        have := (World.cells?_some (hf 0 hlen).1).2.2 0 (by omega)
        have := World.cell?_spot (this.trans rfl)
        simpa [Addr.add] using this
      subst hs
      refine ⟨b, off, rfl, fun i hi j v hv => ?_⟩
      have hi' : i < len := by simpa using hi
      have hv' : ((f i).cells)[j]? = some v := by simpa using hv
      have hj : j < 4 := by
        have := List.getElem?_eq_some_iff.1 hv'
        obtain ⟨h, _⟩ := this
        simpa [Msg.cells] using h
      have := (World.cells?_some (hf i hi').1).2.2 j hj
      rw [add_lit, add_lit, hv'] at this
      rw [ph_cell]
      exact this
    · obtain ⟨i, hi, rfl⟩ := List.mem_map.1 hm
      exact (hf i (List.mem_range.1 hi)).2
end
end Go.Proofs.Ythpmadkccdfnkaa
