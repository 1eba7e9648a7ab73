/-
  make([]T, n) at elements of one cell. No program in sight.
-/
import Derived.Test.YtgpdfhjnlelhlaaSxL
set_option linter.unusedSimpArgs false
set_option linter.unusedVariables false
namespace Go.Sx
open Go Go.Conc

variable {P : Program} {ops : Array Oper} {Q : Exit → Act → World → Prop} {c : Cx} {n : Nat} {L : Env} {M : List HProp} {rest : List Oper}
variable {dst : Option Nat} {ty : TypeId} {pos : String} {after : Array Edge} {g : Option (Nat × Bool)}

theorem o_makeSlice1 {d l : Nat} {t e : TypeId} {i : TypeInfo} {z : Value} {x : Operand} (hx : opnd L x = some (.int .i64 l)) (hu : P.underlying t = some (.slice e)) (hi : P.info? e = some i) (hz : i.zero = some z) (hsz : i.size = 1)
    (hzc : z.cells = #[z]) (h1 : z.oneCell' = true) (h0 : 0 < l) (hb : l * i.bytes ≤ 140737488355328) (hl : l ≤ 1000000) (hd : Nat.blt d n = true)
    (h : ∀ v, wpE P ops rest Q c n ((d, v) :: L) (sl e 1 v l (List.replicate l z) :: M)) : wpO P ops ⟨some d, .makeSlice t x x, ty, pos, after, g⟩ rest Q c n L M := o_val rfl hd fun T w s => by
  have wl : IntKind.i64.wrap (l : Int) = l := by rw [IntKind.wrap_i64]; omega
  have n1 : ¬ (l : Int) < 0 := by omega
  have n2 : ¬ (281474976710656 < (i.bytes : Int) * l) := by
    have : (i.bytes : Int) * l = ((l * i.bytes : Nat) : Int) := by push_cast; rw [Int.mul_comm]
    omega
  have n5 : ¬ (140737488355328 < l * i.bytes) := by omega
  have hn : l ≠ 0 := by omega
  refine ⟨.slice (some ⟨w.heap.size, 0, none⟩) l l, _, _, _, ?_, HSt.ent ?_ (HSt.new (w' := { w with heap := w.heap.push (.cells (List.replicate l z).toArray e (0, 0)) }) s.heap (.cells (List.replicate l z).toArray e (0, 0)) rfl rfl rfl rfl), rfl, h _⟩
  · simp [execOp, opnd_eval s.slots hx, Instr.makeSlice, run_underlying hu, asInt, asIntOf, typeInfo, hi, sizeOf, zeroValue, hz, wl, n1, n2, n5, hn, hsz, hzc, newRow, newObj, askRoom, roomBytes, Sem.run]
    have hr : Array.map (fun k => ([z] : List Value)[k % 1]?.getD default) (Array.range l) = Array.replicate l z := by
      apply Array.ext
      · simp
      · intro k h1 h2; simp [Nat.mod_one]
    rw [hr]
  · exact Ent.slClose (junk := []) (by rw [List.append_nil]; exact .head) (by simp) (by simp [h1]) (Nat.le_refl _) (by unfold maxLen; omega) (by simp) (Ent.refl _)
end Go.Sx
