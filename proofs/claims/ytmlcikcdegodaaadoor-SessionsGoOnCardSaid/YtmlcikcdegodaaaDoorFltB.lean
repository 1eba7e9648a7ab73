/-
  The package flight: find; taking one out of a row of pointers.
-/
import Derived.Test.YtmlcikcdegodaaaDoorFltA
set_option linter.unusedSimpArgs false
set_option linter.unusedVariables false
set_option maxRecDepth 20000
namespace Go.Proofs.YtmlcikcdegodaaaDoor
open Go Go.Sx
def fptr (ps : List Nat) : Option Nat → Value
  | none => .pointer none
  | some i => ptr (ps.getD i 0)
theorem getD_at {ps : List Nat} {i : Nat} (h : i < ps.length) : ps.getD i 0 = ps[i] := by simp [List.getD, h]
abbrev qC (t q : Nat) : HProp := pts t (.cells [ptr q].toArray 131 (0, 0))
/-- A row whose element i is being moved out, m elements done. -/
def mvd (ps : List Nat) (i m : Nat) : List Nat := (ps.eraseIdx i).take m ++ ps.drop m
theorem er_len {ps : List Nat} {i : Nat} (hi : i < ps.length) : (ps.eraseIdx i).length = ps.length - 1 := by rw [List.length_eraseIdx, if_pos hi]
theorem mvd_len {ps : List Nat} {i m : Nat} (hi : i < ps.length) (hm : m < ps.length) : (mvd ps i m).length = ps.length := by
  have := er_len hi
  simp only [mvd, List.length_append, List.length_take, List.length_drop]; omega
theorem mvd_zero {ps : List Nat} {i : Nat} (hi : i < ps.length) : mvd ps i i = ps := by
  unfold mvd
  rw [List.eraseIdx_eq_take_drop_succ, List.take_append_of_le_length (by simp; omega), List.take_take, Nat.min_self, List.take_append_drop]
theorem mvd_get {ps : List Nat} {i m : Nat} (hi : i < ps.length) (hm : m + 1 < ps.length) : (mvd ps i m)[m + 1]? = some ps[m + 1] := by
  have := er_len hi
  unfold mvd
  rw [List.getElem?_append_right (by simp; omega)]
  simp only [List.length_take, List.getElem?_drop]
  rw [show m + (m + 1 - min m (ps.eraseIdx i).length) = m + 1 by omega, List.getElem?_eq_getElem hm]
theorem mvd_step {ps : List Nat} {i m : Nat} (him : i ≤ m) (hm : m + 1 < ps.length) : (mvd ps i m).set m ps[m + 1] = mvd ps i (m + 1) := by
  have hl := er_len (ps := ps) (i := i) (by omega)
  have h1 : ((ps.eraseIdx i).take m).length = m := by rw [List.length_take]; omega
  unfold mvd
  rw [List.set_append_right _ _ (by omega), h1, Nat.sub_self, List.drop_eq_getElem_cons (by omega : m < ps.length), List.set_cons_zero, List.take_add_one, List.getElem?_eq_getElem (by omega : m < (ps.eraseIdx i).length), List.getElem_eraseIdx, dif_neg (by omega)]
  simp
theorem mvd_end {ps : List Nat} {i n : Nat} (hi : i < ps.length) (hn : ps.length = n + 1) : mvd ps i n = ps.eraseIdx i ++ [ps[n]] := by
  have hl := er_len hi
  unfold mvd
  rw [List.take_of_length_le (by omega), List.drop_eq_getElem_cons (by omega), List.drop_eq_nil_of_le (by omega)]
attribute [local irreducible] MidQ wpE wpO wpC qE wpQ wpQO wpH wpHO wpD wpDO wpZ Ev own emp exI sl ch PostS LoopQ Rd rowsAt
attribute [local irreducible] starI
theorem ptrs_put {l : List Nat} {k q : Nat} {junk : List Value} (h : k < l.length) : (ptrs l ++ junk).set (0 + k * 1) (ptr q) = ptrs (l.set k q) ++ junk := by
  rw [show 0 + k * 1 = k by omega, List.set_append_left _ _ (by rw [ptrs_len]; exact h)]
  simp [ptrs, List.map_set]
end Go.Proofs.YtmlcikcdegodaaaDoor
