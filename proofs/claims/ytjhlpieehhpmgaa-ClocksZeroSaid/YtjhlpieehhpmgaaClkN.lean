/-
  The plain law of what comes due, continued: what the laws ask.
-/
import Derived.Test.YtjhlpieehhpmgaaClkM
import Derived.Test.YtjhlpieehhpmgaaIdsN
set_option linter.unusedSimpArgs false
set_option linter.unusedVariables false
namespace Go.Sx
def cntTo (T : List Int) (m : Nat) : Nat := (T.take m).countP (fun d => decide (0 ≤ d))
theorem cntTo_succ {T : List Int} {m : Nat} (h : m < T.length) : cntTo T (m + 1) = cntTo T m + if 0 ≤ dueOf T m then 1 else 0 := by
  unfold cntTo
  rw [countP_take_succ h, due_get h]
  by_cases c : 0 ≤ dueOf T m <;> simp [c]
theorem cntTo_all {T : List Int} (h : T.length = 8) : cntTo T 8 = cntD T := by unfold cntTo cntD; rw [List.take_of_length_le (by omega)]
theorem cntTo_le (T : List Int) (m : Nat) : cntTo T m ≤ T.length := by
  unfold cntTo
  have h1 := List.countP_le_length (l := T.take m) (p := fun d => decide (0 ≤ d))
  have h2 := List.length_take_le' m T
  omega
/-- One more than each time: what the law writes down. -/
def wantL (T : List Int) : List Int := T.map (· + 1)
theorem wantL_len (T : List Int) : (wantL T).length = T.length := by simp [wantL]
theorem wantL_set (T : List Int) (k : Nat) (d : Int) : wantL (T.set k d) = (wantL T).set k (d + 1) := by simp [wantL, List.map_set]
theorem wantL_due {T : List Int} {k : Nat} (h : k < T.length) : dueOf (wantL T) k = dueOf T k + 1 := by
  rw [← due_get (by rw [wantL_len]; exact h), ← due_get h]; simp [wantL]
theorem due_ext {T T' : List Int} (h : T.length = 8) (h' : T'.length = 8) (e : ∀ k, k < 8 → dueOf T k = dueOf T' k) : T = T' := by
  apply List.ext_getElem (by omega)
  intro k h1 h2
  rw [due_get h1, due_get h2]
  exact e k (by omega)
/-- Those of the first j are gone. -/
def GoneTo (T o : List Int) (j : Nat) (T2 : List Int) : Prop := T2.length = 8 ∧ ∀ k : Nat, k < 8 → dueOf T2 k = if (k : Int) ∈ o.take j then -1 else dueOf T k
theorem GoneTo.zero {T o : List Int} (h : T.length = 8) : GoneTo T o 0 T := ⟨h, fun k _ => by simp⟩
theorem GoneTo.step {T o T2 : List Int} {j k : Nat} (h : GoneTo T o j T2) (hj : j < o.length) (hk : k < 8) (e : o[j] = (k : Int)) : GoneTo T o (j + 1) (T2.set k (-1)) := by
  refine ⟨by simpa using h.1, fun m hm => ?_⟩
  have et : o.take (j + 1) = o.take j ++ [(k : Int)] := by rw [List.take_add_one, List.getElem?_eq_getElem hj, e]; rfl
  rw [due_set (by rw [h.1]; exact hk), h.2 m hm, et]
  by_cases c : m = k
  · subst c; simp
  · have c' : (m : Int) ≠ k := by omega
    rw [if_neg c]
    simp [c']
theorem GoneTo.here {T o T2 : List Int} {j k : Nat} (h : GoneTo T o j T2) (hd : o.Nodup) (hj : j < o.length) (hk : k < 8) (e : o[j] = (k : Int)) : dueOf T2 k = dueOf T k := by
  rw [h.2 k hk, if_neg]
  intro c
  obtain ⟨i, hi, e'⟩ := List.getElem_of_mem c
  rw [List.length_take] at hi
  rw [List.getElem_take] at e'
  have := (List.nodup_iff_pairwise_ne.1 hd)
  have := List.pairwise_iff_getElem.1 this i j (by omega) hj (by omega)
  rw [e', e] at this
  exact this rfl
end Go.Sx
