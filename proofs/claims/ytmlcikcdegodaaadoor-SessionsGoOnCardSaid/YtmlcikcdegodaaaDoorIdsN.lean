/-
  The plain law of the numbers that are free, continued: what the laws ask.
-/
import Derived.Test.YtmlcikcdegodaaaDoorIdsM
set_option linter.unusedSimpArgs false
set_option linter.unusedVariables false
namespace Go.Sx
theorem takenTo_full {T : List Bool} : ∀ m, (∀ k, 1 ≤ k → k ≤ m → T.getD k false = true) → (takenTo T m).length = m
  | 0, _ => rfl
  | m + 1, h => by
    rw [takenTo, List.length_append, takenTo_full m (fun k h1 h2 => h k h1 (by omega)), h (m + 1) (by omega) (Nat.le_refl _)]; simp
theorem takenTo_asc (T : List Bool) : ∀ m, (takenTo T m).Pairwise (· < ·)
  | 0 => List.Pairwise.nil
  | m + 1 => by
    rw [takenTo, List.pairwise_append]
    refine ⟨takenTo_asc T m, by split <;> simp, fun a ha b hb => ?_⟩
    obtain ⟨k, rfl, _, h2, _⟩ := (takenTo_mem m).1 ha
    split at hb
    · simp at hb; subst hb; omega
    · cases hb
theorem takenTo_nodup (T : List Bool) (m : Nat) : (takenTo T m).Nodup := (takenTo_asc T m).imp fun h e => by omega
theorem countP_takenTo {T : List Bool} {k : Nat} (h1 : 1 ≤ k) (hf : T.getD k false = false) (ht : ∀ j, 1 ≤ j → j < k → T.getD j false = true) : ∀ m, (takenTo T m).countP (fun x => decide (x < (k : Int))) = min m (k - 1)
  | 0 => by simp [takenTo]
  | m + 1 => by
    rw [takenTo, List.countP_append, countP_takenTo h1 hf ht m]
    by_cases c : m + 1 < k
    · rw [ht (m + 1) (by omega) c, if_pos rfl, List.countP_singleton, if_pos (by simp; omega)]; omega
    · split
      · rw [List.countP_singleton, if_neg (by simp; omega)]; omega
      · simp; omega
theorem countP_take_succ {l : List Int} {p : Int → Bool} {j : Nat} (h : j < l.length) : (l.take (j + 1)).countP p = (l.take j).countP p + if p l[j] then 1 else 0 := by
  rw [List.take_add_one, List.getElem?_eq_getElem h, List.countP_append]
  simp [List.countP_cons]
theorem countP_le_len (l : List Int) (p : Int → Bool) (j : Nat) : (l.take j).countP p ≤ l.length := by
  have h1 := List.countP_le_length (l := l.take j) (p := p)
  have h2 := List.length_take_le' j l
  omega
/-- The first i are taken, of n. -/
def FirstT (n i : Nat) (T : List Bool) : Prop := T.length = n + 1 ∧ (∀ j, 1 ≤ j → j ≤ i → T.getD j false = true) ∧ ∀ j, 1 ≤ j → i < j → T.getD j false = false
theorem FirstT.free {n i : Nat} {T : List Bool} (h : FirstT n i T) (hi : i < n) : IsFree T (some (i + 1)) := ⟨by omega, by rw [h.1]; omega, h.2.2 _ (by omega) (by omega), fun j h1 h2 => h.2.1 j h1 (by omega)⟩
theorem FirstT.next {n i : Nat} {T : List Bool} (h : FirstT n i T) (hi : i < n) : FirstT n (i + 1) (tookT T (some (i + 1))) := by
  have hl : i + 1 < T.length := by rw [h.1]; omega
  refine ⟨by simpa [tookT] using h.1, fun j h1 h2 => ?_, fun j h1 h2 => ?_⟩
  · rw [tookT, getD_set hl]; split
    · rfl
    · exact h.2.1 j h1 (by omega)
  · rw [tookT, getD_set hl, if_neg (by omega)]; exact h.2.2 j h1 (by omega)
theorem FirstT.full {n : Nat} {T : List Bool} (h : FirstT n n T) : IsFree T none := fun k h1 h2 => h.2.1 k h1 (by rw [h.1] at h2; omega)
/-- Just those of a list are taken. -/
def JustT (n : Nat) (l : List Int) (T : List Bool) : Prop := T.length = n + 1 ∧ ∀ j : Nat, 1 ≤ j → j ≤ n → (T.getD j false = true ↔ (j : Int) ∈ l)
theorem JustT.ofTaken {n : Nat} {T : List Bool} (h : T.length = n + 1) : JustT n (takenTo T n) T := ⟨h, fun j h1 h2 => by
  rw [takenTo_mem]
  constructor
  · exact fun e => ⟨j, rfl, h1, h2, e⟩
  · rintro ⟨k, e, _, _, hk⟩
    obtain rfl : j = k := by omega
    exact hk⟩
theorem JustT.out {n : Nat} {T : List Bool} {l : List Int} {k : Nat} {r : Nat} (h : JustT n (l.take (r + 1)) T) (hd : l.Nodup) (hr : r < l.length) (hk : l[r] = (k : Int)) (h1 : 1 ≤ k) (h2 : k ≤ n) : T.getD k false = true ∧ JustT n (l.take r) (T.set k false) := by
  have hl : k < T.length := by rw [h.1]; omega
  have e1 : l.take (r + 1) = l.take r ++ [(k : Int)] := by rw [List.take_add_one, List.getElem?_eq_getElem hr, hk]; rfl
  rw [e1] at h
  have nd : (l.take r ++ [(k : Int)]).Nodup := by rw [← e1]; exact hd.sublist (List.take_sublist _ _)
  rw [List.nodup_append] at nd
  refine ⟨(h.2 k h1 h2).2 (by simp), by simpa using h.1, fun j j1 j2 => ?_⟩
  rw [getD_set hl]
  by_cases c : j = k
  · subst c
    rw [if_pos rfl]
    constructor
    · intro e; cases e
    · intro e; exact absurd rfl (nd.2.2 _ e _ (by simp))
  · rw [if_neg c, h.2 j j1 j2, List.mem_append]
    constructor
    · rintro (e | e)
      · exact e
      · simp at e; omega
    · exact .inl
theorem JustT.first {n : Nat} {T : List Bool} (h : JustT n [] T) (h0 : ∀ j, n < j → T.getD j false = false) : FirstT n 0 T := ⟨h.1, fun j h1 h2 => by omega, fun j h1 h2 => by
  by_cases c : j ≤ n
  · cases e : T.getD j false with
    | false => rfl
    | true => have := (h.2 j h1 c).1 e; cases this
  · exact h0 j (by omega)⟩
theorem out_false {T : List Bool} {n j : Nat} (h : T.length = n + 1) (hj : n < j) : T.getD j false = false := by
  simp only [List.getD]; rw [List.getElem?_eq_none (by omega)]; rfl
theorem firstT_rep (n : Nat) : FirstT n 0 (List.replicate (n + 1) false) := ⟨by simp, fun j h1 h2 => by omega, fun j _ _ => getD_rep _ _⟩
end Go.Sx
