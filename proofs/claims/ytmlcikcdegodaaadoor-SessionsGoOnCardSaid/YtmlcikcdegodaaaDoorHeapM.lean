/-
  Heaps over lists, as container/heap keeps them. Plain lists.
-/
import Derived.Test.YtmlcikcdegodaaaDoorSxA
set_option linter.unusedSimpArgs false
set_option linter.unusedVariables false
namespace Go.Sx

section
variable {α : Type} [Inhabited α]
def nth (l : List α) (i : Nat) : α := l.getD i default
theorem nth_eq {l : List α} {i : Nat} (h : i < l.length) : nth l i = l[i] := by simp [nth, List.getD, h]
def swp (l : List α) (i j : Nat) : List α := (l.set i (nth l j)).set j (nth l i)
theorem swp_length (l : List α) (i j : Nat) : (swp l i j).length = l.length := by simp [swp]
theorem nth_set {l : List α} {i k : Nat} {x : α} (hi : i < l.length) : nth (l.set i x) k = if k = i then x else nth l k := by
  unfold nth
  by_cases e : k = i
  · subst e; simp [List.getD, hi]
  · rw [if_neg e]; simp only [List.getD]; rw [List.getElem?_set_ne (Ne.symm e)]
theorem nth_swp {l : List α} {i j : Nat} (hi : i < l.length) (hj : j < l.length) (k : Nat) : nth (swp l i j) k = if k = j then nth l i else if k = i then nth l j else nth l k := by
  unfold swp
  rw [nth_set (by simpa using hj), nth_set hi]
theorem swp_perm {l : List α} {i j : Nat} (hi : i < l.length) (hj : j < l.length) : (swp l i j).Perm l := by
  have e : swp l i j = (l.toArray.swap i j (by simpa using hi) (by simpa using hj)).toList := by
    simp [swp, Array.swap, nth_eq hi, nth_eq hj]
  rw [e]
  have := Array.swap_perm (xs := l.toArray) (i := i) (j := j) (by simpa using hi) (by simpa using hj)
  simpa using Array.perm_iff_toList_perm.1 this

structure LtOk (lt : α → α → Bool) : Prop where
  asym : ∀ {a b}, lt a b = true → lt b a = false
  ntr : ∀ {a b c}, lt b a = false → lt c b = false → lt c a = false
variable (lt : α → α → Bool)
abbrev par (i : Nat) : Nat := (i - 1) / 2
def HeapN (l : List α) (n : Nat) : Prop := ∀ i, 0 < i → i < n → lt (nth l i) (nth l (par i)) = false
def HeapU (l : List α) (n j : Nat) : Prop := (∀ i, 0 < i → i < n → i ≠ j → lt (nth l i) (nth l (par i)) = false) ∧ ∀ i, 0 < i → i < n → par i = j → 0 < j → lt (nth l i) (nth l (par j)) = false
def HeapB (l : List α) (n j : Nat) : Prop := (∀ i, 0 < i → i < n → i ≠ j → par i ≠ j → lt (nth l i) (nth l (par i)) = false) ∧ ∀ i, 0 < i → i < n → par i = j → 0 < j → lt (nth l i) (nth l (par j)) = false
def upL (l : List α) (j : Nat) : List α := if h : j = 0 then l else if lt (nth l j) (nth l (par j)) then upL (swp l (par j) j) (par j) else l
termination_by j
decreasing_by simp only [par]; omega
variable {lt}
theorem upL_length (l : List α) (j : Nat) : (upL lt l j).length = l.length := by
  induction j using Nat.strongRecOn generalizing l with
  | _ j ih =>
    rw [upL]
    split
    · rfl
    · split
      · rw [ih (par j) (by simp only [par]; omega), swp_length]
      · rfl
theorem upL_perm (l : List α) (j : Nat) (hj : j < l.length) : (upL lt l j).Perm l := by
  induction j using Nat.strongRecOn generalizing l with
  | _ j ih =>
    rw [upL]
    split
    · exact List.Perm.refl _
    · split
      · have hp : par j < j := by simp only [par]; omega
        exact (ih (par j) hp _ (by rw [swp_length]; omega)).trans (swp_perm (by omega) hj)
      · exact List.Perm.refl _
theorem upL_heap (ok : LtOk lt) (l : List α) (n j : Nat) (hn : n ≤ l.length) (hj : j < n) (h : HeapU lt l n j) : HeapN lt (upL lt l j) n := by
  induction j using Nat.strongRecOn generalizing l with
  | _ j ih =>
    rw [upL]
    split
    · rename_i h0
      intro i i1 i2
      exact h.1 i i1 i2 (by omega)
    · rename_i h0
      split
      · rename_i hlt
        have hp : par j < j := by simp only [par]; omega
        have g := nth_swp (l := l) (i := par j) (j := j) (by omega) (by omega)
        refine ih (par j) hp _ (by rw [swp_length]; exact hn) (by omega) ⟨fun i i1 i2 i3 => ?_, fun i i1 i2 i3 i4 => ?_⟩
        · rw [g i, g (par i)]
          by_cases c1 : i = j
          · subst c1
            rw [if_pos rfl, if_neg (by omega), if_pos rfl]
            exact ok.asym hlt
          · rw [if_neg c1, if_neg i3]
            by_cases c2 : par i = j
            · rw [if_pos c2]
              exact h.2 i i1 i2 c2 (by omega)
            · rw [if_neg c2]
              have hi := h.1 i i1 i2 c1
              by_cases c3 : par i = par j
              · rw [if_pos c3]
                rw [c3] at hi
                exact ok.ntr (ok.asym hlt) hi
              · rw [if_neg c3]; exact hi
        · have hpp : par (par j) ≠ j ∧ par (par j) ≠ par j := by simp only [par] at i4 ⊢; omega
          rw [g i, g (par (par j)), if_neg hpp.1, if_neg hpp.2]
          have hpar := h.1 (par j) i4 (by omega) (by omega)
          by_cases c1 : i = j
          · rw [if_pos c1]; exact hpar
          · rw [if_neg c1, if_neg (by simp only [par] at i3 i4 ⊢; omega)]
            have hi := h.1 i i1 i2 c1
            rw [i3] at hi
            exact ok.ntr hpar hi
      · rename_i hlt
        intro i i1 i2
        by_cases c : i = j
        · subst c; simpa using hlt
        · exact h.1 i i1 i2 c

variable (lt)
/-- The lesser child. -/
def kid (l : List α) (n i : Nat) : Nat := if 2 * i + 1 + 1 < n ∧ lt (nth l (2 * i + 1 + 1)) (nth l (2 * i + 1)) = true then 2 * i + 1 + 1 else 2 * i + 1
theorem kid_bd {l : List α} {n i : Nat} (h : 2 * i + 1 < n) : i < kid lt l n i ∧ kid lt l n i < n ∧ par (kid lt l n i) = i := by
  unfold kid; split <;> simp only [par] <;> omega
def downL (l : List α) (n i : Nat) : List α × Nat := if h : 2 * i + 1 < n then (if lt (nth l (kid lt l n i)) (nth l i) then downL (swp l i (kid lt l n i)) n (kid lt l n i) else (l, i)) else (l, i)
termination_by n - i
decreasing_by have := kid_bd lt (l := l) h; omega
variable {lt}
theorem downL_all (l : List α) (n i : Nat) (hn : n ≤ l.length) (hi : i < n) : (downL lt l n i).1.length = l.length ∧ (downL lt l n i).1.Perm l ∧ i ≤ (downL lt l n i).2 ∧ ∀ k, n ≤ k → nth (downL lt l n i).1 k = nth l k := by
  obtain ⟨m, hm⟩ : ∃ m, m = n - i := ⟨_, rfl⟩
  induction m using Nat.strongRecOn generalizing l i with
  | _ m ih =>
    rw [downL]
    split
    · rename_i h
      have hk := kid_bd lt (l := l) h
      split
      · have := ih (n - kid lt l n i) (by omega) (swp l i (kid lt l n i)) (kid lt l n i) (by rw [swp_length]; exact hn) hk.2.1 rfl
        obtain ⟨a1, a2, a3, a4⟩ := this
        refine ⟨by rw [a1, swp_length], a2.trans (swp_perm (by omega) (by omega)), by omega, fun k hk' => ?_⟩
        rw [a4 k hk', nth_swp (by omega) (by omega), if_neg (by omega), if_neg (by omega)]
      · exact ⟨rfl, List.Perm.refl _, Nat.le_refl _, fun _ _ => rfl⟩
    · exact ⟨rfl, List.Perm.refl _, Nat.le_refl _, fun _ _ => rfl⟩
theorem kid_least {l : List α} {n i k : Nat} (ok : LtOk lt) (h : 2 * i + 1 < n) (h0 : 0 < k) (hk : k < n) (hp : par k = i) (hne : k ≠ kid lt l n i) : lt (nth l k) (nth l (kid lt l n i)) = false := by
  have hkk : k = 2 * i + 1 ∨ k = 2 * i + 1 + 1 := by simp only [par] at hp; omega
  unfold kid at hne ⊢
  split
  · rename_i c
    rw [if_pos c] at hne
    obtain rfl : k = 2 * i + 1 := by omega
    exact ok.asym c.2
  · rename_i c
    rw [if_neg c] at hne
    obtain rfl : k = 2 * i + 1 + 1 := by omega
    cases e : lt (nth l (2 * i + 1 + 1)) (nth l (2 * i + 1)) with
    | false => rfl
    | true => exact absurd ⟨hk, e⟩ c
theorem down_step (ok : LtOk lt) {l : List α} {n i : Nat} (hn : n ≤ l.length) (h : 2 * i + 1 < n) (hb : HeapB lt l n i) (hlt : lt (nth l (kid lt l n i)) (nth l i) = true) :
    HeapB lt (swp l i (kid lt l n i)) n (kid lt l n i) ∧ lt (nth (swp l i (kid lt l n i)) (kid lt l n i)) (nth (swp l i (kid lt l n i)) (par (kid lt l n i))) = false := by
  obtain ⟨k1, k2, k3⟩ := kid_bd lt (l := l) h
  have kl := fun k h0 hk hp hne => kid_least (l := l) (k := k) ok h h0 hk hp hne
  generalize kid lt l n i = j at k1 k2 k3 kl hlt ⊢
  have g := nth_swp (l := l) (i := i) (j := j) (by omega) (by omega)
  refine ⟨⟨fun k h0 hk c1 c2 => ?_, fun k h0 hk c1 c2 => ?_⟩, ?_⟩
  · rw [g k, g (par k), if_neg c1, if_neg c2]
    by_cases c3 : k = i
    · subst c3
      rw [if_pos rfl, if_neg (by simp only [par]; omega)]
      exact hb.2 j (by omega) k2 k3 h0
    · rw [if_neg c3]
      by_cases c4 : par k = i
      · rw [if_pos c4]; exact kl k h0 hk c4 c1
      · rw [if_neg c4]; exact hb.1 k h0 hk c3 c4
  · have hkp : k ≠ j ∧ k ≠ i := by simp only [par] at c1 k3; omega
    rw [g k, g (par j), if_neg hkp.1, if_neg hkp.2, if_neg (by omega), if_pos k3, ← c1]
    exact hb.1 k h0 hk hkp.2 (by omega)
  · rw [g j, g (par j), if_pos rfl, if_neg (by omega), if_pos k3]
    exact ok.asym hlt
theorem downL_heap (ok : LtOk lt) (l : List α) (n i : Nat) (hn : n ≤ l.length) (hi : i < n) (hb : HeapB lt l n i) (hd : 0 < i → lt (nth l i) (nth l (par i)) = false) : HeapN lt (downL lt l n i).1 n := by
  obtain ⟨m, hm⟩ : ∃ m, m = n - i := ⟨_, rfl⟩
  induction m using Nat.strongRecOn generalizing l i with
  | _ m ih =>
    have fin : (∀ k, 0 < k → k < n → par k = i → lt (nth l k) (nth l i) = false) → HeapN lt l n := fun H k h0 hk => by
      by_cases c1 : par k = i
      · rw [c1]; exact H k h0 hk c1
      · by_cases c2 : k = i
        · subst c2; exact hd h0
        · exact hb.1 k h0 hk c2 c1
    rw [downL]
    split
    · rename_i h
      have hk := kid_bd lt (l := l) h
      split
      · rename_i hlt
        obtain ⟨s1, s2⟩ := down_step ok hn h hb hlt
        exact ih (n - kid lt l n i) (by omega) _ _ (by rw [swp_length]; exact hn) hk.2.1 s1 (fun _ => s2) rfl
      · rename_i hlt
        refine fin fun k h0 hk' c1 => ?_
        by_cases e : k = kid lt l n i
        · rw [e]; simpa using hlt
        · exact ok.ntr (by simpa using hlt) (kid_least ok h h0 hk' c1 e)
    · rename_i h
      exact fin fun k h0 hk' c1 => by simp only [par] at c1; omega
/-- Where it did not move, it may yet have to rise; else all is well. -/
theorem downL_both (ok : LtOk lt) (l : List α) (n i : Nat) (hn : n ≤ l.length) (hi : i < n) (hb : HeapB lt l n i) :
    ((downL lt l n i).2 = i → (downL lt l n i).1 = l ∧ HeapU lt l n i) ∧ ((downL lt l n i).2 ≠ i → HeapN lt (downL lt l n i).1 n) := by
  rw [downL]
  have fin : (∀ k, 0 < k → k < n → par k = i → lt (nth l k) (nth l i) = false) → HeapU lt l n i := fun H => ⟨fun k h0 hk c => by
    by_cases c1 : par k = i
    · rw [c1]; exact H k h0 hk c1
    · exact hb.1 k h0 hk c c1, hb.2⟩
  split
  · rename_i h
    have hk := kid_bd lt (l := l) h
    split
    · rename_i hlt
      obtain ⟨s1, s2⟩ := down_step ok hn h hb hlt
      have := (downL_all (lt := lt) (swp l i (kid lt l n i)) n (kid lt l n i) (by rw [swp_length]; exact hn) hk.2.1).2.2.1
      exact ⟨fun e => by omega, fun _ => downL_heap ok _ n _ (by rw [swp_length]; exact hn) hk.2.1 s1 (fun _ => s2)⟩
    · rename_i hlt
      refine ⟨fun _ => ⟨rfl, fin fun k h0 hk' c1 => ?_⟩, fun e => absurd rfl e⟩
      by_cases e : k = kid lt l n i
      · rw [e]; simpa using hlt
      · exact ok.ntr (by simpa using hlt) (kid_least ok h h0 hk' c1 e)
  · rename_i h
    exact ⟨fun _ => ⟨rfl, fin fun k h0 hk' c1 => by simp only [par] at c1; omega⟩, fun e => absurd rfl e⟩
theorem heap_least (ok : LtOk lt) (l : List α) (n : Nat) (h : HeapN lt l n) (irr : ∀ a, lt a a = false) (k : Nat) (hk : k < n) : lt (nth l k) (nth l 0) = false := by
  induction k using Nat.strongRecOn with
  | _ k ih =>
    rcases Nat.eq_zero_or_pos k with rfl | h0
    · exact irr _
    · exact ok.ntr (ih (par k) (by simp only [par]; omega) (by simp only [par]; omega)) (h k h0 hk)
end
end Go.Sx
