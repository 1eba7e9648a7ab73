/-
  Heaps over lists, as container/heap keeps them. Plain lists.
  Rising rows of numbers: where one stands, putting one in, taking one out. Plain lists.
  Maps of ints as lists of pairs: what is found behind a put and a delete. Plain lists.
  The plain law of the numbers that are free: a heap of those that came back, a map of those that are taken, against a row of bools.
-/
import Derived.Test.YtmlcikcdegodaaaDoorSxA
import Derived.Test.YtmlcikcdegodaaaDoorSxK
import Derived.Test.YtmlcikcdegodaaaDoorSxL
set_option linter.unusedSimpArgs false
set_option linter.unusedVariables false
namespace Go.Sx

section
variable {α : Type} [Inhabited α]
def nth (l : List α) (i : Nat) : α := l.getD i default
theorem nth_eq {l : List α} {i : Nat} (h : i < l.length) : nth l i = l[i] := by simp [nth, List.getD, h]
def swp (l : List α) (i j : Nat) : List α := (l.set i (nth l j)).set j (nth l i)
theorem swp_length (l : List α) (i j : Nat) : (swp l i j).length = l.length := by simp [swp]
theorem nth_set {l : List α} {i k : Nat} {x : α} (hi : i < l.length) : nth (l.set i x) k = if k = i then x else nth l k := by
  unfold nth
  by_cases e : k = i
  · subst e; simp [List.getD, hi]
  · rw [if_neg e]; simp only [List.getD]; rw [List.getElem?_set_ne (Ne.symm e)]
theorem nth_swp {l : List α} {i j : Nat} (hi : i < l.length) (hj : j < l.length) (k : Nat) : nth (swp l i j) k = if k = j then nth l i else if k = i then nth l j else nth l k := by
  unfold swp
  rw [nth_set (by simpa using hj), nth_set hi]
theorem swp_perm {l : List α} {i j : Nat} (hi : i < l.length) (hj : j < l.length) : (swp l i j).Perm l := by
  have e : swp l i j = (l.toArray.swap i j (by simpa using hi) (by simpa using hj)).toList := by
    simp [swp, Array.swap, nth_eq hi, nth_eq hj]
  rw [e]
  have := Array.swap_perm (xs := l.toArray) (i := i) (j := j) (by simpa using hi) (by simpa using hj)
  simpa using Array.perm_iff_toList_perm.1 this

structure LtOk (lt : α → α → Bool) : Prop where
  asym : ∀ {a b}, lt a b = true → lt b a = false
  ntr : ∀ {a b c}, lt b a = false → lt c b = false → lt c a = false
variable (lt : α → α → Bool)
abbrev par (i : Nat) : Nat := (i - 1) / 2
def HeapN (l : List α) (n : Nat) : Prop := ∀ i, 0 < i → i < n → lt (nth l i) (nth l (par i)) = false
def HeapU (l : List α) (n j : Nat) : Prop := (∀ i, 0 < i → i < n → i ≠ j → lt (nth l i) (nth l (par i)) = false) ∧ ∀ i, 0 < i → i < n → par i = j → 0 < j → lt (nth l i) (nth l (par j)) = false
def HeapB (l : List α) (n j : Nat) : Prop := (∀ i, 0 < i → i < n → i ≠ j → par i ≠ j → lt (nth l i) (nth l (par i)) = false) ∧ ∀ i, 0 < i → i < n → par i = j → 0 < j → lt (nth l i) (nth l (par j)) = false
def upL (l : List α) (j : Nat) : List α := if h : j = 0 then l else if lt (nth l j) (nth l (par j)) then upL (swp l (par j) j) (par j) else l
termination_by j
decreasing_by simp only [par]; omega
variable {lt}
theorem upL_length (l : List α) (j : Nat) : (upL lt l j).length = l.length := by
  induction j using Nat.strongRecOn generalizing l with
  | _ j ih =>
    rw [upL]
    split
    · rfl
    · split
      · rw [ih (par j) (by simp only [par]; omega), swp_length]
      · rfl
theorem upL_perm (l : List α) (j : Nat) (hj : j < l.length) : (upL lt l j).Perm l := by
  induction j using Nat.strongRecOn generalizing l with
  | _ j ih =>
    rw [upL]
    split
    · exact List.Perm.refl _
    · split
      · have hp : par j < j := by simp only [par]; omega
        exact (ih (par j) hp _ (by rw [swp_length]; omega)).trans (swp_perm (by omega) hj)
      · exact List.Perm.refl _
theorem upL_heap (ok : LtOk lt) (l : List α) (n j : Nat) (hn : n ≤ l.length) (hj : j < n) (h : HeapU lt l n j) : HeapN lt (upL lt l j) n := by
  induction j using Nat.strongRecOn generalizing l with
  | _ j ih =>
    rw [upL]
    split
    · rename_i h0
      intro i i1 i2
      exact h.1 i i1 i2 (by omega)
    · rename_i h0
      split
      · rename_i hlt
        have hp : par j < j := by simp only [par]; omega
        have g := nth_swp (l := l) (i := par j) (j := j) (by omega) (by omega)
        refine ih (par j) hp _ (by rw [swp_length]; exact hn) (by omega) ⟨fun i i1 i2 i3 => ?_, fun i i1 i2 i3 i4 => ?_⟩
        · rw [g i, g (par i)]
          by_cases c1 : i = j
          · subst c1
            rw [if_pos rfl, if_neg (by omega), if_pos rfl]
            exact ok.asym hlt
          · rw [if_neg c1, if_neg i3]
            by_cases c2 : par i = j
            · rw [if_pos c2]
              exact h.2 i i1 i2 c2 (by omega)
            · rw [if_neg c2]
              have hi := h.1 i i1 i2 c1
              by_cases c3 : par i = par j
              · rw [if_pos c3]
                rw [c3] at hi
                exact ok.ntr (ok.asym hlt) hi
              · rw [if_neg c3]; exact hi
        · have hpp : par (par j) ≠ j ∧ par (par j) ≠ par j := by simp only [par] at i4 ⊢; omega
          rw [g i, g (par (par j)), if_neg hpp.1, if_neg hpp.2]
          have hpar := h.1 (par j) i4 (by omega) (by omega)
          by_cases c1 : i = j
          · rw [if_pos c1]; exact hpar
          · rw [if_neg c1, if_neg (by simp only [par] at i3 i4 ⊢; omega)]
            have hi := h.1 i i1 i2 c1
            rw [i3] at hi
            exact ok.ntr hpar hi
      · rename_i hlt
        intro i i1 i2
        by_cases c : i = j
        · subst c; simpa using hlt
        · exact h.1 i i1 i2 c

variable (lt)
/-- The lesser child. -/
def kid (l : List α) (n i : Nat) : Nat := if 2 * i + 1 + 1 < n ∧ lt (nth l (2 * i + 1 + 1)) (nth l (2 * i + 1)) = true then 2 * i + 1 + 1 else 2 * i + 1
theorem kid_bd {l : List α} {n i : Nat} (h : 2 * i + 1 < n) : i < kid lt l n i ∧ kid lt l n i < n ∧ par (kid lt l n i) = i := by
  unfold kid; split <;> simp only [par] <;> omega
def downL (l : List α) (n i : Nat) : List α × Nat := if h : 2 * i + 1 < n then (if lt (nth l (kid lt l n i)) (nth l i) then downL (swp l i (kid lt l n i)) n (kid lt l n i) else (l, i)) else (l, i)
termination_by n - i
decreasing_by have := kid_bd lt (l := l) h; omega
variable {lt}
theorem downL_all (l : List α) (n i : Nat) (hn : n ≤ l.length) (hi : i < n) : (downL lt l n i).1.length = l.length ∧ (downL lt l n i).1.Perm l ∧ i ≤ (downL lt l n i).2 ∧ ∀ k, n ≤ k → nth (downL lt l n i).1 k = nth l k := by
  obtain ⟨m, hm⟩ : ∃ m, m = n - i := ⟨_, rfl⟩
  induction m using Nat.strongRecOn generalizing l i with
  | _ m ih =>
    rw [downL]
    split
    · rename_i h
      have hk := kid_bd lt (l := l) h
      split
      · have := ih (n - kid lt l n i) (by omega) (swp l i (kid lt l n i)) (kid lt l n i) (by rw [swp_length]; exact hn) hk.2.1 rfl
        obtain ⟨a1, a2, a3, a4⟩ := this
        refine ⟨by rw [a1, swp_length], a2.trans (swp_perm (by omega) (by omega)), by omega, fun k hk' => ?_⟩
        rw [a4 k hk', nth_swp (by omega) (by omega), if_neg (by omega), if_neg (by omega)]
      · exact ⟨rfl, List.Perm.refl _, Nat.le_refl _, fun _ _ => rfl⟩
    · exact ⟨rfl, List.Perm.refl _, Nat.le_refl _, fun _ _ => rfl⟩
theorem kid_least {l : List α} {n i k : Nat} (ok : LtOk lt) (h : 2 * i + 1 < n) (h0 : 0 < k) (hk : k < n) (hp : par k = i) (hne : k ≠ kid lt l n i) : lt (nth l k) (nth l (kid lt l n i)) = false := by
  have hkk : k = 2 * i + 1 ∨ k = 2 * i + 1 + 1 := by simp only [par] at hp; omega
  unfold kid at hne ⊢
  split
  · rename_i c
    rw [if_pos c] at hne
    obtain rfl : k = 2 * i + 1 := by omega
    exact ok.asym c.2
  · rename_i c
    rw [if_neg c] at hne
    obtain rfl : k = 2 * i + 1 + 1 := by omega
    cases e : lt (nth l (2 * i + 1 + 1)) (nth l (2 * i + 1)) with
    | false => rfl
    | true => exact absurd ⟨hk, e⟩ c
theorem down_step (ok : LtOk lt) {l : List α} {n i : Nat} (hn : n ≤ l.length) (h : 2 * i + 1 < n) (hb : HeapB lt l n i) (hlt : lt (nth l (kid lt l n i)) (nth l i) = true) :
    HeapB lt (swp l i (kid lt l n i)) n (kid lt l n i) ∧ lt (nth (swp l i (kid lt l n i)) (kid lt l n i)) (nth (swp l i (kid lt l n i)) (par (kid lt l n i))) = false := by
  obtain ⟨k1, k2, k3⟩ := kid_bd lt (l := l) h
  have kl := fun k h0 hk hp hne => kid_least (l := l) (k := k) ok h h0 hk hp hne
  generalize kid lt l n i = j at k1 k2 k3 kl hlt ⊢
  have g := nth_swp (l := l) (i := i) (j := j) (by omega) (by omega)
  refine ⟨⟨fun k h0 hk c1 c2 => ?_, fun k h0 hk c1 c2 => ?_⟩, ?_⟩
  · rw [g k, g (par k), if_neg c1, if_neg c2]
    by_cases c3 : k = i
    · subst c3
      rw [if_pos rfl, if_neg (by simp only [par]; omega)]
      exact hb.2 j (by omega) k2 k3 h0
    · rw [if_neg c3]
      by_cases c4 : par k = i
      · rw [if_pos c4]; exact kl k h0 hk c4 c1
      · rw [if_neg c4]; exact hb.1 k h0 hk c3 c4
  · have hkp : k ≠ j ∧ k ≠ i := by simp only [par] at c1 k3; omega
    rw [g k, g (par j), if_neg hkp.1, if_neg hkp.2, if_neg (by omega), if_pos k3, ← c1]
    exact hb.1 k h0 hk hkp.2 (by omega)
  · rw [g j, g (par j), if_pos rfl, if_neg (by omega), if_pos k3]
    exact ok.asym hlt
theorem downL_heap (ok : LtOk lt) (l : List α) (n i : Nat) (hn : n ≤ l.length) (hi : i < n) (hb : HeapB lt l n i) (hd : 0 < i → lt (nth l i) (nth l (par i)) = false) : HeapN lt (downL lt l n i).1 n := by
  obtain ⟨m, hm⟩ : ∃ m, m = n - i := ⟨_, rfl⟩
  induction m using Nat.strongRecOn generalizing l i with
  | _ m ih =>
    have fin : (∀ k, 0 < k → k < n → par k = i → lt (nth l k) (nth l i) = false) → HeapN lt l n := fun H k h0 hk => by
      by_cases c1 : par k = i
      · rw [c1]; exact H k h0 hk c1
      · by_cases c2 : k = i
        · subst c2; exact hd h0
        · exact hb.1 k h0 hk c2 c1
    rw [downL]
    split
    · rename_i h
      have hk := kid_bd lt (l := l) h
      split
      · rename_i hlt
        obtain ⟨s1, s2⟩ := down_step ok hn h hb hlt
        exact ih (n - kid lt l n i) (by omega) _ _ (by rw [swp_length]; exact hn) hk.2.1 s1 (fun _ => s2) rfl
      · rename_i hlt
        refine fin fun k h0 hk' c1 => ?_
        by_cases e : k = kid lt l n i
        · rw [e]; simpa using hlt
        · exact ok.ntr (by simpa using hlt) (kid_least ok h h0 hk' c1 e)
    · rename_i h
      exact fin fun k h0 hk' c1 => by simp only [par] at c1; omega
/-- Where it did not move, it may yet have to rise; else all is well. -/
theorem downL_both (ok : LtOk lt) (l : List α) (n i : Nat) (hn : n ≤ l.length) (hi : i < n) (hb : HeapB lt l n i) :
    ((downL lt l n i).2 = i → (downL lt l n i).1 = l ∧ HeapU lt l n i) ∧ ((downL lt l n i).2 ≠ i → HeapN lt (downL lt l n i).1 n) := by
  rw [downL]
  have fin : (∀ k, 0 < k → k < n → par k = i → lt (nth l k) (nth l i) = false) → HeapU lt l n i := fun H => ⟨fun k h0 hk c => by
    by_cases c1 : par k = i
    · rw [c1]; exact H k h0 hk c1
    · exact hb.1 k h0 hk c c1, hb.2⟩
  split
  · rename_i h
    have hk := kid_bd lt (l := l) h
    split
    · rename_i hlt
      obtain ⟨s1, s2⟩ := down_step ok hn h hb hlt
      have := (downL_all (lt := lt) (swp l i (kid lt l n i)) n (kid lt l n i) (by rw [swp_length]; exact hn) hk.2.1).2.2.1
      exact ⟨fun e => by omega, fun _ => downL_heap ok _ n _ (by rw [swp_length]; exact hn) hk.2.1 s1 (fun _ => s2)⟩
    · rename_i hlt
      refine ⟨fun _ => ⟨rfl, fin fun k h0 hk' c1 => ?_⟩, fun e => absurd rfl e⟩
      by_cases e : k = kid lt l n i
      · rw [e]; simpa using hlt
      · exact ok.ntr (by simpa using hlt) (kid_least ok h h0 hk' c1 e)
  · rename_i h
    exact ⟨fun _ => ⟨rfl, fin fun k h0 hk' c1 => by simp only [par] at c1; omega⟩, fun e => absurd rfl e⟩
theorem heap_least (ok : LtOk lt) (l : List α) (n : Nat) (h : HeapN lt l n) (irr : ∀ a, lt a a = false) (k : Nat) (hk : k < n) : lt (nth l k) (nth l 0) = false := by
  induction k using Nat.strongRecOn with
  | _ k ih =>
    rcases Nat.eq_zero_or_pos k with rfl | h0
    · exact irr _
    · exact ok.ntr (ih (par k) (by simp only [par]; omega) (by simp only [par]; omega)) (h k h0 hk)
end
end Go.Sx
set_option linter.unusedSimpArgs false
set_option linter.unusedVariables false
namespace Go.Sx
open Go

def Asc (l : List Int) : Prop := l.Pairwise (· < ·)
/-- k is where t stands, or would. -/
def Lb (l : List Int) (t : Int) (k : Nat) : Prop := k ≤ l.length ∧ (∀ j (h : j < l.length), j < k → l[j] < t) ∧ ∀ j (h : j < l.length), k ≤ j → t ≤ l[j]
theorem Lb.eq {l : List Int} {t : Int} {k k' : Nat} (h : Lb l t k) (h' : Lb l t k') : k = k' := by
  obtain ⟨a1, a2, a3⟩ := h
  obtain ⟨b1, b2, b3⟩ := h'
  rcases Nat.lt_trichotomy k k' with c | c | c
  · have := a3 k (by omega) (Nat.le_refl _)
    have := b2 k (by omega) c
    omega
  · exact c
  · have := a2 k' (by omega) c
    have := b3 k' (by omega) (Nat.le_refl _)
    omega
theorem asc_lt {l : List Int} (h : Asc l) {i j : Nat} (hj : j < l.length) (hij : i < j) : l[i] < l[j] := List.pairwise_iff_getElem.1 h i j (by omega) hj hij
theorem lb_mem {l : List Int} {t : Int} {k : Nat} (ha : Asc l) (h : Lb l t k) : t ∈ l ↔ l[k]? = some t := by
  constructor
  · intro hm
    obtain ⟨j, hj, e⟩ := List.getElem_of_mem hm
    obtain ⟨a1, a2, a3⟩ := h
    rcases Nat.lt_trichotomy j k with c | c | c
    · have := a2 j hj c; omega
    · subst c; rw [List.getElem?_eq_getElem hj, e]
    · have h1 := a3 k (by omega) (Nat.le_refl _)
      have h2 := asc_lt ha hj c
      omega
  · intro e; exact List.mem_of_getElem? e
def putIn (l : List Int) (k : Nat) (t : Int) : List Int := l.take k ++ t :: l.drop k
def takeOut (l : List Int) (k : Nat) : List Int := l.take k ++ l.drop (k + 1)
theorem putIn_length {l : List Int} {k : Nat} {t : Int} (h : k ≤ l.length) : (putIn l k t).length = l.length + 1 := by simp [putIn]; omega
theorem takeOut_length {l : List Int} {k : Nat} (h : k < l.length) : (takeOut l k).length = l.length - 1 := by simp [takeOut]; omega
theorem mem_putIn {l : List Int} {k : Nat} {t x : Int} : x ∈ putIn l k t ↔ x = t ∨ x ∈ l := by
  have e : x ∈ l ↔ x ∈ l.take k ∨ x ∈ l.drop k := by rw [← List.mem_append, List.take_append_drop]
  simp only [putIn, List.mem_append, List.mem_cons, e]
  constructor
  · rintro (h | h | h)
    · exact .inr (.inl h)
    · exact .inl h
    · exact .inr (.inr h)
  · rintro (h | h | h)
    · exact .inr (.inl h)
    · exact .inl h
    · exact .inr (.inr h)
theorem mem_takeOut {l : List Int} {k : Nat} {x : Int} (h : x ∈ takeOut l k) : x ∈ l := by
  rcases List.mem_append.1 h with h | h
  · exact List.mem_of_mem_take h
  · exact List.mem_of_mem_drop h
theorem take_lt {l : List Int} {t : Int} {k : Nat} (h : Lb l t k) : ∀ a ∈ l.take k, a < t := by
  intro a ha
  obtain ⟨j, hj, e⟩ := List.getElem_of_mem ha
  have hj' : j < k ∧ j < l.length := by simp at hj; omega
  rw [List.getElem_take] at e
  rw [← e]
  exact h.2.1 j hj'.2 hj'.1
theorem drop_ge {l : List Int} {t : Int} {k : Nat} (h : Lb l t k) : ∀ a ∈ l.drop k, t ≤ a := by
  intro a ha
  obtain ⟨j, hj, e⟩ := List.getElem_of_mem ha
  have hj' : k + j < l.length := by simp at hj; omega
  rw [List.getElem_drop] at e
  rw [← e]
  exact h.2.2 (k + j) hj' (by omega)
theorem asc_put {l : List Int} {k : Nat} {t : Int} (ha : Asc l) (h : Lb l t k) (hn : t ∉ l) : Asc (putIn l k t) := by
  have hd : ∀ b ∈ l.drop k, t < b := fun b hb => by
    have := drop_ge h b hb
    have : t ≠ b := fun e => hn (by rw [e]; exact List.mem_of_mem_drop hb)
    omega
  unfold Asc putIn
  rw [List.pairwise_append]
  refine ⟨List.Pairwise.sublist (List.take_sublist _ _) ha, ?_, ?_⟩
  · rw [List.pairwise_cons]
    exact ⟨hd, List.Pairwise.sublist (List.drop_sublist _ _) ha⟩
  · intro a h1 b h2
    have := take_lt h a h1
    rcases List.mem_cons.1 h2 with rfl | h2
    · exact this
    · have := hd b h2; omega
theorem takeOut_eq (l : List Int) (k : Nat) : takeOut l k = l.eraseIdx k := by rw [takeOut, List.eraseIdx_eq_take_drop_succ]
theorem asc_out {l : List Int} {k : Nat} (ha : Asc l) : Asc (takeOut l k) := by
  rw [takeOut_eq]
  exact List.Pairwise.sublist (List.eraseIdx_sublist _ _) ha
theorem not_mem_takeOut {l : List Int} {k : Nat} {t : Int} (ha : Asc l) (h : l[k]? = some t) : t ∉ takeOut l k := by
  obtain ⟨hk, e⟩ := List.getElem?_eq_some_iff.1 h
  intro hm
  rcases List.mem_append.1 hm with hm | hm
  · obtain ⟨j, hj, e'⟩ := List.getElem_of_mem hm
    have hj' : j < k ∧ j < l.length := by simp at hj; omega
    rw [List.getElem_take] at e'
    have := asc_lt ha hk hj'.1
    omega
  · obtain ⟨j, hj, e'⟩ := List.getElem_of_mem hm
    have hj' : k + 1 + j < l.length := by simp at hj; omega
    rw [List.getElem_drop] at e'
    have := asc_lt ha hj' (show k < k + 1 + j by omega)
    omega
theorem split_at {l : List Int} {k : Nat} {t : Int} (h : l[k]? = some t) : l = l.take k ++ t :: l.drop (k + 1) := by
  obtain ⟨hk, e⟩ := List.getElem?_eq_some_iff.1 h
  rw [← e, ← List.drop_eq_getElem_cons hk, List.take_append_drop]
theorem filter_out {l : List Int} {k : Nat} {t : Int} (ha : Asc l) (h : l[k]? = some t) : l.filter (fun x => !decide (x = t)) = takeOut l k := by
  have hn := not_mem_takeOut ha h
  have e1 : ∀ x ∈ l.take k, (!decide (x = t)) = true := fun x hx => by
    have : x ≠ t := fun e => hn (by rw [← e]; exact List.mem_append_left _ hx)
    simp [this]
  have e2 : ∀ x ∈ l.drop (k + 1), (!decide (x = t)) = true := fun x hx => by
    have : x ≠ t := fun e => hn (by rw [← e]; exact List.mem_append_right _ hx)
    simp [this]
  rw [congrArg (List.filter _) (split_at h), List.filter_append, List.filter_cons, List.filter_eq_self.2 e1, List.filter_eq_self.2 e2]
  simp [takeOut]
theorem filter_no {l : List Int} {t : Int} (h : t ∉ l) : l.filter (fun x => !decide (x = t)) = l := List.filter_eq_self.2 fun x hx => by
  have : x ≠ t := fun e => h (by rw [← e]; exact hx)
  simp [this]
theorem mem_takeOut_ne {l : List Int} {k : Nat} {t x : Int} (h : l[k]? = some t) (hx : x ∈ l) (hne : x ≠ t) : x ∈ takeOut l k := by
  rw [split_at h] at hx
  rcases List.mem_append.1 hx with hx | hx
  · exact List.mem_append_left _ hx
  · rcases List.mem_cons.1 hx with hx | hx
    · exact absurd hx hne
    · exact List.mem_append_right _ hx

/-! ### rows of plain numbers -/
def intC (k : Int) : List Value := [.int .i64 k]
def ints (l : List Int) : List Value := l.map (Value.int .i64)
theorem ints_fm (l : List Int) : l.flatMap intC = ints l := by
  induction l with
  | nil => rfl
  | cons a l ih => rw [List.flatMap_cons, ih]; simp [ints, intC]
theorem ints_length (l : List Int) : (ints l).length = l.length * 1 := by simp [ints]
theorem ints_len (l : List Int) : (ints l).length = l.length := by simp [ints]
theorem ints_one (l : List Int) : (ints l).all (·.oneCell') = true := by simp [ints, Value.oneCell']
theorem ints_get {l : List Int} {k : Nat} (h : k < l.length) : (ints l)[k]? = some (.int .i64 l[k]) := by simp [ints, h]
theorem ints_snoc (l : List Int) (k : Int) : ints (l ++ [k]) = ints l ++ [.int .i64 k] := by simp [ints]
theorem ints_append (l m : List Int) : ints (l ++ m) = ints l ++ ints m := by simp [ints]
theorem ints_take (l : List Int) (k : Nat) : ints (l.take k) = (ints l).take k := by simp [ints]
theorem ints_drop (l : List Int) (k : Nat) : ints (l.drop k) = (ints l).drop k := by simp [ints]

/-! ### sixteen places, a number, a mark -/
structure InC (C : List Value) (l : List Int) : Prop where
  len : C.length = 18
  one : C.all (·.oneCell') = true
  cnt : C[16]? = some (.int .i64 l.length)
  made : C[17]? = some (.bool true)
  at_ : ∀ j (h : j < l.length), C[j]? = some (.int .i64 l[j])
theorem all_set {C : List Value} {k : Nat} {v : Value} (h : C.all (·.oneCell') = true) (hv : v.oneCell' = true) : (C.set k v).all (·.oneCell') = true := by
  simp only [List.all_eq_true] at h ⊢
  intro x hx
  rcases List.mem_or_eq_of_mem_set hx with hx | rfl
  · exact h x hx
  · exact hv
theorem putIn_get {l : List Int} {k : Nat} {t : Int} (hk : k ≤ l.length) (j : Nat) : (putIn l k t)[j]? = if j < k then l[j]? else if j = k then some t else l[j - 1]? := by
  unfold putIn
  have e1 : (l.take k).length = k := by simp; omega
  rw [List.getElem?_append, e1]
  split
  · rename_i h; rw [List.getElem?_take, if_pos h]
  · rename_i h
    split
    · rename_i h'; subst h'; simp
    · rename_i h'
      obtain ⟨m, rfl⟩ : ∃ m, j = k + m + 1 := ⟨j - k - 1, by omega⟩
      rw [show k + m + 1 - k = m + 1 by omega, List.getElem?_cons_succ, List.getElem?_drop]
      congr 1
theorem takeOut_get {l : List Int} {k : Nat} (hk : k < l.length) (j : Nat) : (takeOut l k)[j]? = if j < k then l[j]? else l[j + 1]? := by
  unfold takeOut
  have e1 : (l.take k).length = k := by simp; omega
  rw [List.getElem?_append, e1]
  split
  · rename_i h; rw [List.getElem?_take, if_pos h]
  · rename_i h
    rw [List.getElem?_drop]
    congr 1; omega
theorem inc_at {C : List Value} {l : List Int} (h : InC C l) {j : Nat} {x : Int} (e : l[j]? = some x) : C[j]? = some (.int .i64 x) := by
  obtain ⟨hj, rfl⟩ := List.getElem?_eq_some_iff.1 e
  exact h.at_ j hj
theorem inc_put {C : List Value} {l : List Int} {k : Nat} {t : Int} (h : InC C l) (hl : l.length ≤ 15) (hk : k ≤ l.length) : InC (((moved C (k + 1) k (l.length - k)).set k (.int .i64 t)).set 16 (.int .i64 (l.length + 1))) (putIn l k t) := by
  have hL := h.len
  have h1 : k + 1 + (l.length - k) ≤ C.length := by omega
  have h2 : k + (l.length - k) ≤ C.length := by omega
  have hm := moved_length h1 h2
  refine ⟨by simp [hm, hL], all_set (all_set (moved_one h.one) rfl) rfl, ?_, ?_, fun j hj => ?_⟩
  · rw [List.getElem?_set_self (by simp; omega), putIn_length hk]; rfl
  · rw [List.getElem?_set_ne (by omega), List.getElem?_set_ne (by omega), moved_get h1 h2, if_neg (by omega), if_neg (by omega)]
    exact h.made
  · rw [putIn_length hk] at hj
    have hp := putIn_get (t := t) hk j
    rw [List.getElem?_eq_getElem (by rw [putIn_length hk]; exact hj)] at hp
    rw [List.getElem?_set_ne (by omega)]
    by_cases c1 : j < k
    · rw [if_pos c1] at hp
      rw [List.getElem?_set_ne (by omega), moved_get h1 h2, if_pos (by omega)]
      exact inc_at h hp.symm
    · rw [if_neg c1] at hp
      by_cases c2 : j = k
      · rw [if_pos c2] at hp
        subst c2
        have hp' := Option.some.inj hp
        rw [List.getElem?_set_self (by omega), hp']
      · rw [if_neg c2] at hp
        rw [List.getElem?_set_ne (by omega), moved_get h1 h2, if_neg (by omega), if_pos (by omega)]
        rw [show j - (k + 1) + k = j - 1 by omega]
        exact inc_at h hp.symm
theorem inc_out {C : List Value} {l : List Int} {k : Nat} (h : InC C l) (hl : l.length ≤ 16) (hk : k < l.length) : InC ((moved C k (k + 1) (l.length - (k + 1))).set 16 (.int .i64 (l.length - 1 : Nat))) (takeOut l k) := by
  have hL := h.len
  have h1 : k + (l.length - (k + 1)) ≤ C.length := by omega
  have h2 : k + 1 + (l.length - (k + 1)) ≤ C.length := by omega
  have hm := moved_length h1 h2
  refine ⟨by simp [hm, hL], all_set (moved_one h.one) rfl, ?_, ?_, fun j hj => ?_⟩
  · rw [List.getElem?_set_self (by omega), takeOut_length hk]
  · rw [List.getElem?_set_ne (by omega), moved_get h1 h2, if_neg (by omega), if_neg (by omega)]
    exact h.made
  · rw [takeOut_length hk] at hj
    have hp := takeOut_get hk j
    rw [List.getElem?_eq_getElem (by rw [takeOut_length hk]; exact hj)] at hp
    rw [List.getElem?_set_ne (by omega), moved_get h1 h2]
    by_cases c1 : j < k
    · rw [if_pos c1] at hp ⊢
      exact inc_at h hp.symm
    · rw [if_neg c1] at hp ⊢
      rw [if_pos (by omega), show j - k + (k + 1) = j + 1 by omega]
      exact inc_at h hp.symm
theorem inc_clear {C : List Value} {l : List Int} (h : InC C l) : InC (C.set 16 (.int .i64 0)) [] := by
  have hL := h.len
  refine ⟨by simp [hL], all_set h.one rfl, ?_, ?_, fun j hj => by simp at hj⟩
  · rw [List.getElem?_set_self (by omega)]; rfl
  · rw [List.getElem?_set_ne (by omega)]; exact h.made
end Go.Sx
set_option linter.unusedSimpArgs false
set_option linter.unusedVariables false
namespace Go.Sx

theorem mfind_shift (k : Int) : ∀ (es : List (Int × Int)) (i : Nat), mfind k es i = (mfind k es 0).map fun q => (q.1 + i, q.2)
  | [], i => rfl
  | p :: r, i => by
    unfold mfind
    by_cases h : p.1 = k
    · simp [h]
    · rw [if_neg h, if_neg h, mfind_shift k r (i + 1), mfind_shift k r (0 + 1), Option.map_map]
      congr 1
      funext q
      simp only [Function.comp]
      ext <;> simp <;> omega
theorem mget_nil (k : Int) : mget [] k = none := rfl
theorem mget_cons (p : Int × Int) (r : List (Int × Int)) (k : Int) : mget (p :: r) k = if p.1 = k then some p.2 else mget r k := by
  unfold mget
  conv => lhs; unfold mfind
  by_cases h : p.1 = k
  · simp [h]
  · rw [if_neg h, if_neg h, mfind_shift, Option.map_map]; rfl
theorem mput_nil (k v : Int) : mput [] k v = [(k, v)] := rfl
theorem mput_cons (p : Int × Int) (r : List (Int × Int)) (k v : Int) : mput (p :: r) k v = if p.1 = k then (k, v) :: r else p :: mput r k v := by
  unfold mput
  conv => lhs; unfold mfind
  by_cases h : p.1 = k
  · simp [h]
  · rw [if_neg h, if_neg h, mfind_shift]
    cases mfind k r 0 with
    | none => rfl
    | some q => rfl
theorem mdel_nil (k : Int) : mdel [] k = [] := rfl
theorem mdel_cons (p : Int × Int) (r : List (Int × Int)) (k : Int) : mdel (p :: r) k = if p.1 = k then r else p :: mdel r k := by
  unfold mdel
  conv => lhs; unfold mfind
  by_cases h : p.1 = k
  · simp [h]
  · rw [if_neg h, if_neg h, mfind_shift]
    cases mfind k r 0 with
    | none => rfl
    | some q => simp
theorem mget_mput (k v j : Int) : ∀ es : List (Int × Int), mget (mput es k v) j = if j = k then some v else mget es j
  | [] => by
    rw [mput_nil, mget_cons, mget_nil]
    by_cases h : j = k
    · simp [h]
    · rw [if_neg h, if_neg (fun e => h e.symm)]
  | p :: r => by
    rw [mput_cons]
    by_cases h : p.1 = k
    · rw [if_pos h, mget_cons, mget_cons]
      by_cases hj : j = k
      · simp [hj]
      · rw [if_neg hj, if_neg (fun e => hj e.symm), if_neg (fun e => hj (e.symm.trans h))]
    · rw [if_neg h, mget_cons, mget_mput k v j r, mget_cons]
      by_cases hj : j = k
      · subst hj; simp [h]
      · simp [hj]
theorem mget_none {k : Int} {es : List (Int × Int)} : mget es k = none ↔ k ∉ es.map (·.1) := by
  unfold mget
  rw [Option.map_eq_none_iff]
  exact mfind_none
theorem mkeys_put (k v : Int) : ∀ es : List (Int × Int), (es.map (·.1)).Nodup → ((mput es k v).map (·.1)).Nodup ∧ (∀ j, j ∈ (mput es k v).map (·.1) ↔ j = k ∨ j ∈ es.map (·.1)) ∧ (mput es k v).length = es.length + (if mget es k = none then 1 else 0)
  | [], _ => by simp [mput_nil, mget_nil]
  | p :: r, h => by
    rw [List.map_cons, List.nodup_cons] at h
    obtain ⟨h1, h2⟩ := h
    obtain ⟨i1, i2, i3⟩ := mkeys_put k v r h2
    rw [mput_cons, mget_cons]
    by_cases hk : p.1 = k
    · rw [if_pos hk, if_pos hk]
      subst hk
      refine ⟨by rw [List.map_cons, List.nodup_cons]; exact ⟨h1, h2⟩, fun j => by simp, by simp⟩
    · rw [if_neg hk, if_neg hk]
      refine ⟨?_, fun j => ?_, by simp only [List.length_cons, i3]; omega⟩
      · rw [List.map_cons, List.nodup_cons]
        refine ⟨fun hm => ?_, i1⟩
        rcases (i2 _).1 hm with e | e
        · exact hk e
        · exact h1 e
      · simp only [List.map_cons, List.mem_cons, i2 j]
        constructor
        · rintro (e | e | e) <;> simp [e]
        · rintro (e | e | e) <;> simp [e]
theorem mkeys_del (k : Int) : ∀ es : List (Int × Int), (es.map (·.1)).Nodup → ((mdel es k).map (·.1)).Nodup ∧ (∀ j, j ∈ (mdel es k).map (·.1) → j ∈ es.map (·.1)) ∧ (mdel es k).length + (if mget es k = none then 0 else 1) = es.length ∧ ∀ j, mget (mdel es k) j = if j = k then none else mget es j
  | [], _ => by simp [mdel_nil, mget_nil]
  | p :: r, h => by
    rw [List.map_cons, List.nodup_cons] at h
    obtain ⟨h1, h2⟩ := h
    obtain ⟨i1, i2, i3, i4⟩ := mkeys_del k r h2
    rw [mdel_cons, mget_cons]
    by_cases hk : p.1 = k
    · rw [if_pos hk, if_pos hk]
      subst hk
      refine ⟨h2, fun j hj => by simp at hj ⊢; exact .inr hj, by simp, fun j => ?_⟩
      rw [mget_cons]
      by_cases hj : j = p.1
      · rw [if_pos hj, hj]; exact mget_none.2 h1
      · rw [if_neg hj, if_neg (fun e => hj e.symm)]
    · rw [if_neg hk, if_neg hk]
      refine ⟨?_, fun j hj => ?_, by simp only [List.length_cons]; omega, fun j => ?_⟩
      · rw [List.map_cons, List.nodup_cons]
        exact ⟨fun hm => h1 (i2 _ hm), i1⟩
      · rw [List.map_cons, List.mem_cons] at hj ⊢
        rcases hj with e | e
        · exact .inl e
        · exact .inr (i2 _ e)
      · rw [mget_cons, mget_cons, i4 j]
        by_cases hj : j = k
        · subst hj; simp [hk]
        · simp [hj]
end Go.Sx
set_option linter.unusedSimpArgs false
set_option linter.unusedVariables false
namespace Go.Sx

def ltI (a b : Int) : Bool := decide (a < b)
theorem ltI_ok : LtOk ltI := ⟨fun h => by simp [ltI] at h ⊢; omega, fun h1 h2 => by simp [ltI] at h1 h2 ⊢; omega⟩
theorem downL_none {α : Type} [Inhabited α] {lt : α → α → Bool} (l : List α) : downL lt l 0 0 = (l, 0) := by rw [downL, dif_neg (by omega)]
theorem downL_length {α : Type} [Inhabited α] {lt : α → α → Bool} (l : List α) (n : Nat) (hn : n ≤ l.length) : (downL lt l n 0).1.length = l.length := by
  by_cases h : n = 0
  · subst h; rw [downL_none]
  · exact (downL_all l n 0 hn (by omega)).1

/-! ### heaps: what a pop and a push leave -/
section
variable {α : Type} [Inhabited α] {lt : α → α → Bool}
def hpopL (lt : α → α → Bool) (l : List α) : List α := ((downL lt (swp l 0 (l.length - 1)) (l.length - 1) 0).1).take (l.length - 1)
def hpopV (lt : α → α → Bool) (l : List α) : α := nth (downL lt (swp l 0 (l.length - 1)) (l.length - 1) 0).1 (l.length - 1)
theorem hpopV_eq (l : List α) (h0 : 0 < l.length) : hpopV lt l = nth l 0 := by
  unfold hpopV
  obtain ⟨k, hk⟩ : ∃ k, l.length = k + 1 := ⟨l.length - 1, by omega⟩
  rw [show l.length - 1 = k by omega]
  have e : nth (downL lt (swp l 0 k) k 0).1 k = nth (swp l 0 k) k := by
    rcases Nat.eq_zero_or_pos k with rfl | hp
    · rw [downL_none]
    · exact (downL_all (lt := lt) (swp l 0 k) k 0 (by rw [swp_length]; omega) hp).2.2.2 k (Nat.le_refl _)
  rw [e, nth_swp (by omega) (by omega), if_pos rfl]
theorem hpopL_perm (l : List α) (h0 : 0 < l.length) : (hpopL lt l ++ [nth l 0]).Perm l := by
  rw [← hpopV_eq (lt := lt) l h0]
  unfold hpopL hpopV
  obtain ⟨k, hk⟩ : ∃ k, l.length = k + 1 := ⟨l.length - 1, by omega⟩
  rw [show l.length - 1 = k by omega]
  have hlen : (downL lt (swp l 0 k) k 0).1.length = k + 1 := by rw [downL_length _ _ (by rw [swp_length]; omega), swp_length, hk]
  have hp : (downL lt (swp l 0 k) k 0).1.Perm (swp l 0 k) := by
    rcases Nat.eq_zero_or_pos k with rfl | hp
    · rw [downL_none]
    · exact (downL_all (lt := lt) (swp l 0 k) k 0 (by rw [swp_length]; omega) hp).2.1
  generalize (downL lt (swp l 0 k) k 0).1 = d at hlen hp
  have e : d.take k ++ [nth d k] = d := by
    rw [nth_eq (by omega)]
    have := List.take_append_drop k d
    rw [List.drop_eq_getElem_cons (by omega), List.drop_eq_nil_of_le (by omega)] at this
    exact this
  rw [e]
  exact hp.trans (swp_perm (by omega) (by omega))
theorem nth_take {l : List α} {n k : Nat} (h : k < n) : nth (l.take n) k = nth l k := by
  simp only [nth, List.getD, List.getElem?_take, if_pos h]
theorem hpopL_heap (ok : LtOk lt) (l : List α) (h0 : 0 < l.length) (h : HeapN lt l l.length) : HeapN lt (hpopL lt l) (hpopL lt l).length := by
  unfold hpopL
  obtain ⟨k, hk⟩ : ∃ k, l.length = k + 1 := ⟨l.length - 1, by omega⟩
  rw [show l.length - 1 = k by omega]
  have hlen : (downL lt (swp l 0 k) k 0).1.length = k + 1 := by rw [downL_length _ _ (by rw [swp_length]; omega), swp_length, hk]
  have hl2 : ((downL lt (swp l 0 k) k 0).1.take k).length = k := by rw [List.length_take]; omega
  rw [hl2]
  intro i i1 i2
  have hkp : 0 < k := by omega
  have hh := downL_heap ok (swp l 0 k) k 0 (by rw [swp_length]; omega) hkp ⟨fun j j1 j2 j3 j4 => ?_, fun j _ _ _ c => by omega⟩ (fun c => by omega)
  · rw [nth_take i2, nth_take (by simp only [par]; omega)]
    exact hh i i1 i2
  · rw [nth_swp (by omega) (by omega), nth_swp (by omega) (by omega), if_neg (by omega), if_neg (by omega), if_neg (by simp only [par]; omega), if_neg (by omega)]
    exact h j j1 (by omega)
theorem hpush_heap (ok : LtOk lt) (l : List α) (a : α) (h : HeapN lt l l.length) : HeapN lt (upL lt (l ++ [a]) l.length) (l.length + 1) := by
  refine upL_heap ok _ _ _ (by simp) (by omega) ⟨fun i i1 i2 i3 => ?_, fun i i1 i2 i3 i4 => ?_⟩
  · have e : ∀ j, j < l.length → nth (l ++ [a]) j = nth l j := fun j hj => by simp only [nth, List.getD]; rw [List.getElem?_append_left hj]
    rw [e i (by omega), e (par i) (by simp only [par]; omega)]
    exact h i i1 (by omega)
  · simp only [par] at i3; omega
theorem hpush_perm (l : List α) (a : α) : (upL lt (l ++ [a]) l.length).Perm (l ++ [a]) := upL_perm _ _ (by simp)
theorem heap_first (ok : LtOk lt) (irr : ∀ a, lt a a = false) (l : List α) (h : HeapN lt l l.length) : ∀ x ∈ l, lt x (nth l 0) = false := fun x hx => by
  obtain ⟨k, hk, rfl⟩ := List.getElem_of_mem hx
  rw [← nth_eq hk]
  exact heap_least ok l l.length h irr k hk
end

/-! ### numbers that are free -/
/-- Those taken among 1..k, in order. -/
def takenTo (T : List Bool) : Nat → List Int
  | 0 => []
  | k + 1 => takenTo T k ++ (if T.getD (k + 1) false then [((k + 1 : Nat) : Int)] else [])
/-- What a hander-out of n has handed out: T. -/
structure IdsInv (n : Nat) (T : List Bool) (next : Nat) (back : List Int) (es : List (Int × Int)) : Prop where
  n1 : 1 ≤ n
  n2 : n ≤ 65535
  len : T.length = n + 1
  nx : 1 ≤ next ∧ next ≤ n + 1
  hp : HeapN ltI back back.length
  nd : back.Nodup
  bk : ∀ x ∈ back, ∃ k : Nat, x = k ∧ 1 ≤ k ∧ k < next ∧ T.getD k false = false
  fr : ∀ k, 1 ≤ k → k < next → T.getD k false = false → (k : Int) ∈ back
  hi : ∀ k, next ≤ k → T.getD k false = false
  mp : ∀ k : Nat, 1 ≤ k → k ≤ n → (mget es k = if T.getD k false then some (k : Int) else none)
  kd : (es.map (·.1)).Nodup
  sum : back.length + es.length + 1 = next
  ln : es.length = (takenTo T n).length
def IsFree (T : List Bool) (y : Option Nat) : Prop := match y with
  | none => ∀ k, 1 ≤ k → k < T.length → T.getD k false = true
  | some k => 1 ≤ k ∧ k < T.length ∧ T.getD k false = false ∧ ∀ j, 1 ≤ j → j < k → T.getD j false = true
theorem IsFree.eq {T : List Bool} {y z : Option Nat} (h : IsFree T y) (h' : IsFree T z) : y = z := by
  cases y with
  | none => cases z with
    | none => rfl
    | some k => have := h k h'.1 h'.2.1; rw [h'.2.2.1] at this; cases this
  | some k => cases z with
    | none => have := h' k h.1 h.2.1; rw [h.2.2.1] at this; cases this
    | some j =>
      rcases Nat.lt_trichotomy k j with c | c | c
      · have := h'.2.2.2 k h.1 c; rw [h.2.2.1] at this; cases this
      · rw [c]
      · have := h.2.2.2 j h'.1 c; rw [h'.2.2.1] at this; cases this
def tookT (T : List Bool) : Option Nat → List Bool
  | none => T
  | some k => T.set k true
theorem getD_set {T : List Bool} {k j : Nat} {b : Bool} (hk : k < T.length) : (T.set k b).getD j false = if j = k then b else T.getD j false := by
  by_cases h : j = k
  · subst h; simp [List.getD, hk]
  · rw [if_neg h]; simp only [List.getD]; rw [List.getElem?_set_ne (Ne.symm h)]
theorem takenTo_set_gt {T : List Bool} {k : Nat} {b : Bool} (hk : k < T.length) : ∀ m, m < k → takenTo (T.set k b) m = takenTo T m
  | 0, _ => rfl
  | m + 1, h => by
    have e : (T.set k b).getD (m + 1) false = T.getD (m + 1) false := by rw [getD_set hk, if_neg (by omega)]
    rw [takenTo, takenTo, takenTo_set_gt hk m (by omega), e]
theorem takenTo_set_len {T : List Bool} {k : Nat} (hk : k < T.length) (h1 : 1 ≤ k) (hf : T.getD k false = false) : ∀ m, k ≤ m → (takenTo (T.set k true) m).length = (takenTo T m).length + 1
  | 0, h => by omega
  | m + 1, h => by
    rw [takenTo, takenTo, List.length_append, List.length_append, getD_set hk]
    by_cases e : m + 1 = k
    · rw [if_pos e, takenTo_set_gt hk m (by omega), e, hf]; simp
    · rw [if_neg e, takenTo_set_len hk h1 hf m (by omega)]; omega
theorem takenTo_unset_len {T : List Bool} {k : Nat} (hk : k < T.length) (h1 : 1 ≤ k) (hf : T.getD k false = true) (m : Nat) (hm : k ≤ m) : (takenTo (T.set k false) m).length + 1 = (takenTo T m).length := by
  have := takenTo_set_len (T := T.set k false) (k := k) (by simpa using hk) h1 (by rw [getD_set hk, if_pos rfl]) m hm
  rw [List.set_set] at this
  have e : T.set k true = T := by
    apply List.ext_getElem?
    intro j
    by_cases c : j = k
    · subst c
      simp only [List.getD, hk, List.getElem?_eq_getElem, Option.getD_some] at hf
      simp [hk, hf]
    · rw [List.getElem?_set_ne (Ne.symm c)]
  rw [e] at this
  omega
/-- The same number of elements, then the same. -/
theorem takenTo_mem {T : List Bool} {x : Int} : ∀ m, x ∈ takenTo T m ↔ ∃ k : Nat, x = k ∧ 1 ≤ k ∧ k ≤ m ∧ T.getD k false = true
  | 0 => by simp [takenTo]; intro k _ h1 h2; omega
  | m + 1 => by
    rw [takenTo, List.mem_append, takenTo_mem m]
    constructor
    · rintro (⟨k, a, b, c, d⟩ | h)
      · exact ⟨k, a, b, by omega, d⟩
      · split at h
        · rename_i e; exact ⟨m + 1, by simpa using h, by omega, Nat.le_refl _, e⟩
        · cases h
    · rintro ⟨k, a, b, c, d⟩
      by_cases e : k = m + 1
      · subst e; right; rw [if_pos d]; simp [a]
      · left; exact ⟨k, a, b, by omega, d⟩
theorem takenTo_length (T : List Bool) : ∀ k, (takenTo T k).length ≤ k
  | 0 => Nat.le_refl _
  | k + 1 => by
    have := takenTo_length T k
    rw [takenTo, List.length_append]
    split <;> simp <;> omega
theorem takenTo_above {T : List Bool} {m : Nat} (h : ∀ k, m < k → T.getD k false = false) : ∀ d, takenTo T (m + d) = takenTo T m
  | 0 => rfl
  | d + 1 => by rw [← Nat.add_assoc, takenTo, takenTo_above h d, h (m + d + 1) (by omega)]; simp
theorem takenTo_rep (n : Nat) : ∀ m, takenTo (List.replicate n false) m = []
  | 0 => rfl
  | m + 1 => by
    rw [takenTo, takenTo_rep n m]
    have : (List.replicate n false).getD (m + 1) false = false := by simp [List.getD, List.getElem?_replicate]; split <;> rfl
    rw [this]; rfl
theorem getD_rep (n m : Nat) : (List.replicate n false).getD m false = false := by simp [List.getD, List.getElem?_replicate]; split <;> rfl

theorem IdsInv.new {n : Nat} (h1 : 1 ≤ n) (h2 : n ≤ 65535) : IdsInv n (List.replicate (n + 1) false) 1 [] [] where
  n1 := h1
  n2 := h2
  len := by simp
  nx := ⟨by omega, by omega⟩
  hp := fun i _ h => by simp at h
  nd := List.nodup_nil
  bk := fun x h => by cases h
  fr := fun k _ _ => by omega
  hi := fun k _ => getD_rep _ _
  mp := fun k _ _ => by rw [getD_rep]; rfl
  kd := List.nodup_nil
  sum := rfl
  ln := by rw [takenTo_rep]; rfl
section
variable {n : Nat} {T : List Bool} {next : Nat} {back : List Int} {es : List (Int × Int)}
theorem IdsInv.out (I : IdsInv n T next back es) {k : Nat} (h : ¬ k < T.length) : T.getD k false = false := by
  simp only [List.getD]; rw [List.getElem?_eq_none (by omega)]; rfl
/-- From those that came back. -/
theorem IdsInv.pop (I : IdsInv n T next back es) (h0 : 0 < back.length) : ∃ k : Nat, hpopV ltI back = k ∧ IsFree T (some k) ∧ IdsInv n (T.set k true) next (hpopL ltI back) (mput es k k) := by
  have hp := hpopL_perm (lt := ltI) back h0
  have hv := hpopV_eq (lt := ltI) back h0
  have hm : nth back 0 ∈ back := by rw [nth_eq h0]; exact List.getElem_mem _
  obtain ⟨k, hk, k1, k2, k3⟩ := I.bk _ hm
  have hn := I.len
  have hnx := I.nx
  have hkl : k < T.length := by omega
  have nd := hp.nodup_iff.2 I.nd
  rw [List.nodup_append] at nd
  have hlen : (hpopL ltI back).length + 1 = back.length := by have := hp.length_eq; simpa using this
  have hnone : mget es k = none := by rw [I.mp k k1 (by omega), k3]; rfl
  obtain ⟨p1, p2, p3⟩ := mkeys_put k k es I.kd
  rw [hnone, if_pos rfl] at p3
  refine ⟨k, by rw [hv, hk], ⟨k1, hkl, k3, fun j j1 j2 => ?_⟩, ?_⟩
  · cases e : T.getD j false with
    | true => rfl
    | false =>
      have := heap_first ltI_ok (by simp [ltI]) back I.hp _ (I.fr j j1 (by omega) e)
      rw [hk] at this
      simp [ltI] at this
      omega
  · refine ⟨I.n1, I.n2, by simpa using I.len, I.nx, hpopL_heap ltI_ok back h0 I.hp, nd.1, fun x hx => ?_, fun j j1 j2 j3 => ?_, fun j hj => ?_, fun j j1 j2 => ?_, p1, ?_, ?_⟩
    · obtain ⟨j, e, j1, j2, j3⟩ := I.bk x (hp.mem_iff.1 (List.mem_append_left _ hx))
      refine ⟨j, e, j1, j2, ?_⟩
      rw [getD_set hkl, if_neg ?_]
      · exact j3
      · intro c
        subst c
        exact nd.2.2 x hx (nth back 0) (by simp) (by rw [e, hk])
    · rw [getD_set hkl] at j3
      split at j3
      · cases j3
      · rename_i c
        have := hp.mem_iff.2 (I.fr j j1 j2 j3)
        rw [hk] at this
        rcases List.mem_append.1 this with h | h
        · exact h
        · simp at h; omega
    · rw [getD_set hkl, if_neg (by omega)]; exact I.hi j hj
    · rw [mget_mput, getD_set hkl, I.mp j j1 j2]
      by_cases c : j = k
      · subst c; simp
      · rw [if_neg c, if_neg (by omega)]
    · have := I.sum; omega
    · rw [p3, takenTo_set_len hkl k1 k3 n (by omega), I.ln]
/-- The next one. -/
theorem IdsInv.step (I : IdsInv n T next [] es) (h : next ≤ n) : IsFree T (some next) ∧ IdsInv n (T.set next true) (next + 1) [] (mput es next next) := by
  have hn := I.len
  have hnx := I.nx
  have hkl : next < T.length := by omega
  have k3 := I.hi next (Nat.le_refl _)
  have hnone : mget es next = none := by rw [I.mp next hnx.1 h, k3]; rfl
  obtain ⟨p1, p2, p3⟩ := mkeys_put next next es I.kd
  rw [hnone, if_pos rfl] at p3
  have hall : ∀ j, 1 ≤ j → j < next → T.getD j false = true := fun j j1 j2 => by
    cases e : T.getD j false with
    | true => rfl
    | false => have := I.fr j j1 j2 e; cases this
  refine ⟨⟨hnx.1, hkl, k3, hall⟩, I.n1, I.n2, by simpa using I.len, ⟨by omega, by omega⟩, I.hp, I.nd, (fun x hx => by cases hx), fun j j1 j2 j3 => ?_, fun j hj => ?_, fun j j1 j2 => ?_, p1, ?_, ?_⟩
  · rw [getD_set hkl] at j3
    split at j3
    · cases j3
    · rw [hall j j1 (by omega)] at j3; cases j3
  · rw [getD_set hkl, if_neg (by omega)]; exact I.hi j (by omega)
  · rw [mget_mput, getD_set hkl, I.mp j j1 j2]
    by_cases c : j = next
    · subst c; simp
    · rw [if_neg c, if_neg (by omega)]
  · have := I.sum; simp at this ⊢; omega
  · rw [p3, takenTo_set_len hkl hnx.1 k3 n h, I.ln]
theorem IdsInv.full (I : IdsInv n T next [] es) (h : n < next) : IsFree T none := fun k k1 k2 => by
  have hn := I.len
  cases e : T.getD k false with
  | true => rfl
  | false => have := I.fr k k1 (by omega) e; cases this
/-- One comes back. -/
theorem IdsInv.give (I : IdsInv n T next back es) {k : Nat} (k1 : 1 ≤ k) (k2 : k ≤ n) (k3 : T.getD k false = true) : IdsInv n (T.set k false) next (upL ltI (back ++ [(k : Int)]) back.length) (mdel es k) := by
  have hn := I.len
  have hkl : k < T.length := by omega
  have hp := hpush_perm (lt := ltI) back (k : Int)
  have hlen := hp.length_eq
  rw [List.length_append, List.length_singleton] at hlen
  have hsome : mget es k = some (k : Int) := by rw [I.mp k k1 k2, k3]; rfl
  obtain ⟨p1, p2, p3, p4⟩ := mkeys_del k es I.kd
  rw [hsome, if_neg (by simp)] at p3
  have hlt : k < next := by
    rcases Nat.lt_or_ge k next with c | c
    · exact c
    · rw [I.hi k c] at k3; cases k3
  have hnb : (k : Int) ∉ back := fun c => by
    obtain ⟨j, e, _, _, j3⟩ := I.bk _ c
    obtain rfl : k = j := by omega
    rw [j3] at k3; cases k3
  refine ⟨I.n1, I.n2, by simpa using I.len, I.nx, by rw [hlen]; exact hpush_heap ltI_ok back _ I.hp, ?_, fun x hx => ?_, fun j j1 j2 j3 => ?_, fun j hj => ?_, fun j j1 j2 => ?_, p1, ?_, ?_⟩
  · rw [hp.nodup_iff, List.nodup_append]
    exact ⟨I.nd, by simp, fun a ha b hb => by simp at hb; subst hb; intro c; subst c; exact hnb ha⟩
  · rcases List.mem_append.1 (hp.mem_iff.1 hx) with h | h
    · obtain ⟨j, e, j1, j2, j3⟩ := I.bk x h
      refine ⟨j, e, j1, j2, ?_⟩
      rw [getD_set hkl]; split
      · rfl
      · exact j3
    · exact ⟨k, by simpa using h, k1, hlt, by rw [getD_set hkl, if_pos rfl]⟩
  · rw [hp.mem_iff, List.mem_append]
    by_cases c : j = k
    · subst c; right; simp
    · rw [getD_set hkl, if_neg c] at j3
      exact .inl (I.fr j j1 j2 j3)
  · rw [getD_set hkl]; split
    · rfl
    · exact I.hi j hj
  · rw [p4, getD_set hkl, I.mp j j1 j2]
    by_cases c : j = k
    · subst c; simp
    · rw [if_neg c, if_neg (by omega)]
  · have := I.sum; omega
  · have := takenTo_unset_len hkl k1 k3 n k2
    have := I.ln
    omega
end
end Go.Sx
