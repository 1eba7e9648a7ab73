/-
  Rising rows of numbers: where one stands, putting one in, taking one out. Plain lists.
-/
import Derived.Test.YtmlcikcdegodaaaDoorSxK
set_option linter.unusedSimpArgs false
set_option linter.unusedVariables false
namespace Go.Sx
open Go

def Asc (l : List Int) : Prop := l.Pairwise (· < ·)
/-- k is where t stands, or would. -/
def Lb (l : List Int) (t : Int) (k : Nat) : Prop := k ≤ l.length ∧ (∀ j (h : j < l.length), j < k → l[j] < t) ∧ ∀ j (h : j < l.length), k ≤ j → t ≤ l[j]
theorem Lb.eq {l : List Int} {t : Int} {k k' : Nat} (h : Lb l t k) (h' : Lb l t k') : k = k' := by
  obtain ⟨a1, a2, a3⟩ := h
  obtain ⟨b1, b2, b3⟩ := h'
  rcases Nat.lt_trichotomy k k' with c | c | c
  · have := a3 k (by omega) (Nat.le_refl _)
    have := b2 k (by omega) c
    omega
  · exact c
  · have := a2 k' (by omega) c
    have := b3 k' (by omega) (Nat.le_refl _)
    omega
theorem asc_lt {l : List Int} (h : Asc l) {i j : Nat} (hj : j < l.length) (hij : i < j) : l[i] < l[j] := List.pairwise_iff_getElem.1 h i j (by omega) hj hij
theorem lb_mem {l : List Int} {t : Int} {k : Nat} (ha : Asc l) (h : Lb l t k) : t ∈ l ↔ l[k]? = some t := by
  constructor
  · intro hm
    obtain ⟨j, hj, e⟩ := List.getElem_of_mem hm
    obtain ⟨a1, a2, a3⟩ := h
    rcases Nat.lt_trichotomy j k with c | c | c
    · have := a2 j hj c; omega
    · subst c; rw [List.getElem?_eq_getElem hj, e]
    · have h1 := a3 k (by omega) (Nat.le_refl _)
      have h2 := asc_lt ha hj c
      omega
  · intro e; exact List.mem_of_getElem? e
def putIn (l : List Int) (k : Nat) (t : Int) : List Int := l.take k ++ t :: l.drop k
def takeOut (l : List Int) (k : Nat) : List Int := l.take k ++ l.drop (k + 1)
theorem putIn_length {l : List Int} {k : Nat} {t : Int} (h : k ≤ l.length) : (putIn l k t).length = l.length + 1 := by simp [putIn]; omega
theorem takeOut_length {l : List Int} {k : Nat} (h : k < l.length) : (takeOut l k).length = l.length - 1 := by simp [takeOut]; omega
theorem mem_putIn {l : List Int} {k : Nat} {t x : Int} : x ∈ putIn l k t ↔ x = t ∨ x ∈ l := by
  have e : x ∈ l ↔ x ∈ l.take k ∨ x ∈ l.drop k := by rw [← List.mem_append, List.take_append_drop]
  simp only [putIn, List.mem_append, List.mem_cons, e]
  constructor
  · rintro (h | h | h)
    · exact .inr (.inl h)
    · exact .inl h
    · exact .inr (.inr h)
  · rintro (h | h | h)
    · exact .inr (.inl h)
    · exact .inl h
    · exact .inr (.inr h)
theorem mem_takeOut {l : List Int} {k : Nat} {x : Int} (h : x ∈ takeOut l k) : x ∈ l := by
  rcases List.mem_append.1 h with h | h
  · exact List.mem_of_mem_take h
  · exact List.mem_of_mem_drop h
theorem take_lt {l : List Int} {t : Int} {k : Nat} (h : Lb l t k) : ∀ a ∈ l.take k, a < t := by
  intro a ha
  obtain ⟨j, hj, e⟩ := List.getElem_of_mem ha
  have hj' : j < k ∧ j < l.length := by simp at hj; omega
  rw [List.getElem_take] at e
  rw [← e]
  exact h.2.1 j hj'.2 hj'.1
theorem drop_ge {l : List Int} {t : Int} {k : Nat} (h : Lb l t k) : ∀ a ∈ l.drop k, t ≤ a := by
  intro a ha
  obtain ⟨j, hj, e⟩ := List.getElem_of_mem ha
  have hj' : k + j < l.length := by simp at hj; omega
  rw [List.getElem_drop] at e
  rw [← e]
  exact h.2.2 (k + j) hj' (by omega)
theorem asc_put {l : List Int} {k : Nat} {t : Int} (ha : Asc l) (h : Lb l t k) (hn : t ∉ l) : Asc (putIn l k t) := by
  have hd : ∀ b ∈ l.drop k, t < b := fun b hb => by
    have := drop_ge h b hb
    have : t ≠ b := fun e => hn (by rw [e]; exact List.mem_of_mem_drop hb)
    omega
  unfold Asc putIn
  rw [List.pairwise_append]
  refine ⟨List.Pairwise.sublist (List.take_sublist _ _) ha, ?_, ?_⟩
  · rw [List.pairwise_cons]
    exact ⟨hd, List.Pairwise.sublist (List.drop_sublist _ _) ha⟩
  · intro a h1 b h2
    have := take_lt h a h1
    rcases List.mem_cons.1 h2 with rfl | h2
    · exact this
    · have := hd b h2; omega
theorem takeOut_eq (l : List Int) (k : Nat) : takeOut l k = l.eraseIdx k := by rw [takeOut, List.eraseIdx_eq_take_drop_succ]
theorem asc_out {l : List Int} {k : Nat} (ha : Asc l) : Asc (takeOut l k) := by
  rw [takeOut_eq]
  exact List.Pairwise.sublist (List.eraseIdx_sublist _ _) ha
theorem not_mem_takeOut {l : List Int} {k : Nat} {t : Int} (ha : Asc l) (h : l[k]? = some t) : t ∉ takeOut l k := by
  obtain ⟨hk, e⟩ := List.getElem?_eq_some_iff.1 h
  intro hm
  rcases List.mem_append.1 hm with hm | hm
  · obtain ⟨j, hj, e'⟩ := List.getElem_of_mem hm
    have hj' : j < k ∧ j < l.length := by simp at hj; omega
    rw [List.getElem_take] at e'
    have := asc_lt ha hk hj'.1
    omega
  · obtain ⟨j, hj, e'⟩ := List.getElem_of_mem hm
    have hj' : k + 1 + j < l.length := by simp at hj; omega
    rw [List.getElem_drop] at e'
    have := asc_lt ha hj' (show k < k + 1 + j by omega)
    omega
theorem split_at {l : List Int} {k : Nat} {t : Int} (h : l[k]? = some t) : l = l.take k ++ t :: l.drop (k + 1) := by
  obtain ⟨hk, e⟩ := List.getElem?_eq_some_iff.1 h
  rw [← e, ← List.drop_eq_getElem_cons hk, List.take_append_drop]
theorem filter_out {l : List Int} {k : Nat} {t : Int} (ha : Asc l) (h : l[k]? = some t) : l.filter (fun x => !decide (x = t)) = takeOut l k := by
  have hn := not_mem_takeOut ha h
  have e1 : ∀ x ∈ l.take k, (!decide (x = t)) = true := fun x hx => by
    have : x ≠ t := fun e => hn (by rw [← e]; exact List.mem_append_left _ hx)
    simp [this]
  have e2 : ∀ x ∈ l.drop (k + 1), (!decide (x = t)) = true := fun x hx => by
    have : x ≠ t := fun e => hn (by rw [← e]; exact List.mem_append_right _ hx)
    simp [this]
  rw [congrArg (List.filter _) (split_at h), List.filter_append, List.filter_cons, List.filter_eq_self.2 e1, List.filter_eq_self.2 e2]
  simp [takeOut]
theorem filter_no {l : List Int} {t : Int} (h : t ∉ l) : l.filter (fun x => !decide (x = t)) = l := List.filter_eq_self.2 fun x hx => by
  have : x ≠ t := fun e => h (by rw [← e]; exact hx)
  simp [this]
theorem mem_takeOut_ne {l : List Int} {k : Nat} {t x : Int} (h : l[k]? = some t) (hx : x ∈ l) (hne : x ≠ t) : x ∈ takeOut l k := by
  rw [split_at h] at hx
  rcases List.mem_append.1 hx with hx | hx
  · exact List.mem_append_left _ hx
  · rcases List.mem_cons.1 hx with hx | hx
    · exact absurd hx hne
    · exact List.mem_append_right _ hx

/-! ### rows of plain numbers -/
def intC (k : Int) : List Value := [.int .i64 k]
def ints (l : List Int) : List Value := l.map (Value.int .i64)
theorem ints_fm (l : List Int) : l.flatMap intC = ints l := by
  induction l with
  | nil => rfl
  | cons a l ih => rw [List.flatMap_cons, ih]; simp [ints, intC]
theorem ints_length (l : List Int) : (ints l).length = l.length * 1 := by simp [ints]
theorem ints_len (l : List Int) : (ints l).length = l.length := by simp [ints]
theorem ints_one (l : List Int) : (ints l).all (·.oneCell') = true := by simp [ints, Value.oneCell']
theorem ints_get {l : List Int} {k : Nat} (h : k < l.length) : (ints l)[k]? = some (.int .i64 l[k]) := by simp [ints, h]
theorem ints_snoc (l : List Int) (k : Int) : ints (l ++ [k]) = ints l ++ [.int .i64 k] := by simp [ints]
theorem ints_append (l m : List Int) : ints (l ++ m) = ints l ++ ints m := by simp [ints]
theorem ints_take (l : List Int) (k : Nat) : ints (l.take k) = (ints l).take k := by simp [ints]
theorem ints_drop (l : List Int) (k : Nat) : ints (l.drop k) = (ints l).drop k := by simp [ints]

/-! ### sixteen places, a number, a mark -/
structure InC (C : List Value) (l : List Int) : Prop where
  len : C.length = 18
  one : C.all (·.oneCell') = true
  cnt : C[16]? = some (.int .i64 l.length)
  made : C[17]? = some (.bool true)
  at_ : ∀ j (h : j < l.length), C[j]? = some (.int .i64 l[j])
theorem all_set {C : List Value} {k : Nat} {v : Value} (h : C.all (·.oneCell') = true) (hv : v.oneCell' = true) : (C.set k v).all (·.oneCell') = true := by
  simp only [List.all_eq_true] at h ⊢
  intro x hx
  rcases List.mem_or_eq_of_mem_set hx with hx | rfl
  · exact h x hx
  · exact hv
theorem putIn_get {l : List Int} {k : Nat} {t : Int} (hk : k ≤ l.length) (j : Nat) : (putIn l k t)[j]? = if j < k then l[j]? else if j = k then some t else l[j - 1]? := by
  unfold putIn
  have e1 : (l.take k).length = k := by simp; omega
  rw [List.getElem?_append, e1]
  split
  · rename_i h; rw [List.getElem?_take, if_pos h]
  · rename_i h
    split
    · rename_i h'; subst h'; simp
    · rename_i h'
      obtain ⟨m, rfl⟩ : ∃ m, j = k + m + 1 := ⟨j - k - 1, by omega⟩
      rw [show k + m + 1 - k = m + 1 by omega, List.getElem?_cons_succ, List.getElem?_drop]
      congr 1
theorem takeOut_get {l : List Int} {k : Nat} (hk : k < l.length) (j : Nat) : (takeOut l k)[j]? = if j < k then l[j]? else l[j + 1]? := by
  unfold takeOut
  have e1 : (l.take k).length = k := by simp; omega
  rw [List.getElem?_append, e1]
  split
  · rename_i h; rw [List.getElem?_take, if_pos h]
  · rename_i h
    rw [List.getElem?_drop]
    congr 1; omega
theorem inc_at {C : List Value} {l : List Int} (h : InC C l) {j : Nat} {x : Int} (e : l[j]? = some x) : C[j]? = some (.int .i64 x) := by
  obtain ⟨hj, rfl⟩ := List.getElem?_eq_some_iff.1 e
  exact h.at_ j hj
theorem inc_put {C : List Value} {l : List Int} {k : Nat} {t : Int} (h : InC C l) (hl : l.length ≤ 15) (hk : k ≤ l.length) : InC (((moved C (k + 1) k (l.length - k)).set k (.int .i64 t)).set 16 (.int .i64 (l.length + 1))) (putIn l k t) := by
  have hL := h.len
  have h1 : k + 1 + (l.length - k) ≤ C.length := by omega
  have h2 : k + (l.length - k) ≤ C.length := by omega
  have hm := moved_length h1 h2
  refine ⟨by simp [hm, hL], all_set (all_set (moved_one h.one) rfl) rfl, ?_, ?_, fun j hj => ?_⟩
  · rw [List.getElem?_set_self (by simp; omega), putIn_length hk]; rfl
  · rw [List.getElem?_set_ne (by omega), List.getElem?_set_ne (by omega), moved_get h1 h2, if_neg (by omega), if_neg (by omega)]
    exact h.made
  · rw [putIn_length hk] at hj
    have hp := putIn_get (t := t) hk j
    rw [List.getElem?_eq_getElem (by rw [putIn_length hk]; exact hj)] at hp
    rw [List.getElem?_set_ne (by omega)]
    by_cases c1 : j < k
    · rw [if_pos c1] at hp
      rw [List.getElem?_set_ne (by omega), moved_get h1 h2, if_pos (by omega)]
      exact inc_at h hp.symm
    · rw [if_neg c1] at hp
      by_cases c2 : j = k
      · rw [if_pos c2] at hp
        subst c2
        have hp' := Option.some.inj hp
        rw [List.getElem?_set_self (by omega), hp']
      · rw [if_neg c2] at hp
        rw [List.getElem?_set_ne (by omega), moved_get h1 h2, if_neg (by omega), if_pos (by omega)]
        rw [show j - (k + 1) + k = j - 1 by omega]
        exact inc_at h hp.symm
theorem inc_out {C : List Value} {l : List Int} {k : Nat} (h : InC C l) (hl : l.length ≤ 16) (hk : k < l.length) : InC ((moved C k (k + 1) (l.length - (k + 1))).set 16 (.int .i64 (l.length - 1 : Nat))) (takeOut l k) := by
  have hL := h.len
  have h1 : k + (l.length - (k + 1)) ≤ C.length := by omega
  have h2 : k + 1 + (l.length - (k + 1)) ≤ C.length := by omega
  have hm := moved_length h1 h2
  refine ⟨by simp [hm, hL], all_set (moved_one h.one) rfl, ?_, ?_, fun j hj => ?_⟩
  · rw [List.getElem?_set_self (by omega), takeOut_length hk]
  · rw [List.getElem?_set_ne (by omega), moved_get h1 h2, if_neg (by omega), if_neg (by omega)]
    exact h.made
  · rw [takeOut_length hk] at hj
    have hp := takeOut_get hk j
    rw [List.getElem?_eq_getElem (by rw [takeOut_length hk]; exact hj)] at hp
    rw [List.getElem?_set_ne (by omega), moved_get h1 h2]
    by_cases c1 : j < k
    · rw [if_pos c1] at hp ⊢
      exact inc_at h hp.symm
    · rw [if_neg c1] at hp ⊢
      rw [if_pos (by omega), show j - k + (k + 1) = j + 1 by omega]
      exact inc_at h hp.symm
theorem inc_clear {C : List Value} {l : List Int} (h : InC C l) : InC (C.set 16 (.int .i64 0)) [] := by
  have hL := h.len
  refine ⟨by simp [hL], all_set h.one rfl, ?_, ?_, fun j hj => by simp at hj⟩
  · rw [List.getElem?_set_self (by omega)]; rfl
  · rw [List.getElem?_set_ne (by omega)]; exact h.made
end Go.Sx
