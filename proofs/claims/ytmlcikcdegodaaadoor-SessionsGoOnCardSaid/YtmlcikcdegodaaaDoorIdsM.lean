/-
  The plain law of the numbers that are free: a heap of those that came back, a map of those that are taken, against a row of bools.
-/
import Derived.Test.YtmlcikcdegodaaaDoorMapM
import Derived.Test.YtmlcikcdegodaaaDoorHeapM
import Derived.Test.YtmlcikcdegodaaaDoorInbM
set_option linter.unusedSimpArgs false
set_option linter.unusedVariables false
namespace Go.Sx

def ltI (a b : Int) : Bool := decide (a < b)
theorem ltI_ok : LtOk ltI := ⟨fun h => by simp [ltI] at h ⊢; omega, fun h1 h2 => by simp [ltI] at h1 h2 ⊢; omega⟩
theorem downL_none {α : Type} [Inhabited α] {lt : α → α → Bool} (l : List α) : downL lt l 0 0 = (l, 0) := by rw [downL, dif_neg (by omega)]
theorem downL_length {α : Type} [Inhabited α] {lt : α → α → Bool} (l : List α) (n : Nat) (hn : n ≤ l.length) : (downL lt l n 0).1.length = l.length := by
  by_cases h : n = 0
  · subst h; rw [downL_none]
  · exact (downL_all l n 0 hn (by omega)).1

/-! ### heaps: what a pop and a push leave -/
section
variable {α : Type} [Inhabited α] {lt : α → α → Bool}
def hpopL (lt : α → α → Bool) (l : List α) : List α := ((downL lt (swp l 0 (l.length - 1)) (l.length - 1) 0).1).take (l.length - 1)
def hpopV (lt : α → α → Bool) (l : List α) : α := nth (downL lt (swp l 0 (l.length - 1)) (l.length - 1) 0).1 (l.length - 1)
theorem hpopV_eq (l : List α) (h0 : 0 < l.length) : hpopV lt l = nth l 0 := by
  unfold hpopV
  obtain ⟨k, hk⟩ : ∃ k, l.length = k + 1 := ⟨l.length - 1, by omega⟩
  rw [show l.length - 1 = k by omega]
  have e : nth (downL lt (swp l 0 k) k 0).1 k = nth (swp l 0 k) k := by
    rcases Nat.eq_zero_or_pos k with rfl | hp
    · rw [downL_none]
    · exact (downL_all (lt := lt) (swp l 0 k) k 0 (by rw [swp_length]; omega) hp).2.2.2 k (Nat.le_refl _)
  rw [e, nth_swp (by omega) (by omega), if_pos rfl]
theorem hpopL_perm (l : List α) (h0 : 0 < l.length) : (hpopL lt l ++ [nth l 0]).Perm l := by
  rw [← hpopV_eq (lt := lt) l h0]
  unfold hpopL hpopV
  obtain ⟨k, hk⟩ : ∃ k, l.length = k + 1 := ⟨l.length - 1, by omega⟩
  rw [show l.length - 1 = k by omega]
  have hlen : (downL lt (swp l 0 k) k 0).1.length = k + 1 := by rw [downL_length _ _ (by rw [swp_length]; omega), swp_length, hk]
  have hp : (downL lt (swp l 0 k) k 0).1.Perm (swp l 0 k) := by
    rcases Nat.eq_zero_or_pos k with rfl | hp
    · rw [downL_none]
    · exact (downL_all (lt := lt) (swp l 0 k) k 0 (by rw [swp_length]; omega) hp).2.1
  generalize (downL lt (swp l 0 k) k 0).1 = d at hlen hp
  have e : d.take k ++ [nth d k] = d := by
    rw [nth_eq (by omega)]
    have := List.take_append_drop k d
    rw [List.drop_eq_getElem_cons (by omega), List.drop_eq_nil_of_le (by omega)] at this
    exact this
  rw [e]
  exact hp.trans (swp_perm (by omega) (by omega))
theorem nth_take {l : List α} {n k : Nat} (h : k < n) : nth (l.take n) k = nth l k := by
  simp only [nth, List.getD, List.getElem?_take, if_pos h]
theorem hpopL_heap (ok : LtOk lt) (l : List α) (h0 : 0 < l.length) (h : HeapN lt l l.length) : HeapN lt (hpopL lt l) (hpopL lt l).length := by
  unfold hpopL
  obtain ⟨k, hk⟩ : ∃ k, l.length = k + 1 := ⟨l.length - 1, by omega⟩
  rw [show l.length - 1 = k by omega]
  have hlen : (downL lt (swp l 0 k) k 0).1.length = k + 1 := by rw [downL_length _ _ (by rw [swp_length]; omega), swp_length, hk]
  have hl2 : ((downL lt (swp l 0 k) k 0).1.take k).length = k := by rw [List.length_take]; omega
  rw [hl2]
  intro i i1 i2
  have hkp : 0 < k := by omega
  have hh := downL_heap ok (swp l 0 k) k 0 (by rw [swp_length]; omega) hkp ⟨fun j j1 j2 j3 j4 => ?_, fun j _ _ _ c => by omega⟩ (fun c => by omega)
  · rw [nth_take i2, nth_take (by simp only [par]; omega)]
    exact hh i i1 i2
  · rw [nth_swp (by omega) (by omega), nth_swp (by omega) (by omega), if_neg (by omega), if_neg (by omega), if_neg (by simp only [par]; omega), if_neg (by omega)]
    exact h j j1 (by omega)
theorem hpush_heap (ok : LtOk lt) (l : List α) (a : α) (h : HeapN lt l l.length) : HeapN lt (upL lt (l ++ [a]) l.length) (l.length + 1) := by
  refine upL_heap ok _ _ _ (by simp) (by omega) ⟨fun i i1 i2 i3 => ?_, fun i i1 i2 i3 i4 => ?_⟩
  · have e : ∀ j, j < l.length → nth (l ++ [a]) j = nth l j := fun j hj => by simp only [nth, List.getD]; rw [List.getElem?_append_left hj]
    rw [e i (by omega), e (par i) (by simp only [par]; omega)]
    exact h i i1 (by omega)
  · simp only [par] at i3; omega
theorem hpush_perm (l : List α) (a : α) : (upL lt (l ++ [a]) l.length).Perm (l ++ [a]) := upL_perm _ _ (by simp)
theorem heap_first (ok : LtOk lt) (irr : ∀ a, lt a a = false) (l : List α) (h : HeapN lt l l.length) : ∀ x ∈ l, lt x (nth l 0) = false := fun x hx => by
  obtain ⟨k, hk, rfl⟩ := List.getElem_of_mem hx
  rw [← nth_eq hk]
  exact heap_least ok l l.length h irr k hk
end

/-! ### numbers that are free -/
/-- Those taken among 1..k, in order. -/
def takenTo (T : List Bool) : Nat → List Int
  | 0 => []
  | k + 1 => takenTo T k ++ (if T.getD (k + 1) false then [((k + 1 : Nat) : Int)] else [])
/-- What a hander-out of n has handed out: T. -/
structure IdsInv (n : Nat) (T : List Bool) (next : Nat) (back : List Int) (es : List (Int × Int)) : Prop where
  n1 : 1 ≤ n
  n2 : n ≤ 65535
  len : T.length = n + 1
  nx : 1 ≤ next ∧ next ≤ n + 1
  hp : HeapN ltI back back.length
  nd : back.Nodup
  bk : ∀ x ∈ back, ∃ k : Nat, x = k ∧ 1 ≤ k ∧ k < next ∧ T.getD k false = false
  fr : ∀ k, 1 ≤ k → k < next → T.getD k false = false → (k : Int) ∈ back
  hi : ∀ k, next ≤ k → T.getD k false = false
  mp : ∀ k : Nat, 1 ≤ k → k ≤ n → (mget es k = if T.getD k false then some (k : Int) else none)
  kd : (es.map (·.1)).Nodup
  sum : back.length + es.length + 1 = next
  ln : es.length = (takenTo T n).length
def IsFree (T : List Bool) (y : Option Nat) : Prop := match y with
  | none => ∀ k, 1 ≤ k → k < T.length → T.getD k false = true
  | some k => 1 ≤ k ∧ k < T.length ∧ T.getD k false = false ∧ ∀ j, 1 ≤ j → j < k → T.getD j false = true
theorem IsFree.eq {T : List Bool} {y z : Option Nat} (h : IsFree T y) (h' : IsFree T z) : y = z := by
  cases y with
  | none => cases z with
    | none => rfl
    | some k => have := h k h'.1 h'.2.1; rw [h'.2.2.1] at this; cases this
  | some k => cases z with
    | none => have := h' k h.1 h.2.1; rw [h.2.2.1] at this; cases this
    | some j =>
      rcases Nat.lt_trichotomy k j with c | c | c
      · have := h'.2.2.2 k h.1 c; rw [h.2.2.1] at this; cases this
      · rw [c]
      · have := h.2.2.2 j h'.1 c; rw [h'.2.2.1] at this; cases this
def tookT (T : List Bool) : Option Nat → List Bool
  | none => T
  | some k => T.set k true
theorem getD_set {T : List Bool} {k j : Nat} {b : Bool} (hk : k < T.length) : (T.set k b).getD j false = if j = k then b else T.getD j false := by
  by_cases h : j = k
  · subst h; simp [List.getD, hk]
  · rw [if_neg h]; simp only [List.getD]; rw [List.getElem?_set_ne (Ne.symm h)]
theorem takenTo_set_gt {T : List Bool} {k : Nat} {b : Bool} (hk : k < T.length) : ∀ m, m < k → takenTo (T.set k b) m = takenTo T m
  | 0, _ => rfl
  | m + 1, h => by
    have e : (T.set k b).getD (m + 1) false = T.getD (m + 1) false := by rw [getD_set hk, if_neg (by omega)]
    rw [takenTo, takenTo, takenTo_set_gt hk m (by omega), e]
theorem takenTo_set_len {T : List Bool} {k : Nat} (hk : k < T.length) (h1 : 1 ≤ k) (hf : T.getD k false = false) : ∀ m, k ≤ m → (takenTo (T.set k true) m).length = (takenTo T m).length + 1
  | 0, h => by omega
  | m + 1, h => by
    rw [takenTo, takenTo, List.length_append, List.length_append, getD_set hk]
    by_cases e : m + 1 = k
    · rw [if_pos e, takenTo_set_gt hk m (by omega), e, hf]; simp
    · rw [if_neg e, takenTo_set_len hk h1 hf m (by omega)]; omega
theorem takenTo_unset_len {T : List Bool} {k : Nat} (hk : k < T.length) (h1 : 1 ≤ k) (hf : T.getD k false = true) (m : Nat) (hm : k ≤ m) : (takenTo (T.set k false) m).length + 1 = (takenTo T m).length := by
  have := takenTo_set_len (T := T.set k false) (k := k) (by simpa using hk) h1 (by rw [getD_set hk, if_pos rfl]) m hm
  rw [List.set_set] at this
  have e : T.set k true = T := by
    apply List.ext_getElem?
    intro j
    by_cases c : j = k
    · subst c
      simp only [List.getD, hk, List.getElem?_eq_getElem, Option.getD_some] at hf
      simp [hk, hf]
    · rw [List.getElem?_set_ne (Ne.symm c)]
  rw [e] at this
  omega
/-- The same number of elements, then the same. -/
theorem takenTo_mem {T : List Bool} {x : Int} : ∀ m, x ∈ takenTo T m ↔ ∃ k : Nat, x = k ∧ 1 ≤ k ∧ k ≤ m ∧ T.getD k false = true
  | 0 => by simp [takenTo]; intro k _ h1 h2; omega
  | m + 1 => by
    rw [takenTo, List.mem_append, takenTo_mem m]
    constructor
    · rintro (⟨k, a, b, c, d⟩ | h)
      · exact ⟨k, a, b, by omega, d⟩
      · split at h
        · rename_i e; exact ⟨m + 1, by simpa using h, by omega, Nat.le_refl _, e⟩
        · cases h
    · rintro ⟨k, a, b, c, d⟩
      by_cases e : k = m + 1
      · subst e; right; rw [if_pos d]; simp [a]
      · left; exact ⟨k, a, b, by omega, d⟩
theorem takenTo_length (T : List Bool) : ∀ k, (takenTo T k).length ≤ k
  | 0 => Nat.le_refl _
  | k + 1 => by
    have := takenTo_length T k
    rw [takenTo, List.length_append]
    split <;> simp <;> omega
theorem takenTo_above {T : List Bool} {m : Nat} (h : ∀ k, m < k → T.getD k false = false) : ∀ d, takenTo T (m + d) = takenTo T m
  | 0 => rfl
  | d + 1 => by rw [← Nat.add_assoc, takenTo, takenTo_above h d, h (m + d + 1) (by omega)]; simp
theorem takenTo_rep (n : Nat) : ∀ m, takenTo (List.replicate n false) m = []
  | 0 => rfl
  | m + 1 => by
    rw [takenTo, takenTo_rep n m]
    have : (List.replicate n false).getD (m + 1) false = false := by simp [List.getD, List.getElem?_replicate]; split <;> rfl
    rw [this]; rfl
theorem getD_rep (n m : Nat) : (List.replicate n false).getD m false = false := by simp [List.getD, List.getElem?_replicate]; split <;> rfl

theorem IdsInv.new {n : Nat} (h1 : 1 ≤ n) (h2 : n ≤ 65535) : IdsInv n (List.replicate (n + 1) false) 1 [] [] where
  n1 := h1
  n2 := h2
  len := by simp
  nx := ⟨by omega, by omega⟩
  hp := fun i _ h => by simp at h
  nd := List.nodup_nil
  bk := fun x h => by cases h
  fr := fun k _ _ => by omega
  hi := fun k _ => getD_rep _ _
  mp := fun k _ _ => by rw [getD_rep]; rfl
  kd := List.nodup_nil
  sum := rfl
  ln := by rw [takenTo_rep]; rfl
section
variable {n : Nat} {T : List Bool} {next : Nat} {back : List Int} {es : List (Int × Int)}
theorem IdsInv.out (I : IdsInv n T next back es) {k : Nat} (h : ¬ k < T.length) : T.getD k false = false := by
  simp only [List.getD]; rw [List.getElem?_eq_none (by omega)]; rfl
/-- From those that came back. -/
theorem IdsInv.pop (I : IdsInv n T next back es) (h0 : 0 < back.length) : ∃ k : Nat, hpopV ltI back = k ∧ IsFree T (some k) ∧ IdsInv n (T.set k true) next (hpopL ltI back) (mput es k k) := by
  have hp := hpopL_perm (lt := ltI) back h0
  have hv := hpopV_eq (lt := ltI) back h0
  have hm : nth back 0 ∈ back := by rw [nth_eq h0]; exact List.getElem_mem _
  obtain ⟨k, hk, k1, k2, k3⟩ := I.bk _ hm
  have hn := I.len
  have hnx := I.nx
  have hkl : k < T.length := by omega
  have nd := hp.nodup_iff.2 I.nd
  rw [List.nodup_append] at nd
  have hlen : (hpopL ltI back).length + 1 = back.length := by have := hp.length_eq; simpa using this
  have hnone : mget es k = none := by rw [I.mp k k1 (by omega), k3]; rfl
  obtain ⟨p1, p2, p3⟩ := mkeys_put k k es I.kd
  rw [hnone, if_pos rfl] at p3
  refine ⟨k, by rw [hv, hk], ⟨k1, hkl, k3, fun j j1 j2 => ?_⟩, ?_⟩
  · cases e : T.getD j false with
    | true => rfl
    | false =>
      have := heap_first ltI_ok (by simp [ltI]) back I.hp _ (I.fr j j1 (by omega) e)
      rw [hk] at this
      simp [ltI] at this
      omega
  · refine ⟨I.n1, I.n2, by simpa using I.len, I.nx, hpopL_heap ltI_ok back h0 I.hp, nd.1, fun x hx => ?_, fun j j1 j2 j3 => ?_, fun j hj => ?_, fun j j1 j2 => ?_, p1, ?_, ?_⟩
    · obtain ⟨j, e, j1, j2, j3⟩ := I.bk x (hp.mem_iff.1 (List.mem_append_left _ hx))
      refine ⟨j, e, j1, j2, ?_⟩
      rw [getD_set hkl, if_neg ?_]
      · exact j3
      · intro c
        subst c
        exact nd.2.2 x hx (nth back 0) (by simp) (by rw [e, hk])
    · rw [getD_set hkl] at j3
      split at j3
      · cases j3
      · rename_i c
        have := hp.mem_iff.2 (I.fr j j1 j2 j3)
        rw [hk] at this
        rcases List.mem_append.1 this with h | h
        · exact h
        · simp at h; omega
    · rw [getD_set hkl, if_neg (by omega)]; exact I.hi j hj
    · rw [mget_mput, getD_set hkl, I.mp j j1 j2]
      by_cases c : j = k
      · subst c; simp
      · rw [if_neg c, if_neg (by omega)]
    · have := I.sum; omega
    · rw [p3, takenTo_set_len hkl k1 k3 n (by omega), I.ln]
/-- The next one. -/
theorem IdsInv.step (I : IdsInv n T next [] es) (h : next ≤ n) : IsFree T (some next) ∧ IdsInv n (T.set next true) (next + 1) [] (mput es next next) := by
  have hn := I.len
  have hnx := I.nx
  have hkl : next < T.length := by omega
  have k3 := I.hi next (Nat.le_refl _)
  have hnone : mget es next = none := by rw [I.mp next hnx.1 h, k3]; rfl
  obtain ⟨p1, p2, p3⟩ := mkeys_put next next es I.kd
  rw [hnone, if_pos rfl] at p3
  have hall : ∀ j, 1 ≤ j → j < next → T.getD j false = true := fun j j1 j2 => by
    cases e : T.getD j false with
    | true => rfl
    | false => have := I.fr j j1 j2 e; cases this
  refine ⟨⟨hnx.1, hkl, k3, hall⟩, I.n1, I.n2, by simpa using I.len, ⟨by omega, by omega⟩, I.hp, I.nd, (fun x hx => by cases hx), fun j j1 j2 j3 => ?_, fun j hj => ?_, fun j j1 j2 => ?_, p1, ?_, ?_⟩
  · rw [getD_set hkl] at j3
    split at j3
    · cases j3
    · rw [hall j j1 (by omega)] at j3; cases j3
  · rw [getD_set hkl, if_neg (by omega)]; exact I.hi j (by omega)
  · rw [mget_mput, getD_set hkl, I.mp j j1 j2]
    by_cases c : j = next
    · subst c; simp
    · rw [if_neg c, if_neg (by omega)]
  · have := I.sum; simp at this ⊢; omega
  · rw [p3, takenTo_set_len hkl hnx.1 k3 n h, I.ln]
theorem IdsInv.full (I : IdsInv n T next [] es) (h : n < next) : IsFree T none := fun k k1 k2 => by
  have hn := I.len
  cases e : T.getD k false with
  | true => rfl
  | false => have := I.fr k k1 (by omega) e; cases this
/-- One comes back. -/
theorem IdsInv.give (I : IdsInv n T next back es) {k : Nat} (k1 : 1 ≤ k) (k2 : k ≤ n) (k3 : T.getD k false = true) : IdsInv n (T.set k false) next (upL ltI (back ++ [(k : Int)]) back.length) (mdel es k) := by
  have hn := I.len
  have hkl : k < T.length := by omega
  have hp := hpush_perm (lt := ltI) back (k : Int)
  have hlen := hp.length_eq
  rw [List.length_append, List.length_singleton] at hlen
  have hsome : mget es k = some (k : Int) := by rw [I.mp k k1 k2, k3]; rfl
  obtain ⟨p1, p2, p3, p4⟩ := mkeys_del k es I.kd
  rw [hsome, if_neg (by simp)] at p3
  have hlt : k < next := by
    rcases Nat.lt_or_ge k next with c | c
    · exact c
    · rw [I.hi k c] at k3; cases k3
  have hnb : (k : Int) ∉ back := fun c => by
    obtain ⟨j, e, _, _, j3⟩ := I.bk _ c
    obtain rfl : k = j := by omega
    rw [j3] at k3; cases k3
  refine ⟨I.n1, I.n2, by simpa using I.len, I.nx, by rw [hlen]; exact hpush_heap ltI_ok back _ I.hp, ?_, fun x hx => ?_, fun j j1 j2 j3 => ?_, fun j hj => ?_, fun j j1 j2 => ?_, p1, ?_, ?_⟩
  · rw [hp.nodup_iff, List.nodup_append]
    exact ⟨I.nd, by simp, fun a ha b hb => by simp at hb; subst hb; intro c; subst c; exact hnb ha⟩
  · rcases List.mem_append.1 (hp.mem_iff.1 hx) with h | h
    · obtain ⟨j, e, j1, j2, j3⟩ := I.bk x h
      refine ⟨j, e, j1, j2, ?_⟩
      rw [getD_set hkl]; split
      · rfl
      · exact j3
    · exact ⟨k, by simpa using h, k1, hlt, by rw [getD_set hkl, if_pos rfl]⟩
  · rw [hp.mem_iff, List.mem_append]
    by_cases c : j = k
    · subst c; right; simp
    · rw [getD_set hkl, if_neg c] at j3
      exact .inl (I.fr j j1 j2 j3)
  · rw [getD_set hkl]; split
    · rfl
    · exact I.hi j hj
  · rw [p4, getD_set hkl, I.mp j j1 j2]
    by_cases c : j = k
    · subst c; simp
    · rw [if_neg c, if_neg (by omega)]
  · have := I.sum; omega
  · have := takenTo_unset_len hkl k1 k3 n k2
    have := I.ln
    omega
end
end Go.Sx
