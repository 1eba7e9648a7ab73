/-
  Maps of ints as lists of pairs: what is found behind a put and a delete. Plain lists.
-/
import Derived.Test.YtmlcikcdegodaaaDoorSxL
set_option linter.unusedSimpArgs false
set_option linter.unusedVariables false
namespace Go.Sx

theorem mfind_shift (k : Int) : ∀ (es : List (Int × Int)) (i : Nat), mfind k es i = (mfind k es 0).map fun q => (q.1 + i, q.2)
  | [], i => rfl
  | p :: r, i => by
    unfold mfind
    by_cases h : p.1 = k
    · simp [h]
    · rw [if_neg h, if_neg h, mfind_shift k r (i + 1), mfind_shift k r (0 + 1), Option.map_map]
      congr 1
      funext q
      simp only [Function.comp]
      ext <;> simp <;> omega
theorem mget_nil (k : Int) : mget [] k = none := rfl
theorem mget_cons (p : Int × Int) (r : List (Int × Int)) (k : Int) : mget (p :: r) k = if p.1 = k then some p.2 else mget r k := by
  unfold mget
  conv => lhs; unfold mfind
  by_cases h : p.1 = k
  · simp [h]
  · rw [if_neg h, if_neg h, mfind_shift, Option.map_map]; rfl
theorem mput_nil (k v : Int) : mput [] k v = [(k, v)] := rfl
theorem mput_cons (p : Int × Int) (r : List (Int × Int)) (k v : Int) : mput (p :: r) k v = if p.1 = k then (k, v) :: r else p :: mput r k v := by
  unfold mput
  conv => lhs; unfold mfind
  by_cases h : p.1 = k
  · simp [h]
  · rw [if_neg h, if_neg h, mfind_shift]
    cases mfind k r 0 with
    | none => rfl
    | some q => rfl
theorem mdel_nil (k : Int) : mdel [] k = [] := rfl
theorem mdel_cons (p : Int × Int) (r : List (Int × Int)) (k : Int) : mdel (p :: r) k = if p.1 = k then r else p :: mdel r k := by
  unfold mdel
  conv => lhs; unfold mfind
  by_cases h : p.1 = k
  · simp [h]
  · rw [if_neg h, if_neg h, mfind_shift]
    cases mfind k r 0 with
    | none => rfl
    | some q => simp
theorem mget_mput (k v j : Int) : ∀ es : List (Int × Int), mget (mput es k v) j = if j = k then some v else mget es j
  | [] => by
    rw [mput_nil, mget_cons, mget_nil]
    by_cases h : j = k
    · simp [h]
    · rw [if_neg h, if_neg (fun e => h e.symm)]
  | p :: r => by
    rw [mput_cons]
    by_cases h : p.1 = k
    · rw [if_pos h, mget_cons, mget_cons]
      by_cases hj : j = k
      · simp [hj]
      · rw [if_neg hj, if_neg (fun e => hj e.symm), if_neg (fun e => hj (e.symm.trans h))]
    · rw [if_neg h, mget_cons, mget_mput k v j r, mget_cons]
      by_cases hj : j = k
      · subst hj; simp [h]
      · simp [hj]
theorem mget_none {k : Int} {es : List (Int × Int)} : mget es k = none ↔ k ∉ es.map (·.1) := by
  unfold mget
  rw [Option.map_eq_none_iff]
  exact mfind_none
theorem mkeys_put (k v : Int) : ∀ es : List (Int × Int), (es.map (·.1)).Nodup → ((mput es k v).map (·.1)).Nodup ∧ (∀ j, j ∈ (mput es k v).map (·.1) ↔ j = k ∨ j ∈ es.map (·.1)) ∧ (mput es k v).length = es.length + (if mget es k = none then 1 else 0)
  | [], _ => by simp [mput_nil, mget_nil]
  | p :: r, h => by
    rw [List.map_cons, List.nodup_cons] at h
    obtain ⟨h1, h2⟩ := h
    obtain ⟨i1, i2, i3⟩ := mkeys_put k v r h2
    rw [mput_cons, mget_cons]
    by_cases hk : p.1 = k
    · rw [if_pos hk, if_pos hk]
      subst hk
      refine ⟨by rw [List.map_cons, List.nodup_cons]; exact ⟨h1, h2⟩, fun j => by simp, by simp⟩
    · rw [if_neg hk, if_neg hk]
      refine ⟨?_, fun j => ?_, by simp only [List.length_cons, i3]; omega⟩
      · rw [List.map_cons, List.nodup_cons]
        refine ⟨fun hm => ?_, i1⟩
        rcases (i2 _).1 hm with e | e
        · exact hk e
        · exact h1 e
      · simp only [List.map_cons, List.mem_cons, i2 j]
        constructor
        · rintro (e | e | e) <;> simp [e]
        · rintro (e | e | e) <;> simp [e]
theorem mkeys_del (k : Int) : ∀ es : List (Int × Int), (es.map (·.1)).Nodup → ((mdel es k).map (·.1)).Nodup ∧ (∀ j, j ∈ (mdel es k).map (·.1) → j ∈ es.map (·.1)) ∧ (mdel es k).length + (if mget es k = none then 0 else 1) = es.length ∧ ∀ j, mget (mdel es k) j = if j = k then none else mget es j
  | [], _ => by simp [mdel_nil, mget_nil]
  | p :: r, h => by
    rw [List.map_cons, List.nodup_cons] at h
    obtain ⟨h1, h2⟩ := h
    obtain ⟨i1, i2, i3, i4⟩ := mkeys_del k r h2
    rw [mdel_cons, mget_cons]
    by_cases hk : p.1 = k
    · rw [if_pos hk, if_pos hk]
      subst hk
      refine ⟨h2, fun j hj => by simp at hj ⊢; exact .inr hj, by simp, fun j => ?_⟩
      rw [mget_cons]
      by_cases hj : j = p.1
      · rw [if_pos hj, hj]; exact mget_none.2 h1
      · rw [if_neg hj, if_neg (fun e => hj e.symm)]
    · rw [if_neg hk, if_neg hk]
      refine ⟨?_, fun j hj => ?_, by simp only [List.length_cons]; omega, fun j => ?_⟩
      · rw [List.map_cons, List.nodup_cons]
        exact ⟨fun hm => h1 (i2 _ hm), i1⟩
      · rw [List.map_cons, List.mem_cons] at hj ⊢
        rcases hj with e | e
        · exact .inl e
        · exact .inr (i2 _ e)
      · rw [mget_cons, mget_cons, i4 j]
        by_cases hj : j = k
        · subst hj; simp [hk]
        · simp [hj]
end Go.Sx
