/-
  container/heap, walked once over whatever it is that keeps a list behind an interface.
  container/heap.Push and Pop over whatever it is that keeps a list behind an interface.
-/
import Derived.Test.YtmlcikcdegodaaaDoorRows
import Derived.Test.YtmlcikcdegodaaaDoorSxL
import Derived.Test.YtmlcikcdegodaaaDoorPlM
set_option linter.unusedSimpArgs false
set_option linter.unusedVariables false
set_option maxRecDepth 20000
namespace Go.Proofs.YtmlcikcdegodaaaDoor
open Go Go.Sx
structure HeapOps {α : Type} [Inhabited α] (t : TypeId) (v : Value) (lt : α → α → Bool) (I : List α → HProp) : Prop where
  len : ∀ l : List α, InvDoes Tryd.prog t v "Len" [] [I l] (fun _ : Unit => True) (fun _ => .int .i64 l.length) (fun _ => [I l])
  less : ∀ (l : List α) (i j : Nat), i < l.length → j < l.length → InvDoes Tryd.prog t v "Less" [.int .i64 i, .int .i64 j] [I l] (fun _ : Unit => True) (fun _ => .bool (lt (nth l i) (nth l j))) (fun _ => [I l])
  swap : ∀ (l : List α) (i j : Nat), i < l.length → j < l.length → InvDoes Tryd.prog t v "Swap" [.int .i64 i, .int .i64 j] [I l] (fun _ : Unit => True) (fun _ => .tuple #[]) (fun _ => [I (swp l i j)])
attribute [local irreducible] MidQ wpE wpO wpC qE wpQ wpQO wpH wpHO wpD wpDO wpZ Ev own emp exI sl ch PostS LoopQ Rd rowsAt
section
variable {α : Type} [Inhabited α] {t : TypeId} {v : Value} {lt : α → α → Bool} {I : List α → HProp}
structure UpSt (α : Type) where
  l : List α
  j : Nat
set_option maxHeartbeats 1000000 in
theorem heap_down (O : HeapOps t v lt I) (l : List α) (i0 n : Nat) (hn : n ≤ l.length) (hi0 : i0 ≤ 1000000) (hl : l.length ≤ 1000000) : FnDoes Tryd.prog 64 [.iface t v, .int .i64 i0, .int .i64 n] [I l] (fun _ : Unit => True)
    (fun _ => .bool (decide ((i0 : Int) < ((downL lt l n i0).2 : Int)))) (fun _ => [I (downL lt l n i0).1]) := by
  refine does_of Tryd.func64 rfl rfl Tryd.ntmps64 rfl (by simp only [enum, Nat.reduceAdd, Nat.zero_add]; exact rfl) (fun c => ?_)
  (refine go ?_; intros)
  refine wpC_loop (σ := UpSt α) (fun s => downL lt s.l n s.j = downL lt l n i0 ∧ s.l.length = l.length ∧ s.j ≤ 1000000 ∧ (s.j < n ∨ s.j = i0)) (fun s => [(0, .iface t v), (1, .int .i64 i0), (2, .int .i64 n), (6, .bool false), (7, .int .i64 s.j)]) (fun s => [I s.l]) (fun s => 1000000 - s.j) ⟨l, i0⟩ ⟨rfl, rfl, hi0, Or.inr rfl⟩ (by repeat (first | exact trivial | refine ⟨rfl, ?_⟩)) (Ent.refl _) (fun s hs => ?_)
  obtain ⟨l', i⟩ := s
  simp only at hs ⊢
  obtain ⟨s1, s2, s3, s4⟩ := hs
  have fin : downL lt l' n i = (l', i) → (downL lt l n i0).1 = l' ∧ (downL lt l n i0).2 = i := fun e => by rw [← s1, e]; exact ⟨rfl, rfl⟩
  by_cases h0 : 2 * i + 1 < n
  · obtain ⟨k1, k2, k3⟩ := kid_bd lt (l := l') h0
    have hd : downL lt l' n i = if lt (nth l' (kid lt l' n i)) (nth l' i) then downL lt (swp l' i (kid lt l' n i)) n (kid lt l' n i) else (l', i) := by rw [downL, dif_pos h0]
    obtain ⟨j1, ej1⟩ : ∃ j1, j1 = 2 * i + 1 := ⟨_, rfl⟩
    have e1 : (2 * (i : Int) + 1) = (j1 : Int) := by omega
    have e2 : ((j1 : Int) + 1) = ((j1 + 1 : Nat) : Int) := by omega
    have ek : kid lt l' n i = if j1 + 1 < n ∧ lt (nth l' (j1 + 1)) (nth l' j1) = true then j1 + 1 else j1 := by unfold kid; rw [ej1]
    have h0' : (j1 : Int) < n := by omega
    have fin2 : lt (nth l' (kid lt l' n i)) (nth l' i) = false → (downL lt l n i0).1 = l' ∧ ((downL lt l n i0).2 : Int) = (i : Int) := fun e => by
      rw [e] at hd
      obtain ⟨f1, f2⟩ := fin hd
      exact ⟨f1, by rw [f2]⟩
    have next : lt (nth l' (kid lt l' n i)) (nth l' i) = true → downL lt (swp l' i (kid lt l' n i)) n (kid lt l' n i) = downL lt l n i0 := fun e => by
      rw [e] at hd
      rw [← s1, hd]; rfl
    generalize hk : kid lt l' n i = k at k1 k2 k3 ek fin2 next
    by_cases hj2 : j1 + 1 < n
    · (refine go ?_; intros)
      rw [e1, e2]
      (show wpO _ _ ⟨_, .call _, _, _, _, _⟩ _ _ _ _ _ _; refine o_invokeI (O.less l' (j1 + 1) j1 (by omega) (by omega)) (fun _ _ => ?_); try simp only [List.cons_append, List.nil_append])
      cases hc : lt (nth l' (j1 + 1)) (nth l' j1) with
      | false =>
        rw [if_neg (by rw [hc]; simp)] at ek
        subst ek
        (refine go ?_; intros)
        (show wpO _ _ ⟨_, .call _, _, _, _, _⟩ _ _ _ _ _ _; refine o_invokeI (O.less l' k i (by omega) (by omega)) (fun _ _ => ?_); try simp only [List.cons_append, List.nil_append])
        cases hc2 : lt (nth l' k) (nth l' i) with
        | false =>
          obtain ⟨f1, f3⟩ := fin2 hc2
          by_cases hgt : i0 < i
          all_goals
            (refine go ?_; intros)
            refine q_ret1 rfl rfl () ?_ trivial (by rw [f1]; exact Ent.refl _)
            rw [f3]
            simp [hgt]
        | true =>
          (refine go ?_; intros)
          (show wpO _ _ ⟨_, .call _, _, _, _, _⟩ _ _ _ _ _ _; refine o_invokeI (O.swap l' i k (by omega) (by omega)) (fun _ _ => ?_); try simp only [List.cons_append, List.nil_append])
          (refine go ?_; intros)
          refine q_round ⟨swp l' i k, k⟩ ⟨next hc2, by simp only [swp_length]; exact s2, by simp only; omega, Or.inl (by simp only; omega)⟩ (by simp only; omega) (by repeat (first | exact trivial | refine ⟨rfl, ?_⟩)) (Ent.refl _)
      | true =>
        rw [if_pos ⟨hj2, hc⟩] at ek
        subst ek
        (refine go ?_; intros)
        (show wpO _ _ ⟨_, .call _, _, _, _, _⟩ _ _ _ _ _ _; refine o_invokeI (O.less l' (j1 + 1) i (by omega) (by omega)) (fun _ _ => ?_); try simp only [List.cons_append, List.nil_append])
        cases hc2 : lt (nth l' (j1 + 1)) (nth l' i) with
        | false =>
          obtain ⟨f1, f3⟩ := fin2 hc2
          by_cases hgt : i0 < i
          all_goals
            (refine go ?_; intros)
            refine q_ret1 rfl rfl () ?_ trivial (by rw [f1]; exact Ent.refl _)
            rw [f3]
            simp [hgt]
        | true =>
          (refine go ?_; intros)
          (show wpO _ _ ⟨_, .call _, _, _, _, _⟩ _ _ _ _ _ _; refine o_invokeI (O.swap l' i (j1 + 1) (by omega) (by omega)) (fun _ _ => ?_); try simp only [List.cons_append, List.nil_append])
          (refine go ?_; intros)
          refine q_round ⟨swp l' i (j1 + 1), j1 + 1⟩ ⟨next hc2, by simp only [swp_length]; exact s2, by simp only; omega, Or.inl (by simp only; omega)⟩ (by simp only; omega) (by repeat (first | exact trivial | refine ⟨rfl, ?_⟩)) (Ent.refl _)
    · rw [if_neg (by omega)] at ek
      subst ek
      (refine go ?_; intros)
      rw [e1]
      (show wpO _ _ ⟨_, .call _, _, _, _, _⟩ _ _ _ _ _ _; refine o_invokeI (O.less l' k i (by omega) (by omega)) (fun _ _ => ?_); try simp only [List.cons_append, List.nil_append])
      cases hc2 : lt (nth l' k) (nth l' i) with
      | false =>
        obtain ⟨f1, f3⟩ := fin2 hc2
        by_cases hgt : i0 < i
        all_goals
          (refine go ?_; intros)
          refine q_ret1 rfl rfl () ?_ trivial (by rw [f1]; exact Ent.refl _)
          rw [f3]
          simp [hgt]
      | true =>
        (refine go ?_; intros)
        (show wpO _ _ ⟨_, .call _, _, _, _, _⟩ _ _ _ _ _ _; refine o_invokeI (O.swap l' i k (by omega) (by omega)) (fun _ _ => ?_); try simp only [List.cons_append, List.nil_append])
        (refine go ?_; intros)
        refine q_round ⟨swp l' i k, k⟩ ⟨next hc2, by simp only [swp_length]; exact s2, by simp only; omega, Or.inl (by simp only; omega)⟩ (by simp only; omega) (by repeat (first | exact trivial | refine ⟨rfl, ?_⟩)) (Ent.refl _)
  · have hd : downL lt l' n i = (l', i) := by rw [downL, dif_neg h0]
    obtain ⟨f1, f2⟩ := fin hd
    have f3 : ((downL lt l n i0).2 : Int) = (i : Int) := by rw [f2]
    by_cases hgt : i0 < i
    all_goals
      (refine go ?_; intros)
      refine q_ret1 rfl rfl () ?_ trivial (by rw [f1]; exact Ent.refl _)
      rw [f3]
      simp [hgt]
end
end Go.Proofs.YtmlcikcdegodaaaDoor
set_option linter.unusedSimpArgs false
set_option linter.unusedVariables false
set_option maxRecDepth 20000
namespace Go.Proofs.YtmlcikcdegodaaaDoor
open Go Go.Sx
attribute [local irreducible] MidQ wpE wpO wpC qE wpQ wpQO wpH wpHO wpD wpDO wpZ Ev own emp exI sl ch PostS LoopQ Rd rowsAt
theorem InvDoes.unfold {P : Program} {σ τ : Type} {t : TypeId} {v : Value} {name : String} {args : List Value} {φ0 : τ → Prop} {My : τ → List HProp} {R : List HProp} {φ : σ → Prop} {val : σ → Value} {B : σ → List HProp}
    (h : ∀ y, φ0 y → InvDoes P t v name args (My y ++ R) φ val B) : InvDoes P t v name args (exI φ0 My :: R) φ val B := fun w hp hA l => by
  obtain ⟨y, hy, hs⟩ := exI_unfold .head hA
  exact h y hy w hp hs l
section
variable {α : Type} [Inhabited α] {t : TypeId} {v : Value} {lt : α → α → Bool} {I : List α → HProp}
theorem heap_pop (O : HeapOps t v lt I) (l : List α) (n : Nat) (hn : l.length = n + 1) (hl : l.length ≤ 1000000) (x : Value)
    (hp : InvDoes Tryd.prog t v "Pop" [] [I (downL lt (swp l 0 n) n 0).1] (fun _ : Unit => True) (fun _ => x) (fun _ => [I ((downL lt (swp l 0 n) n 0).1.take n)])) :
    FnDoes Tryd.prog 63 [.iface t v] [I l] (fun _ : Unit => True) (fun _ => x) (fun _ => [I ((downL lt (swp l 0 n) n 0).1.take n)]) := by
  refine does_of Tryd.func63 rfl rfl Tryd.ntmps63 rfl (by simp only [enum, Nat.reduceAdd, Nat.zero_add]; exact rfl) (fun c => ?_)
  have e1 : ((l.length : Nat) : Int) - 1 = (n : Int) := by omega
  (refine go ?_; intros)
  (show wpO _ _ ⟨_, .call _, _, _, _, _⟩ _ _ _ _ _ _; refine o_invokeI (O.len l) (fun _ _ => ?_); try simp only [List.cons_append, List.nil_append])
  (refine go ?_; intros)
  rw [e1]
  (refine go ?_; intros)
  (show wpO _ _ ⟨_, .call _, _, _, _, _⟩ _ _ _ _ _ _; refine o_invokeI (O.swap l 0 n (by omega) (by omega)) (fun _ _ => ?_); try simp only [List.cons_append, List.nil_append])
  (refine go ?_; intros)
  (show wpO _ _ ⟨_, .call _, _, _, _, _⟩ _ _ _ _ _ _; refine o_callA (heap_down O (swp l 0 n) 0 n (by rw [swp_length]; omega) (by omega) (by rw [swp_length]; omega)) (fun _ _ => ?_); try simp only [List.cons_append, List.nil_append])
  (refine go ?_; intros)
  (show wpO _ _ ⟨_, .call _, _, _, _, _⟩ _ _ _ _ _ _; refine o_invokeI (hp) (fun _ _ => ?_); try simp only [List.cons_append, List.nil_append])
  (refine go ?_; intros)
  refine q_ret1 rfl rfl () rfl trivial ?_
  exact Ent.refl _
end
end Go.Proofs.YtmlcikcdegodaaaDoor
