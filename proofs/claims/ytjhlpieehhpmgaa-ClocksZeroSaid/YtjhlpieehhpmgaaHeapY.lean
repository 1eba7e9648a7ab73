/-
  container/heap.Fix and Remove over whatever it is that keeps a list behind an interface.
-/
import Derived.Test.YtjhlpieehhpmgaaHeapX
import Derived.Test.YtjhlpieehhpmgaaClkM
set_option linter.unusedSimpArgs false
set_option linter.unusedVariables false
namespace Go.Proofs.Ytjhlpieehhpmgaa
open Go Go.Sx
attribute [local irreducible] MidQ wpE wpO wpC qE wpQ wpQO wpH wpHO wpD wpDO wpZ Ev own emp exI sl ch PostS LoopQ Rd rowsAt
section
variable {α : Type} [Inhabited α] {t : TypeId} {v : Value} {lt : α → α → Bool} {I : List α → HProp}
theorem heap_fix (O : HeapOps t v lt I) (l : List α) (i : Nat) (hi : i < l.length) (hl : l.length ≤ 1000000) :
    FnDoes Try.prog 26 [.iface t v, .int .i64 i] [I l] (fun _ : Unit => True) (fun _ => .tuple #[]) (fun _ => [I (siftL lt l l.length i)]) := by
  refine does_of Try.func26 rfl rfl Try.ntmps26 rfl (by simp only [enum, Nat.reduceAdd, Nat.zero_add]; exact rfl) (fun c => ?_)
  have S := heap_down O l i l.length (Nat.le_refl _) (by omega) hl
  have hlen := (downL_all (lt := lt) l l.length i (Nat.le_refl _) hi).1
  by_cases h : i < (downL lt l l.length i).2
  · have h' : (i : Int) < ((downL lt l l.length i).2 : Int) := by omega
    rw [decide_eq_true h'] at S
    have e : siftL lt l l.length i = (downL lt l l.length i).1 := by unfold siftL; rw [if_pos h]
    rw [e]
    (refine go ?_; intros)
    (show wpO _ _ ⟨_, .call _, _, _, _, _⟩ _ _ _ _ _ _; refine o_invokeI (O.len l) (fun _ _ => ?_); try simp only [List.cons_append, List.nil_append])
    (refine go ?_; intros)
    (show wpO _ _ ⟨_, .call _, _, _, _, _⟩ _ _ _ _ _ _; refine o_callA (S) (fun _ _ => ?_); try simp only [List.cons_append, List.nil_append])
    (refine go ?_; intros)
    refine q_ret0 rfl () rfl trivial ?_ _ (Or.inr rfl)
    exact Ent.refl _
  · have h' : ¬ (i : Int) < ((downL lt l l.length i).2 : Int) := by omega
    rw [decide_eq_false h'] at S
    have e : siftL lt l l.length i = upL lt (downL lt l l.length i).1 i := by unfold siftL; rw [if_neg h]
    rw [e]
    (refine go ?_; intros)
    (show wpO _ _ ⟨_, .call _, _, _, _, _⟩ _ _ _ _ _ _; refine o_invokeI (O.len l) (fun _ _ => ?_); try simp only [List.cons_append, List.nil_append])
    (refine go ?_; intros)
    (show wpO _ _ ⟨_, .call _, _, _, _, _⟩ _ _ _ _ _ _; refine o_callA (S) (fun _ _ => ?_); try simp only [List.cons_append, List.nil_append])
    (refine go ?_; intros)
    (show wpO _ _ ⟨_, .call _, _, _, _, _⟩ _ _ _ _ _ _; refine o_callA (heap_up O (downL lt l l.length i).1 i (by omega) (by omega)) (fun _ _ => ?_); try simp only [List.cons_append, List.nil_append])
    (refine go ?_; intros)
    refine q_ret0 rfl () rfl trivial ?_ _ (Or.inr rfl)
    exact Ent.refl _
theorem heap_remove (O : HeapOps t v lt I) (l : List α) (i n : Nat) (hn : l.length = n + 1) (hi : i ≤ n) (hl : l.length ≤ 1000000) (x : Value)
    (hp : InvDoes Try.prog t v "Pop" [] [I (remL lt l i n)] (fun _ : Unit => True) (fun _ => x) (fun _ => [I ((remL lt l i n).take n)])) :
    FnDoes Try.prog 28 [.iface t v, .int .i64 i] [I l] (fun _ : Unit => True) (fun _ => x) (fun _ => [I ((remL lt l i n).take n)]) := by
  refine does_of Try.func28 rfl rfl Try.ntmps28 rfl (by simp only [enum, Nat.reduceAdd, Nat.zero_add]; exact rfl) (fun c => ?_)
  have e1 : ((l.length : Nat) : Int) - 1 = (n : Int) := by omega
  by_cases hne : n = i
  · have e : remL lt l i n = l := by unfold remL; rw [if_pos hne]
    rw [e] at hp ⊢
    (refine go ?_; intros)
    (show wpO _ _ ⟨_, .call _, _, _, _, _⟩ _ _ _ _ _ _; refine o_invokeI (O.len l) (fun _ _ => ?_); try simp only [List.cons_append, List.nil_append])
    (refine go ?_; intros)
    rw [e1]
    (refine go ?_; intros)
    (show wpO _ _ ⟨_, .call _, _, _, _, _⟩ _ _ _ _ _ _; refine o_invokeI (hp) (fun _ _ => ?_); try simp only [List.cons_append, List.nil_append])
    (refine go ?_; intros)
    refine q_ret1 rfl rfl () rfl trivial ?_
    exact Ent.refl _
  · have hin : i < n := by omega
    have hsl : (swp l i n).length = n + 1 := by rw [swp_length, hn]
    have S := heap_down O (swp l i n) i n (by omega) (by omega) (by omega)
    have hlen := (downL_all (lt := lt) (swp l i n) n i (by omega) hin).1
    have e0 : remL lt l i n = siftL lt (swp l i n) n i := by unfold remL; rw [if_neg hne]
    rw [e0] at hp ⊢
    by_cases h : i < (downL lt (swp l i n) n i).2
    · have h' : (i : Int) < ((downL lt (swp l i n) n i).2 : Int) := by omega
      rw [decide_eq_true h'] at S
      have e : siftL lt (swp l i n) n i = (downL lt (swp l i n) n i).1 := by unfold siftL; rw [if_pos h]
      rw [e] at hp ⊢
      (refine go ?_; intros)
      (show wpO _ _ ⟨_, .call _, _, _, _, _⟩ _ _ _ _ _ _; refine o_invokeI (O.len l) (fun _ _ => ?_); try simp only [List.cons_append, List.nil_append])
      (refine go ?_; intros)
      rw [e1]
      (refine go ?_; intros)
      (show wpO _ _ ⟨_, .call _, _, _, _, _⟩ _ _ _ _ _ _; refine o_invokeI (O.swap l i n (by omega) (by omega)) (fun _ _ => ?_); try simp only [List.cons_append, List.nil_append])
      (refine go ?_; intros)
      (show wpO _ _ ⟨_, .call _, _, _, _, _⟩ _ _ _ _ _ _; refine o_callA (S) (fun _ _ => ?_); try simp only [List.cons_append, List.nil_append])
      (refine go ?_; intros)
      (show wpO _ _ ⟨_, .call _, _, _, _, _⟩ _ _ _ _ _ _; refine o_invokeI (hp) (fun _ _ => ?_); try simp only [List.cons_append, List.nil_append])
      (refine go ?_; intros)
      refine q_ret1 rfl rfl () rfl trivial ?_
      exact Ent.refl _
    · have h' : ¬ (i : Int) < ((downL lt (swp l i n) n i).2 : Int) := by omega
      rw [decide_eq_false h'] at S
      have e : siftL lt (swp l i n) n i = upL lt (downL lt (swp l i n) n i).1 i := by unfold siftL; rw [if_neg h]
      rw [e] at hp ⊢
      (refine go ?_; intros)
      (show wpO _ _ ⟨_, .call _, _, _, _, _⟩ _ _ _ _ _ _; refine o_invokeI (O.len l) (fun _ _ => ?_); try simp only [List.cons_append, List.nil_append])
      (refine go ?_; intros)
      rw [e1]
      (refine go ?_; intros)
      (show wpO _ _ ⟨_, .call _, _, _, _, _⟩ _ _ _ _ _ _; refine o_invokeI (O.swap l i n (by omega) (by omega)) (fun _ _ => ?_); try simp only [List.cons_append, List.nil_append])
      (refine go ?_; intros)
      (show wpO _ _ ⟨_, .call _, _, _, _, _⟩ _ _ _ _ _ _; refine o_callA (S) (fun _ _ => ?_); try simp only [List.cons_append, List.nil_append])
      (refine go ?_; intros)
      (show wpO _ _ ⟨_, .call _, _, _, _, _⟩ _ _ _ _ _ _; refine o_callA (heap_up O (downL lt (swp l i n) n i).1 i (by omega) (by omega)) (fun _ _ => ?_); try simp only [List.cons_append, List.nil_append])
      (refine go ?_; intros)
      (show wpO _ _ ⟨_, .call _, _, _, _, _⟩ _ _ _ _ _ _; refine o_invokeI (hp) (fun _ _ => ?_); try simp only [List.cons_append, List.nil_append])
      (refine go ?_; intros)
      refine q_ret1 rfl rfl () rfl trivial ?_
      exact Ent.refl _
end
end Go.Proofs.Ytjhlpieehhpmgaa
