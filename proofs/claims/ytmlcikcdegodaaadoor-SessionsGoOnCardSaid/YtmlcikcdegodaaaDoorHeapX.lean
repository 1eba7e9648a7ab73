/-
  container/heap.Push and Pop over whatever it is that keeps a list behind an interface.
-/
import Derived.Test.YtmlcikcdegodaaaDoorHeapW
set_option linter.unusedSimpArgs false
set_option linter.unusedVariables false
set_option maxRecDepth 20000
namespace Go.Proofs.YtmlcikcdegodaaaDoor
open Go Go.Sx
attribute [local irreducible] MidQ wpE wpO wpC qE wpQ wpQO wpH wpHO wpD wpDO wpZ Ev own emp exI sl ch PostS LoopQ Rd rowsAt
theorem InvDoes.unfold {P : Program} {σ τ : Type} {t : TypeId} {v : Value} {name : String} {args : List Value} {φ0 : τ → Prop} {My : τ → List HProp} {R : List HProp} {φ : σ → Prop} {val : σ → Value} {B : σ → List HProp}
    (h : ∀ y, φ0 y → InvDoes P t v name args (My y ++ R) φ val B) : InvDoes P t v name args (exI φ0 My :: R) φ val B := fun w hp hA l => by
  obtain ⟨y, hy, hs⟩ := exI_unfold .head hA
  exact h y hy w hp hs l
section
variable {α : Type} [Inhabited α] {t : TypeId} {v : Value} {lt : α → α → Bool} {I : List α → HProp}
theorem heap_pop (O : HeapOps t v lt I) (l : List α) (n : Nat) (hn : l.length = n + 1) (hl : l.length ≤ 1000000) (x : Value)
    (hp : InvDoes Tryd.prog t v "Pop" [] [I (downL lt (swp l 0 n) n 0).1] (fun _ : Unit => True) (fun _ => x) (fun _ => [I ((downL lt (swp l 0 n) n 0).1.take n)])) :
    FnDoes Tryd.prog 63 [.iface t v] [I l] (fun _ : Unit => True) (fun _ => x) (fun _ => [I ((downL lt (swp l 0 n) n 0).1.take n)]) := by
  refine does_of Tryd.func63 rfl rfl Tryd.ntmps63 rfl (by simp only [enum, Nat.reduceAdd, Nat.zero_add]; exact rfl) (fun c => ?_)
  have e1 : ((l.length : Nat) : Int) - 1 = (n : Int) := by omega
  (refine go ?_; intros)
  (show wpO _ _ ⟨_, .call _, _, _, _, _⟩ _ _ _ _ _ _; refine o_invokeI (O.len l) (fun _ _ => ?_); try simp only [List.cons_append, List.nil_append])
  (refine go ?_; intros)
  rw [e1]
  (refine go ?_; intros)
  (show wpO _ _ ⟨_, .call _, _, _, _, _⟩ _ _ _ _ _ _; refine o_invokeI (O.swap l 0 n (by omega) (by omega)) (fun _ _ => ?_); try simp only [List.cons_append, List.nil_append])
  (refine go ?_; intros)
  (show wpO _ _ ⟨_, .call _, _, _, _, _⟩ _ _ _ _ _ _; refine o_callA (heap_down O (swp l 0 n) 0 n (by rw [swp_length]; omega) (by omega) (by rw [swp_length]; omega)) (fun _ _ => ?_); try simp only [List.cons_append, List.nil_append])
  (refine go ?_; intros)
  (show wpO _ _ ⟨_, .call _, _, _, _, _⟩ _ _ _ _ _ _; refine o_invokeI (hp) (fun _ _ => ?_); try simp only [List.cons_append, List.nil_append])
  (refine go ?_; intros)
  refine q_ret1 rfl rfl () rfl trivial ?_
  exact Ent.refl _
end
end Go.Proofs.YtmlcikcdegodaaaDoor
