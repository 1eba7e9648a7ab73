/-
  What each function of the package inbox does.
-/
import Derived.Test.YtmlcikcdegodaaaDoorSqX
set_option linter.unusedSimpArgs false
set_option linter.unusedVariables false
set_option maxRecDepth 20000
namespace Go.Proofs.YtmlcikcdegodaaaDoor
open Go Go.Sx
abbrev inC (b : Nat) (C : List Value) : HProp := pts b (.cells C.toArray 123 (0, 0))
def inboxI (b : Nat) (l : List Int) : HProp := exI (σ := List Value) (fun C => InC C l) fun C => [inC b C]
attribute [local irreducible] MidQ wpE wpO wpC qE wpQ wpQO wpH wpHO wpD wpDO wpZ Ev own emp exI sl ch PostS LoopQ Rd rowsAt

theorem inb_noneNil : FnDoes Tryd.prog 82 [.pointer none] [] (fun _ : Unit => True) (fun _ => .bool true) (fun _ => []) := by
  refine does_of Tryd.func82 rfl rfl Tryd.ntmps82 rfl (by simp only [enum, Nat.reduceAdd, Nat.zero_add]; exact rfl) (fun c => ?_)
  (refine go ?_; intros)
  exact q_ret1 rfl rfl () rfl trivial (Ent.refl _)
theorem inb_noneRaw (b : Nat) (C : List Value) (h : C[17]? = some (.bool true)) : FnDoes Tryd.prog 82 [ptr b] [inC b C] (fun _ : Unit => True) (fun _ => .bool false) (fun _ => [inC b C]) := by
  refine does_of Tryd.func82 rfl rfl Tryd.ntmps82 rfl (by simp only [enum, Nat.reduceAdd, Nat.zero_add]; exact rfl) (fun c => ?_)
  (refine go ?_; intros)
  exact q_ret1 rfl rfl () rfl trivial (Ent.refl _)
theorem inb_noneZero (b : Nat) (C : List Value) (h : C[17]? = some (.bool false)) : FnDoes Tryd.prog 82 [ptr b] [inC b C] (fun _ : Unit => True) (fun _ => .bool true) (fun _ => [inC b C]) := by
  refine does_of Tryd.func82 rfl rfl Tryd.ntmps82 rfl (by simp only [enum, Nat.reduceAdd, Nat.zero_add]; exact rfl) (fun c => ?_)
  (refine go ?_; intros)
  exact q_ret1 rfl rfl () rfl trivial (Ent.refl _)
theorem inb_rd {b : Nat} {C : List Value} {l : List Int} (h : InC C l) (hl : l.length ≤ 16) : Rd (inC b C) 1 (.slice (some ⟨b, 0, none⟩) l.length 16) l.length (ints l) := Rd.ofPart (ints_length l) (ints_one l) hl (fun j u hu => by
  rw [Nat.zero_add]
  have hj : j < l.length := by
    have := (List.getElem?_eq_some_iff.1 hu).1
    rwa [ints_len] at this
  rw [ints_get hj] at hu
  cases hu
  exact h.at_ j hj)

theorem inb_new : FnDoes Tryd.prog 41 [] [] (fun _ : Nat => True) (fun b => ptr b) (fun b => [inboxI b []]) := by
  refine does_of Tryd.func41 rfl rfl Tryd.ntmps41 rfl (by simp only [enum, Nat.reduceAdd, Nat.zero_add]; exact rfl) (fun c => ?_)
  (refine go ?_; intro b)
  (refine go ?_; intros)
  refine q_ret1 rfl rfl b rfl trivial ?_
  exact Ent.fold _ ⟨rfl, rfl, rfl, rfl, fun j h => by simp at h⟩ (Ent.cons .head Ent.nil)

end Go.Proofs.YtmlcikcdegodaaaDoor
