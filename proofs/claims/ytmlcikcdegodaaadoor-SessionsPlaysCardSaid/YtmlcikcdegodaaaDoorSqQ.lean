/-
  Go's binary search and clone at rows of int; the package inbox.
  What each function of the package inbox does.
  The rest of the package inbox; awake.
-/
import Derived.Test.YtmlcikcdegodaaaDoorFlR
import Derived.Test.YtmlcikcdegodaaaDoorPlN
set_option linter.unusedSimpArgs false
set_option linter.unusedVariables false
set_option maxRecDepth 20000
namespace Go.Proofs.YtmlcikcdegodaaaDoor
open Go Go.Sx
theorem intsI_append (w : Value) (l m : List Int) : sl 3 1 w (l.length + m.length) (ints l ++ ints m) = intsI w (l ++ m) := by simp [intsI, ints_append]
attribute [local irreducible] MidQ wpE wpO wpC qE wpQ wpQO wpH wpHO wpD wpDO wpZ Ev own emp exI sl ch PostS LoopQ Rd rowsAt

structure BsSt where
  i : Nat
  j : Nat
end Go.Proofs.YtmlcikcdegodaaaDoor
set_option linter.unusedSimpArgs false
set_option linter.unusedVariables false
set_option maxRecDepth 20000
namespace Go.Proofs.YtmlcikcdegodaaaDoor
open Go Go.Sx
abbrev inC (b : Nat) (C : List Value) : HProp := pts b (.cells C.toArray 123 (0, 0))
def inboxI (b : Nat) (l : List Int) : HProp := exI (σ := List Value) (fun C => InC C l) fun C => [inC b C]
attribute [local irreducible] MidQ wpE wpO wpC qE wpQ wpQO wpH wpHO wpD wpDO wpZ Ev own emp exI sl ch PostS LoopQ Rd rowsAt

theorem inb_noneNil : FnDoes Tryd.prog 82 [.pointer none] [] (fun _ : Unit => True) (fun _ => .bool true) (fun _ => []) := by
  refine does_of Tryd.func82 rfl rfl Tryd.ntmps82 rfl (by simp only [enum, Nat.reduceAdd, Nat.zero_add]; exact rfl) (fun c => ?_)
  (refine go ?_; intros)
  exact q_ret1 rfl rfl () rfl trivial (Ent.refl _)
theorem inb_noneRaw (b : Nat) (C : List Value) (h : C[17]? = some (.bool true)) : FnDoes Tryd.prog 82 [ptr b] [inC b C] (fun _ : Unit => True) (fun _ => .bool false) (fun _ => [inC b C]) := by
  refine does_of Tryd.func82 rfl rfl Tryd.ntmps82 rfl (by simp only [enum, Nat.reduceAdd, Nat.zero_add]; exact rfl) (fun c => ?_)
  (refine go ?_; intros)
  exact q_ret1 rfl rfl () rfl trivial (Ent.refl _)
theorem inb_noneZero (b : Nat) (C : List Value) (h : C[17]? = some (.bool false)) : FnDoes Tryd.prog 82 [ptr b] [inC b C] (fun _ : Unit => True) (fun _ => .bool true) (fun _ => [inC b C]) := by
  refine does_of Tryd.func82 rfl rfl Tryd.ntmps82 rfl (by simp only [enum, Nat.reduceAdd, Nat.zero_add]; exact rfl) (fun c => ?_)
  (refine go ?_; intros)
  exact q_ret1 rfl rfl () rfl trivial (Ent.refl _)
theorem inb_rd {b : Nat} {C : List Value} {l : List Int} (h : InC C l) (hl : l.length ≤ 16) : Rd (inC b C) 1 (.slice (some ⟨b, 0, none⟩) l.length 16) l.length (ints l) := Rd.ofPart (ints_length l) (ints_one l) hl (fun j u hu => by
  rw [Nat.zero_add]
  have hj : j < l.length := by
    have := (List.getElem?_eq_some_iff.1 hu).1
    rwa [ints_len] at this
  rw [ints_get hj] at hu
  cases hu
  exact h.at_ j hj)

theorem inb_new : FnDoes Tryd.prog 41 [] [] (fun _ : Nat => True) (fun b => ptr b) (fun b => [inboxI b []]) := by
  refine does_of Tryd.func41 rfl rfl Tryd.ntmps41 rfl (by simp only [enum, Nat.reduceAdd, Nat.zero_add]; exact rfl) (fun c => ?_)
  (refine go ?_; intro b)
  (refine go ?_; intros)
  refine q_ret1 rfl rfl b rfl trivial ?_
  exact Ent.fold _ ⟨rfl, rfl, rfl, rfl, fun j h => by simp at h⟩ (Ent.cons .head Ent.nil)

end Go.Proofs.YtmlcikcdegodaaaDoor
set_option linter.unusedSimpArgs false
set_option linter.unusedVariables false
set_option maxRecDepth 20000
namespace Go.Proofs.YtmlcikcdegodaaaDoor
open Go Go.Sx
attribute [local irreducible] MidQ wpE wpO wpC qE wpQ wpQO wpH wpHO wpD wpDO wpZ Ev own emp exI sl ch PostS LoopQ Rd rowsAt

theorem inOk_nil : InOk [] := ⟨List.Pairwise.nil, by simp, by simp⟩
theorem inOk_put {l : List Int} {k : Nat} {id : Int} (ho : InOk l) (h : Lb l id k) (hn : id ∉ l) (h1 : 1 ≤ id) (h2 : id ≤ 65535) (hl : l.length < 16) : InOk (putIn l k id) := ⟨asc_put ho.1 h hn, by rw [putIn_length h.1]; omega, fun x hx => by
  rcases mem_putIn.1 hx with rfl | hx
  · exact ⟨h1, h2⟩
  · exact ho.2.2 x hx⟩
theorem inOk_out {l : List Int} {k : Nat} (ho : InOk l) (hk : k < l.length) : InOk (takeOut l k) := ⟨asc_out ho.1, by rw [takeOut_length hk]; have := ho.2.1; omega, fun x hx => ho.2.2 x (mem_takeOut hx)⟩

end Go.Proofs.YtmlcikcdegodaaaDoor
