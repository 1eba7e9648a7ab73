/-
  An inbox that nobody made. InboxZero's walk.
-/
import Derived.Test.YtkkhklamcmbodaaInbC
set_option linter.unusedSimpArgs false
set_option linter.unusedVariables false
namespace Go.Proofs.Ytkkhklamcmbodaa
open Go Go.Sx
attribute [local irreducible] wpE wpO wpC qE wpQ wpQO wpH wpHO wpD wpDO Ev own emp exI sl ch PostS LoopQ Rd rowsAt
abbrev zC : List Value := [.int .i64 0, .int .i64 0, .int .i64 0, .int .i64 0, .int .i64 0, .int .i64 0, .int .i64 0, .int .i64 0, .int .i64 0, .int .i64 0, .int .i64 0, .int .i64 0, .int .i64 0, .int .i64 0, .int .i64 0, .int .i64 0, .int .i64 0, .bool false]
theorem comeNil (id : Int) : FnDoes Try.prog 8 [.pointer none, .int .i64 id] [] (fun _ : Unit => True) (fun _ => .tuple #[.bool false, .int .i64 8]) (fun _ => []) := by
  refine does_of Try.func8 rfl rfl Try.ntmps8 rfl (by simp only [enum, Nat.reduceAdd, Nat.zero_add]; exact rfl) (fun c => ?_)
  (refine go ?_; intros)
  (show wpO _ _ ⟨_, .call _, _, _, _, _⟩ _ _ _ _ _ _; refine o_callA (inb_noneNil) (fun _ _ => ?_); try simp only [List.cons_append, List.nil_append])
  (refine go ?_; intros)
  refine q_ret2 rfl rfl rfl () rfl trivial ?_
  ((try simp only [List.cons_append, List.nil_append]); repeat (first | exact Ent.nil | (apply Ent.cons; repeat (first | exact Pick.head | apply Pick.tail))))
theorem doneNil (id : Int) : FnDoes Try.prog 9 [.pointer none, .int .i64 id] [] (fun _ : Unit => True) (fun _ => .bool false) (fun _ => []) := by
  refine does_of Try.func9 rfl rfl Try.ntmps9 rfl (by simp only [enum, Nat.reduceAdd, Nat.zero_add]; exact rfl) (fun c => ?_)
  (refine go ?_; intros)
  (show wpO _ _ ⟨_, .call _, _, _, _, _⟩ _ _ _ _ _ _; refine o_callA (inb_noneNil) (fun _ _ => ?_); try simp only [List.cons_append, List.nil_append])
  (refine go ?_; intros)
  refine q_ret1 rfl rfl () rfl trivial ?_
  ((try simp only [List.cons_append, List.nil_append]); repeat (first | exact Ent.nil | (apply Ent.cons; repeat (first | exact Pick.head | apply Pick.tail))))
theorem allNil : FnDoes Try.prog 15 [.pointer none] [] (fun _ : Unit => True) (fun _ => .slice none 0 0) (fun _ => []) := by
  refine does_of Try.func15 rfl rfl Try.ntmps15 rfl (by simp only [enum, Nat.reduceAdd, Nat.zero_add]; exact rfl) (fun c => ?_)
  (refine go ?_; intros)
  (show wpO _ _ ⟨_, .call _, _, _, _, _⟩ _ _ _ _ _ _; refine o_callA (inb_noneNil) (fun _ _ => ?_); try simp only [List.cons_append, List.nil_append])
  (refine go ?_; intros)
  refine q_ret1 rfl rfl () rfl trivial ?_
  ((try simp only [List.cons_append, List.nil_append]); repeat (first | exact Ent.nil | (apply Ent.cons; repeat (first | exact Pick.head | apply Pick.tail))))
theorem lenNil : FnDoes Try.prog 10 [.pointer none] [] (fun _ : Unit => True) (fun _ => .int .i64 0) (fun _ => []) := by
  refine does_of Try.func10 rfl rfl Try.ntmps10 rfl (by simp only [enum, Nat.reduceAdd, Nat.zero_add]; exact rfl) (fun c => ?_)
  (refine go ?_; intros)
  (show wpO _ _ ⟨_, .call _, _, _, _, _⟩ _ _ _ _ _ _; refine o_callA (inb_noneNil) (fun _ _ => ?_); try simp only [List.cons_append, List.nil_append])
  (refine go ?_; intros)
  refine q_ret1 rfl rfl () rfl trivial ?_
  ((try simp only [List.cons_append, List.nil_append]); repeat (first | exact Ent.nil | (apply Ent.cons; repeat (first | exact Pick.head | apply Pick.tail))))
theorem clearNil : FnDoes Try.prog 12 [.pointer none] [] (fun _ : Unit => True) (fun _ => .int .i64 0) (fun _ => []) := by
  refine does_of Try.func12 rfl rfl Try.ntmps12 rfl (by simp only [enum, Nat.reduceAdd, Nat.zero_add]; exact rfl) (fun c => ?_)
  (refine go ?_; intros)
  (show wpO _ _ ⟨_, .call _, _, _, _, _⟩ _ _ _ _ _ _; refine o_callA (lenNil) (fun _ _ => ?_); try simp only [List.cons_append, List.nil_append])
  (refine go ?_; intros)
  refine q_ret1 rfl rfl () rfl trivial ?_
  ((try simp only [List.cons_append, List.nil_append]); repeat (first | exact Ent.nil | (apply Ent.cons; repeat (first | exact Pick.head | apply Pick.tail))))
theorem comeZero (z : Nat) (id : Int) : FnDoes Try.prog 8 [ptr z, .int .i64 id] [inC z zC] (fun _ : Unit => True) (fun _ => .tuple #[.bool false, .int .i64 8]) (fun _ => [inC z zC]) := by
  refine does_of Try.func8 rfl rfl Try.ntmps8 rfl (by simp only [enum, Nat.reduceAdd, Nat.zero_add]; exact rfl) (fun c => ?_)
  (refine go ?_; intros)
  (show wpO _ _ ⟨_, .call _, _, _, _, _⟩ _ _ _ _ _ _; refine o_callA (inb_noneZero z zC rfl) (fun _ _ => ?_); try simp only [List.cons_append, List.nil_append])
  (refine go ?_; intros)
  refine q_ret2 rfl rfl rfl () rfl trivial ?_
  ((try simp only [List.cons_append, List.nil_append]); repeat (first | exact Ent.nil | (apply Ent.cons; repeat (first | exact Pick.head | apply Pick.tail))))
theorem doneZero (z : Nat) (id : Int) : FnDoes Try.prog 9 [ptr z, .int .i64 id] [inC z zC] (fun _ : Unit => True) (fun _ => .bool false) (fun _ => [inC z zC]) := by
  refine does_of Try.func9 rfl rfl Try.ntmps9 rfl (by simp only [enum, Nat.reduceAdd, Nat.zero_add]; exact rfl) (fun c => ?_)
  (refine go ?_; intros)
  (show wpO _ _ ⟨_, .call _, _, _, _, _⟩ _ _ _ _ _ _; refine o_callA (inb_noneZero z zC rfl) (fun _ _ => ?_); try simp only [List.cons_append, List.nil_append])
  (refine go ?_; intros)
  refine q_ret1 rfl rfl () rfl trivial ?_
  ((try simp only [List.cons_append, List.nil_append]); repeat (first | exact Ent.nil | (apply Ent.cons; repeat (first | exact Pick.head | apply Pick.tail))))
theorem allZero (z : Nat) : FnDoes Try.prog 15 [ptr z] [inC z zC] (fun _ : Unit => True) (fun _ => .slice none 0 0) (fun _ => [inC z zC]) := by
  refine does_of Try.func15 rfl rfl Try.ntmps15 rfl (by simp only [enum, Nat.reduceAdd, Nat.zero_add]; exact rfl) (fun c => ?_)
  (refine go ?_; intros)
  (show wpO _ _ ⟨_, .call _, _, _, _, _⟩ _ _ _ _ _ _; refine o_callA (inb_noneZero z zC rfl) (fun _ _ => ?_); try simp only [List.cons_append, List.nil_append])
  (refine go ?_; intros)
  refine q_ret1 rfl rfl () rfl trivial ?_
  ((try simp only [List.cons_append, List.nil_append]); repeat (first | exact Ent.nil | (apply Ent.cons; repeat (first | exact Pick.head | apply Pick.tail))))
theorem lenZero (z : Nat) : FnDoes Try.prog 10 [ptr z] [inC z zC] (fun _ : Unit => True) (fun _ => .int .i64 0) (fun _ => [inC z zC]) := by
  refine does_of Try.func10 rfl rfl Try.ntmps10 rfl (by simp only [enum, Nat.reduceAdd, Nat.zero_add]; exact rfl) (fun c => ?_)
  (refine go ?_; intros)
  (show wpO _ _ ⟨_, .call _, _, _, _, _⟩ _ _ _ _ _ _; refine o_callA (inb_noneZero z zC rfl) (fun _ _ => ?_); try simp only [List.cons_append, List.nil_append])
  (refine go ?_; intros)
  refine q_ret1 rfl rfl () rfl trivial ?_
  ((try simp only [List.cons_append, List.nil_append]); repeat (first | exact Ent.nil | (apply Ent.cons; repeat (first | exact Pick.head | apply Pick.tail))))
theorem clearZero (z : Nat) : FnDoes Try.prog 12 [ptr z] [inC z zC] (fun _ : Unit => True) (fun _ => .int .i64 0) (fun _ => [inC z zC]) := by
  refine does_of Try.func12 rfl rfl Try.ntmps12 rfl (by simp only [enum, Nat.reduceAdd, Nat.zero_add]; exact rfl) (fun c => ?_)
  (refine go ?_; intros)
  (show wpO _ _ ⟨_, .call _, _, _, _, _⟩ _ _ _ _ _ _; refine o_callA (lenZero z) (fun _ _ => ?_); try simp only [List.cons_append, List.nil_append])
  (refine go ?_; intros)
  refine q_ret1 rfl rfl () rfl trivial ?_
  ((try simp only [List.cons_append, List.nil_append]); repeat (first | exact Ent.nil | (apply Ent.cons; repeat (first | exact Pick.head | apply Pick.tail))))

set_option maxHeartbeats 1000000 in
theorem law_zero (H : PHeap) (id : Int) : FnDoes Try.prog 6 [.int .i64 id] [own H] (fun _ : Unit => True) (fun _ => .bool true) (fun _ => [own H]) := by
  refine does_of Try.func6 rfl rfl Try.ntmps6 rfl (by simp only [enum, Nat.reduceAdd, Nat.zero_add]; exact rfl) (fun c => ?_)
  (refine go ?_; intro z)
  (refine go ?_; intros)
  repeat' (first | refine go1 ?_ | (show wpO _ _ ⟨_, .call _, _, _, _, _⟩ _ _ _ _ _ _; refine o_callA (comeNil id) (fun _ _ => ?_); try simp only [List.cons_append, List.nil_append]) | (show wpO _ _ ⟨_, .call _, _, _, _, _⟩ _ _ _ _ _ _; refine o_callA (comeZero z id) (fun _ _ => ?_); try simp only [List.cons_append, List.nil_append]) | (show wpO _ _ ⟨_, .call _, _, _, _, _⟩ _ _ _ _ _ _; refine o_callA (doneNil id) (fun _ _ => ?_); try simp only [List.cons_append, List.nil_append]) | (show wpO _ _ ⟨_, .call _, _, _, _, _⟩ _ _ _ _ _ _; refine o_callA (doneZero z id) (fun _ _ => ?_); try simp only [List.cons_append, List.nil_append]) | (show wpO _ _ ⟨_, .call _, _, _, _, _⟩ _ _ _ _ _ _; refine o_callA (allNil) (fun _ _ => ?_); try simp only [List.cons_append, List.nil_append]) | (show wpO _ _ ⟨_, .call _, _, _, _, _⟩ _ _ _ _ _ _; refine o_callA (allZero z) (fun _ _ => ?_); try simp only [List.cons_append, List.nil_append]) | (show wpO _ _ ⟨_, .call _, _, _, _, _⟩ _ _ _ _ _ _; refine o_callA (lenNil) (fun _ _ => ?_); try simp only [List.cons_append, List.nil_append]) | (show wpO _ _ ⟨_, .call _, _, _, _, _⟩ _ _ _ _ _ _; refine o_callA (lenZero z) (fun _ _ => ?_); try simp only [List.cons_append, List.nil_append]) | (show wpO _ _ ⟨_, .call _, _, _, _, _⟩ _ _ _ _ _ _; refine o_callA (clearNil) (fun _ _ => ?_); try simp only [List.cons_append, List.nil_append]) | (show wpO _ _ ⟨_, .call _, _, _, _, _⟩ _ _ _ _ _ _; refine o_callA (clearZero z) (fun _ _ => ?_); try simp only [List.cons_append, List.nil_append]) | (show wpO _ _ ⟨_, .call _, _, _, _, _⟩ _ _ _ _ _ _; refine o_callA (law_awake) (fun _ _ => ?_); try simp only [List.cons_append, List.nil_append]))
  refine q_ret1 rfl rfl () rfl trivial ?_
  ((try simp only [List.cons_append, List.nil_append]); repeat (first | exact Ent.nil | (apply Ent.cons; repeat (first | exact Pick.head | apply Pick.tail))))
end Go.Proofs.Ytkkhklamcmbodaa
