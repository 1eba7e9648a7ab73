/-
  The package ids: a hander-out that nobody made.
-/
import Derived.Test.YtgpdfhjnlelhlaaIdsF
set_option linter.unusedSimpArgs false
set_option linter.unusedVariables false
namespace Go.Proofs.Ytgpdfhjnlelhlaa
open Go Go.Sx
attribute [local irreducible] wpE wpO wpC qE wpQ wpQO wpH wpHO wpD wpDO wpZ Ev own emp exI sl ch PostS LoopQ Rd rowsAt
abbrev zeroC (z : Nat) : HProp := pts z (.cells [.int .i64 0, .int .i64 0, .pointer none, .map none].toArray 48 (0, 0))
def NoneV (v : Value) (A : List HProp) : Prop := FnDoes Try.prog 19 [v] A (fun _ : Unit => True) (fun _ => .bool true) (fun _ => A)
theorem none_nil : NoneV (.pointer none) [] := by
  unfold NoneV
  refine does_of Try.func19 rfl rfl Try.ntmps19 rfl (by simp only [enum, Nat.reduceAdd, Nat.zero_add]; exact rfl) (fun c => ?_)
  (refine go ?_; intros)
  refine q_ret1 rfl rfl () rfl trivial ?_
  ((try simp only [List.cons_append, List.nil_append]); repeat (first | exact Ent.nil | (apply Ent.cons; repeat (first | exact Pick.head | apply Pick.tail))))
theorem none_zero (z : Nat) : NoneV (ptr z) [zeroC z] := by
  unfold NoneV
  refine does_of Try.func19 rfl rfl Try.ntmps19 rfl (by simp only [enum, Nat.reduceAdd, Nat.zero_add]; exact rfl) (fun c => ?_)
  (refine go ?_; intros)
  refine q_ret1 rfl rfl () rfl trivial ?_
  ((try simp only [List.cons_append, List.nil_append]); repeat (first | exact Ent.nil | (apply Ent.cons; repeat (first | exact Pick.head | apply Pick.tail))))
theorem ids_takeNil : FnDoes Try.prog 10 [.pointer none] [] (fun _ : Unit => True) (fun _ => .tuple #[.int .i64 0, .int .i64 8]) (fun _ => []) := by
  refine does_of Try.func10 rfl rfl Try.ntmps10 rfl (by simp only [enum, Nat.reduceAdd, Nat.zero_add]; exact rfl) (fun c => ?_)
  (refine go ?_; intros)
  (show wpO _ _ ⟨_, .call _, _, _, _, _⟩ _ _ _ _ _ _; refine o_callA (none_nil) (fun _ _ => ?_); try simp only [List.cons_append, List.nil_append])
  (refine go ?_; intros)
  refine q_ret2 rfl rfl rfl () rfl trivial ?_
  ((try simp only [List.cons_append, List.nil_append]); repeat (first | exact Ent.nil | (apply Ent.cons; repeat (first | exact Pick.head | apply Pick.tail))))
theorem ids_giveNil (id : Int) : FnDoes Try.prog 12 [.pointer none, .int .i64 id] [] (fun _ : Unit => True) (fun _ => .int .i64 8) (fun _ => []) := by
  refine does_of Try.func12 rfl rfl Try.ntmps12 rfl (by simp only [enum, Nat.reduceAdd, Nat.zero_add]; exact rfl) (fun c => ?_)
  (refine go ?_; intros)
  (show wpO _ _ ⟨_, .call _, _, _, _, _⟩ _ _ _ _ _ _; refine o_callA (none_nil) (fun _ _ => ?_); try simp only [List.cons_append, List.nil_append])
  (refine go ?_; intros)
  refine q_ret1 rfl rfl () rfl trivial ?_
  ((try simp only [List.cons_append, List.nil_append]); repeat (first | exact Ent.nil | (apply Ent.cons; repeat (first | exact Pick.head | apply Pick.tail))))
theorem ids_hasNil (id : Int) : FnDoes Try.prog 18 [.pointer none, .int .i64 id] [] (fun _ : Unit => True) (fun _ => .bool false) (fun _ => []) := by
  refine does_of Try.func18 rfl rfl Try.ntmps18 rfl (by simp only [enum, Nat.reduceAdd, Nat.zero_add]; exact rfl) (fun c => ?_)
  (refine go ?_; intros)
  (show wpO _ _ ⟨_, .call _, _, _, _, _⟩ _ _ _ _ _ _; refine o_callA (none_nil) (fun _ _ => ?_); try simp only [List.cons_append, List.nil_append])
  (refine go ?_; intros)
  refine q_ret1 rfl rfl () rfl trivial ?_
  ((try simp only [List.cons_append, List.nil_append]); repeat (first | exact Ent.nil | (apply Ent.cons; repeat (first | exact Pick.head | apply Pick.tail))))
theorem ids_allNil : FnDoes Try.prog 16 [.pointer none] [] (fun _ : Unit => True) (fun _ => .slice none 0 0) (fun _ => []) := by
  refine does_of Try.func16 rfl rfl Try.ntmps16 rfl (by simp only [enum, Nat.reduceAdd, Nat.zero_add]; exact rfl) (fun c => ?_)
  (refine go ?_; intros)
  (show wpO _ _ ⟨_, .call _, _, _, _, _⟩ _ _ _ _ _ _; refine o_callA (none_nil) (fun _ _ => ?_); try simp only [List.cons_append, List.nil_append])
  (refine go ?_; intros)
  refine q_ret1 rfl rfl () rfl trivial ?_
  ((try simp only [List.cons_append, List.nil_append]); repeat (first | exact Ent.nil | (apply Ent.cons; repeat (first | exact Pick.head | apply Pick.tail))))
theorem ids_lenNil : FnDoes Try.prog 17 [.pointer none] [] (fun _ : Unit => True) (fun _ => .int .i64 0) (fun _ => []) := by
  refine does_of Try.func17 rfl rfl Try.ntmps17 rfl (by simp only [enum, Nat.reduceAdd, Nat.zero_add]; exact rfl) (fun c => ?_)
  (refine go ?_; intros)
  (show wpO _ _ ⟨_, .call _, _, _, _, _⟩ _ _ _ _ _ _; refine o_callA (none_nil) (fun _ _ => ?_); try simp only [List.cons_append, List.nil_append])
  (refine go ?_; intros)
  refine q_ret1 rfl rfl () rfl trivial ?_
  ((try simp only [List.cons_append, List.nil_append]); repeat (first | exact Ent.nil | (apply Ent.cons; repeat (first | exact Pick.head | apply Pick.tail))))
theorem ids_takeZero (z : Nat) : FnDoes Try.prog 10 [ptr z] [zeroC z] (fun _ : Unit => True) (fun _ => .tuple #[.int .i64 0, .int .i64 8]) (fun _ => [zeroC z]) := by
  refine does_of Try.func10 rfl rfl Try.ntmps10 rfl (by simp only [enum, Nat.reduceAdd, Nat.zero_add]; exact rfl) (fun c => ?_)
  (refine go ?_; intros)
  (show wpO _ _ ⟨_, .call _, _, _, _, _⟩ _ _ _ _ _ _; refine o_callA (none_zero z) (fun _ _ => ?_); try simp only [List.cons_append, List.nil_append])
  (refine go ?_; intros)
  refine q_ret2 rfl rfl rfl () rfl trivial ?_
  ((try simp only [List.cons_append, List.nil_append]); repeat (first | exact Ent.nil | (apply Ent.cons; repeat (first | exact Pick.head | apply Pick.tail))))
theorem ids_giveZero (z : Nat) (id : Int) : FnDoes Try.prog 12 [ptr z, .int .i64 id] [zeroC z] (fun _ : Unit => True) (fun _ => .int .i64 8) (fun _ => [zeroC z]) := by
  refine does_of Try.func12 rfl rfl Try.ntmps12 rfl (by simp only [enum, Nat.reduceAdd, Nat.zero_add]; exact rfl) (fun c => ?_)
  (refine go ?_; intros)
  (show wpO _ _ ⟨_, .call _, _, _, _, _⟩ _ _ _ _ _ _; refine o_callA (none_zero z) (fun _ _ => ?_); try simp only [List.cons_append, List.nil_append])
  (refine go ?_; intros)
  refine q_ret1 rfl rfl () rfl trivial ?_
  ((try simp only [List.cons_append, List.nil_append]); repeat (first | exact Ent.nil | (apply Ent.cons; repeat (first | exact Pick.head | apply Pick.tail))))
theorem ids_hasZero (z : Nat) (id : Int) : FnDoes Try.prog 18 [ptr z, .int .i64 id] [zeroC z] (fun _ : Unit => True) (fun _ => .bool false) (fun _ => [zeroC z]) := by
  refine does_of Try.func18 rfl rfl Try.ntmps18 rfl (by simp only [enum, Nat.reduceAdd, Nat.zero_add]; exact rfl) (fun c => ?_)
  (refine go ?_; intros)
  (show wpO _ _ ⟨_, .call _, _, _, _, _⟩ _ _ _ _ _ _; refine o_callA (none_zero z) (fun _ _ => ?_); try simp only [List.cons_append, List.nil_append])
  (refine go ?_; intros)
  refine q_ret1 rfl rfl () rfl trivial ?_
  ((try simp only [List.cons_append, List.nil_append]); repeat (first | exact Ent.nil | (apply Ent.cons; repeat (first | exact Pick.head | apply Pick.tail))))
theorem ids_allZero (z : Nat) : FnDoes Try.prog 16 [ptr z] [zeroC z] (fun _ : Unit => True) (fun _ => .slice none 0 0) (fun _ => [zeroC z]) := by
  refine does_of Try.func16 rfl rfl Try.ntmps16 rfl (by simp only [enum, Nat.reduceAdd, Nat.zero_add]; exact rfl) (fun c => ?_)
  (refine go ?_; intros)
  (show wpO _ _ ⟨_, .call _, _, _, _, _⟩ _ _ _ _ _ _; refine o_callA (none_zero z) (fun _ _ => ?_); try simp only [List.cons_append, List.nil_append])
  (refine go ?_; intros)
  refine q_ret1 rfl rfl () rfl trivial ?_
  ((try simp only [List.cons_append, List.nil_append]); repeat (first | exact Ent.nil | (apply Ent.cons; repeat (first | exact Pick.head | apply Pick.tail))))
theorem ids_lenZero (z : Nat) : FnDoes Try.prog 17 [ptr z] [zeroC z] (fun _ : Unit => True) (fun _ => .int .i64 0) (fun _ => [zeroC z]) := by
  refine does_of Try.func17 rfl rfl Try.ntmps17 rfl (by simp only [enum, Nat.reduceAdd, Nat.zero_add]; exact rfl) (fun c => ?_)
  (refine go ?_; intros)
  (show wpO _ _ ⟨_, .call _, _, _, _, _⟩ _ _ _ _ _ _; refine o_callA (none_zero z) (fun _ _ => ?_); try simp only [List.cons_append, List.nil_append])
  (refine go ?_; intros)
  refine q_ret1 rfl rfl () rfl trivial ?_
  ((try simp only [List.cons_append, List.nil_append]); repeat (first | exact Ent.nil | (apply Ent.cons; repeat (first | exact Pick.head | apply Pick.tail))))
end Go.Proofs.Ytgpdfhjnlelhlaa
