/-
  Clocks that nobody made. ClocksZero's walk.
-/
import Derived.Test.YtjhlpieehhpmgaaClkW
set_option linter.unusedSimpArgs false
set_option linter.unusedVariables false
namespace Go.Proofs.Ytjhlpieehhpmgaa
open Go Go.Sx
attribute [local irreducible] MidQ wpE wpO wpC qE wpQ wpQO wpH wpHO wpD wpDO wpZ Ev own emp exI sl ch PostS LoopQ Rd rowsAt
abbrev zeroC (z : Nat) : HProp := pts z (.cells [.pointer none].toArray 54 (0, 0))
def NoneV (v : Value) (A : List HProp) : Prop := FnDoes Try.prog 24 [v] A (fun _ : Unit => True) (fun _ => .bool true) (fun _ => A)
theorem none_nil : NoneV (.pointer none) [] := by
  unfold NoneV
  refine does_of Try.func24 rfl rfl Try.ntmps24 rfl (by simp only [enum, Nat.reduceAdd, Nat.zero_add]; exact rfl) (fun c => ?_)
  (refine go ?_; intros)
  refine q_ret1 rfl rfl () rfl trivial ?_
  ((try simp only [List.cons_append, List.nil_append]); repeat (first | exact Ent.nil | (apply Ent.cons; repeat (first | exact Pick.head | apply Pick.tail))))
theorem none_zero (z : Nat) : NoneV (ptr z) [zeroC z] := by
  unfold NoneV
  refine does_of Try.func24 rfl rfl Try.ntmps24 rfl (by simp only [enum, Nat.reduceAdd, Nat.zero_add]; exact rfl) (fun c => ?_)
  (refine go ?_; intros)
  refine q_ret1 rfl rfl () rfl trivial ?_
  ((try simp only [List.cons_append, List.nil_append]); repeat (first | exact Ent.nil | (apply Ent.cons; repeat (first | exact Pick.head | apply Pick.tail))))
section
variable {v : Value} {A : List HProp}
theorem app_nil (A : List HProp) : Ent A (A ++ []) := by rw [List.append_nil]; exact Ent.refl _
theorem nil_app (A : List HProp) : Ent (A ++ []) A := by rw [List.append_nil]; exact Ent.refl _
theorem clk_setN (h : NoneV v A) (who due : Int) : FnDoes Try.prog 9 [v, .int .i64 who, .int .i64 due] A (fun _ : Unit => True) (fun _ => .int .i64 8) (fun _ => A) := by
  unfold NoneV at h
  refine does_of Try.func9 rfl rfl Try.ntmps9 rfl (by simp only [enum, Nat.reduceAdd, Nat.zero_add]; exact rfl) (fun c => ?_)
  (refine go ?_; intros)
  refine o_callA (R := []) h (fun _ _ => ?_) (hp := app_nil A)
  (refine go ?_; intros)
  refine q_ret1 rfl rfl () rfl trivial (nil_app A)
theorem clk_dropN (h : NoneV v A) (who : Int) : FnDoes Try.prog 18 [v, .int .i64 who] A (fun _ : Unit => True) (fun _ => .bool false) (fun _ => A) := by
  unfold NoneV at h
  refine does_of Try.func18 rfl rfl Try.ntmps18 rfl (by simp only [enum, Nat.reduceAdd, Nat.zero_add]; exact rfl) (fun c => ?_)
  (refine go ?_; intros)
  refine o_callA (R := []) h (fun _ _ => ?_) (hp := app_nil A)
  (refine go ?_; intros)
  refine q_ret1 rfl rfl () rfl trivial (nil_app A)
theorem clk_dueN (h : NoneV v A) (who : Int) : FnDoes Try.prog 23 [v, .int .i64 who] A (fun _ : Unit => True) (fun _ => .tuple #[.int .i64 0, .bool false]) (fun _ => A) := by
  unfold NoneV at h
  refine does_of Try.func23 rfl rfl Try.ntmps23 rfl (by simp only [enum, Nat.reduceAdd, Nat.zero_add]; exact rfl) (fun c => ?_)
  (refine go ?_; intros)
  refine o_callA (R := []) h (fun _ _ => ?_) (hp := app_nil A)
  (refine go ?_; intros)
  refine q_ret2 rfl rfl rfl () rfl trivial (nil_app A)
theorem clk_nextN (h : NoneV v A) : FnDoes Try.prog 21 [v] A (fun _ : Unit => True) (fun _ => .tuple #[.int .i64 0, .bool false]) (fun _ => A) := by
  unfold NoneV at h
  refine does_of Try.func21 rfl rfl Try.ntmps21 rfl (by simp only [enum, Nat.reduceAdd, Nat.zero_add]; exact rfl) (fun c => ?_)
  (refine go ?_; intros)
  refine o_callA (R := []) h (fun _ _ => ?_) (hp := app_nil A)
  (refine go ?_; intros)
  refine q_ret2 rfl rfl rfl () rfl trivial (nil_app A)
theorem clk_lenN (h : NoneV v A) : FnDoes Try.prog 15 [v] A (fun _ : Unit => True) (fun _ => .int .i64 0) (fun _ => A) := by
  unfold NoneV at h
  refine does_of Try.func15 rfl rfl Try.ntmps15 rfl (by simp only [enum, Nat.reduceAdd, Nat.zero_add]; exact rfl) (fun c => ?_)
  (refine go ?_; intros)
  refine o_callA (R := []) h (fun _ _ => ?_) (hp := app_nil A)
  (refine go ?_; intros)
  refine q_ret1 rfl rfl () rfl trivial (nil_app A)
theorem clk_fireN (h : NoneV v A) (now : Int) : FnDoes Try.prog 10 [v, .int .i64 now] A (fun _ : Unit => True) (fun _ => .slice none 0 0) (fun _ => A) := by
  have hn := clk_nextN h
  refine does_of Try.func10 rfl rfl Try.ntmps10 rfl (by simp only [enum, Nat.reduceAdd, Nat.zero_add]; exact rfl) (fun c => ?_)
  (refine go ?_; intros)
  refine wpC_loop (σ := Unit) (fun _ => True) (fun _ => [(0, v), (1, .int .i64 now), (5, .slice none 0 0)]) (fun _ => A) (fun _ => 0) () trivial (by repeat (first | exact trivial | refine ⟨rfl, ?_⟩)) (Ent.refl _) (fun _ _ => ?_)
  (refine go ?_; intros)
  refine o_callA (R := []) hn (fun _ _ => ?_) (hp := app_nil A)
  (refine go ?_; intros)
  refine q_ret1 rfl rfl () rfl trivial (nil_app A)
end
theorem law_zero (H : PHeap) (who n : Int) : FnDoes Try.prog 7 [.int .i64 who, .int .i64 n] [own H] (fun _ : Unit => True) (fun _ => .bool true) (fun _ => [own H]) := by
  refine does_of Try.func7 rfl rfl Try.ntmps7 rfl (by simp only [enum, Nat.reduceAdd, Nat.zero_add]; exact rfl) (fun c => ?_)
  (refine go ?_; intro z)
  (refine go ?_; intros)
  (show wpO _ _ ⟨_, .call _, _, _, _, _⟩ _ _ _ _ _ _; refine o_callA (clk_nextN none_nil) (fun _ _ => ?_); try simp only [List.cons_append, List.nil_append])
  (refine go ?_; intros)
  (show wpO _ _ ⟨_, .call _, _, _, _, _⟩ _ _ _ _ _ _; refine o_callA (clk_dueN (none_zero z) who) (fun _ _ => ?_); try simp only [List.cons_append, List.nil_append])
  (refine go ?_; intros)
  (show wpO _ _ ⟨_, .call _, _, _, _, _⟩ _ _ _ _ _ _; refine o_callA (clk_setN none_nil who n) (fun _ _ => ?_); try simp only [List.cons_append, List.nil_append])
  (refine go ?_; intros)
  (show wpO _ _ ⟨_, .call _, _, _, _, _⟩ _ _ _ _ _ _; refine o_callA (clk_setN (none_zero z) who n) (fun _ _ => ?_); try simp only [List.cons_append, List.nil_append])
  (refine go ?_; intros)
  (show wpO _ _ ⟨_, .call _, _, _, _, _⟩ _ _ _ _ _ _; refine o_callA (clk_dropN none_nil who) (fun _ _ => ?_); try simp only [List.cons_append, List.nil_append])
  (refine go ?_; intros)
  (show wpO _ _ ⟨_, .call _, _, _, _, _⟩ _ _ _ _ _ _; refine o_callA (clk_dropN (none_zero z) who) (fun _ _ => ?_); try simp only [List.cons_append, List.nil_append])
  (refine go ?_; intros)
  (show wpO _ _ ⟨_, .call _, _, _, _, _⟩ _ _ _ _ _ _; refine o_callA (clk_fireN none_nil n) (fun _ _ => ?_); try simp only [List.cons_append, List.nil_append])
  (refine go ?_; intros)
  (show wpO _ _ ⟨_, .call _, _, _, _, _⟩ _ _ _ _ _ _; refine o_callA (clk_fireN (none_zero z) n) (fun _ _ => ?_); try simp only [List.cons_append, List.nil_append])
  (refine go ?_; intros)
  (show wpO _ _ ⟨_, .call _, _, _, _, _⟩ _ _ _ _ _ _; refine o_callA (clk_lenN none_nil) (fun _ _ => ?_); try simp only [List.cons_append, List.nil_append])
  (refine go ?_; intros)
  (show wpO _ _ ⟨_, .call _, _, _, _, _⟩ _ _ _ _ _ _; refine o_callA (clk_lenN (none_zero z)) (fun _ _ => ?_); try simp only [List.cons_append, List.nil_append])
  (refine go ?_; intros)
  (show wpO _ _ ⟨_, .call _, _, _, _, _⟩ _ _ _ _ _ _; refine o_callA (law_awake) (fun _ _ => ?_); try simp only [List.cons_append, List.nil_append])
  (refine go ?_; intros)
  refine q_ret1 rfl rfl () rfl trivial ?_
  ((try simp only [List.cons_append, List.nil_append]); repeat (first | exact Ent.nil | (apply Ent.cons; repeat (first | exact Pick.head | apply Pick.tail))))
end Go.Proofs.Ytjhlpieehhpmgaa
