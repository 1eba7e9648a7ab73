/-
  A flight that nobody made. FlightZero's walk.
-/
import Derived.Test.YtgdofniaalpgpaaFltS
set_option linter.unusedSimpArgs false
set_option linter.unusedVariables false
set_option maxRecDepth 20000
namespace Go.Proofs.Ytgdofniaalpgpaa
open Go Go.Sx
attribute [local irreducible] MidQ wpE wpO wpC qE wpQ wpQO wpH wpHO wpD wpDO wpZ Ev own emp exI sl ch PostS LoopQ Rd rowsAt
abbrev zeroC (z : Nat) : HProp := pts z (.cells [.slice none 0 0, .pointer none].toArray 58 (0, 0))
def NoneV (v : Value) (A : List HProp) : Prop := FnDoes Try.prog 24 [v] A (fun _ : Unit => True) (fun _ => .bool true) (fun _ => A)
theorem none_nil : NoneV (.pointer none) [] := by
  unfold NoneV
  refine does_of Try.func24 rfl rfl Try.ntmps24 rfl (by simp only [enum, Nat.reduceAdd, Nat.zero_add]; exact rfl) (fun c => ?_)
  (refine go ?_; intros)
  refine q_ret1 rfl rfl () rfl trivial ?_
  ((try simp only [List.cons_append, List.nil_append]); repeat (first | exact Ent.nil | (apply Ent.cons; repeat (first | exact Pick.head | apply Pick.tail))))
theorem none_zero (z : Nat) : NoneV (ptr z) [zeroC z] := by
  unfold NoneV
  refine does_of Try.func24 rfl rfl Try.ntmps24 rfl (by simp only [enum, Nat.reduceAdd, Nat.zero_add]; exact rfl) (fun c => ?_)
  (refine go ?_; intros)
  refine q_ret1 rfl rfl () rfl trivial ?_
  ((try simp only [List.cons_append, List.nil_append]); repeat (first | exact Ent.nil | (apply Ent.cons; repeat (first | exact Pick.head | apply Pick.tail))))
theorem app_nil (A : List HProp) : Ent A (A ++ []) := by rw [List.append_nil]; exact Ent.refl _
theorem nil_app (A : List HProp) : Ent (A ++ []) A := by rw [List.append_nil]; exact Ent.refl _
theorem cons_app (X : HProp) (A : List HProp) : Ent (X :: A) (A ++ [X]) := Ent.comm A
section
variable {v : Value} {A : List HProp}
theorem flt_sendN (h : NoneV v A) (m : PMsg) : FnDoes Try.prog 15 [v, msgV m] A (fun _ : Unit => True) (fun _ => .tuple #[.int .i64 0, .int .i64 8]) (fun _ => A) := by
  unfold NoneV at h
  refine does_of Try.func15 rfl rfl Try.ntmps15 rfl (by simp only [enum, Nat.reduceAdd, Nat.zero_add]; exact rfl) (fun c => ?_)
  (refine go ?_; intro mb)
  refine o_callA (R := [pts mb (.cells m.cells.toArray 31 (0, 0))]) h (fun _ _ => ?_) (hp := cons_app _ A)
  (refine go ?_; intros)
  refine q_ret2 rfl rfl rfl () rfl trivial (Ent.left A _)
theorem flt_findN (h : NoneV v A) (id : Int) : FnDoes Try.prog 30 [v, .int .i64 id] A (fun _ : Unit => True) (fun _ => .pointer none) (fun _ => A) := by
  unfold NoneV at h
  refine does_of Try.func30 rfl rfl Try.ntmps30 rfl (by simp only [enum, Nat.reduceAdd, Nat.zero_add]; exact rfl) (fun c => ?_)
  (refine go ?_; intros)
  refine o_callA (R := []) h (fun _ _ => ?_) (hp := app_nil A)
  (refine go ?_; intros)
  refine q_ret1 rfl rfl () rfl trivial (nil_app A)
theorem flt_recN (h : NoneV v A) (id : Int) : FnDoes Try.prog 18 [v, .int .i64 id] A (fun _ : Unit => True) (fun _ => .bool false) (fun _ => A) := by
  have F := flt_findN h id
  refine does_of Try.func18 rfl rfl Try.ntmps18 rfl (by simp only [enum, Nat.reduceAdd, Nat.zero_add]; exact rfl) (fun c => ?_)
  (refine go ?_; intros)
  refine o_callA (R := []) F (fun _ _ => ?_) (hp := app_nil A)
  (refine go ?_; intros)
  refine q_ret1 rfl rfl () rfl trivial (nil_app A)
theorem flt_endN (h : NoneV v A) (id : Int) (g : FuncId) : FnDoes Try.prog 27 [v, .int .i64 id, .func (.func g) #[] #[]] A (fun _ : Unit => True) (fun _ => .bool false) (fun _ => A) := by
  have F := flt_findN h id
  refine does_of Try.func27 rfl rfl Try.ntmps27 rfl (by simp only [enum, Nat.reduceAdd, Nat.zero_add]; exact rfl) (fun c => ?_)
  (refine go ?_; intros)
  refine o_callA (R := []) F (fun _ _ => ?_) (hp := app_nil A)
  (refine go ?_; intro t)
  (refine go ?_; intros)
  refine q_ret1 rfl rfl () rfl trivial (Ent.trans (N := A ++ []) (by first | exact Ent.refl _ | exact Ent.right [_] _) (nil_app A))
theorem flt_ackN (h : NoneV v A) (id : Int) : FnDoes Try.prog 16 [v, .int .i64 id] A (fun _ : Unit => True) (fun _ => .bool false) (fun _ => A) := by
  have F := flt_endN h id 28
  refine does_of Try.func16 rfl rfl Try.ntmps16 rfl (by simp only [enum, Nat.reduceAdd, Nat.zero_add]; exact rfl) (fun c => ?_)
  (refine go ?_; intros)
  refine o_callA (R := []) F (fun _ _ => ?_) (hp := app_nil A)
  (refine go ?_; intros)
  refine q_ret1 rfl rfl () rfl trivial (nil_app A)
theorem flt_compN (h : NoneV v A) (id : Int) : FnDoes Try.prog 17 [v, .int .i64 id] A (fun _ : Unit => True) (fun _ => .bool false) (fun _ => A) := by
  have F := flt_endN h id 29
  refine does_of Try.func17 rfl rfl Try.ntmps17 rfl (by simp only [enum, Nat.reduceAdd, Nat.zero_add]; exact rfl) (fun c => ?_)
  (refine go ?_; intros)
  refine o_callA (R := []) F (fun _ _ => ?_) (hp := app_nil A)
  (refine go ?_; intros)
  refine q_ret1 rfl rfl () rfl trivial (nil_app A)
theorem flt_allN (h : NoneV v A) : FnDoes Try.prog 9 [v] A (fun _ : Unit => True) (fun _ => .slice none 0 0) (fun _ => A) := by
  unfold NoneV at h
  refine does_of Try.func9 rfl rfl Try.ntmps9 rfl (by simp only [enum, Nat.reduceAdd, Nat.zero_add]; exact rfl) (fun c => ?_)
  (refine go ?_; intros)
  refine o_callA (R := []) h (fun _ _ => ?_) (hp := app_nil A)
  (refine go ?_; intros)
  refine q_ret1 rfl rfl () rfl trivial (nil_app A)
theorem flt_againN (h : NoneV v A) : FnDoes Try.prog 12 [v] A (fun _ : Unit => True) (fun _ => .slice none 0 0) (fun _ => A) := by
  unfold NoneV at h
  refine does_of Try.func12 rfl rfl Try.ntmps12 rfl (by simp only [enum, Nat.reduceAdd, Nat.zero_add]; exact rfl) (fun c => ?_)
  (refine go ?_; intros)
  refine o_callA (R := []) h (fun _ _ => ?_) (hp := app_nil A)
  (refine go ?_; intros)
  refine q_ret1 rfl rfl () rfl trivial (nil_app A)
theorem flt_lenN (h : NoneV v A) : FnDoes Try.prog 11 [v] A (fun _ : Unit => True) (fun _ => .int .i64 0) (fun _ => A) := by
  unfold NoneV at h
  refine does_of Try.func11 rfl rfl Try.ntmps11 rfl (by simp only [enum, Nat.reduceAdd, Nat.zero_add]; exact rfl) (fun c => ?_)
  (refine go ?_; intros)
  refine o_callA (R := []) h (fun _ _ => ?_) (hp := app_nil A)
  (refine go ?_; intros)
  refine q_ret1 rfl rfl () rfl trivial (nil_app A)
end
set_option maxHeartbeats 1000000 in
theorem law_zero (H : PHeap) (m : PMsg) (id : Int) : FnDoes Try.prog 6 [msgV m, .int .i64 id] [own H] (fun _ : Unit => True) (fun _ => .bool true) (fun _ => [own H]) := by
  refine does_of Try.func6 rfl rfl Try.ntmps6 rfl (by simp only [enum, Nat.reduceAdd, Nat.zero_add]; exact rfl) (fun c => ?_)
  (refine go ?_; intro mb z)
  (refine go ?_; intros)
  (show wpO _ _ ⟨_, .call _, _, _, _, _⟩ _ _ _ _ _ _; refine o_callA (flt_sendN none_nil m) (fun _ _ => ?_); try simp only [List.cons_append, List.nil_append])
  (refine go ?_; intros)
  (show wpO _ _ ⟨_, .call _, _, _, _, _⟩ _ _ _ _ _ _; refine o_callA (flt_sendN (none_zero z) m) (fun _ _ => ?_); try simp only [List.cons_append, List.nil_append])
  (refine go ?_; intros)
  (show wpO _ _ ⟨_, .call _, _, _, _, _⟩ _ _ _ _ _ _; refine o_callA (flt_ackN none_nil id) (fun _ _ => ?_); try simp only [List.cons_append, List.nil_append])
  (refine go ?_; intros)
  (show wpO _ _ ⟨_, .call _, _, _, _, _⟩ _ _ _ _ _ _; refine o_callA (flt_recN (none_zero z) id) (fun _ _ => ?_); try simp only [List.cons_append, List.nil_append])
  (refine go ?_; intros)
  (show wpO _ _ ⟨_, .call _, _, _, _, _⟩ _ _ _ _ _ _; refine o_callA (flt_compN none_nil id) (fun _ _ => ?_); try simp only [List.cons_append, List.nil_append])
  (refine go ?_; intros)
  (show wpO _ _ ⟨_, .call _, _, _, _, _⟩ _ _ _ _ _ _; refine o_callA (flt_ackN (none_zero z) id) (fun _ _ => ?_); try simp only [List.cons_append, List.nil_append])
  (refine go ?_; intros)
  (show wpO _ _ ⟨_, .call _, _, _, _, _⟩ _ _ _ _ _ _; refine o_callA (flt_allN none_nil) (fun _ _ => ?_); try simp only [List.cons_append, List.nil_append])
  (refine go ?_; intros)
  (show wpO _ _ ⟨_, .call _, _, _, _, _⟩ _ _ _ _ _ _; refine o_callA (flt_againN (none_zero z)) (fun _ _ => ?_); try simp only [List.cons_append, List.nil_append])
  (refine go ?_; intros)
  (show wpO _ _ ⟨_, .call _, _, _, _, _⟩ _ _ _ _ _ _; refine o_callA (flt_lenN none_nil) (fun _ _ => ?_); try simp only [List.cons_append, List.nil_append])
  (refine go ?_; intros)
  (show wpO _ _ ⟨_, .call _, _, _, _, _⟩ _ _ _ _ _ _; refine o_callA (flt_lenN (none_zero z)) (fun _ _ => ?_); try simp only [List.cons_append, List.nil_append])
  (refine go ?_; intros)
  (show wpO _ _ ⟨_, .call _, _, _, _, _⟩ _ _ _ _ _ _; refine o_callA (law_awake) (fun _ _ => ?_); try simp only [List.cons_append, List.nil_append])
  (refine go ?_; intros)
  refine q_ret1 rfl rfl () rfl trivial ?_
  ((try simp only [List.cons_append, List.nil_append]); repeat (first | exact Ent.nil | (apply Ent.cons; repeat (first | exact Pick.head | apply Pick.tail))))
end Go.Proofs.Ytgdofniaalpgpaa
