/-
  The package session: a new one.
-/
import Derived.Test.YtmlcikcdegodaaaDoorSesB
import Derived.Test.YtmlcikcdegodaaaDoorUtfA
set_option linter.unusedSimpArgs false
set_option linter.unusedVariables false
set_option maxRecDepth 20000
namespace Go.Proofs.YtmlcikcdegodaaaDoor
open Go Go.Sx
/-- What utf8.ValidString does, where the start's blocks are at hand. -/
def ValidIn (H : PHeap) : Prop := ∀ s : ByteArray, s.size ≤ 65535 → FnDoes Tryd.prog 53 [.string s] [own H] (fun _ : Unit => True) (fun _ => .bool (Lib.validD s.data.toList)) (fun _ => [own H])
def newB (c : ByteArray) : Bool := decide (c.size ≠ 0) && decide (c.size ≤ 32) && rightD c
theorem newB_ne {c : ByteArray} (h : newB c = true) : c.size ≠ 0 := by
  unfold newB at h
  simp only [Bool.and_eq_true, decide_eq_true_eq] at h
  exact h.1.1
theorem queue_new16 : FnDoes Tryd.prog 40 [.int .i64 16] [] (fun _ : Nat => True) (fun q => .tuple #[ptr q, .int .i64 0]) (fun q => [queueI q 16 [] 0]) := queue_new 16 (by decide) (by decide)
theorem str_empty {c : ByteArray} (h : c.size = 0) : c = ⟨#[]⟩ := by
  obtain ⟨⟨l⟩⟩ := c
  have : l = [] := List.eq_nil_of_length_eq_zero h
  rw [this]
attribute [local irreducible] MidQ wpE wpO wpC qE wpQ wpQO wpH wpHO wpD wpDO wpZ Ev own emp exI sl ch PostS LoopQ Rd rowsAt
theorem ses_newF (H : PHeap) (V : ValidIn H) (cl : ByteArray) (b : Bool) (h : newB cl = false) : FnDoes Tryd.prog 27 [.string cl, .bool b] [own H] (fun _ : Unit => True) (fun _ => .tuple #[.pointer none, .int .i64 1]) (fun _ => [own H]) := by
  refine does_of Tryd.func27 rfl rfl Tryd.ntmps27 rfl (by simp only [enum, Nat.reduceAdd, Nat.zero_add]; exact rfl) (fun c => ?_)
  by_cases h1 : cl.size = 0
  · have e := str_empty h1
    subst e
    (refine go ?_; intros)
    exact q_ret2 rfl rfl rfl () rfl trivial (by ((try simp only [List.cons_append, List.nil_append]); repeat (first | exact Ent.nil | (apply Ent.cons; repeat (first | exact Pick.head | apply Pick.tail)))))
  · have e := str_ne h1
    by_cases h2 : cl.size ≤ 32
    · have h2z : ¬ (cl.size : Int) > 32 := by omega
      have hr : rightD cl = false := by
        unfold newB at h
        rw [decide_eq_true h1, decide_eq_true h2] at h
        exact h
      (refine go ?_; intros)
      (show wpO _ _ ⟨_, .call _, _, _, _, _⟩ _ _ _ _ _ _; refine o_callA (utf_right H V cl) (fun _ _ => ?_); try simp only [List.cons_append, List.nil_append])
      rw [hr]
      (refine go ?_; intros)
      exact q_ret2 rfl rfl rfl () rfl trivial (by ((try simp only [List.cons_append, List.nil_append]); repeat (first | exact Ent.nil | (apply Ent.cons; repeat (first | exact Pick.head | apply Pick.tail)))))
    · have h2z : (cl.size : Int) > 32 := by omega
      (refine go ?_; intros)
      exact q_ret2 rfl rfl rfl () rfl trivial (by ((try simp only [List.cons_append, List.nil_append]); repeat (first | exact Ent.nil | (apply Ent.cons; repeat (first | exact Pick.head | apply Pick.tail)))))
theorem ses_newT (H : PHeap) (V : ValidIn H) (cl : ByteArray) (b : Bool) (h : newB cl = true) : FnDoes Tryd.prog 27 [.string cl, .bool b] [own H] (fun _ : Nat => True) (fun s => .tuple #[ptr s, .int .i64 0]) (fun s => [own H, sesI s (newZ cl b)]) := by
  refine does_of Tryd.func27 rfl rfl Tryd.ntmps27 rfl (by simp only [enum, Nat.reduceAdd, Nat.zero_add]; exact rfl) (fun c => ?_)
  have h0 := newB_ne h
  have e := str_ne h0
  have h' := h
  unfold newB at h'
  simp only [Bool.and_eq_true, decide_eq_true_eq] at h'
  have h2z : ¬ (cl.size : Int) > 32 := by omega
  (refine go ?_; intros)
  (show wpO _ _ ⟨_, .call _, _, _, _, _⟩ _ _ _ _ _ _; refine o_callA (utf_right H V cl) (fun _ _ => ?_); try simp only [List.cons_append, List.nil_append])
  rw [h'.2]
  (refine go ?_; intros)
  (show wpO _ _ ⟨_, .call _, _, _, _, _⟩ _ _ _ _ _ _; refine o_callA (queue_new16) (fun q _ => ?_); try simp only [List.cons_append, List.nil_append])
  (refine go ?_; intros)
  (show wpO _ _ ⟨_, .call _, _, _, _, _⟩ _ _ _ _ _ _; refine o_callA (inb_new) (fun ib _ => ?_); try simp only [List.cons_append, List.nil_append])
  (refine go ?_; intros)
  (show wpO _ _ ⟨_, .call _, _, _, _, _⟩ _ _ _ _ _ _; refine o_callA (flt_new) (fun f _ => ?_); try simp only [List.cons_append, List.nil_append])
  (refine go ?_; intro s)
  exact q_ret2 rfl rfl rfl s rfl trivial (Ent.cons (by repeat (first | exact Pick.head | apply Pick.tail)) (sesI_mk ⟨ib, f, q⟩ (ok_new h0) (by ((try simp only [List.cons_append, List.nil_append]); repeat (first | exact Ent.nil | (apply Ent.cons; repeat (first | exact Pick.head | apply Pick.tail)))))))
end Go.Proofs.YtmlcikcdegodaaaDoor
