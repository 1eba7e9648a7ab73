/-
  The package ids: Give and Has.
-/
import Derived.Test.YtaodhkiejnipmaaDoorIdsD
set_option linter.unusedSimpArgs false
set_option linter.unusedVariables false
set_option maxRecDepth 20000
namespace Go.Proofs.YtaodhkiejnipmaaDoor
open Go Go.Sx
attribute [local irreducible] MidQ wpE wpO wpC qE wpQ wpQO wpH wpHO wpD wpDO wpZ Ev own emp exI sl ch PostS LoopQ Rd rowsAt
theorem give_low (d : Nat) (most next : Int) (p q : Nat) (id : Int) (hi : id < 1) :
    FnDoes Tryd.prog 87 [ptr d, .int .i64 id] [idsC d most next p q] (fun _ : Unit => True) (fun _ => .int .i64 1) (fun _ => [idsC d most next p q]) := by
  refine does_of Tryd.func87 rfl rfl Tryd.ntmps87 rfl (by simp only [enum, Nat.reduceAdd, Nat.zero_add]; exact rfl) (fun c => ?_)
  (refine go ?_; intros)
  (show wpO _ _ ⟨_, .call _, _, _, _, _⟩ _ _ _ _ _ _; refine o_callA (ids_none d most next p q) (fun _ _ => ?_); try simp only [List.cons_append, List.nil_append])
  (refine go ?_; intros)
  refine q_ret1 rfl rfl () rfl trivial ?_
  ((try simp only [List.cons_append, List.nil_append]); repeat (first | exact Ent.nil | (apply Ent.cons; repeat (first | exact Pick.head | apply Pick.tail))))
theorem give_high (d : Nat) (most next : Int) (p q : Nat) (id : Int) (hi : ¬ id < 1) (hm : most < id) :
    FnDoes Tryd.prog 87 [ptr d, .int .i64 id] [idsC d most next p q] (fun _ : Unit => True) (fun _ => .int .i64 1) (fun _ => [idsC d most next p q]) := by
  refine does_of Tryd.func87 rfl rfl Tryd.ntmps87 rfl (by simp only [enum, Nat.reduceAdd, Nat.zero_add]; exact rfl) (fun c => ?_)
  (refine go ?_; intros)
  (show wpO _ _ ⟨_, .call _, _, _, _, _⟩ _ _ _ _ _ _; refine o_callA (ids_none d most next p q) (fun _ _ => ?_); try simp only [List.cons_append, List.nil_append])
  (refine go ?_; intros)
  refine q_ret1 rfl rfl () rfl trivial ?_
  ((try simp only [List.cons_append, List.nil_append]); repeat (first | exact Ent.nil | (apply Ent.cons; repeat (first | exact Pick.head | apply Pick.tail))))
theorem give_not (d : Nat) (most next : Int) (p q : Nat) (es : List (Int × Int)) (id : Int) (hi : ¬ id < 1) (hm : ¬ most < id) (hz : (mget es id).getD 0 = 0) :
    FnDoes Tryd.prog 87 [ptr d, .int .i64 id] [idsC d most next p q, mapI q es] (fun _ : Unit => True) (fun _ => .int .i64 7) (fun _ => [idsC d most next p q, mapI q es]) := by
  refine does_of Tryd.func87 rfl rfl Tryd.ntmps87 rfl (by simp only [enum, Nat.reduceAdd, Nat.zero_add]; exact rfl) (fun c => ?_)
  (refine go ?_; intros)
  (show wpO _ _ ⟨_, .call _, _, _, _, _⟩ _ _ _ _ _ _; refine o_callA (ids_none d most next p q) (fun _ _ => ?_); try simp only [List.cons_append, List.nil_append])
  (refine go ?_; intros)
  refine o_evB (ev_lookup rfl rfl rfl rfl rfl rfl (by repeat (first | exact Pick.head | apply Pick.tail))) ?_
  rw [hz]
  (refine go ?_; intros)
  refine q_ret1 rfl rfl () rfl trivial ?_
  ((try simp only [List.cons_append, List.nil_append]); repeat (first | exact Ent.nil | (apply Ent.cons; repeat (first | exact Pick.head | apply Pick.tail))))
theorem give_ok (d : Nat) (most next : Int) (p q : Nat) (l : List Int) (es : List (Int × Int)) (id : Int) (hi : ¬ id < 1) (hm : ¬ most < id) (hz : (mget es id).getD 0 ≠ 0) (hl : l.length < 1000000) :
    FnDoes Tryd.prog 87 [ptr d, .int .i64 id] [idsC d most next p q, backI p l, mapI q es] (fun _ : Unit => True) (fun _ => .int .i64 0) (fun _ => [idsC d most next p q, backI p (upL ltI (l ++ [id]) l.length), mapI q (mdel es id)]) := by
  refine does_of Tryd.func87 rfl rfl Tryd.ntmps87 rfl (by simp only [enum, Nat.reduceAdd, Nat.zero_add]; exact rfl) (fun c => ?_)
  (refine go ?_; intros)
  (show wpO _ _ ⟨_, .call _, _, _, _, _⟩ _ _ _ _ _ _; refine o_callA (ids_none d most next p q) (fun _ _ => ?_); try simp only [List.cons_append, List.nil_append])
  (refine go ?_; intros)
  refine o_evB (ev_lookup rfl rfl rfl rfl rfl rfl (by repeat (first | exact Pick.head | apply Pick.tail))) ?_
  (refine go ?_; intros)
  refine o_delete rfl rfl rfl rfl (by repeat (first | exact Pick.head | apply Pick.tail)) ?_
  (refine go ?_; intros)
  (show wpO _ _ ⟨_, .call _, _, _, _, _⟩ _ _ _ _ _ _; refine o_callA (heap_push (backOps p) l id _ hl (back_pushInv p l id (by omega))) (fun _ _ => ?_); try simp only [List.cons_append, List.nil_append])
  (refine go ?_; intros)
  refine q_ret1 rfl rfl () rfl trivial ?_
  ((try simp only [List.cons_append, List.nil_append]); repeat (first | exact Ent.nil | (apply Ent.cons; repeat (first | exact Pick.head | apply Pick.tail))))
end Go.Proofs.YtaodhkiejnipmaaDoor
