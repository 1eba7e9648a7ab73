/-
  A device that nobody made. DeviceZero's walk.
-/
import Derived.Test.YtcejjoikioemhaaDevC
set_option linter.unusedSimpArgs false
set_option linter.unusedVariables false
namespace Go.Proofs.Ytcejjoikioemhaa
open Go Go.Sx
attribute [local irreducible] wpE wpO wpC qE wpQ wpQO wpH wpHO wpD wpDO Ev own emp exI sl ch PostS LoopQ Rd rowsAt
theorem happensNil (t : TypeId) (u : Value) : FnDoes Try.prog 19 [.pointer none, .iface t u] [] (fun _ : Unit => True) (fun _ => .int .i64 8) (fun _ => []) := by
  refine does_of Try.func19 rfl rfl Try.ntmps19 rfl (by simp only [enum, Nat.reduceAdd, Nat.zero_add]; exact rfl) (fun c => ?_)
  (refine go ?_; intros)
  (show wpO _ _ ⟨_, .call _, _, _, _, _⟩ _ _ _ _ _ _; refine o_callA (dev_noneNil) (fun _ _ => ?_); try simp only [List.cons_append, List.nil_append])
  (refine go ?_; intros)
  refine q_ret1 rfl rfl () rfl trivial ?_
  ((try simp only [List.cons_append, List.nil_append]); repeat (first | exact Ent.nil | (apply Ent.cons; repeat (first | exact Pick.head | apply Pick.tail))))
theorem bornNil (a : Option Addr) (m cap : Nat) : FnDoes Try.prog 9 [.pointer none, .slice a m cap] [] (fun _ : Unit => True) (fun _ => .int .i64 8) (fun _ => []) := by
  refine does_of Try.func9 rfl rfl Try.ntmps9 rfl (by simp only [enum, Nat.reduceAdd, Nat.zero_add]; exact rfl) (fun c => ?_)
  (refine go ?_; intros)
  (show wpO _ _ ⟨_, .call _, _, _, _, _⟩ _ _ _ _ _ _; refine o_callA (happensNil _ _) (fun _ _ => ?_); try simp only [List.cons_append, List.nil_append])
  (refine go ?_; intros)
  refine q_ret1 rfl rfl () rfl trivial ?_
  ((try simp only [List.cons_append, List.nil_append]); repeat (first | exact Ent.nil | (apply Ent.cons; repeat (first | exact Pick.head | apply Pick.tail))))
theorem toldNil (a : Option Addr) (m cap : Nat) : FnDoes Try.prog 11 [.pointer none, .slice a m cap] [] (fun _ : Unit => True) (fun _ => .int .i64 8) (fun _ => []) := by
  refine does_of Try.func11 rfl rfl Try.ntmps11 rfl (by simp only [enum, Nat.reduceAdd, Nat.zero_add]; exact rfl) (fun c => ?_)
  (refine go ?_; intros)
  (show wpO _ _ ⟨_, .call _, _, _, _, _⟩ _ _ _ _ _ _; refine o_callA (happensNil _ _) (fun _ _ => ?_); try simp only [List.cons_append, List.nil_append])
  (refine go ?_; intros)
  refine q_ret1 rfl rfl () rfl trivial ?_
  ((try simp only [List.cons_append, List.nil_append]); repeat (first | exact Ent.nil | (apply Ent.cons; repeat (first | exact Pick.head | apply Pick.tail))))
theorem diesNil : FnDoes Try.prog 13 [.pointer none] [] (fun _ : Unit => True) (fun _ => .int .i64 8) (fun _ => []) := by
  refine does_of Try.func13 rfl rfl Try.ntmps13 rfl (by simp only [enum, Nat.reduceAdd, Nat.zero_add]; exact rfl) (fun c => ?_)
  (refine go ?_; intros)
  (show wpO _ _ ⟨_, .call _, _, _, _, _⟩ _ _ _ _ _ _; refine o_callA (happensNil _ _) (fun _ _ => ?_); try simp only [List.cons_append, List.nil_append])
  (refine go ?_; intros)
  refine q_ret1 rfl rfl () rfl trivial ?_
  ((try simp only [List.cons_append, List.nil_append]); repeat (first | exact Ent.nil | (apply Ent.cons; repeat (first | exact Pick.head | apply Pick.tail))))
theorem onlineNil : FnDoes Try.prog 15 [.pointer none] [] (fun _ : Unit => True) (fun _ => .bool false) (fun _ => []) := by
  refine does_of Try.func15 rfl rfl Try.ntmps15 rfl (by simp only [enum, Nat.reduceAdd, Nat.zero_add]; exact rfl) (fun c => ?_)
  (refine go ?_; intros)
  (show wpO _ _ ⟨_, .call _, _, _, _, _⟩ _ _ _ _ _ _; refine o_callA (dev_noneNil) (fun _ _ => ?_); try simp only [List.cons_append, List.nil_append])
  (refine go ?_; intros)
  refine q_ret1 rfl rfl () rfl trivial ?_
  ((try simp only [List.cons_append, List.nil_append]); repeat (first | exact Ent.nil | (apply Ent.cons; repeat (first | exact Pick.head | apply Pick.tail))))
theorem livesNil : FnDoes Try.prog 16 [.pointer none] [] (fun _ : Unit => True) (fun _ => .int .i64 0) (fun _ => []) := by
  refine does_of Try.func16 rfl rfl Try.ntmps16 rfl (by simp only [enum, Nat.reduceAdd, Nat.zero_add]; exact rfl) (fun c => ?_)
  (refine go ?_; intros)
  (show wpO _ _ ⟨_, .call _, _, _, _, _⟩ _ _ _ _ _ _; refine o_callA (dev_noneNil) (fun _ _ => ?_); try simp only [List.cons_append, List.nil_append])
  (refine go ?_; intros)
  refine q_ret1 rfl rfl () rfl trivial ?_
  ((try simp only [List.cons_append, List.nil_append]); repeat (first | exact Ent.nil | (apply Ent.cons; repeat (first | exact Pick.head | apply Pick.tail))))
theorem viewNil : FnDoes Try.prog 18 [.pointer none] [] (fun _ : Unit => True) (fun _ => .agg #[.string noText, .bool false, .slice none 0 0]) (fun _ => []) := by
  refine does_of Try.func18 rfl rfl Try.ntmps18 rfl (by simp only [enum, Nat.reduceAdd, Nat.zero_add]; exact rfl) (fun c => ?_)
  (refine go ?_; intros)
  (show wpO _ _ ⟨_, .call _, _, _, _, _⟩ _ _ _ _ _ _; refine o_callA (dev_noneNil) (fun _ _ => ?_); try simp only [List.cons_append, List.nil_append])
  (refine go ?_; intros)
  refine q_ret1c (l := [.string noText, .bool false, .slice none 0 0]) rfl rfl ⟨_, _, _, (by repeat (first | exact Pick.head | apply Pick.tail))⟩ rfl rfl rfl rfl () rfl trivial ?_
  ((try simp only [List.cons_append, List.nil_append]); repeat (first | exact Ent.nil | (apply Ent.cons; repeat (first | exact Pick.head | apply Pick.tail))))
theorem happensZero (z : Nat) (t : TypeId) (u : Value) : FnDoes Try.prog 19 [ptr z, .iface t u] [pts z (.cells [.string noText, .bool false, .slice none 0 0, .int .i64 0].toArray 54 (0, 0))] (fun _ : Unit => True) (fun _ => .int .i64 8) (fun _ => [pts z (.cells [.string noText, .bool false, .slice none 0 0, .int .i64 0].toArray 54 (0, 0))]) := by
  refine does_of Try.func19 rfl rfl Try.ntmps19 rfl (by simp only [enum, Nat.reduceAdd, Nat.zero_add]; exact rfl) (fun c => ?_)
  (refine go ?_; intros)
  (show wpO _ _ ⟨_, .call _, _, _, _, _⟩ _ _ _ _ _ _; refine o_callA (dev_noneZero z false (.slice none 0 0) 0) (fun _ _ => ?_); try simp only [List.cons_append, List.nil_append])
  (refine go ?_; intros)
  refine q_ret1 rfl rfl () rfl trivial ?_
  ((try simp only [List.cons_append, List.nil_append]); repeat (first | exact Ent.nil | (apply Ent.cons; repeat (first | exact Pick.head | apply Pick.tail))))
theorem bornZero (z : Nat) (a : Option Addr) (m cap : Nat) : FnDoes Try.prog 9 [ptr z, .slice a m cap] [pts z (.cells [.string noText, .bool false, .slice none 0 0, .int .i64 0].toArray 54 (0, 0))] (fun _ : Unit => True) (fun _ => .int .i64 8) (fun _ => [pts z (.cells [.string noText, .bool false, .slice none 0 0, .int .i64 0].toArray 54 (0, 0))]) := by
  refine does_of Try.func9 rfl rfl Try.ntmps9 rfl (by simp only [enum, Nat.reduceAdd, Nat.zero_add]; exact rfl) (fun c => ?_)
  (refine go ?_; intros)
  (show wpO _ _ ⟨_, .call _, _, _, _, _⟩ _ _ _ _ _ _; refine o_callA (happensZero z _ _) (fun _ _ => ?_); try simp only [List.cons_append, List.nil_append])
  (refine go ?_; intros)
  refine q_ret1 rfl rfl () rfl trivial ?_
  ((try simp only [List.cons_append, List.nil_append]); repeat (first | exact Ent.nil | (apply Ent.cons; repeat (first | exact Pick.head | apply Pick.tail))))
theorem toldZero (z : Nat) (a : Option Addr) (m cap : Nat) : FnDoes Try.prog 11 [ptr z, .slice a m cap] [pts z (.cells [.string noText, .bool false, .slice none 0 0, .int .i64 0].toArray 54 (0, 0))] (fun _ : Unit => True) (fun _ => .int .i64 8) (fun _ => [pts z (.cells [.string noText, .bool false, .slice none 0 0, .int .i64 0].toArray 54 (0, 0))]) := by
  refine does_of Try.func11 rfl rfl Try.ntmps11 rfl (by simp only [enum, Nat.reduceAdd, Nat.zero_add]; exact rfl) (fun c => ?_)
  (refine go ?_; intros)
  (show wpO _ _ ⟨_, .call _, _, _, _, _⟩ _ _ _ _ _ _; refine o_callA (happensZero z _ _) (fun _ _ => ?_); try simp only [List.cons_append, List.nil_append])
  (refine go ?_; intros)
  refine q_ret1 rfl rfl () rfl trivial ?_
  ((try simp only [List.cons_append, List.nil_append]); repeat (first | exact Ent.nil | (apply Ent.cons; repeat (first | exact Pick.head | apply Pick.tail))))
theorem diesZero (z : Nat) : FnDoes Try.prog 13 [ptr z] [pts z (.cells [.string noText, .bool false, .slice none 0 0, .int .i64 0].toArray 54 (0, 0))] (fun _ : Unit => True) (fun _ => .int .i64 8) (fun _ => [pts z (.cells [.string noText, .bool false, .slice none 0 0, .int .i64 0].toArray 54 (0, 0))]) := by
  refine does_of Try.func13 rfl rfl Try.ntmps13 rfl (by simp only [enum, Nat.reduceAdd, Nat.zero_add]; exact rfl) (fun c => ?_)
  (refine go ?_; intros)
  (show wpO _ _ ⟨_, .call _, _, _, _, _⟩ _ _ _ _ _ _; refine o_callA (happensZero z _ _) (fun _ _ => ?_); try simp only [List.cons_append, List.nil_append])
  (refine go ?_; intros)
  refine q_ret1 rfl rfl () rfl trivial ?_
  ((try simp only [List.cons_append, List.nil_append]); repeat (first | exact Ent.nil | (apply Ent.cons; repeat (first | exact Pick.head | apply Pick.tail))))
theorem onlineZero (z : Nat) : FnDoes Try.prog 15 [ptr z] [pts z (.cells [.string noText, .bool false, .slice none 0 0, .int .i64 0].toArray 54 (0, 0))] (fun _ : Unit => True) (fun _ => .bool false) (fun _ => [pts z (.cells [.string noText, .bool false, .slice none 0 0, .int .i64 0].toArray 54 (0, 0))]) := by
  refine does_of Try.func15 rfl rfl Try.ntmps15 rfl (by simp only [enum, Nat.reduceAdd, Nat.zero_add]; exact rfl) (fun c => ?_)
  (refine go ?_; intros)
  (show wpO _ _ ⟨_, .call _, _, _, _, _⟩ _ _ _ _ _ _; refine o_callA (dev_noneZero z false (.slice none 0 0) 0) (fun _ _ => ?_); try simp only [List.cons_append, List.nil_append])
  (refine go ?_; intros)
  refine q_ret1 rfl rfl () rfl trivial ?_
  ((try simp only [List.cons_append, List.nil_append]); repeat (first | exact Ent.nil | (apply Ent.cons; repeat (first | exact Pick.head | apply Pick.tail))))
theorem livesZero (z : Nat) : FnDoes Try.prog 16 [ptr z] [pts z (.cells [.string noText, .bool false, .slice none 0 0, .int .i64 0].toArray 54 (0, 0))] (fun _ : Unit => True) (fun _ => .int .i64 0) (fun _ => [pts z (.cells [.string noText, .bool false, .slice none 0 0, .int .i64 0].toArray 54 (0, 0))]) := by
  refine does_of Try.func16 rfl rfl Try.ntmps16 rfl (by simp only [enum, Nat.reduceAdd, Nat.zero_add]; exact rfl) (fun c => ?_)
  (refine go ?_; intros)
  (show wpO _ _ ⟨_, .call _, _, _, _, _⟩ _ _ _ _ _ _; refine o_callA (dev_noneZero z false (.slice none 0 0) 0) (fun _ _ => ?_); try simp only [List.cons_append, List.nil_append])
  (refine go ?_; intros)
  refine q_ret1 rfl rfl () rfl trivial ?_
  ((try simp only [List.cons_append, List.nil_append]); repeat (first | exact Ent.nil | (apply Ent.cons; repeat (first | exact Pick.head | apply Pick.tail))))
theorem viewZero (z : Nat) : FnDoes Try.prog 18 [ptr z] [pts z (.cells [.string noText, .bool false, .slice none 0 0, .int .i64 0].toArray 54 (0, 0))] (fun _ : Unit => True) (fun _ => .agg #[.string noText, .bool false, .slice none 0 0]) (fun _ => [pts z (.cells [.string noText, .bool false, .slice none 0 0, .int .i64 0].toArray 54 (0, 0))]) := by
  refine does_of Try.func18 rfl rfl Try.ntmps18 rfl (by simp only [enum, Nat.reduceAdd, Nat.zero_add]; exact rfl) (fun c => ?_)
  (refine go ?_; intros)
  (show wpO _ _ ⟨_, .call _, _, _, _, _⟩ _ _ _ _ _ _; refine o_callA (dev_noneZero z false (.slice none 0 0) 0) (fun _ _ => ?_); try simp only [List.cons_append, List.nil_append])
  (refine go ?_; intros)
  refine q_ret1c (l := [.string noText, .bool false, .slice none 0 0]) rfl rfl ⟨_, _, _, (by repeat (first | exact Pick.head | apply Pick.tail))⟩ rfl rfl rfl rfl () rfl trivial ?_
  ((try simp only [List.cons_append, List.nil_append]); repeat (first | exact Ent.nil | (apply Ent.cons; repeat (first | exact Pick.head | apply Pick.tail))))

theorem law_zero (H : PHeap) (a : Option Addr) (m cap : Nat) : FnDoes Try.prog 6 [.slice a m cap] [own H] (fun _ : Unit => True) (fun _ => .bool true) (fun _ => [own H]) := by
  refine does_of Try.func6 rfl rfl Try.ntmps6 rfl (by simp only [enum, Nat.reduceAdd, Nat.zero_add]; exact rfl) (fun c => ?_)
  (refine go ?_; intro z)
  (refine go ?_; intros)
  (show wpO _ _ ⟨_, .call _, _, _, _, _⟩ _ _ _ _ _ _; refine o_callA (bornNil a m cap) (fun _ _ => ?_); try simp only [List.cons_append, List.nil_append])
  (refine go ?_; intros)
  (show wpO _ _ ⟨_, .call _, _, _, _, _⟩ _ _ _ _ _ _; refine o_callA (toldZero z a m cap) (fun _ _ => ?_); try simp only [List.cons_append, List.nil_append])
  (refine go ?_; intros)
  (show wpO _ _ ⟨_, .call _, _, _, _, _⟩ _ _ _ _ _ _; refine o_callA (diesNil) (fun _ _ => ?_); try simp only [List.cons_append, List.nil_append])
  (refine go ?_; intros)
  (show wpO _ _ ⟨_, .call _, _, _, _, _⟩ _ _ _ _ _ _; refine o_callA (diesZero z) (fun _ _ => ?_); try simp only [List.cons_append, List.nil_append])
  (refine go ?_; intros)
  (show wpO _ _ ⟨_, .call _, _, _, _, _⟩ _ _ _ _ _ _; refine o_callA (onlineNil) (fun _ _ => ?_); try simp only [List.cons_append, List.nil_append])
  (refine go ?_; intros)
  (show wpO _ _ ⟨_, .call _, _, _, _, _⟩ _ _ _ _ _ _; refine o_callA (onlineZero z) (fun _ _ => ?_); try simp only [List.cons_append, List.nil_append])
  (refine go ?_; intros)
  (show wpO _ _ ⟨_, .call _, _, _, _, _⟩ _ _ _ _ _ _; refine o_callA (viewNil) (fun _ _ => ?_); try simp only [List.cons_append, List.nil_append])
  (refine go ?_; intros)
  (show wpO _ _ ⟨_, .call _, _, _, _, _⟩ _ _ _ _ _ _; refine o_callA (viewZero z) (fun _ _ => ?_); try simp only [List.cons_append, List.nil_append])
  (refine go ?_; intros)
  refine wpO_ent (N := [emp, emp, own H, pts z (.cells [.string noText, .bool false, .slice none 0 0, .int .i64 0].toArray 54 (0, 0))]) (Ent.emp (Ent.emp (by ((try simp only [List.cons_append, List.nil_append]); repeat (first | exact Ent.nil | (apply Ent.cons; repeat (first | exact Pick.head | apply Pick.tail))))))) ?_
  (show wpO _ _ ⟨_, .call _, _, _, _, _⟩ _ _ _ _ _ _; refine o_callA (same_items emp emp (.slice none 0 0) (.slice none 0 0) noText false [] Rd.nil Rd.nil (by decide)) (fun _ _ => ?_); try simp only [List.cons_append, List.nil_append])
  (refine go ?_; intros)
  (show wpO _ _ ⟨_, .call _, _, _, _, _⟩ _ _ _ _ _ _; refine o_callA (viewZero z) (fun _ _ => ?_); try simp only [List.cons_append, List.nil_append])
  (refine go ?_; intros)
  (show wpO _ _ ⟨_, .call _, _, _, _, _⟩ _ _ _ _ _ _; refine o_callA (livesNil) (fun _ _ => ?_); try simp only [List.cons_append, List.nil_append])
  (refine go ?_; intros)
  (show wpO _ _ ⟨_, .call _, _, _, _, _⟩ _ _ _ _ _ _; refine o_callA (livesZero z) (fun _ _ => ?_); try simp only [List.cons_append, List.nil_append])
  (refine go ?_; intros)
  (show wpO _ _ ⟨_, .call _, _, _, _, _⟩ _ _ _ _ _ _; refine o_callA (viewZero z) (fun _ _ => ?_); try simp only [List.cons_append, List.nil_append])
  (refine go ?_; intros)
  (show wpO _ _ ⟨_, .call _, _, _, _, _⟩ _ _ _ _ _ _; refine o_callA (law_awake) (fun _ _ => ?_); try simp only [List.cons_append, List.nil_append])
  (refine go ?_; intros)
  refine q_ret1 rfl rfl () rfl trivial ?_
  ((try simp only [List.cons_append, List.nil_append]); repeat (first | exact Ent.nil | (apply Ent.cons; repeat (first | exact Pick.head | apply Pick.tail))))
end Go.Proofs.Ytcejjoikioemhaa
