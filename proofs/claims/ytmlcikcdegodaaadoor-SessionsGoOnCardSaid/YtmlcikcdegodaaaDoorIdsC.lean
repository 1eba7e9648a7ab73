/-
  The package ids: Has, least, Take, Give.
-/
import Derived.Test.YtmlcikcdegodaaaDoorIdsB
set_option linter.unusedSimpArgs false
set_option linter.unusedVariables false
set_option maxRecDepth 20000
namespace Go.Proofs.YtmlcikcdegodaaaDoor
open Go Go.Sx
attribute [local irreducible] MidQ wpE wpO wpC qE wpQ wpQO wpH wpHO wpD wpDO wpZ Ev own emp exI sl ch PostS LoopQ Rd rowsAt
abbrev popL (l : List Int) : List Int := hpopL ltI l
abbrev popV (l : List Int) : Int := hpopV ltI l
theorem least_back (d : Nat) (most next : Int) (p q : Nat) (l : List Int) (h0 : 0 < l.length) (hl : l.length ≤ 1000000) : FnDoes Tryd.prog 61 [ptr d] [idsC d most next p q, backI p l] (fun _ : Unit => True) (fun _ => .tuple #[.int .i64 (popV l), .bool true]) (fun _ => [idsC d most next p q, backI p (popL l)]) := by
  refine does_of Tryd.func61 rfl rfl Tryd.ntmps61 rfl (by simp only [enum, Nat.reduceAdd, Nat.zero_add]; exact rfl) (fun c => ?_)
  obtain ⟨k, hk⟩ : ∃ k, l.length = k + 1 := ⟨l.length - 1, by omega⟩
  have hgt : (0 : Int) < (l.length : Int) := by omega
  have hl2 : (downL ltI (swp l 0 k) k 0).1.length = k + 1 := by rw [downL_length _ _ (by rw [swp_length]; omega), swp_length, hk]
  have hp := back_popInv p (downL ltI (swp l 0 k) k 0).1 k hl2 (by omega)
  unfold popL popV hpopL hpopV
  rw [show l.length - 1 = k by omega]
  (refine go ?_; intros)
  (show wpO _ _ ⟨_, .call _, _, _, _, _⟩ _ _ _ _ _ _; refine o_invokeI ((backOps p).len l) (fun _ _ => ?_); try simp only [List.cons_append, List.nil_append])
  (refine go ?_; intros)
  (show wpO _ _ ⟨_, .call _, _, _, _, _⟩ _ _ _ _ _ _; refine o_callA (heap_pop (backOps p) l k hk hl _ hp) (fun _ _ => ?_); try simp only [List.cons_append, List.nil_append])
  (refine go ?_; intros)
  refine q_ret2 rfl rfl rfl () rfl trivial ?_
  ((try simp only [List.cons_append, List.nil_append]); repeat (first | exact Ent.nil | (apply Ent.cons; repeat (first | exact Pick.head | apply Pick.tail))))
theorem least_new (d : Nat) (most next : Int) (p q : Nat) (h1 : next ≤ most) (hn : 1 ≤ next) (hm : most ≤ 65535) : FnDoes Tryd.prog 61 [ptr d] [idsC d most next p q, backI p []] (fun _ : Unit => True) (fun _ => .tuple #[.int .i64 next, .bool true]) (fun _ => [idsC d most (next + 1) p q, backI p []]) := by
  refine does_of Tryd.func61 rfl rfl Tryd.ntmps61 rfl (by simp only [enum, Nat.reduceAdd, Nat.zero_add]; exact rfl) (fun c => ?_)
  have hgt : ¬ (most < next) := by omega
  have e1 : next + 1 - 1 = next := by omega
  (refine go ?_; intros)
  (show wpO _ _ ⟨_, .call _, _, _, _, _⟩ _ _ _ _ _ _; refine o_invokeI ((backOps p).len []) (fun _ _ => ?_); try simp only [List.cons_append, List.nil_append])
  (refine go ?_; intros)
  refine wpC_drawnA [idsC d most next p q] 8 ?_
  ((first | refine dt 0 ?_ | refine dts 0 ?_); (first | refine dt 1 ?_ | refine dts 1 ?_); (first | refine dt 2 ?_ | refine dts 2 ?_); (first | refine dt 3 ?_ | refine dts 3 ?_); (first | refine df 4 ?_ | refine dfs 4 ?_); (first | refine df 5 ?_ | refine dfs 5 ?_); (first | refine df 6 ?_ | refine dfs 6 ?_); (first | refine df 7 ?_ | refine dfs 7 ?_); refine dl ?_)
  (refine go ?_; intros)
  rw [e1]
  (refine go ?_; intros)
  refine q_ret2 rfl rfl rfl () rfl trivial ?_
  ((try simp only [List.cons_append, List.nil_append]); repeat (first | exact Ent.nil | (apply Ent.cons; repeat (first | exact Pick.head | apply Pick.tail))))
theorem least_full (d : Nat) (most next : Int) (p q : Nat) (h1 : most < next) : FnDoes Tryd.prog 61 [ptr d] [idsC d most next p q, backI p []] (fun _ : Unit => True) (fun _ => .tuple #[.int .i64 0, .bool false]) (fun _ => [idsC d most next p q, backI p []]) := by
  refine does_of Tryd.func61 rfl rfl Tryd.ntmps61 rfl (by simp only [enum, Nat.reduceAdd, Nat.zero_add]; exact rfl) (fun c => ?_)
  (refine go ?_; intros)
  (show wpO _ _ ⟨_, .call _, _, _, _, _⟩ _ _ _ _ _ _; refine o_invokeI ((backOps p).len []) (fun _ _ => ?_); try simp only [List.cons_append, List.nil_append])
  (refine go ?_; intros)
  refine wpC_drawnA [idsC d most next p q] 8 ?_
  ((first | refine dt 0 ?_ | refine dts 0 ?_); (first | refine dt 1 ?_ | refine dts 1 ?_); (first | refine dt 2 ?_ | refine dts 2 ?_); (first | refine dt 3 ?_ | refine dts 3 ?_); (first | refine df 4 ?_ | refine dfs 4 ?_); (first | refine df 5 ?_ | refine dfs 5 ?_); (first | refine df 6 ?_ | refine dfs 6 ?_); (first | refine df 7 ?_ | refine dfs 7 ?_); refine dl ?_)
  (refine go ?_; intros)
  refine q_ret2 rfl rfl rfl () rfl trivial ?_
  ((try simp only [List.cons_append, List.nil_append]); repeat (first | exact Ent.nil | (apply Ent.cons; repeat (first | exact Pick.head | apply Pick.tail))))
end Go.Proofs.YtmlcikcdegodaaaDoor
