/-
  ClocksLate: its walk.
-/
import Derived.Test.YtjhlpieehhpmgaaClkW
set_option linter.unusedSimpArgs false
set_option linter.unusedVariables false
namespace Go.Proofs.Ytjhlpieehhpmgaa
open Go Go.Sx
attribute [local irreducible] MidQ wpE wpO wpC qE wpQ wpQO wpH wpHO wpD wpDO wpZ Ev own emp exI sl ch PostS LoopQ Rd rowsAt
theorem law_late (H : PHeap) (last keep : Int) (h1 : 0 ≤ last) (h2 : last ≤ 4294967295) (h3 : 0 ≤ keep) (h4 : keep ≤ 4294967295) :
    FnDoes Try.prog 4 [.int .u32 last, .int .u32 keep] [own H] (fun _ : Unit => True) (fun _ => .bool true) (fun _ => [own H]) := by
  refine does_of Try.func4 rfl rfl Try.ntmps4 rfl (by simp only [enum, Nat.reduceAdd, Nat.zero_add]; exact rfl) (fun c => ?_)
  have S1 := clk_late last keep (by omega) (by omega)
  have S2 := ref_late last keep (by omega) (by omega)
  have S3 := clk_late (-1) (-5) (by decide) (by decide)
  rw [show lateV (-1) (-5) = 1 by decide] at S3
  have hn : lateV last keep = last + keep + keep / 2 + 1 := by
    have e1 : max 0 last = last := by omega
    have e2 : max 0 keep = keep := by omega
    unfold lateV
    rw [e1, e2, Int.tdiv_eq_ediv_of_nonneg h3]
  generalize lateV last keep = nn at S1 S2 hn
  (refine go ?_; intros)
  (show wpO _ _ ⟨_, .call _, _, _, _, _⟩ _ _ _ _ _ _; refine o_callA (S1) (fun _ _ => ?_); try simp only [List.cons_append, List.nil_append])
  (refine go ?_; intros)
  (show wpO _ _ ⟨_, .call _, _, _, _, _⟩ _ _ _ _ _ _; refine o_callA (S2) (fun _ _ => ?_); try simp only [List.cons_append, List.nil_append])
  (refine go ?_; intros)
  (show wpO _ _ ⟨_, .call _, _, _, _, _⟩ _ _ _ _ _ _; refine o_callA (S3) (fun _ _ => ?_); try simp only [List.cons_append, List.nil_append])
  (refine go ?_; intros)
  (show wpO _ _ ⟨_, .call _, _, _, _, _⟩ _ _ _ _ _ _; refine o_callA (law_awake) (fun _ _ => ?_); try simp only [List.cons_append, List.nil_append])
  (refine go ?_; intros)
  refine q_ret1 rfl rfl () rfl trivial ?_
  ((try simp only [List.cons_append, List.nil_append]); repeat (first | exact Ent.nil | (apply Ent.cons; repeat (first | exact Pick.head | apply Pick.tail))))
end Go.Proofs.Ytjhlpieehhpmgaa
