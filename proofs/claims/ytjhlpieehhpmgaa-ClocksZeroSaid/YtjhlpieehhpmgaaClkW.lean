/-
  The law's awake: a small play.
-/
import Derived.Test.YtjhlpieehhpmgaaClkR
import Derived.Test.YtjhlpieehhpmgaaClkN
set_option linter.unusedSimpArgs false
set_option linter.unusedVariables false
namespace Go.Proofs.Ytjhlpieehhpmgaa
open Go Go.Sx
attribute [local irreducible] MidQ wpE wpO wpC qE wpQ wpQO wpH wpHO wpD wpDO wpZ Ev own emp exI sl ch PostS LoopQ Rd rowsAt
def wT : List Int := [5, 3, 5, -1, -1, -1, -1, -1]
theorem wT_eq : setT (setT (setT (List.replicate 8 (-1)) 2 5) 0 5) 1 3 = wT := by decide
theorem wT_fires : Fires 5 wT [1, 0, 2] (List.replicate 8 (-1)) := by
  refine .one (k := 1) (by unfold IsFirst; decide) (by decide) ?_
  refine .one (k := 0) (by unfold IsFirst; decide) (by decide) ?_
  refine .one (k := 2) (by unfold IsFirst; decide) (by decide) ?_
  exact .none (by unfold IsFirst; decide)
theorem law_awake : FnDoes Try.prog 11 [] [] (fun _ : Unit => True) (fun _ => .bool true) (fun _ => []) := by
  refine does_of Try.func11 rfl rfl Try.ntmps11 rfl (by simp only [enum, Nat.reduceAdd, Nat.zero_add]; exact rfl) (fun c => ?_)
  (refine go ?_; intros)
  (show wpO _ _ ⟨_, .call _, _, _, _, _⟩ _ _ _ _ _ _; refine o_callA (clk_new) (fun z _ => ?_); try simp only [List.cons_append, List.nil_append])
  (refine go ?_; intros)
  (show wpO _ _ ⟨_, .call _, _, _, _, _⟩ _ _ _ _ _ _; refine o_callA (clk_set z (List.replicate 8 (-1)) 2 5) (fun _ _ => ?_); try simp only [List.cons_append, List.nil_append])
  (refine go ?_; intros)
  (show wpO _ _ ⟨_, .call _, _, _, _, _⟩ _ _ _ _ _ _; refine o_callA (clk_set z (setT (List.replicate 8 (-1)) 2 5) 0 5) (fun _ _ => ?_); try simp only [List.cons_append, List.nil_append])
  (refine go ?_; intros)
  (show wpO _ _ ⟨_, .call _, _, _, _, _⟩ _ _ _ _ _ _; refine o_callA (clk_set z (setT (setT (List.replicate 8 (-1)) 2 5) 0 5) 1 3) (fun _ _ => ?_); try simp only [List.cons_append, List.nil_append])
  rw [wT_eq]
  (refine go ?_; intros)
  (show wpO _ _ ⟨_, .call _, _, _, _, _⟩ _ _ _ _ _ _; refine o_callA (clk_fire z wT 5 rfl) (fun y hy => ?_); try simp only [List.cons_append, List.nil_append])
  obtain ⟨o, T, w⟩ := y
  simp only at hy ⊢
  obtain ⟨rfl, rfl⟩ := hy.det wT_fires
  have hra : Rd (intsI w [1, 0, 2]) 1 w ([1, 0, 2] : List Int).length (ints [1, 0, 2]) := Rd.ofSl
  refine wpE_fact (hra.isSlice (by repeat (first | exact Pick.head | apply Pick.tail))) (fun hka => ?_)
  obtain ⟨aa, ca, rfl, hka⟩ := hka
  obtain ⟨ba, oa, rfl, _⟩ := hka (by decide)
  have S := clk_late 10 3 (by decide) (by decide)
  rw [show lateV 10 3 = 15 by decide] at S
  (refine go ?_; intros)
  refine o_evB (ev_indexS (i := 0) 1 rfl rfl rfl rfl rfl rfl (by decide)) ?_
  (refine go ?_; intros)
  refine o_evB (ev_load_rd (k := 0) rfl rfl rfl hra (by repeat (first | exact Pick.head | apply Pick.tail)) rfl rfl) ?_
  (refine go ?_; intros)
  refine o_evB (ev_indexS (i := 1) 1 rfl rfl rfl rfl rfl rfl (by decide)) ?_
  (refine go ?_; intros)
  refine o_evB (ev_load_rd (k := 1) rfl rfl rfl hra (by repeat (first | exact Pick.head | apply Pick.tail)) rfl rfl) ?_
  (refine go ?_; intros)
  refine o_evB (ev_indexS (i := 2) 1 rfl rfl rfl rfl rfl rfl (by decide)) ?_
  (refine go ?_; intros)
  refine o_evB (ev_load_rd (k := 2) rfl rfl rfl hra (by repeat (first | exact Pick.head | apply Pick.tail)) rfl rfl) ?_
  (refine go ?_; intros)
  (show wpO _ _ ⟨_, .call _, _, _, _, _⟩ _ _ _ _ _ _; refine o_callA (S) (fun _ _ => ?_); try simp only [List.cons_append, List.nil_append])
  (refine go ?_; intros)
  refine q_ret1 rfl rfl () rfl trivial ?_
  ((try simp only [List.cons_append, List.nil_append]); repeat (first | exact Ent.nil | (apply Ent.cons; repeat (first | exact Pick.head | apply Pick.tail))))
end Go.Proofs.Ytjhlpieehhpmgaa
