/-
  The law's awake: a small play.
-/
import Derived.Test.YtgpdfhjnlelhlaaIdsF
set_option linter.unusedSimpArgs false
set_option linter.unusedVariables false
namespace Go.Proofs.Ytgpdfhjnlelhlaa
open Go Go.Sx
attribute [local irreducible] MidQ wpE wpO wpC qE wpQ wpQO wpH wpHO wpD wpDO wpZ Ev own emp exI sl ch PostS LoopQ Rd rowsAt
theorem least_next (d : Nat) (most next next' : Int) (p q : Nat) (he : next + 1 = next') (h1 : next ≤ most) (hn : 1 ≤ next) (hm : most ≤ 65535) : FnDoes Try.prog 20 [ptr d] [idsC d most next p q, backI p []] (fun _ : Unit => True) (fun _ => .tuple #[.int .i64 next, .bool true]) (fun _ => [idsC d most next' p q, backI p []]) := by
  subst he
  exact least_new d most next p q h1 hn hm
theorem least_pop (d : Nat) (most next : Int) (p q : Nat) (l l' : List Int) (r : Int) (h0 : 0 < l.length) (hl : l.length ≤ 1000000) (hv : popV l = r) (hp : popL l = l') : FnDoes Try.prog 20 [ptr d] [idsC d most next p q, backI p l] (fun _ : Unit => True) (fun _ => .tuple #[.int .i64 r, .bool true]) (fun _ => [idsC d most next p q, backI p l']) := by
  subst hv; subst hp
  exact least_back d most next p q l h0 hl
theorem popV_one (a : Int) : popV [a] = a := by
  unfold popV hpopV
  rw [show [a].length - 1 = 0 from rfl, downL_none]
  rfl
theorem popL_one (a : Int) : popL [a] = [] := by
  unfold popL hpopL
  rw [show [a].length - 1 = 0 from rfl]
  rfl
theorem upL_one (a : Int) : upL ltI [a] ([] : List Int).length = [a] := by rw [upL]; simp
theorem law_awake : FnDoes Try.prog 7 [] [] (fun _ : Unit => True) (fun _ => .bool true) (fun _ => []) := by
  refine does_of Try.func7 rfl rfl Try.ntmps7 rfl (by simp only [enum, Nat.reduceAdd, Nat.zero_add]; exact rfl) (fun c => ?_)
  (refine go ?_; intros)
  (show wpO _ _ ⟨_, .call _, _, _, _, _⟩ _ _ _ _ _ _; refine o_callA (ids_new 3 (by decide) (by decide)) (fun ⟨d, p, q⟩ _ => ?_); try simp only [List.cons_append, List.nil_append])
  (refine go ?_; intros)
  (show wpO _ _ ⟨_, .call _, _, _, _, _⟩ _ _ _ _ _ _; refine o_callA (take_of (es := []) (least_next d 3 1 2 p q rfl (by decide) (by decide) (by decide))) (fun _ _ => ?_); try simp only [List.cons_append, List.nil_append])
  (refine go ?_; intros)
  (show wpO _ _ ⟨_, .call _, _, _, _, _⟩ _ _ _ _ _ _; refine o_callA (take_of (es := mput [] 1 1) (least_next d 3 2 3 p q rfl (by decide) (by decide) (by decide))) (fun _ _ => ?_); try simp only [List.cons_append, List.nil_append])
  (refine go ?_; intros)
  (show wpO _ _ ⟨_, .call _, _, _, _, _⟩ _ _ _ _ _ _; refine o_callA (give_ok d 3 3 p q [] (mput (mput [] 1 1) 2 2) 1 (by decide) (by decide) (by decide) (by decide)) (fun _ _ => ?_); try simp only [List.cons_append, List.nil_append])
  rw [upL_one]
  (refine go ?_; intros)
  (show wpO _ _ ⟨_, .call _, _, _, _, _⟩ _ _ _ _ _ _; refine o_callA (take_of (es := mdel (mput (mput [] 1 1) 2 2) 1) (least_pop d 3 3 p q [1] [] 1 (by decide) (by decide) (popV_one 1) (popL_one 1))) (fun _ _ => ?_); try simp only [List.cons_append, List.nil_append])
  (refine go ?_; intros)
  (show wpO _ _ ⟨_, .call _, _, _, _, _⟩ _ _ _ _ _ _; refine o_callA (ids_len d 3 3 p q (mput (mdel (mput (mput [] 1 1) 2 2) 1) 1 1)) (fun _ _ => ?_); try simp only [List.cons_append, List.nil_append])
  rw [show (((mput (mdel (mput (mput [] 1 1) 2 2) 1) 1 1).length : Nat) : Int) = 2 by decide]
  (refine go ?_; intros)
  refine q_ret1 rfl rfl () rfl trivial ?_
  ((try simp only [List.cons_append, List.nil_append]); repeat (first | exact Ent.nil | (apply Ent.cons; repeat (first | exact Pick.head | apply Pick.tail))))
end Go.Proofs.Ytgpdfhjnlelhlaa
