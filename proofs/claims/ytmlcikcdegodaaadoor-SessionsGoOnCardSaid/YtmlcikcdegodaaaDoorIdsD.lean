/-
  The package ids: Take and Give.
-/
import Derived.Test.YtmlcikcdegodaaaDoorIdsC
set_option linter.unusedSimpArgs false
set_option linter.unusedVariables false
set_option maxRecDepth 20000
namespace Go.Proofs.YtmlcikcdegodaaaDoor
open Go Go.Sx
attribute [local irreducible] MidQ wpE wpO wpC qE wpQ wpQO wpH wpHO wpD wpDO wpZ Ev own emp exI sl ch PostS LoopQ Rd rowsAt
theorem take_of {d : Nat} {most next next' : Int} {p q : Nat} {l l' : List Int} {es : List (Int × Int)} {r : Int}
    (S : FnDoes Tryd.prog 61 [ptr d] [idsC d most next p q, backI p l] (fun _ : Unit => True) (fun _ => .tuple #[.int .i64 r, .bool true]) (fun _ => [idsC d most next' p q, backI p l'])) :
    FnDoes Tryd.prog 56 [ptr d] [idsC d most next p q, backI p l, mapI q es] (fun _ : Unit => True) (fun _ => .tuple #[.int .i64 r, .int .i64 0]) (fun _ => [idsC d most next' p q, backI p l', mapI q (mput es r r)]) := by
  refine does_of Tryd.func56 rfl rfl Tryd.ntmps56 rfl (by simp only [enum, Nat.reduceAdd, Nat.zero_add]; exact rfl) (fun c => ?_)
  (refine go ?_; intros)
  (show wpO _ _ ⟨_, .call _, _, _, _, _⟩ _ _ _ _ _ _; refine o_callA (ids_none d most next p q) (fun _ _ => ?_); try simp only [List.cons_append, List.nil_append])
  (refine go ?_; intros)
  (show wpO _ _ ⟨_, .call _, _, _, _, _⟩ _ _ _ _ _ _; refine o_callA (S) (fun _ _ => ?_); try simp only [List.cons_append, List.nil_append])
  (refine go ?_; intros)
  refine o_mapUpdate rfl rfl rfl rfl rfl (by repeat (first | exact Pick.head | apply Pick.tail)) ?_
  (refine go ?_; intros)
  refine q_ret2 rfl rfl rfl () rfl trivial ?_
  ((try simp only [List.cons_append, List.nil_append]); repeat (first | exact Ent.nil | (apply Ent.cons; repeat (first | exact Pick.head | apply Pick.tail))))
theorem take_full (d : Nat) (most next : Int) (p q : Nat) (es : List (Int × Int)) (h1 : most < next) :
    FnDoes Tryd.prog 56 [ptr d] [idsC d most next p q, backI p [], mapI q es] (fun _ : Unit => True) (fun _ => .tuple #[.int .i64 0, .int .i64 6]) (fun _ => [idsC d most next p q, backI p [], mapI q es]) := by
  refine does_of Tryd.func56 rfl rfl Tryd.ntmps56 rfl (by simp only [enum, Nat.reduceAdd, Nat.zero_add]; exact rfl) (fun c => ?_)
  (refine go ?_; intros)
  (show wpO _ _ ⟨_, .call _, _, _, _, _⟩ _ _ _ _ _ _; refine o_callA (ids_none d most next p q) (fun _ _ => ?_); try simp only [List.cons_append, List.nil_append])
  (refine go ?_; intros)
  (show wpO _ _ ⟨_, .call _, _, _, _, _⟩ _ _ _ _ _ _; refine o_callA (least_full d most next p q h1) (fun _ _ => ?_); try simp only [List.cons_append, List.nil_append])
  (refine go ?_; intros)
  refine q_ret2 rfl rfl rfl () rfl trivial ?_
  ((try simp only [List.cons_append, List.nil_append]); repeat (first | exact Ent.nil | (apply Ent.cons; repeat (first | exact Pick.head | apply Pick.tail))))
end Go.Proofs.YtmlcikcdegodaaaDoor
