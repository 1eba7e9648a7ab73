/-
  The package ids: New and All.
-/
import Derived.Test.YtmlcikcdegodaaaDoorIdsE
set_option linter.unusedSimpArgs false
set_option linter.unusedVariables false
set_option maxRecDepth 20000
namespace Go.Proofs.YtmlcikcdegodaaaDoor
open Go Go.Sx
attribute [local irreducible] MidQ wpE wpO wpC qE wpQ wpQO wpH wpHO wpD wpDO wpZ Ev own emp exI sl ch PostS LoopQ Rd rowsAt
theorem ids_newBad (most : Int) (h : most < 1 ∨ 65535 < most) : FnDoes Tryd.prog 54 [.int .i64 most] [] (fun _ : Unit => True) (fun _ => .tuple #[.pointer none, .int .i64 1]) (fun _ => []) := by
  refine does_of Tryd.func54 rfl rfl Tryd.ntmps54 rfl (by simp only [enum, Nat.reduceAdd, Nat.zero_add]; exact rfl) (fun c => ?_)
  by_cases h1 : most < 1
  · (refine go ?_; intros)
    exact q_ret2 rfl rfl rfl () rfl trivial Ent.nil
  · have h2 : 65535 < most := by omega
    (refine go ?_; intros)
    exact q_ret2 rfl rfl rfl () rfl trivial Ent.nil
theorem ids_new (most : Int) (h1 : 1 ≤ most) (h2 : most ≤ 65535) : FnDoes Tryd.prog 54 [.int .i64 most] [] (fun _ : Nat × Nat × Nat => True) (fun y => .tuple #[ptr y.1, .int .i64 0]) (fun y => [idsC y.1 most 1 y.2.1 y.2.2, backI y.2.1 [], mapI y.2.2 []]) := by
  refine does_of Tryd.func54 rfl rfl Tryd.ntmps54 rfl (by simp only [enum, Nat.reduceAdd, Nat.zero_add]; exact rfl) (fun c => ?_)
  have h3 : ¬ most < 1 := by omega
  have h4 : ¬ 65535 < most := by omega
  (refine go ?_; intro s p)
  refine o_makeMap rfl (fun q => ?_)
  (refine go ?_; intro d)
  (refine go ?_; intros)
  refine q_ret2 rfl rfl rfl (d, p, q) rfl trivial ?_
  refine Ent.cons (by repeat (first | exact Pick.head | apply Pick.tail)) (Ent.fold (.slice (some ⟨s, 0, none⟩) 0 0) trivial (Ent.cons (by repeat (first | exact Pick.head | apply Pick.tail)) ?_))
  refine Ent.slClose (xs := []) (junk := []) (b := s) (len := 0) (cap := 0) (by repeat (first | exact Pick.head | apply Pick.tail)) rfl rfl (Nat.le_refl _) (by decide) rfl ?_
  ((try simp only [List.cons_append, List.nil_append]); repeat (first | exact Ent.nil | (apply Ent.cons; repeat (first | exact Pick.head | apply Pick.tail))))
end Go.Proofs.YtmlcikcdegodaaaDoor
