/-
  The package ids: New and All.
-/
import Derived.Test.YtgpdfhjnlelhlaaIdsE
set_option linter.unusedSimpArgs false
set_option linter.unusedVariables false
namespace Go.Proofs.Ytgpdfhjnlelhlaa
open Go Go.Sx
attribute [local irreducible] MidQ wpE wpO wpC qE wpQ wpQO wpH wpHO wpD wpDO wpZ Ev own emp exI sl ch PostS LoopQ Rd rowsAt
theorem ids_newBad (most : Int) (h : most < 1 ∨ 65535 < most) : FnDoes Try.prog 8 [.int .i64 most] [] (fun _ : Unit => True) (fun _ => .tuple #[.pointer none, .int .i64 1]) (fun _ => []) := by
  refine does_of Try.func8 rfl rfl Try.ntmps8 rfl (by simp only [enum, Nat.reduceAdd, Nat.zero_add]; exact rfl) (fun c => ?_)
  by_cases h1 : most < 1
  · (refine go ?_; intros)
    exact q_ret2 rfl rfl rfl () rfl trivial Ent.nil
  · have h2 : 65535 < most := by omega
    (refine go ?_; intros)
    exact q_ret2 rfl rfl rfl () rfl trivial Ent.nil
theorem ids_new (most : Int) (h1 : 1 ≤ most) (h2 : most ≤ 65535) : FnDoes Try.prog 8 [.int .i64 most] [] (fun _ : Nat × Nat × Nat => True) (fun y => .tuple #[ptr y.1, .int .i64 0]) (fun y => [idsC y.1 most 1 y.2.1 y.2.2, backI y.2.1 [], mapI y.2.2 []]) := by
  refine does_of Try.func8 rfl rfl Try.ntmps8 rfl (by simp only [enum, Nat.reduceAdd, Nat.zero_add]; exact rfl) (fun c => ?_)
  have h3 : ¬ most < 1 := by omega
  have h4 : ¬ 65535 < most := by omega
  (refine go ?_; intro s p)
  refine o_makeMap rfl (fun q => ?_)
  (refine go ?_; intro d)
  (refine go ?_; intros)
  refine q_ret2 rfl rfl rfl (d, p, q) rfl trivial ?_
  refine Ent.cons (by repeat (first | exact Pick.head | apply Pick.tail)) (Ent.fold (.slice (some ⟨s, 0, none⟩) 0 0) trivial (Ent.cons (by repeat (first | exact Pick.head | apply Pick.tail)) ?_))
  refine Ent.slClose (xs := []) (junk := []) (b := s) (len := 0) (cap := 0) (by repeat (first | exact Pick.head | apply Pick.tail)) rfl rfl (Nat.le_refl _) (by decide) rfl ?_
  ((try simp only [List.cons_append, List.nil_append]); repeat (first | exact Ent.nil | (apply Ent.cons; repeat (first | exact Pick.head | apply Pick.tail))))
structure AllSt where
  k : Nat
  w : Value
def allN (es : List (Int × Int)) : Nat → List Int
  | 0 => []
  | k + 1 => allN es k ++ (if (mget es (k + 1 : Nat)).getD 0 = 0 then [] else [((k + 1 : Nat) : Int)])
theorem allN_length (es : List (Int × Int)) : ∀ k, (allN es k).length ≤ k
  | 0 => Nat.le_refl _
  | k + 1 => by
    have := allN_length es k
    rw [allN, List.length_append]
    split <;> simp <;> omega
theorem ids_all (d : Nat) (most : Int) (m : Nat) (p q : Nat) (es : List (Int × Int)) (hm : m ≤ 65535) : FnDoes Try.prog 16 [ptr d] [idsC d most ((m + 1 : Nat) : Int) p q, mapI q es] (fun _ : Value => True) (fun v => v) (fun v => [idsC d most ((m + 1 : Nat) : Int) p q, mapI q es, intsI v (allN es m)]) := by
  refine does_of Try.func16 rfl rfl Try.ntmps16 rfl (by simp only [enum, Nat.reduceAdd, Nat.zero_add]; exact rfl) (fun c => ?_)
  (refine go ?_; intros)
  (show wpO _ _ ⟨_, .call _, _, _, _, _⟩ _ _ _ _ _ _; refine o_callA (ids_none d most ((m + 1 : Nat) : Int) p q) (fun _ _ => ?_); try simp only [List.cons_append, List.nil_append])
  (refine go ?_; intros)
  refine wpC_loop (σ := AllSt) (fun s => s.k ≤ m)
    (fun s => [(0, ptr d), (3, s.w), (4, .int .i64 ((s.k + 1 : Nat) : Int))])
    (fun s => [idsC d most ((m + 1 : Nat) : Int) p q, mapI q es, intsI s.w (allN es s.k)])
    (fun s => m - s.k) ⟨0, .slice none 0 0⟩ (Nat.zero_le _) (by repeat (first | exact trivial | refine ⟨rfl, ?_⟩)) (Ent.cons (by repeat (first | exact Pick.head | apply Pick.tail)) (Ent.cons (by repeat (first | exact Pick.head | apply Pick.tail)) (Ent.slNil Ent.nil))) (fun s hs => ?_)
  obtain ⟨k, w⟩ := s
  simp only at hs ⊢
  have e1 : ((k + 1 : Nat) : Int) + 1 = ((k + 1 + 1 : Nat) : Int) := by omega
  have hle := allN_length es k
  by_cases hkl : k < m
  · have hlt : ((k + 1 : Nat) : Int) < ((m + 1 : Nat) : Int) := by omega
    (refine go ?_; intros)
    refine o_evB (ev_lookup rfl rfl rfl rfl rfl rfl (by repeat (first | exact Pick.head | apply Pick.tail))) ?_
    by_cases hz : (mget es (k + 1 : Nat)).getD 0 = 0
    · rw [hz]
      (refine go ?_; intros)
      try rw [e1]
      (refine go ?_; intros)
      refine q_round ⟨k + 1, w⟩ (by simp only; omega) (by simp only; omega) (by repeat (first | exact trivial | refine ⟨rfl, ?_⟩)) ?_
      simp only [allN, hz, if_true, List.append_nil]
      ((try simp only [List.cons_append, List.nil_append]); repeat (first | exact Ent.nil | (apply Ent.cons; repeat (first | exact Pick.head | apply Pick.tail))))
    · (refine go ?_; intros)
      refine o_append (sz := 1) (news := [.int .i64 ((k + 1 : Nat) : Int)]) (m := 1) rfl rfl rfl rfl rfl rfl rfl rfl (by repeat (first | exact Pick.head | apply Pick.tail)) ?_ ?_ rfl (fun w' => ?_)
      · exact src_pts rfl (by repeat (first | exact Pick.head | apply Pick.tail)) rfl rfl rfl
      · show (_ + 1) * 8 ≤ 140737488355328
        omega
      rw [intsI_snoc]
      (refine go ?_; intros)
      try rw [e1]
      (refine go ?_; intros)
      refine q_round ⟨k + 1, w'⟩ (by simp only; omega) (by simp only; omega) (by repeat (first | exact trivial | refine ⟨rfl, ?_⟩)) ?_
      simp only [allN, hz, if_false]
      ((try simp only [List.cons_append, List.nil_append]); repeat (first | exact Ent.nil | (apply Ent.cons; repeat (first | exact Pick.head | apply Pick.tail))))
  · obtain rfl : k = m := by omega
    have hlt : ¬ ((k + 1 : Nat) : Int) < ((k + 1 : Nat) : Int) := by omega
    (refine go ?_; intros)
    refine q_ret1 rfl rfl w rfl trivial ?_
    ((try simp only [List.cons_append, List.nil_append]); repeat (first | exact Ent.nil | (apply Ent.cons; repeat (first | exact Pick.head | apply Pick.tail))))
end Go.Proofs.Ytgpdfhjnlelhlaa
