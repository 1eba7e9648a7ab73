/-
  Go's binary search and clone at rows of int; the package inbox.
-/
import Derived.Test.YtaodhkiejnipmaaDoorFltT
import Derived.Test.YtaodhkiejnipmaaDoorSesM
set_option linter.unusedSimpArgs false
set_option linter.unusedVariables false
set_option maxRecDepth 20000
namespace Go.Proofs.YtaodhkiejnipmaaDoor
open Go Go.Sx
theorem intsI_append (w : Value) (l m : List Int) : sl 3 1 w (l.length + m.length) (ints l ++ ints m) = intsI w (l ++ m) := by simp [intsI, ints_append]
attribute [local irreducible] MidQ wpE wpO wpC qE wpQ wpQO wpH wpHO wpD wpDO wpZ Ev own emp exI sl ch PostS LoopQ Rd rowsAt

theorem cmp_nan (x : Int) : FnDoes Tryd.prog 95 [.int .i64 x] [] (fun _ : Unit => True) (fun _ => .bool false) (fun _ => []) := by
  refine does_of Tryd.func95 rfl rfl Tryd.ntmps95 rfl (by simp only [enum, Nat.reduceAdd, Nat.zero_add]; exact rfl) (fun c => ?_)
  (refine go ?_; intros)
  exact q_ret1 rfl rfl () rfl trivial Ent.nil
theorem slices_nan (x : Int) : FnDoes Tryd.prog 91 [.int .i64 x] [] (fun _ : Unit => True) (fun _ => .bool false) (fun _ => []) := by
  refine does_of Tryd.func91 rfl rfl Tryd.ntmps91 rfl (by simp only [enum, Nat.reduceAdd, Nat.zero_add]; exact rfl) (fun c => ?_)
  (refine go ?_; intros)
  exact q_ret1 rfl rfl () rfl trivial Ent.nil
theorem less_t (x y : Int) (h : x < y) : FnDoes Tryd.prog 90 [.int .i64 x, .int .i64 y] [] (fun _ : Unit => True) (fun _ => .bool true) (fun _ => []) := by
  refine does_of Tryd.func90 rfl rfl Tryd.ntmps90 rfl (by simp only [enum, Nat.reduceAdd, Nat.zero_add]; exact rfl) (fun c => ?_)
  (refine go ?_; intros)
  (show wpO _ _ ⟨_, .call _, _, _, _, _⟩ _ _ _ _ _ _; refine o_callA (cmp_nan x) (fun _ _ => ?_); try simp only [List.cons_append, List.nil_append])
  (refine go ?_; intros)
  exact q_ret1 rfl rfl () rfl trivial Ent.nil
theorem less_f (x y : Int) (h : ¬ x < y) : FnDoes Tryd.prog 90 [.int .i64 x, .int .i64 y] [] (fun _ : Unit => True) (fun _ => .bool false) (fun _ => []) := by
  refine does_of Tryd.func90 rfl rfl Tryd.ntmps90 rfl (by simp only [enum, Nat.reduceAdd, Nat.zero_add]; exact rfl) (fun c => ?_)
  (refine go ?_; intros)
  (show wpO _ _ ⟨_, .call _, _, _, _, _⟩ _ _ _ _ _ _; refine o_callA (cmp_nan x) (fun _ _ => ?_); try simp only [List.cons_append, List.nil_append])
  (refine go ?_; intros)
  exact q_ret1 rfl rfl () rfl trivial Ent.nil

theorem clone_ints (X : HProp) (v : Value) (l : List Int) (hr : Rd X 1 v l.length (ints l)) (hb : l.length * 8 ≤ 140737488355328) : FnDoes Tryd.prog 76 [v] [X] (fun _ : Value => True) (fun v' => v') (fun v' => [X, intsI v' l]) := by
  refine does_of Tryd.func76 rfl rfl Tryd.ntmps76 rfl (by simp only [enum, Nat.reduceAdd, Nat.zero_add]; exact rfl) (fun c => ?_)
  refine wpC_fact (hr.kind .head) (fun hk => ?_)
  rcases hk with ⟨rfl, hm⟩ | ⟨a, cap, rfl, hcap, _⟩
  · obtain rfl : l = [] := List.eq_nil_of_length_eq_zero hm
    (refine go ?_; intros)
    exact q_ret1 rfl rfl (.slice none 0 0) rfl trivial (Ent.cons .head (Ent.slNil Ent.nil))
  · (refine go ?_; intro bb)
    (refine go ?_; intros)
    refine wpO_ent (N := [sl 3 1 (.slice (some ⟨bb, 0, none⟩) 0 0) 0 [], X]) (Ent.slClose (junk := []) .head rfl rfl (Nat.le_refl _) (Nat.zero_le _) rfl (by ((try simp only [List.cons_append, List.nil_append]); repeat (first | exact Ent.nil | (apply Ent.cons; repeat (first | exact Pick.head | apply Pick.tail)))))) ?_
    refine o_append (sz := 1) (news := ints l) (m := l.length) rfl rfl rfl rfl rfl rfl rfl rfl (by repeat (first | exact Pick.head | apply Pick.tail)) (hr.src (.tail .head) rfl) ?_ rfl (fun v' => ?_)
    · show (0 + l.length) * 8 ≤ 140737488355328
      omega
    (refine go ?_; intros)
    refine q_ret1 rfl rfl v' rfl trivial ?_
    simp only [Nat.zero_add, List.nil_append]
    ((try simp only [List.cons_append, List.nil_append]); repeat (first | exact Ent.nil | (apply Ent.cons; repeat (first | exact Pick.head | apply Pick.tail))))

structure BsSt where
  i : Nat
  j : Nat
set_option maxHeartbeats 1000000 in
theorem bin_search (X : HProp) (v : Value) (l : List Int) (t : Int) (hr : Rd X 1 v l.length (ints l)) (ha : Asc l) (hb : l.length ≤ 1000000) : FnDoes Tryd.prog 84 [v, .int .i64 t] [X] (fun k : Nat => Lb l t k)
    (fun k => .tuple #[.int .i64 k, .bool (decide (l[k]? = some t))]) (fun _ => [X]) := by
  refine does_of Tryd.func84 rfl rfl Tryd.ntmps84 rfl (by simp only [enum, Nat.reduceAdd, Nat.zero_add]; exact rfl) (fun c => ?_)
  refine wpC_fact (hr.isSlice .head) (fun hk => ?_)
  obtain ⟨a, cap, rfl, hk⟩ := hk
  (refine go ?_; intros)
  refine wpC_loop (σ := BsSt) (fun s => s.i ≤ s.j ∧ s.j ≤ l.length ∧ (∀ j (h : j < l.length), j < s.i → l[j] < t) ∧ ∀ j (h : j < l.length), s.j ≤ j → t ≤ l[j])
    (fun s => [(0, .slice a l.length cap), (1, .int .i64 t), (4, .int .i64 0), (5, .bool false), (6, .int .i64 l.length), (7, .int .i64 s.i), (8, .int .i64 s.j)]) (fun _ => [X])
    (fun s => s.j - s.i) ⟨0, l.length⟩ ⟨Nat.zero_le _, Nat.le_refl _, fun _ _ h => absurd h (Nat.not_lt_zero _), fun _ h1 h2 => absurd h1 (Nat.not_lt.2 h2)⟩ (by repeat (first | exact trivial | refine ⟨rfl, ?_⟩)) (by ((try simp only [List.cons_append, List.nil_append]); repeat (first | exact Ent.nil | (apply Ent.cons; repeat (first | exact Pick.head | apply Pick.tail))))) (fun s hs => ?_)
  obtain ⟨i, j⟩ := s
  simp only at hs ⊢
  obtain ⟨s1, s2, s3, s4⟩ := hs
  by_cases hij : i < j
  · obtain ⟨b, off, rfl, hc⟩ := hk (by omega)
    obtain ⟨h, hh⟩ : ∃ h : Nat, h = (i + j) / 2 := ⟨_, rfl⟩
    have hhl : h < l.length := by omega
    have hcell : (ints l)[h * 1]? = some (.int .i64 l[h]) := by rw [Nat.mul_one]; exact ints_get hhl
    have hhi : ((i : Int) + (j : Int)) / 2 = (h : Int) := by omega
    (refine go ?_; intros)
    refine o_evB (ev_shr1 rfl rfl) ?_
    rw [hhi]
    (refine go ?_; intros)
    refine o_evB (ev_load_rd rfl rfl rfl hr .head rfl hcell) ?_
    (refine go ?_; intros)
    by_cases hlt : l[h] < t
    · (show wpO _ _ ⟨_, .call _, _, _, _, _⟩ _ _ _ _ _ _; refine o_callA (less_t l[h] t hlt) (fun _ _ => ?_); try simp only [List.cons_append, List.nil_append])
      (refine go ?_; intros)
      refine q_round ⟨h + 1, j⟩ ⟨by simp only; omega, s2, ?_, s4⟩ (by simp only; omega) (by repeat (first | exact trivial | refine ⟨rfl, ?_⟩)) (by ((try simp only [List.cons_append, List.nil_append]); repeat (first | exact Ent.nil | (apply Ent.cons; repeat (first | exact Pick.head | apply Pick.tail)))))
      intro k hk1 hk2
      simp only at hk2
      by_cases e : k = h
      · subst e; exact hlt
      · have := asc_lt ha hhl (show k < h by omega); omega
    · (show wpO _ _ ⟨_, .call _, _, _, _, _⟩ _ _ _ _ _ _; refine o_callA (less_f l[h] t hlt) (fun _ _ => ?_); try simp only [List.cons_append, List.nil_append])
      (refine go ?_; intros)
      refine q_round ⟨i, h⟩ ⟨by simp only; omega, by simp only; omega, s3, ?_⟩ (by simp only; omega) (by repeat (first | exact trivial | refine ⟨rfl, ?_⟩)) (by ((try simp only [List.cons_append, List.nil_append]); repeat (first | exact Ent.nil | (apply Ent.cons; repeat (first | exact Pick.head | apply Pick.tail)))))
      intro k hk1 hk2
      simp only at hk2
      by_cases e : k = h
      · subst e; omega
      · have := asc_lt ha hk1 (show h < k by omega); omega
  · obtain rfl : i = j := by omega
    by_cases hil : i < l.length
    · obtain ⟨b, off, rfl, hc⟩ := hk (by omega)
      have hcell : (ints l)[i * 1]? = some (.int .i64 l[i]) := by rw [Nat.mul_one]; exact ints_get hil
      (refine go ?_; intros)
      refine o_evB (ev_load_rd rfl rfl rfl hr .head rfl hcell) ?_
      by_cases heq : l[i] = t
      · (refine go ?_; intros)
        refine q_ret2 rfl rfl rfl i ?_ ⟨s2, s3, s4⟩ (Ent.refl _)
        simp [List.getElem?_eq_getElem hil, heq]
      · (refine go ?_; intros)
        refine o_evB (ev_load_rd rfl rfl rfl hr .head rfl hcell) ?_
        (refine go ?_; intros)
        (show wpO _ _ ⟨_, .call _, _, _, _, _⟩ _ _ _ _ _ _; refine o_callA (slices_nan l[i]) (fun _ _ => ?_); try simp only [List.cons_append, List.nil_append])
        (refine go ?_; intros)
        refine q_ret2 rfl rfl rfl i ?_ ⟨s2, s3, s4⟩ (by ((try simp only [List.cons_append, List.nil_append]); repeat (first | exact Ent.nil | (apply Ent.cons; repeat (first | exact Pick.head | apply Pick.tail)))))
        simp [List.getElem?_eq_getElem hil, heq]
    · (refine go ?_; intros)
      refine q_ret2 rfl rfl rfl i ?_ ⟨s2, s3, s4⟩ (Ent.refl _)
      simp [List.getElem?_eq_none (Nat.le_of_not_lt hil)]
end Go.Proofs.YtaodhkiejnipmaaDoor
