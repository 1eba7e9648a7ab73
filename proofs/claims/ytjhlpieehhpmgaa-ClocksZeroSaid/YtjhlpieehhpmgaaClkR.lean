/-
  The document's clocks: a row of times.
-/
import Derived.Test.YtjhlpieehhpmgaaClkF
set_option linter.unusedSimpArgs false
set_option linter.unusedVariables false
namespace Go.Proofs.Ytjhlpieehhpmgaa
open Go Go.Sx
abbrev refC (x : Nat) (T : List Int) : HProp := pts x (.cells (ints T).toArray 50 (0, 0))
theorem ints_at {T : List Int} {k : Nat} (h : k < T.length) : (ints T)[0 + k * 1]? = some (.int .i64 (dueOf T k)) := by
  rw [show 0 + k * 1 = k by omega, ints_get h, due_get h]
def firstI : Option Nat → Int
  | none => -1
  | some k => k
structure RnSt where
  i : Nat
  T : List Int
structure RfSt where
  i : Nat
  y : Option Nat
structure RiSt where
  i : Nat
  T : List Int
  o : List Int
  w : Value
attribute [local irreducible] MidQ wpE wpO wpC qE wpQ wpQO wpH wpHO wpD wpDO wpZ Ev own emp exI sl ch PostS LoopQ Rd rowsAt
theorem ref_new : FnDoes Try.prog 16 [] [] (fun _ : Nat => True) (fun x => ptr x) (fun x => [refC x (List.replicate 8 (-1))]) := by
  refine does_of Try.func16 rfl rfl Try.ntmps16 rfl (by simp only [enum, Nat.reduceAdd, Nat.zero_add]; exact rfl) (fun c => ?_)
  (refine go ?_; intro x)
  refine wpC_loop (σ := RnSt) (fun s => s.i ≤ 8 ∧ s.T.length = 8 ∧ ∀ k, k < s.i → dueOf s.T k = -1)
    (fun s => [(1, ptr x), (2, .int .i64 s.i)]) (fun s => [refC x s.T]) (fun s => 8 - s.i) ⟨0, List.replicate 8 0⟩ ⟨Nat.zero_le _, rfl, fun k h => by simp only at h; omega⟩ (by repeat (first | exact trivial | refine ⟨rfl, ?_⟩)) (by ((try simp only [List.cons_append, List.nil_append]); repeat (first | exact Ent.nil | (apply Ent.cons; repeat (first | exact Pick.head | apply Pick.tail))))) (fun s hs => ?_)
  obtain ⟨i, T⟩ := s
  simp only at hs ⊢
  obtain ⟨s1, s2, s3⟩ := hs
  have hL : (ints T).length = 8 := by rw [ints_len, s2]
  by_cases hi : i < 8
  · (refine go ?_; intros)
    rw [ints_set]
    (refine go ?_; intros)
    refine q_round ⟨i + 1, T.set i (-1)⟩ ⟨by simp only; omega, by simpa using s2, fun k hk => ?_⟩ (by simp only; omega) (by repeat (first | exact trivial | refine ⟨rfl, ?_⟩)) (by ((try simp only [List.cons_append, List.nil_append]); repeat (first | exact Ent.nil | (apply Ent.cons; repeat (first | exact Pick.head | apply Pick.tail)))))
    rw [due_set (by omega)]; split
    · rfl
    · exact s3 k (by simp only at hk; omega)
  · (refine go ?_; intros)
    have e : T = List.replicate 8 (-1) := by
      apply List.ext_getElem (by simp [s2])
      intro k h1 h2
      rw [due_get h1, s3 k (by omega), List.getElem_replicate]
    rw [e]
    refine q_ret1 rfl rfl x rfl trivial ?_
    ((try simp only [List.cons_append, List.nil_append]); repeat (first | exact Ent.nil | (apply Ent.cons; repeat (first | exact Pick.head | apply Pick.tail))))
theorem ref_set (x : Nat) (T : List Int) (who due : Int) (hT : T.length = 8) : FnDoes Try.prog 17 [ptr x, .int .i64 who, .int .i64 due] [refC x T] (fun _ : Unit => True) (fun _ => .int .i64 (setV who due)) (fun _ => [refC x (setT T who due)]) := by
  refine does_of Try.func17 rfl rfl Try.ntmps17 rfl (by simp only [enum, Nat.reduceAdd, Nat.zero_add]; exact rfl) (fun c => ?_)
  have hL : (ints T).length = 8 := by rw [ints_len, hT]
  by_cases h1 : who < 0
  · obtain ⟨e1, e2⟩ := set_bad (T := T) (due := due) (.inl h1)
    rw [e1, e2]
    (refine go ?_; intros)
    exact q_ret1 rfl rfl () rfl trivial (by ((try simp only [List.cons_append, List.nil_append]); repeat (first | exact Ent.nil | (apply Ent.cons; repeat (first | exact Pick.head | apply Pick.tail)))))
  by_cases h2 : 8 ≤ who
  · obtain ⟨e1, e2⟩ := set_bad (T := T) (due := due) (.inr h2)
    rw [e1, e2]
    (refine go ?_; intros)
    exact q_ret1 rfl rfl () rfl trivial (by ((try simp only [List.cons_append, List.nil_append]); repeat (first | exact Ent.nil | (apply Ent.cons; repeat (first | exact Pick.head | apply Pick.tail)))))
  by_cases h3 : due < 0
  · obtain ⟨e1, e2⟩ := set_range (T := T) (who := who) (by omega) h3
    rw [e1, e2]
    (refine go ?_; intros)
    exact q_ret1 rfl rfl () rfl trivial (by ((try simp only [List.cons_append, List.nil_append]); repeat (first | exact Ent.nil | (apply Ent.cons; repeat (first | exact Pick.head | apply Pick.tail)))))
  obtain ⟨k, rfl⟩ : ∃ k : Nat, who = k := ⟨who.toNat, by omega⟩
  have hk : k < 8 := by omega
  obtain ⟨e1, e2⟩ := set_ok (T := T) hk (show 0 ≤ due by omega)
  rw [e1, e2]
  (refine go ?_; intros)
  rw [ints_set]
  exact q_ret1 rfl rfl () rfl trivial (by ((try simp only [List.cons_append, List.nil_append]); repeat (first | exact Ent.nil | (apply Ent.cons; repeat (first | exact Pick.head | apply Pick.tail)))))
theorem ref_drop (x : Nat) (T : List Int) (who : Int) (hT : T.length = 8) : FnDoes Try.prog 19 [ptr x, .int .i64 who] [refC x T] (fun _ : Unit => True) (fun _ => .bool (dropV T who)) (fun _ => [refC x (dropT T who)]) := by
  refine does_of Try.func19 rfl rfl Try.ntmps19 rfl (by simp only [enum, Nat.reduceAdd, Nat.zero_add]; exact rfl) (fun c => ?_)
  have hL : (ints T).length = 8 := by rw [ints_len, hT]
  by_cases h1 : who < 0
  · obtain ⟨e1, e2⟩ := drop_no (T := T) (who := who) (by omega)
    rw [e1, e2]
    (refine go ?_; intros)
    exact q_ret1 rfl rfl () rfl trivial (by ((try simp only [List.cons_append, List.nil_append]); repeat (first | exact Ent.nil | (apply Ent.cons; repeat (first | exact Pick.head | apply Pick.tail)))))
  by_cases h2 : 8 ≤ who
  · obtain ⟨e1, e2⟩ := drop_no (T := T) (who := who) (by omega)
    rw [e1, e2]
    (refine go ?_; intros)
    exact q_ret1 rfl rfl () rfl trivial (by ((try simp only [List.cons_append, List.nil_append]); repeat (first | exact Ent.nil | (apply Ent.cons; repeat (first | exact Pick.head | apply Pick.tail)))))
  obtain ⟨k, rfl⟩ : ∃ k : Nat, who = k := ⟨who.toNat, by omega⟩
  have hk : k < 8 := by omega
  have hci := ints_at (T := T) (k := k) (by omega)
  by_cases h3 : dueOf T k < 0
  · obtain ⟨e1, e2⟩ := drop_no (T := T) (who := k) (by rw [Int.toNat_natCast]; omega)
    rw [e1, e2]
    (refine go ?_; intros)
    exact q_ret1 rfl rfl () rfl trivial (by ((try simp only [List.cons_append, List.nil_append]); repeat (first | exact Ent.nil | (apply Ent.cons; repeat (first | exact Pick.head | apply Pick.tail)))))
  · obtain ⟨e1, e2⟩ := drop_yes (T := T) hk (by omega)
    rw [e1, e2]
    (refine go ?_; intros)
    rw [ints_set]
    exact q_ret1 rfl rfl () rfl trivial (by ((try simp only [List.cons_append, List.nil_append]); repeat (first | exact Ent.nil | (apply Ent.cons; repeat (first | exact Pick.head | apply Pick.tail)))))
set_option maxHeartbeats 4000000 in
theorem ref_first (x : Nat) (T : List Int) (hT : T.length = 8) : FnDoes Try.prog 29 [ptr x] [refC x T] (fun y : Option Nat => IsFirst T 8 y) (fun y => .int .i64 (firstI y)) (fun _ => [refC x T]) := by
  refine does_of Try.func29 rfl rfl Try.ntmps29 rfl (by simp only [enum, Nat.reduceAdd, Nat.zero_add]; exact rfl) (fun c => ?_)
  (refine go ?_; intros)
  refine wpC_loop (σ := RfSt) (fun s => s.i ≤ 8 ∧ IsFirst T s.i s.y)
    (fun s => [(0, ptr x), (3, .int .i64 (firstI s.y)), (4, .int .i64 s.i)]) (fun _ => [refC x T]) (fun s => 8 - s.i) ⟨0, none⟩ ⟨Nat.zero_le _, IsFirst.zero T⟩ (by repeat (first | exact trivial | refine ⟨rfl, ?_⟩)) (by ((try simp only [List.cons_append, List.nil_append]); repeat (first | exact Ent.nil | (apply Ent.cons; repeat (first | exact Pick.head | apply Pick.tail))))) (fun s hs => ?_)
  obtain ⟨i, y⟩ := s
  simp only at hs ⊢
  obtain ⟨s1, s2⟩ := hs
  by_cases hi : i < 8
  · have hci := ints_at (T := T) (k := i) (by omega)
    by_cases h0 : dueOf T i < 0
    · (refine go ?_; intros)
      refine wpC_drawnA [refC x T] 25 ?_
      ((first | refine dt 0 ?_ | refine dts 0 ?_); (first | refine dt 1 ?_ | refine dts 1 ?_); (first | refine df 2 ?_ | refine dfs 2 ?_); (first | refine df 3 ?_ | refine dfs 3 ?_); (first | refine df 4 ?_ | refine dfs 4 ?_); (first | refine df 5 ?_ | refine dfs 5 ?_); (first | refine df 6 ?_ | refine dfs 6 ?_); (first | refine df 7 ?_ | refine dfs 7 ?_); (first | refine df 8 ?_ | refine dfs 8 ?_); (first | refine df 9 ?_ | refine dfs 9 ?_); (first | refine df 10 ?_ | refine dfs 10 ?_); (first | refine dt 11 ?_ | refine dts 11 ?_); (first | refine dt 12 ?_ | refine dts 12 ?_); (first | refine dt 13 ?_ | refine dts 13 ?_); (first | refine dt 14 ?_ | refine dts 14 ?_); (first | refine dt 15 ?_ | refine dts 15 ?_); (first | refine dt 16 ?_ | refine dts 16 ?_); (first | refine dt 17 ?_ | refine dts 17 ?_); (first | refine dt 18 ?_ | refine dts 18 ?_); (first | refine df 19 ?_ | refine dfs 19 ?_); (first | refine df 20 ?_ | refine dfs 20 ?_); (first | refine df 21 ?_ | refine dfs 21 ?_); (first | refine df 22 ?_ | refine dfs 22 ?_); (first | refine df 23 ?_ | refine dfs 23 ?_); (first | refine df 24 ?_ | refine dfs 24 ?_); refine dl ?_)
      (refine go ?_; intros)
      refine q_round ⟨i + 1, y⟩ ⟨by simp only; omega, s2.stay (.inl h0)⟩ (by simp only; omega) (by repeat (first | exact trivial | refine ⟨rfl, ?_⟩)) (by ((try simp only [List.cons_append, List.nil_append]); repeat (first | exact Ent.nil | (apply Ent.cons; repeat (first | exact Pick.head | apply Pick.tail)))))
    · cases y with
      | none =>
        simp only [firstI]
        (refine go ?_; intros)
        refine wpC_drawnA [refC x T] 25 ?_
        ((first | refine dt 0 ?_ | refine dts 0 ?_); (first | refine dt 1 ?_ | refine dts 1 ?_); (first | refine df 2 ?_ | refine dfs 2 ?_); (first | refine df 3 ?_ | refine dfs 3 ?_); (first | refine df 4 ?_ | refine dfs 4 ?_); (first | refine df 5 ?_ | refine dfs 5 ?_); (first | refine df 6 ?_ | refine dfs 6 ?_); (first | refine df 7 ?_ | refine dfs 7 ?_); (first | refine df 8 ?_ | refine dfs 8 ?_); (first | refine df 9 ?_ | refine dfs 9 ?_); (first | refine df 10 ?_ | refine dfs 10 ?_); (first | refine dt 11 ?_ | refine dts 11 ?_); (first | refine dt 12 ?_ | refine dts 12 ?_); (first | refine dt 13 ?_ | refine dts 13 ?_); (first | refine dt 14 ?_ | refine dts 14 ?_); (first | refine dt 15 ?_ | refine dts 15 ?_); (first | refine dt 16 ?_ | refine dts 16 ?_); (first | refine dt 17 ?_ | refine dts 17 ?_); (first | refine dt 18 ?_ | refine dts 18 ?_); (first | refine df 19 ?_ | refine dfs 19 ?_); (first | refine df 20 ?_ | refine dfs 20 ?_); (first | refine df 21 ?_ | refine dfs 21 ?_); (first | refine df 22 ?_ | refine dfs 22 ?_); (first | refine df 23 ?_ | refine dfs 23 ?_); (first | refine df 24 ?_ | refine dfs 24 ?_); refine dl ?_)
        (refine go ?_; intros)
        refine q_round ⟨i + 1, some i⟩ ⟨by simp only; omega, s2.take (by omega) (fun k e => by cases e)⟩ (by simp only; omega) (by repeat (first | exact trivial | refine ⟨rfl, ?_⟩)) (by ((try simp only [List.cons_append, List.nil_append]); repeat (first | exact Ent.nil | (apply Ent.cons; repeat (first | exact Pick.head | apply Pick.tail)))))
      | some k =>
        have hk8 : k < 8 := by have := s2.1; omega
        have hck := ints_at (T := T) (k := k) (by omega)
        simp only [firstI]
        by_cases hlt : dueOf T i < dueOf T k
        · (refine go ?_; intros)
          refine wpC_drawnA [refC x T] 25 ?_
          ((first | refine dt 0 ?_ | refine dts 0 ?_); (first | refine dt 1 ?_ | refine dts 1 ?_); (first | refine df 2 ?_ | refine dfs 2 ?_); (first | refine df 3 ?_ | refine dfs 3 ?_); (first | refine df 4 ?_ | refine dfs 4 ?_); (first | refine df 5 ?_ | refine dfs 5 ?_); (first | refine df 6 ?_ | refine dfs 6 ?_); (first | refine df 7 ?_ | refine dfs 7 ?_); (first | refine df 8 ?_ | refine dfs 8 ?_); (first | refine df 9 ?_ | refine dfs 9 ?_); (first | refine df 10 ?_ | refine dfs 10 ?_); (first | refine dt 11 ?_ | refine dts 11 ?_); (first | refine dt 12 ?_ | refine dts 12 ?_); (first | refine dt 13 ?_ | refine dts 13 ?_); (first | refine dt 14 ?_ | refine dts 14 ?_); (first | refine dt 15 ?_ | refine dts 15 ?_); (first | refine dt 16 ?_ | refine dts 16 ?_); (first | refine dt 17 ?_ | refine dts 17 ?_); (first | refine dt 18 ?_ | refine dts 18 ?_); (first | refine df 19 ?_ | refine dfs 19 ?_); (first | refine df 20 ?_ | refine dfs 20 ?_); (first | refine df 21 ?_ | refine dfs 21 ?_); (first | refine df 22 ?_ | refine dfs 22 ?_); (first | refine df 23 ?_ | refine dfs 23 ?_); (first | refine df 24 ?_ | refine dfs 24 ?_); refine dl ?_)
          (refine go ?_; intros)
          refine q_round ⟨i + 1, some i⟩ ⟨by simp only; omega, s2.take (by omega) (fun k e => by cases e; exact hlt)⟩ (by simp only; omega) (by repeat (first | exact trivial | refine ⟨rfl, ?_⟩)) (by ((try simp only [List.cons_append, List.nil_append]); repeat (first | exact Ent.nil | (apply Ent.cons; repeat (first | exact Pick.head | apply Pick.tail)))))
        · (refine go ?_; intros)
          refine wpC_drawnA [refC x T] 25 ?_
          ((first | refine dt 0 ?_ | refine dts 0 ?_); (first | refine dt 1 ?_ | refine dts 1 ?_); (first | refine df 2 ?_ | refine dfs 2 ?_); (first | refine df 3 ?_ | refine dfs 3 ?_); (first | refine df 4 ?_ | refine dfs 4 ?_); (first | refine df 5 ?_ | refine dfs 5 ?_); (first | refine df 6 ?_ | refine dfs 6 ?_); (first | refine df 7 ?_ | refine dfs 7 ?_); (first | refine df 8 ?_ | refine dfs 8 ?_); (first | refine df 9 ?_ | refine dfs 9 ?_); (first | refine df 10 ?_ | refine dfs 10 ?_); (first | refine dt 11 ?_ | refine dts 11 ?_); (first | refine dt 12 ?_ | refine dts 12 ?_); (first | refine dt 13 ?_ | refine dts 13 ?_); (first | refine dt 14 ?_ | refine dts 14 ?_); (first | refine dt 15 ?_ | refine dts 15 ?_); (first | refine dt 16 ?_ | refine dts 16 ?_); (first | refine dt 17 ?_ | refine dts 17 ?_); (first | refine dt 18 ?_ | refine dts 18 ?_); (first | refine df 19 ?_ | refine dfs 19 ?_); (first | refine df 20 ?_ | refine dfs 20 ?_); (first | refine df 21 ?_ | refine dfs 21 ?_); (first | refine df 22 ?_ | refine dfs 22 ?_); (first | refine df 23 ?_ | refine dfs 23 ?_); (first | refine df 24 ?_ | refine dfs 24 ?_); refine dl ?_)
          (refine go ?_; intros)
          refine q_round ⟨i + 1, some k⟩ ⟨by simp only; omega, s2.stay (.inr ⟨k, rfl, by omega⟩)⟩ (by simp only; omega) (by repeat (first | exact trivial | refine ⟨rfl, ?_⟩)) (by ((try simp only [List.cons_append, List.nil_append]); repeat (first | exact Ent.nil | (apply Ent.cons; repeat (first | exact Pick.head | apply Pick.tail)))))
  · obtain rfl : i = 8 := by omega
    (refine go ?_; intros)
    refine q_ret1 rfl rfl y rfl s2 ?_
    ((try simp only [List.cons_append, List.nil_append]); repeat (first | exact Ent.nil | (apply Ent.cons; repeat (first | exact Pick.head | apply Pick.tail))))
theorem ref_next (x : Nat) (T : List Int) (hT : T.length = 8) : FnDoes Try.prog 22 [ptr x] [refC x T] (fun y : Option Nat => IsFirst T 8 y) (fun y => .tuple #[.int .i64 (firstV T y), .bool y.isSome]) (fun _ => [refC x T]) := by
  refine does_of Try.func22 rfl rfl Try.ntmps22 rfl (by simp only [enum, Nat.reduceAdd, Nat.zero_add]; exact rfl) (fun c => ?_)
  (refine go ?_; intros)
  (show wpO _ _ ⟨_, .call _, _, _, _, _⟩ _ _ _ _ _ _; refine o_callA (ref_first x T hT) (fun y hy => ?_); try simp only [List.cons_append, List.nil_append])
  cases y with
  | none =>
    simp only [firstI]
    (refine go ?_; intros)
    refine q_ret2 rfl rfl rfl none rfl hy ?_
    ((try simp only [List.cons_append, List.nil_append]); repeat (first | exact Ent.nil | (apply Ent.cons; repeat (first | exact Pick.head | apply Pick.tail))))
  | some k =>
    have hk := hy.1
    have hck := ints_at (T := T) (k := k) (by omega)
    simp only [firstI]
    (refine go ?_; intros)
    refine q_ret2 rfl rfl rfl (some k) rfl hy ?_
    ((try simp only [List.cons_append, List.nil_append]); repeat (first | exact Ent.nil | (apply Ent.cons; repeat (first | exact Pick.head | apply Pick.tail))))
set_option maxHeartbeats 1000000 in
theorem ref_fire (x : Nat) (T0 : List Int) (now : Int) (hT0 : T0.length = 8) : FnDoes Try.prog 20 [ptr x, .int .i64 now] [refC x T0] (fun y : FireOut => Fires now T0 y.o y.T) (fun y => y.w) (fun y => [refC x y.T, intsI y.w y.o]) := by
  refine does_of Try.func20 rfl rfl Try.ntmps20 rfl (by simp only [enum, Nat.reduceAdd, Nat.zero_add]; exact rfl) (fun c => ?_)
  have h8 := cnt_le T0
  (refine go ?_; intros)
  refine wpC_loop (σ := RiSt) (fun s => s.i ≤ 8 ∧ s.o.length = s.i ∧ s.T.length = 8 ∧ s.o.length + cntD s.T ≤ 8 ∧ ∀ o2 T2, Fires now s.T o2 T2 → Fires now T0 (s.o ++ o2) T2)
    (fun s => [(0, ptr x), (1, .int .i64 now), (5, s.w), (6, .int .i64 s.i)])
    (fun s => [refC x s.T, intsI s.w s.o])
    (fun s => 8 - s.i) ⟨0, T0, [], .slice none 0 0⟩ ⟨Nat.zero_le _, rfl, hT0, by simp; omega, fun o2 T2 h => h⟩ (by repeat (first | exact trivial | refine ⟨rfl, ?_⟩)) (Ent.cons (by repeat (first | exact Pick.head | apply Pick.tail)) (Ent.slNil Ent.nil)) (fun s hs => ?_)
  obtain ⟨i, T, o, w⟩ := s
  simp only at hs ⊢
  obtain ⟨s0, si, s1, s2, s3⟩ := hs
  have hL : (ints T).length = 8 := by rw [ints_len, s1]
  by_cases hi : i < 8
  · (refine go ?_; intros)
    (show wpO _ _ ⟨_, .call _, _, _, _, _⟩ _ _ _ _ _ _; refine o_callA (ref_first x T s1) (fun y hy => ?_); try simp only [List.cons_append, List.nil_append])
    cases y with
    | none =>
      simp only [firstI]
      (refine go ?_; intros)
      refine q_ret1 rfl rfl ⟨o, T, w⟩ rfl (by have := s3 [] T (.none hy); simpa using this) ?_
      ((try simp only [List.cons_append, List.nil_append]); repeat (first | exact Ent.nil | (apply Ent.cons; repeat (first | exact Pick.head | apply Pick.tail))))
    | some k =>
      have hk := hy.1
      have hck := ints_at (T := T) (k := k) (by omega)
      simp only [firstI]
      by_cases hd : dueOf T k ≤ now
      · have hk0 := hy.2.1
        have hc := cnt_set (T := T) (k := k) (-1) (by omega)
        rw [if_pos hk0, if_neg (by omega)] at hc
        (refine go ?_; intros)
        refine o_append (sz := 1) (news := [.int .i64 (k : Int)]) (m := 1) rfl rfl rfl rfl rfl rfl rfl rfl (by repeat (first | exact Pick.head | apply Pick.tail)) ?_ ?_ rfl (fun w' => ?_)
        · exact src_pts rfl (by repeat (first | exact Pick.head | apply Pick.tail)) rfl rfl rfl
        · show (o.length + 1) * 8 ≤ 140737488355328
          omega
        rw [intsI_snoc]
        (refine go ?_; intros)
        rw [ints_set]
        (refine go ?_; intros)
        refine q_round ⟨i + 1, T.set k (-1), o ++ [(k : Int)], w'⟩ ⟨by simp only; omega, by simp [si], by simpa using s1, by simp only [List.length_append, List.length_singleton]; omega, fun o2 T2 h => ?_⟩ (by simp only; omega) (by repeat (first | exact trivial | refine ⟨rfl, ?_⟩)) (by ((try simp only [List.cons_append, List.nil_append]); repeat (first | exact Ent.nil | (apply Ent.cons; repeat (first | exact Pick.head | apply Pick.tail)))))
        rw [List.append_assoc]
        exact s3 _ _ (.one hy hd h)
      · (refine go ?_; intros)
        refine q_ret1 rfl rfl ⟨o, T, w⟩ rfl (by have := s3 [] T (.late hy (by omega)); simpa using this) ?_
        ((try simp only [List.cons_append, List.nil_append]); repeat (first | exact Ent.nil | (apply Ent.cons; repeat (first | exact Pick.head | apply Pick.tail))))
  · (refine go ?_; intros)
    refine q_ret1 rfl rfl ⟨o, T, w⟩ rfl (by have := s3 [] T (.none (cnt_zero s1 (by omega))); simpa using this) ?_
    ((try simp only [List.cons_append, List.nil_append]); repeat (first | exact Ent.nil | (apply Ent.cons; repeat (first | exact Pick.head | apply Pick.tail))))
theorem ints_same (va vb : Value) (l : List Int) (hl : l.length ≤ 1000000) : FnDoes Try.prog 14 [va, vb] [intsI va l, intsI vb l] (fun _ : Unit => True) (fun _ => .bool true) (fun _ => [intsI va l, intsI vb l]) := by
  refine does_of Try.func14 rfl rfl Try.ntmps14 rfl (by simp only [enum, Nat.reduceAdd, Nat.zero_add]; exact rfl) (fun c => ?_)
  have hra : Rd (intsI va l) 1 va l.length (ints l) := Rd.ofSl
  have hrb : Rd (intsI vb l) 1 vb l.length (ints l) := Rd.ofSl
  refine wpC_fact (hra.isSlice (by repeat (first | exact Pick.head | apply Pick.tail))) (fun hka => ?_)
  refine wpC_fact (hrb.isSlice (by repeat (first | exact Pick.head | apply Pick.tail))) (fun hkb => ?_)
  obtain ⟨aa, ca, rfl, hka⟩ := hka
  obtain ⟨ab, cb, rfl, hkb⟩ := hkb
  (refine go ?_; intros)
  refine wpC_loop (σ := Nat) (fun k => k ≤ l.length) (fun k => [(0, .slice aa l.length ca), (1, .slice ab l.length cb), (5, .int .i64 k)])
    (fun _ => [intsI (.slice aa l.length ca) l, intsI (.slice ab l.length cb) l]) (fun k => l.length - k) 0 (Nat.zero_le _) (by repeat (first | exact trivial | refine ⟨rfl, ?_⟩)) (by ((try simp only [List.cons_append, List.nil_append]); repeat (first | exact Ent.nil | (apply Ent.cons; repeat (first | exact Pick.head | apply Pick.tail))))) (fun k hk => ?_)
  by_cases hkl : k < l.length
  · obtain ⟨ba, oa, rfl, _⟩ := hka (by omega)
    obtain ⟨bb, ob, rfl, _⟩ := hkb (by omega)
    have hcell : (ints l)[k * 1]? = some (.int .i64 l[k]) := by rw [Nat.mul_one]; exact ints_get hkl
    (refine go ?_; intros)
    refine wpC_quietA ?_
    refine go ?_
    refine oq_evB (ev_load_rd rfl rfl rfl hra (by repeat (first | exact Pick.head | apply Pick.tail)) rfl hcell) ?_
    refine go ?_
    refine oq_evB (ev_load_rd rfl rfl rfl hrb (by repeat (first | exact Pick.head | apply Pick.tail)) rfl hcell) ?_
    refine go ?_
    (refine go ?_; intros)
    refine q_round (k + 1) (by omega) (by omega) (by repeat (first | exact trivial | refine ⟨rfl, ?_⟩)) (by ((try simp only [List.cons_append, List.nil_append]); repeat (first | exact Ent.nil | (apply Ent.cons; repeat (first | exact Pick.head | apply Pick.tail)))))
  · (refine go ?_; intros)
    refine q_ret1 rfl rfl () rfl trivial ?_
    ((try simp only [List.cons_append, List.nil_append]); repeat (first | exact Ent.nil | (apply Ent.cons; repeat (first | exact Pick.head | apply Pick.tail))))
/-- One and a half, and one more. -/
def lateV (last keep : Int) : Int := max 0 last + max 0 keep + (max 0 keep).tdiv 2 + 1
theorem clk_late (last keep : Int) (h1 : last ≤ 4294967296) (h2 : keep ≤ 4294967296) : FnDoes Try.prog 12 [.int .i64 last, .int .i64 keep] [] (fun _ : Unit => True) (fun _ => .int .i64 (lateV last keep)) (fun _ => []) := by
  refine does_of Try.func12 rfl rfl Try.ntmps12 rfl (by simp only [enum, Nat.reduceAdd, Nat.zero_add]; exact rfl) (fun c => ?_)
  obtain ⟨a, ha⟩ : ∃ a, max 0 last = a := ⟨_, rfl⟩
  obtain ⟨b, hb⟩ : ∃ b, max 0 keep = b := ⟨_, rfl⟩
  obtain ⟨d, hd⟩ : ∃ d, b.tdiv 2 = d := ⟨_, rfl⟩
  have a0 : 0 ≤ a ∧ a ≤ 4294967296 := by omega
  have b0 : 0 ≤ b ∧ b ≤ 4294967296 := by omega
  have d0 : 0 ≤ d ∧ d ≤ 4294967296 := by rw [← hd, Int.tdiv_eq_ediv_of_nonneg b0.1]; omega
  have hv : lateV last keep = a + b + d + 1 := by unfold lateV; rw [ha, hb, hd]
  rw [hv]
  (refine go ?_; intros)
  refine o_evB (ev_max rfl rfl ha) ?_
  (refine go ?_; intros)
  refine o_evB (ev_max rfl rfl hb) ?_
  (refine go ?_; intros)
  refine o_evB (ev_quoT (r := d) rfl rfl (by decide) (by rw [hd]; exact wrap64_of (by omega) (by omega))) ?_
  (refine go ?_; intros)
  refine q_ret1 rfl rfl () rfl trivial ?_
  ((try simp only [List.cons_append, List.nil_append]); repeat (first | exact Ent.nil | (apply Ent.cons; repeat (first | exact Pick.head | apply Pick.tail))))
theorem ref_late (last keep : Int) (h1 : last ≤ 4294967296) (h2 : keep ≤ 4294967296) : FnDoes Try.prog 13 [.int .i64 last, .int .i64 keep] [] (fun _ : Unit => True) (fun _ => .int .i64 (lateV last keep)) (fun _ => []) := by
  refine does_of Try.func13 rfl rfl Try.ntmps13 rfl (by simp only [enum, Nat.reduceAdd, Nat.zero_add]; exact rfl) (fun c => ?_)
  obtain ⟨a, ha⟩ : ∃ a, max 0 last = a := ⟨_, rfl⟩
  obtain ⟨b, hb⟩ : ∃ b, max 0 keep = b := ⟨_, rfl⟩
  obtain ⟨d, hd⟩ : ∃ d, b.tdiv 2 = d := ⟨_, rfl⟩
  have a0 : 0 ≤ a ∧ a ≤ 4294967296 := by omega
  have b0 : 0 ≤ b ∧ b ≤ 4294967296 := by omega
  have d0 : 0 ≤ d ∧ d ≤ 4294967296 := by rw [← hd, Int.tdiv_eq_ediv_of_nonneg b0.1]; omega
  have hv : lateV last keep = a + b + d + 1 := by unfold lateV; rw [ha, hb, hd]
  rw [hv]
  (refine go ?_; intros)
  refine o_evB (ev_max rfl rfl hb) ?_
  (refine go ?_; intros)
  refine o_evB (ev_max rfl rfl ha) ?_
  (refine go ?_; intros)
  refine o_evB (ev_quoT (r := d) rfl rfl (by decide) (by rw [hd]; exact wrap64_of (by omega) (by omega))) ?_
  (refine go ?_; intros)
  refine q_ret1 rfl rfl () rfl trivial ?_
  ((try simp only [List.cons_append, List.nil_append]); repeat (first | exact Ent.nil | (apply Ent.cons; repeat (first | exact Pick.head | apply Pick.tail))))
end Go.Proofs.Ytjhlpieehhpmgaa
