/-
  A text of the protocol, the document's way (crierref04): its walk.
-/
import Derived.Test.YtmlcikcdegodaaaDoorUtfA
import Derived.Test.YtmlcikcdegodaaaDoorUtfQ
set_option linter.unusedSimpArgs false
set_option linter.unusedVariables false
set_option maxRecDepth 20000
namespace Go.Proofs.YtmlcikcdegodaaaDoor
open Go Go.Sx
attribute [local irreducible] MidQ wpE wpO wpC qE wpQ wpQO wpH wpHO wpD wpDO wpZ Ev own emp exI sl ch PostS LoopQ Rd rowsAt
theorem utfr_tail (s : ByteArray) (i : Nat) (j : Int) (hj : j = (i : Int)) : FnDoes Tryd.prog 62 [.string s, .int .i64 j] [] (fun _ : Unit => True) (fun _ => .bool (tailB s i)) (fun _ => []) := by
  subst hj
  refine does_of Tryd.func62 rfl rfl Tryd.ntmps62 rfl (by simp only [enum, Nat.reduceAdd, Nat.zero_add]; exact rfl) (fun c => ?_)
  have b0 := byteN_lt s i
  by_cases h : i < s.size
  · have hz : (i : Int) < (s.size : Int) := by omega
    by_cases h1 : 128 ≤ byteN s i
    · by_cases h2 : byteN s i ≤ 191
      · have e : tailB s i = true := by unfold tailB; rw [decide_eq_true h, decide_eq_true ⟨h1, h2⟩]; rfl
        (refine go ?_; intros)
        refine o_evB (ev_indexStr i rfl rfl Tryd.underlying9 rfl h) ?_
        (refine go ?_; intros)
        refine o_evB (ev_indexStr i rfl rfl Tryd.underlying9 rfl h) ?_
        (refine go ?_; intros)
        exact q_ret1 rfl rfl () (by rw [e]) trivial Ent.nil
      · have e : tailB s i = false := by unfold tailB; rw [Bool.and_eq_false_iff]; exact .inr (decide_eq_false (fun c => h2 c.2))
        (refine go ?_; intros)
        refine o_evB (ev_indexStr i rfl rfl Tryd.underlying9 rfl h) ?_
        (refine go ?_; intros)
        refine o_evB (ev_indexStr i rfl rfl Tryd.underlying9 rfl h) ?_
        (refine go ?_; intros)
        exact q_ret1 rfl rfl () (by rw [e]) trivial Ent.nil
    · have e : tailB s i = false := by unfold tailB; rw [Bool.and_eq_false_iff]; exact .inr (decide_eq_false (fun c => h1 c.1))
      (refine go ?_; intros)
      refine o_evB (ev_indexStr i rfl rfl Tryd.underlying9 rfl h) ?_
      (refine go ?_; intros)
      exact q_ret1 rfl rfl () (by rw [e]) trivial Ent.nil
  · have hz : ¬ (i : Int) < (s.size : Int) := by omega
    have e : tailB s i = false := by unfold tailB; rw [decide_eq_false h, Bool.false_and]
    (refine go ?_; intros)
    exact q_ret1 rfl rfl () (by rw [e]) trivial Ent.nil
theorem utfr_step (s : ByteArray) (i : Nat) (hi : i < s.size) (hs : s.size ≤ 65535) : FnDoes Tryd.prog 57 [.string s, .int .i64 i] [] (fun _ : Unit => True) (fun _ => .tuple #[.int .i64 (stepR s i).n, .int .i64 (stepR s i).c]) (fun _ => []) := by
  refine does_of Tryd.func57 rfl rfl Tryd.ntmps57 rfl (by simp only [enum, Nat.reduceAdd, Nat.zero_add]; exact rfl) (fun c => ?_)
  have b0 := byteN_lt s i
  have b1 := byteN_lt s (i + 1)
  have b2 := byteN_lt s (i + 2)
  have b3 := byteN_lt s (i + 3)
  by_cases h1 : byteN s i < 128
  · rw [step_1 h1]
    (refine go ?_; intros)
    refine o_evB (ev_indexStr i rfl rfl Tryd.underlying9 rfl hi) ?_
    (refine go ?_; intros)
    exact q_ret2 rfl rfl rfl () rfl trivial Ent.nil
  by_cases h2 : byteN s i ≤ 223
  · by_cases h3 : 194 ≤ byteN s i
    · rcases ht : tailB s (i + 1) with _ | _
      · rw [step_2f (by omega) h2 (.inr ht)]
        (refine go ?_; intros)
        refine o_evB (ev_indexStr i rfl rfl Tryd.underlying9 rfl hi) ?_
        (refine go ?_; intros)
        (show wpO _ _ ⟨_, .call _, _, _, _, _⟩ _ _ _ _ _ _; refine o_callA (utfr_tail s (i + 1) ((i : Int) + 1) (by omega)) (fun _ _ => ?_); try simp only [List.cons_append, List.nil_append])
        rw [ht]
        (refine go ?_; intros)
        exact q_ret2 rfl rfl rfl () rfl trivial Ent.nil
      · rw [step_2 h3 h2 ht]
        obtain ⟨t1, t2, t3⟩ := tailB_t ht
        (refine go ?_; intros)
        refine o_evB (ev_indexStr i rfl rfl Tryd.underlying9 rfl hi) ?_
        (refine go ?_; intros)
        (show wpO _ _ ⟨_, .call _, _, _, _, _⟩ _ _ _ _ _ _; refine o_callA (utfr_tail s (i + 1) ((i : Int) + 1) (by omega)) (fun _ _ => ?_); try simp only [List.cons_append, List.nil_append])
        rw [ht]
        (refine go ?_; intros)
        refine wpC_drawnA [] 11 ?_
        ((first | refine dt 0 ?_ | refine dts 0 ?_); (first | refine dt 1 ?_ | refine dts 1 ?_); (first | refine dt 2 ?_ | refine dts 2 ?_); (first | refine dt 3 ?_ | refine dts 3 ?_); (first | refine dt 4 ?_ | refine dts 4 ?_); (first | refine dt 5 ?_ | refine dts 5 ?_))
        refine dtB 6 rfl (ev_indexStr (i + 1) rfl rfl Tryd.underlying9 (by omega) t1) ?_
        ((first | refine dt 7 ?_ | refine dts 7 ?_); (first | refine dt 8 ?_ | refine dts 8 ?_); (first | refine dt 9 ?_ | refine dts 9 ?_); (first | refine df 10 ?_ | refine dfs 10 ?_); refine dl ?_)
        (refine go ?_; intros)
        exact q_ret2 rfl rfl rfl () (congrArg (fun x => Value.tuple #[.int .i64 2, .int .i64 x]) (by omega)) trivial Ent.nil
    · rw [step_2f (by omega) h2 (.inl (by omega))]
      (refine go ?_; intros)
      refine o_evB (ev_indexStr i rfl rfl Tryd.underlying9 rfl hi) ?_
      (refine go ?_; intros)
      exact q_ret2 rfl rfl rfl () rfl trivial Ent.nil
  by_cases h4 : byteN s i ≤ 239
  · rcases ht : tailB s (i + 1) with _ | _
    · rw [step_3f (by omega) h4 (.inl ht)]
      (refine go ?_; intros)
      refine o_evB (ev_indexStr i rfl rfl Tryd.underlying9 rfl hi) ?_
      (refine go ?_; intros)
      (show wpO _ _ ⟨_, .call _, _, _, _, _⟩ _ _ _ _ _ _; refine o_callA (utfr_tail s (i + 1) ((i : Int) + 1) (by omega)) (fun _ _ => ?_); try simp only [List.cons_append, List.nil_append])
      rw [ht]
      (refine go ?_; intros)
      exact q_ret2 rfl rfl rfl () rfl trivial Ent.nil
    rcases hu : tailB s (i + 2) with _ | _
    · rw [step_3f (by omega) h4 (.inr hu)]
      (refine go ?_; intros)
      refine o_evB (ev_indexStr i rfl rfl Tryd.underlying9 rfl hi) ?_
      (refine go ?_; intros)
      (show wpO _ _ ⟨_, .call _, _, _, _, _⟩ _ _ _ _ _ _; refine o_callA (utfr_tail s (i + 1) ((i : Int) + 1) (by omega)) (fun _ _ => ?_); try simp only [List.cons_append, List.nil_append])
      rw [ht]
      (refine go ?_; intros)
      (show wpO _ _ ⟨_, .call _, _, _, _, _⟩ _ _ _ _ _ _; refine o_callA (utfr_tail s (i + 2) ((i : Int) + 2) (by omega)) (fun _ _ => ?_); try simp only [List.cons_append, List.nil_append])
      rw [hu]
      (refine go ?_; intros)
      exact q_ret2 rfl rfl rfl () rfl trivial Ent.nil
    · rw [step_3 (by omega) h4 ht hu]
      obtain ⟨t1, t2, t3⟩ := tailB_t ht
      obtain ⟨u1, u2, u3⟩ := tailB_t hu
      (refine go ?_; intros)
      refine o_evB (ev_indexStr i rfl rfl Tryd.underlying9 rfl hi) ?_
      (refine go ?_; intros)
      (show wpO _ _ ⟨_, .call _, _, _, _, _⟩ _ _ _ _ _ _; refine o_callA (utfr_tail s (i + 1) ((i : Int) + 1) (by omega)) (fun _ _ => ?_); try simp only [List.cons_append, List.nil_append])
      rw [ht]
      (refine go ?_; intros)
      (show wpO _ _ ⟨_, .call _, _, _, _, _⟩ _ _ _ _ _ _; refine o_callA (utfr_tail s (i + 2) ((i : Int) + 2) (by omega)) (fun _ _ => ?_); try simp only [List.cons_append, List.nil_append])
      rw [hu]
      (refine go ?_; intros)
      refine wpC_drawnA [] 18 ?_
      ((first | refine dt 0 ?_ | refine dts 0 ?_); (first | refine dt 1 ?_ | refine dts 1 ?_); (first | refine dt 2 ?_ | refine dts 2 ?_); (first | refine dt 3 ?_ | refine dts 3 ?_); (first | refine dt 4 ?_ | refine dts 4 ?_); (first | refine dt 5 ?_ | refine dts 5 ?_))
      refine dtB 6 rfl (ev_indexStr (i + 1) rfl rfl Tryd.underlying9 (by omega) t1) ?_
      ((first | refine dt 7 ?_ | refine dts 7 ?_); (first | refine dt 8 ?_ | refine dts 8 ?_); (first | refine dt 9 ?_ | refine dts 9 ?_); (first | refine dt 10 ?_ | refine dts 10 ?_); (first | refine dt 11 ?_ | refine dts 11 ?_); (first | refine df 12 ?_ | refine dfs 12 ?_); (first | refine df 13 ?_ | refine dfs 13 ?_))
      refine dfB 14 rfl (ev_indexStr (i + 2) rfl rfl Tryd.underlying9 (by omega) u1) ?_
      ((first | refine df 15 ?_ | refine dfs 15 ?_); (first | refine df 16 ?_ | refine dfs 16 ?_); (first | refine df 17 ?_ | refine dfs 17 ?_); refine dl ?_)
      obtain ⟨v, hv⟩ : ∃ v, (byteN s i - 224) * 4096 + (byteN s (i + 1) - 128) * 64 + (byteN s (i + 2) - 128) = v := ⟨_, rfl⟩
      rw [hv]
      by_cases ca : v < 2048
      · rw [if_pos (.inl ca)]
        (refine go ?_; intros)
        exact q_ret2 rfl rfl rfl () rfl trivial Ent.nil
      by_cases cb : 55296 ≤ v
      · by_cases cc : v ≤ 57343
        · rw [if_pos (.inr ⟨cb, cc⟩)]
          (refine go ?_; intros)
          exact q_ret2 rfl rfl rfl () rfl trivial Ent.nil
        · rw [if_neg (by omega)]
          (refine go ?_; intros)
          exact q_ret2 rfl rfl rfl () (congrArg (fun x => Value.tuple #[.int .i64 3, .int .i64 x]) (by simp only; omega)) trivial Ent.nil
      · rw [if_neg (by omega)]
        (refine go ?_; intros)
        exact q_ret2 rfl rfl rfl () (congrArg (fun x => Value.tuple #[.int .i64 3, .int .i64 x]) (by simp only; omega)) trivial Ent.nil
  by_cases h5 : byteN s i ≤ 244
  · rcases ht : tailB s (i + 1) with _ | _
    · rw [step_4f (by omega) (.inr (.inl ht))]
      (refine go ?_; intros)
      refine o_evB (ev_indexStr i rfl rfl Tryd.underlying9 rfl hi) ?_
      (refine go ?_; intros)
      (show wpO _ _ ⟨_, .call _, _, _, _, _⟩ _ _ _ _ _ _; refine o_callA (utfr_tail s (i + 1) ((i : Int) + 1) (by omega)) (fun _ _ => ?_); try simp only [List.cons_append, List.nil_append])
      rw [ht]
      (refine go ?_; intros)
      exact q_ret2 rfl rfl rfl () rfl trivial Ent.nil
    rcases hu : tailB s (i + 2) with _ | _
    · rw [step_4f (by omega) (.inr (.inr (.inl hu)))]
      (refine go ?_; intros)
      refine o_evB (ev_indexStr i rfl rfl Tryd.underlying9 rfl hi) ?_
      (refine go ?_; intros)
      (show wpO _ _ ⟨_, .call _, _, _, _, _⟩ _ _ _ _ _ _; refine o_callA (utfr_tail s (i + 1) ((i : Int) + 1) (by omega)) (fun _ _ => ?_); try simp only [List.cons_append, List.nil_append])
      rw [ht]
      (refine go ?_; intros)
      (show wpO _ _ ⟨_, .call _, _, _, _, _⟩ _ _ _ _ _ _; refine o_callA (utfr_tail s (i + 2) ((i : Int) + 2) (by omega)) (fun _ _ => ?_); try simp only [List.cons_append, List.nil_append])
      rw [hu]
      (refine go ?_; intros)
      exact q_ret2 rfl rfl rfl () rfl trivial Ent.nil
    rcases hw : tailB s (i + 3) with _ | _
    · rw [step_4f (by omega) (.inr (.inr (.inr hw)))]
      (refine go ?_; intros)
      refine o_evB (ev_indexStr i rfl rfl Tryd.underlying9 rfl hi) ?_
      (refine go ?_; intros)
      (show wpO _ _ ⟨_, .call _, _, _, _, _⟩ _ _ _ _ _ _; refine o_callA (utfr_tail s (i + 1) ((i : Int) + 1) (by omega)) (fun _ _ => ?_); try simp only [List.cons_append, List.nil_append])
      rw [ht]
      (refine go ?_; intros)
      (show wpO _ _ ⟨_, .call _, _, _, _, _⟩ _ _ _ _ _ _; refine o_callA (utfr_tail s (i + 2) ((i : Int) + 2) (by omega)) (fun _ _ => ?_); try simp only [List.cons_append, List.nil_append])
      rw [hu]
      (refine go ?_; intros)
      (show wpO _ _ ⟨_, .call _, _, _, _, _⟩ _ _ _ _ _ _; refine o_callA (utfr_tail s (i + 3) ((i : Int) + 3) (by omega)) (fun _ _ => ?_); try simp only [List.cons_append, List.nil_append])
      rw [hw]
      (refine go ?_; intros)
      exact q_ret2 rfl rfl rfl () rfl trivial Ent.nil
    · rw [step_4 (by omega) h5 ht hu hw]
      obtain ⟨t1, t2, t3⟩ := tailB_t ht
      obtain ⟨u1, u2, u3⟩ := tailB_t hu
      obtain ⟨w1, w2, w3⟩ := tailB_t hw
      (refine go ?_; intros)
      refine o_evB (ev_indexStr i rfl rfl Tryd.underlying9 rfl hi) ?_
      (refine go ?_; intros)
      (show wpO _ _ ⟨_, .call _, _, _, _, _⟩ _ _ _ _ _ _; refine o_callA (utfr_tail s (i + 1) ((i : Int) + 1) (by omega)) (fun _ _ => ?_); try simp only [List.cons_append, List.nil_append])
      rw [ht]
      (refine go ?_; intros)
      (show wpO _ _ ⟨_, .call _, _, _, _, _⟩ _ _ _ _ _ _; refine o_callA (utfr_tail s (i + 2) ((i : Int) + 2) (by omega)) (fun _ _ => ?_); try simp only [List.cons_append, List.nil_append])
      rw [hu]
      (refine go ?_; intros)
      (show wpO _ _ ⟨_, .call _, _, _, _, _⟩ _ _ _ _ _ _; refine o_callA (utfr_tail s (i + 3) ((i : Int) + 3) (by omega)) (fun _ _ => ?_); try simp only [List.cons_append, List.nil_append])
      rw [hw]
      (refine go ?_; intros)
      refine wpC_drawnA [] 26 ?_
      ((first | refine dt 0 ?_ | refine dts 0 ?_); (first | refine dt 1 ?_ | refine dts 1 ?_); (first | refine dt 2 ?_ | refine dts 2 ?_); (first | refine dt 3 ?_ | refine dts 3 ?_); (first | refine dt 4 ?_ | refine dts 4 ?_); (first | refine dt 5 ?_ | refine dts 5 ?_))
      refine dtB 6 rfl (ev_indexStr (i + 1) rfl rfl Tryd.underlying9 (by omega) t1) ?_
      ((first | refine dt 7 ?_ | refine dts 7 ?_); (first | refine dt 8 ?_ | refine dts 8 ?_); (first | refine dt 9 ?_ | refine dts 9 ?_); (first | refine dt 10 ?_ | refine dts 10 ?_); (first | refine dt 11 ?_ | refine dts 11 ?_); (first | refine dt 12 ?_ | refine dts 12 ?_); (first | refine dt 13 ?_ | refine dts 13 ?_))
      refine dtB 14 rfl (ev_indexStr (i + 2) rfl rfl Tryd.underlying9 (by omega) u1) ?_
      ((first | refine dt 15 ?_ | refine dts 15 ?_); (first | refine dt 16 ?_ | refine dts 16 ?_); (first | refine dt 17 ?_ | refine dts 17 ?_); (first | refine dt 18 ?_ | refine dts 18 ?_); (first | refine dt 19 ?_ | refine dts 19 ?_); (first | refine df 20 ?_ | refine dfs 20 ?_); (first | refine df 21 ?_ | refine dfs 21 ?_))
      refine dfB 22 rfl (ev_indexStr (i + 3) rfl rfl Tryd.underlying9 (by omega) w1) ?_
      ((first | refine df 23 ?_ | refine dfs 23 ?_); (first | refine df 24 ?_ | refine dfs 24 ?_); (first | refine df 25 ?_ | refine dfs 25 ?_); refine dl ?_)
      obtain ⟨v, hv⟩ : ∃ v, (byteN s i - 240) * 262144 + (byteN s (i + 1) - 128) * 4096 + (byteN s (i + 2) - 128) * 64 + (byteN s (i + 3) - 128) = v := ⟨_, rfl⟩
      rw [hv]
      by_cases ca : v < 65536
      · rw [if_pos (.inl ca)]
        (refine go ?_; intros)
        exact q_ret2 rfl rfl rfl () rfl trivial Ent.nil
      by_cases cb : 1114111 < v
      · rw [if_pos (.inr cb)]
        (refine go ?_; intros)
        exact q_ret2 rfl rfl rfl () rfl trivial Ent.nil
      · rw [if_neg (by omega)]
        (refine go ?_; intros)
        exact q_ret2 rfl rfl rfl () (congrArg (fun x => Value.tuple #[.int .i64 4, .int .i64 x]) (by simp only; omega)) trivial Ent.nil
  · rw [step_4f (by omega) (.inl (by omega))]
    (refine go ?_; intros)
    refine o_evB (ev_indexStr i rfl rfl Tryd.underlying9 rfl hi) ?_
    (refine go ?_; intros)
    exact q_ret2 rfl rfl rfl () rfl trivial Ent.nil
theorem utfr_right (s : ByteArray) : FnDoes Tryd.prog 49 [.string s] [] (fun _ : Unit => True) (fun _ => .bool (rightD s)) (fun _ => []) := by
  refine does_of Tryd.func49 rfl rfl Tryd.ntmps49 rfl (by simp only [enum, Nat.reduceAdd, Nat.zero_add]; exact rfl) (fun c => ?_)
  by_cases h0 : s.size ≤ 65535
  · have hz : ¬ (s.size : Int) > 65535 := by omega
    have e : rightD s = rightL s.data.toList := by unfold rightD; rw [decide_eq_true h0, Bool.true_and]
    rw [e]
    (refine go ?_; intros)
    refine wpC_loop (σ := Nat) (fun p => p ≤ s.size ∧ rightL s.data.toList = rightL (s.data.toList.drop p)) (fun p => [(0, .string s), (3, .int .i64 p)]) (fun _ => []) (fun p => s.size - p) 0 ⟨Nat.zero_le _, rfl⟩ (by repeat (first | exact trivial | refine ⟨rfl, ?_⟩)) Ent.nil (fun p hp => ?_)
    obtain ⟨p1, p3⟩ := hp
    by_cases hlt : p < s.size
    · have hne := drop_ne hlt
      have hd := Lib.decodeL_drop s p
      have hw := Lib.decodeL_width (s.data.toList.drop p)
      have hle := Lib.decodeL_le (s.data.toList.drop p) hne
      rw [List.length_drop, size_list] at hle
      rw [rightL_step _ hne] at p3
      rw [hd] at hw hle p3
      by_cases hb : (Utf8.decode s p).1 = 65533 ∧ (Utf8.decode s p).2 = 1
      · have es : stepR s p = ⟨0, 0⟩ := by unfold stepR; rw [if_pos hb]
        rw [if_pos (Or.inl hb)] at p3
        rw [p3]
        have S := utfr_step s p hlt h0
        rw [es] at S
        simp only at S
        (refine go ?_; intros)
        (show wpO _ _ ⟨_, .call _, _, _, _, _⟩ _ _ _ _ _ _; refine o_callA (S) (fun _ _ => ?_); try simp only [List.cons_append, List.nil_append])
        (refine go ?_; intros)
        exact q_ret1 rfl rfl () rfl trivial Ent.nil
      · have es : stepR s p = ⟨(Utf8.decode s p).2, (Utf8.decode s p).1⟩ := by unfold stepR; rw [if_neg hb]
        have hnz : ((Utf8.decode s p).2 : Int) ≠ 0 := by omega
        by_cases hc : (Utf8.decode s p).1 = 0
        · rw [if_pos (Or.inr hc)] at p3
          rw [p3]
          have S := utfr_step s p hlt h0
          rw [es] at S
          simp only at S
          rw [hc] at S
          (refine go ?_; intros)
          (show wpO _ _ ⟨_, .call _, _, _, _, _⟩ _ _ _ _ _ _; refine o_callA (S) (fun _ _ => ?_); try simp only [List.cons_append, List.nil_append])
          (refine go ?_; intros)
          exact q_ret1 rfl rfl () rfl trivial Ent.nil
        · rw [if_neg (fun c => c.elim hb hc), List.drop_drop] at p3
          have hcz : ((Utf8.decode s p).1 : Int) ≠ 0 := by omega
          have S := utfr_step s p hlt h0
          rw [es] at S
          simp only at S
          (refine go ?_; intros)
          (show wpO _ _ ⟨_, .call _, _, _, _, _⟩ _ _ _ _ _ _; refine o_callA (S) (fun _ _ => ?_); try simp only [List.cons_append, List.nil_append])
          (refine go ?_; intros)
          refine q_round (p + (Utf8.decode s p).2) ⟨by omega, p3⟩ (by omega) (by repeat (first | exact trivial | refine ⟨rfl, ?_⟩)) Ent.nil
    · rw [drop_end (by omega), rightL_nil] at p3
      rw [p3]
      (refine go ?_; intros)
      exact q_ret1 rfl rfl () rfl trivial Ent.nil
  · have hz : (s.size : Int) > 65535 := by omega
    have e : rightD s = false := by unfold rightD; rw [decide_eq_false h0, Bool.false_and]
    (refine go ?_; intros)
    exact q_ret1 rfl rfl () (by rw [e]) trivial Ent.nil
end Go.Proofs.YtmlcikcdegodaaaDoor
