/-
  A text of the protocol, the document's way (crierref04): its walk.
  The document's bytes: texts, heads.
-/
import Derived.Test.YtnaabpfpldelmaaGreatDoorM12
import Derived.Test.YtnaabpfpldelmaaGreatDoorM38
import Derived.Test.YtnaabpfpldelmaaGreatDoorM30
set_option linter.unusedSimpArgs false
set_option linter.unusedVariables false
set_option maxRecDepth 20000
namespace Go.Proofs.YtnaabpfpldelmaaGreatDoor
open Go Go.Sx
attribute [local irreducible] MidQ wpE wpO wpC qE wpQ wpQO wpH wpHO wpD wpDO wpZ Ev own emp exI sl ch PostS LoopQ Rd rowsAt
theorem utfr_tail (s : ByteArray) (i : Nat) (j : Int) (hj : j = (i : Int)) : FnDoes Tryz.prog 146 [.string s, .int .i64 j] [] (fun _ : Unit => True) (fun _ => .bool (tailB s i)) (fun _ => []) := by
  subst hj
  refine does_of Tryz.func146 rfl rfl Tryz.ntmps146 rfl eNUM (fun c => ?_)
  have b0 := byteN_lt s i
  by_cases h : i < s.size
  · have hz : (i : Int) < (s.size : Int) := by omega
    by_cases h1 : 128 ≤ byteN s i
    · by_cases h2 : byteN s i ≤ 191
      · have e : tailB s i = true := by unfold tailB; rw [decide_eq_true h, decide_eq_true ⟨h1, h2⟩]; rfl
        (refine go ?_; intros)
        refine o_evB (ev_indexStr i rfl rfl Tryz.underlying9 rfl h) ?_
        (refine go ?_; intros)
        refine o_evB (ev_indexStr i rfl rfl Tryz.underlying9 rfl h) ?_
        (refine go ?_; intros)
        exact q_ret1 rfl rfl () (by rw [e]) trivial Ent.nil
      · have e : tailB s i = false := by unfold tailB; rw [Bool.and_eq_false_iff]; exact .inr (decide_eq_false (fun c => h2 c.2))
        (refine go ?_; intros)
        refine o_evB (ev_indexStr i rfl rfl Tryz.underlying9 rfl h) ?_
        (refine go ?_; intros)
        refine o_evB (ev_indexStr i rfl rfl Tryz.underlying9 rfl h) ?_
        (refine go ?_; intros)
        exact q_ret1 rfl rfl () (by rw [e]) trivial Ent.nil
    · have e : tailB s i = false := by unfold tailB; rw [Bool.and_eq_false_iff]; exact .inr (decide_eq_false (fun c => h1 c.1))
      (refine go ?_; intros)
      refine o_evB (ev_indexStr i rfl rfl Tryz.underlying9 rfl h) ?_
      (refine go ?_; intros)
      exact q_ret1 rfl rfl () (by rw [e]) trivial Ent.nil
  · have hz : ¬ (i : Int) < (s.size : Int) := by omega
    have e : tailB s i = false := by unfold tailB; rw [decide_eq_false h, Bool.false_and]
    (refine go ?_; intros)
    exact q_ret1 rfl rfl () (by rw [e]) trivial Ent.nil
set_option maxHeartbeats 2000000 in
theorem utfr_step (s : ByteArray) (i : Nat) (hi : i < s.size) (hs : s.size ≤ 65535) : FnDoes Tryz.prog 106 [.string s, .int .i64 i] [] (fun _ : Unit => True) (fun _ => .tuple #[.int .i64 (stepR s i).n, .int .i64 (stepR s i).c]) (fun _ => []) := by
  refine does_of Tryz.func106 rfl rfl Tryz.ntmps106 rfl eNUM (fun c => ?_)
  have b0 := byteN_lt s i
  have b1 := byteN_lt s (i + 1)
  have b2 := byteN_lt s (i + 2)
  have b3 := byteN_lt s (i + 3)
  by_cases h1 : byteN s i < 128
  · rw [step_1 h1]
    (refine go ?_; intros)
    refine o_evB (ev_indexStr i rfl rfl Tryz.underlying9 rfl hi) ?_
    (refine go ?_; intros)
    exact q_ret2 rfl rfl rfl () rfl trivial Ent.nil
  by_cases h2 : byteN s i ≤ 223
  · by_cases h3 : 194 ≤ byteN s i
    · rcases ht : tailB s (i + 1) with _ | _
      · rw [step_2f (by omega) h2 (.inr ht)]
        (refine go ?_; intros)
        refine o_evB (ev_indexStr i rfl rfl Tryz.underlying9 rfl hi) ?_
        (refine go ?_; intros)
        (show wpO _ _ ⟨_, .call _, _, _, _, _⟩ _ _ _ _ _ _; refine o_callA (utfr_tail s (i + 1) ((i : Int) + 1) (by omega)) (fun _ _ => ?_); try simp only [List.cons_append, List.nil_append])
        rw [ht]
        (refine go ?_; intros)
        exact q_ret2 rfl rfl rfl () rfl trivial Ent.nil
      · rw [step_2 h3 h2 ht]
        obtain ⟨t1, t2, t3⟩ := tailB_t ht
        (refine go ?_; intros)
        refine o_evB (ev_indexStr i rfl rfl Tryz.underlying9 rfl hi) ?_
        (refine go ?_; intros)
        (show wpO _ _ ⟨_, .call _, _, _, _, _⟩ _ _ _ _ _ _; refine o_callA (utfr_tail s (i + 1) ((i : Int) + 1) (by omega)) (fun _ _ => ?_); try simp only [List.cons_append, List.nil_append])
        rw [ht]
        (refine go ?_; intros)
        refine wpC_drawnA [] 11 ?_
        ((first | refine dt 0 ?_ | refine dts 0 ?_); (first | refine dt 1 ?_ | refine dts 1 ?_); (first | refine dt 2 ?_ | refine dts 2 ?_); (first | refine dt 3 ?_ | refine dts 3 ?_); (first | refine dt 4 ?_ | refine dts 4 ?_); (first | refine dt 5 ?_ | refine dts 5 ?_))
        refine dtB 6 rfl (ev_indexStr (i + 1) rfl rfl Tryz.underlying9 (by omega) t1) ?_
        ((first | refine dt 7 ?_ | refine dts 7 ?_); (first | refine dt 8 ?_ | refine dts 8 ?_); (first | refine dt 9 ?_ | refine dts 9 ?_); (first | refine df 10 ?_ | refine dfs 10 ?_); refine dl ?_)
        (refine go ?_; intros)
        exact q_ret2 rfl rfl rfl () (congrArg (fun x => Value.tuple #[.int .i64 2, .int .i64 x]) (by omega)) trivial Ent.nil
    · rw [step_2f (by omega) h2 (.inl (by omega))]
      (refine go ?_; intros)
      refine o_evB (ev_indexStr i rfl rfl Tryz.underlying9 rfl hi) ?_
      (refine go ?_; intros)
      exact q_ret2 rfl rfl rfl () rfl trivial Ent.nil
  by_cases h4 : byteN s i ≤ 239
  · rcases ht : tailB s (i + 1) with _ | _
    · rw [step_3f (by omega) h4 (.inl ht)]
      (refine go ?_; intros)
      refine o_evB (ev_indexStr i rfl rfl Tryz.underlying9 rfl hi) ?_
      (refine go ?_; intros)
      (show wpO _ _ ⟨_, .call _, _, _, _, _⟩ _ _ _ _ _ _; refine o_callA (utfr_tail s (i + 1) ((i : Int) + 1) (by omega)) (fun _ _ => ?_); try simp only [List.cons_append, List.nil_append])
      rw [ht]
      (refine go ?_; intros)
      exact q_ret2 rfl rfl rfl () rfl trivial Ent.nil
    rcases hu : tailB s (i + 2) with _ | _
    · rw [step_3f (by omega) h4 (.inr hu)]
      (refine go ?_; intros)
      refine o_evB (ev_indexStr i rfl rfl Tryz.underlying9 rfl hi) ?_
      (refine go ?_; intros)
      (show wpO _ _ ⟨_, .call _, _, _, _, _⟩ _ _ _ _ _ _; refine o_callA (utfr_tail s (i + 1) ((i : Int) + 1) (by omega)) (fun _ _ => ?_); try simp only [List.cons_append, List.nil_append])
      rw [ht]
      (refine go ?_; intros)
      (show wpO _ _ ⟨_, .call _, _, _, _, _⟩ _ _ _ _ _ _; refine o_callA (utfr_tail s (i + 2) ((i : Int) + 2) (by omega)) (fun _ _ => ?_); try simp only [List.cons_append, List.nil_append])
      rw [hu]
      (refine go ?_; intros)
      exact q_ret2 rfl rfl rfl () rfl trivial Ent.nil
    · rw [step_3 (by omega) h4 ht hu]
      obtain ⟨t1, t2, t3⟩ := tailB_t ht
      obtain ⟨u1, u2, u3⟩ := tailB_t hu
      (refine go ?_; intros)
      refine o_evB (ev_indexStr i rfl rfl Tryz.underlying9 rfl hi) ?_
      (refine go ?_; intros)
      (show wpO _ _ ⟨_, .call _, _, _, _, _⟩ _ _ _ _ _ _; refine o_callA (utfr_tail s (i + 1) ((i : Int) + 1) (by omega)) (fun _ _ => ?_); try simp only [List.cons_append, List.nil_append])
      rw [ht]
      (refine go ?_; intros)
      (show wpO _ _ ⟨_, .call _, _, _, _, _⟩ _ _ _ _ _ _; refine o_callA (utfr_tail s (i + 2) ((i : Int) + 2) (by omega)) (fun _ _ => ?_); try simp only [List.cons_append, List.nil_append])
      rw [hu]
      (refine go ?_; intros)
      refine wpC_drawnA [] 18 ?_
      ((first | refine dt 0 ?_ | refine dts 0 ?_); (first | refine dt 1 ?_ | refine dts 1 ?_); (first | refine dt 2 ?_ | refine dts 2 ?_); (first | refine dt 3 ?_ | refine dts 3 ?_); (first | refine dt 4 ?_ | refine dts 4 ?_); (first | refine dt 5 ?_ | refine dts 5 ?_))
      refine dtB 6 rfl (ev_indexStr (i + 1) rfl rfl Tryz.underlying9 (by omega) t1) ?_
      ((first | refine dt 7 ?_ | refine dts 7 ?_); (first | refine dt 8 ?_ | refine dts 8 ?_); (first | refine dt 9 ?_ | refine dts 9 ?_); (first | refine dt 10 ?_ | refine dts 10 ?_); (first | refine dt 11 ?_ | refine dts 11 ?_); (first | refine df 12 ?_ | refine dfs 12 ?_); (first | refine df 13 ?_ | refine dfs 13 ?_))
      refine dfB 14 rfl (ev_indexStr (i + 2) rfl rfl Tryz.underlying9 (by omega) u1) ?_
      ((first | refine df 15 ?_ | refine dfs 15 ?_); (first | refine df 16 ?_ | refine dfs 16 ?_); (first | refine df 17 ?_ | refine dfs 17 ?_); refine dl ?_)
      obtain ⟨v, hv⟩ : ∃ v, (byteN s i - 224) * 4096 + (byteN s (i + 1) - 128) * 64 + (byteN s (i + 2) - 128) = v := ⟨_, rfl⟩
      rw [hv]
      by_cases ca : v < 2048
      · rw [if_pos (.inl ca)]
        (refine go ?_; intros)
        exact q_ret2 rfl rfl rfl () rfl trivial Ent.nil
      by_cases cb : 55296 ≤ v
      · by_cases cc : v ≤ 57343
        · rw [if_pos (.inr ⟨cb, cc⟩)]
          (refine go ?_; intros)
          exact q_ret2 rfl rfl rfl () rfl trivial Ent.nil
        · rw [if_neg (by omega)]
          (refine go ?_; intros)
          exact q_ret2 rfl rfl rfl () (congrArg (fun x => Value.tuple #[.int .i64 3, .int .i64 x]) (by simp only; omega)) trivial Ent.nil
      · rw [if_neg (by omega)]
        (refine go ?_; intros)
        exact q_ret2 rfl rfl rfl () (congrArg (fun x => Value.tuple #[.int .i64 3, .int .i64 x]) (by simp only; omega)) trivial Ent.nil
  by_cases h5 : byteN s i ≤ 244
  · rcases ht : tailB s (i + 1) with _ | _
    · rw [step_4f (by omega) (.inr (.inl ht))]
      (refine go ?_; intros)
      refine o_evB (ev_indexStr i rfl rfl Tryz.underlying9 rfl hi) ?_
      (refine go ?_; intros)
      (show wpO _ _ ⟨_, .call _, _, _, _, _⟩ _ _ _ _ _ _; refine o_callA (utfr_tail s (i + 1) ((i : Int) + 1) (by omega)) (fun _ _ => ?_); try simp only [List.cons_append, List.nil_append])
      rw [ht]
      (refine go ?_; intros)
      exact q_ret2 rfl rfl rfl () rfl trivial Ent.nil
    rcases hu : tailB s (i + 2) with _ | _
    · rw [step_4f (by omega) (.inr (.inr (.inl hu)))]
      (refine go ?_; intros)
      refine o_evB (ev_indexStr i rfl rfl Tryz.underlying9 rfl hi) ?_
      (refine go ?_; intros)
      (show wpO _ _ ⟨_, .call _, _, _, _, _⟩ _ _ _ _ _ _; refine o_callA (utfr_tail s (i + 1) ((i : Int) + 1) (by omega)) (fun _ _ => ?_); try simp only [List.cons_append, List.nil_append])
      rw [ht]
      (refine go ?_; intros)
      (show wpO _ _ ⟨_, .call _, _, _, _, _⟩ _ _ _ _ _ _; refine o_callA (utfr_tail s (i + 2) ((i : Int) + 2) (by omega)) (fun _ _ => ?_); try simp only [List.cons_append, List.nil_append])
      rw [hu]
      (refine go ?_; intros)
      exact q_ret2 rfl rfl rfl () rfl trivial Ent.nil
    rcases hw : tailB s (i + 3) with _ | _
    · rw [step_4f (by omega) (.inr (.inr (.inr hw)))]
      (refine go ?_; intros)
      refine o_evB (ev_indexStr i rfl rfl Tryz.underlying9 rfl hi) ?_
      (refine go ?_; intros)
      (show wpO _ _ ⟨_, .call _, _, _, _, _⟩ _ _ _ _ _ _; refine o_callA (utfr_tail s (i + 1) ((i : Int) + 1) (by omega)) (fun _ _ => ?_); try simp only [List.cons_append, List.nil_append])
      rw [ht]
      (refine go ?_; intros)
      (show wpO _ _ ⟨_, .call _, _, _, _, _⟩ _ _ _ _ _ _; refine o_callA (utfr_tail s (i + 2) ((i : Int) + 2) (by omega)) (fun _ _ => ?_); try simp only [List.cons_append, List.nil_append])
      rw [hu]
      (refine go ?_; intros)
      (show wpO _ _ ⟨_, .call _, _, _, _, _⟩ _ _ _ _ _ _; refine o_callA (utfr_tail s (i + 3) ((i : Int) + 3) (by omega)) (fun _ _ => ?_); try simp only [List.cons_append, List.nil_append])
      rw [hw]
      (refine go ?_; intros)
      exact q_ret2 rfl rfl rfl () rfl trivial Ent.nil
    · rw [step_4 (by omega) h5 ht hu hw]
      obtain ⟨t1, t2, t3⟩ := tailB_t ht
      obtain ⟨u1, u2, u3⟩ := tailB_t hu
      obtain ⟨w1, w2, w3⟩ := tailB_t hw
      (refine go ?_; intros)
      refine o_evB (ev_indexStr i rfl rfl Tryz.underlying9 rfl hi) ?_
      (refine go ?_; intros)
      (show wpO _ _ ⟨_, .call _, _, _, _, _⟩ _ _ _ _ _ _; refine o_callA (utfr_tail s (i + 1) ((i : Int) + 1) (by omega)) (fun _ _ => ?_); try simp only [List.cons_append, List.nil_append])
      rw [ht]
      (refine go ?_; intros)
      (show wpO _ _ ⟨_, .call _, _, _, _, _⟩ _ _ _ _ _ _; refine o_callA (utfr_tail s (i + 2) ((i : Int) + 2) (by omega)) (fun _ _ => ?_); try simp only [List.cons_append, List.nil_append])
      rw [hu]
      (refine go ?_; intros)
      (show wpO _ _ ⟨_, .call _, _, _, _, _⟩ _ _ _ _ _ _; refine o_callA (utfr_tail s (i + 3) ((i : Int) + 3) (by omega)) (fun _ _ => ?_); try simp only [List.cons_append, List.nil_append])
      rw [hw]
      (refine go ?_; intros)
      refine wpC_drawnA [] 26 ?_
      ((first | refine dt 0 ?_ | refine dts 0 ?_); (first | refine dt 1 ?_ | refine dts 1 ?_); (first | refine dt 2 ?_ | refine dts 2 ?_); (first | refine dt 3 ?_ | refine dts 3 ?_); (first | refine dt 4 ?_ | refine dts 4 ?_); (first | refine dt 5 ?_ | refine dts 5 ?_))
      refine dtB 6 rfl (ev_indexStr (i + 1) rfl rfl Tryz.underlying9 (by omega) t1) ?_
      ((first | refine dt 7 ?_ | refine dts 7 ?_); (first | refine dt 8 ?_ | refine dts 8 ?_); (first | refine dt 9 ?_ | refine dts 9 ?_); (first | refine dt 10 ?_ | refine dts 10 ?_); (first | refine dt 11 ?_ | refine dts 11 ?_); (first | refine dt 12 ?_ | refine dts 12 ?_); (first | refine dt 13 ?_ | refine dts 13 ?_))
      refine dtB 14 rfl (ev_indexStr (i + 2) rfl rfl Tryz.underlying9 (by omega) u1) ?_
      ((first | refine dt 15 ?_ | refine dts 15 ?_); (first | refine dt 16 ?_ | refine dts 16 ?_); (first | refine dt 17 ?_ | refine dts 17 ?_); (first | refine dt 18 ?_ | refine dts 18 ?_); (first | refine dt 19 ?_ | refine dts 19 ?_); (first | refine df 20 ?_ | refine dfs 20 ?_); (first | refine df 21 ?_ | refine dfs 21 ?_))
      refine dfB 22 rfl (ev_indexStr (i + 3) rfl rfl Tryz.underlying9 (by omega) w1) ?_
      ((first | refine df 23 ?_ | refine dfs 23 ?_); (first | refine df 24 ?_ | refine dfs 24 ?_); (first | refine df 25 ?_ | refine dfs 25 ?_); refine dl ?_)
      obtain ⟨v, hv⟩ : ∃ v, (byteN s i - 240) * 262144 + (byteN s (i + 1) - 128) * 4096 + (byteN s (i + 2) - 128) * 64 + (byteN s (i + 3) - 128) = v := ⟨_, rfl⟩
      rw [hv]
      by_cases ca : v < 65536
      · rw [if_pos (.inl ca)]
        (refine go ?_; intros)
        exact q_ret2 rfl rfl rfl () rfl trivial Ent.nil
      by_cases cb : 1114111 < v
      · rw [if_pos (.inr cb)]
        (refine go ?_; intros)
        exact q_ret2 rfl rfl rfl () rfl trivial Ent.nil
      · rw [if_neg (by omega)]
        (refine go ?_; intros)
        exact q_ret2 rfl rfl rfl () (congrArg (fun x => Value.tuple #[.int .i64 4, .int .i64 x]) (by simp only; omega)) trivial Ent.nil
  · rw [step_4f (by omega) (.inl (by omega))]
    (refine go ?_; intros)
    refine o_evB (ev_indexStr i rfl rfl Tryz.underlying9 rfl hi) ?_
    (refine go ?_; intros)
    exact q_ret2 rfl rfl rfl () rfl trivial Ent.nil
theorem utfr_right (s : ByteArray) : FnDoes Tryz.prog 76 [.string s] [] (fun _ : Unit => True) (fun _ => .bool (rightD s)) (fun _ => []) := by
  refine does_of Tryz.func76 rfl rfl Tryz.ntmps76 rfl eNUM (fun c => ?_)
  by_cases h0 : s.size ≤ 65535
  · have hz : ¬ (s.size : Int) > 65535 := by omega
    have e : rightD s = rightL s.data.toList := by unfold rightD; rw [decide_eq_true h0, Bool.true_and]
    rw [e]
    (refine go ?_; intros)
    refine wpC_loop (σ := Nat) (fun p => p ≤ s.size ∧ rightL s.data.toList = rightL (s.data.toList.drop p)) (fun p => [(0, .string s), (3, .int .i64 p)]) (fun _ => []) (fun p => s.size - p) 0 ⟨Nat.zero_le _, rfl⟩ sUB Ent.nil (fun p hp => ?_)
    obtain ⟨p1, p3⟩ := hp
    by_cases hlt : p < s.size
    · have hne := drop_ne hlt
      have hd := Lib.decodeL_drop s p
      have hw := Lib.decodeL_width (s.data.toList.drop p)
      have hle := Lib.decodeL_le (s.data.toList.drop p) hne
      rw [List.length_drop, size_list] at hle
      rw [rightL_step _ hne] at p3
      rw [hd] at hw hle p3
      by_cases hb : (Utf8.decode s p).1 = 65533 ∧ (Utf8.decode s p).2 = 1
      · have es : stepR s p = ⟨0, 0⟩ := by unfold stepR; rw [if_pos hb]
        rw [if_pos (Or.inl hb)] at p3
        rw [p3]
        have S := utfr_step s p hlt h0
        rw [es] at S
        simp only at S
        (refine go ?_; intros)
        (show wpO _ _ ⟨_, .call _, _, _, _, _⟩ _ _ _ _ _ _; refine o_callA (S) (fun _ _ => ?_); try simp only [List.cons_append, List.nil_append])
        (refine go ?_; intros)
        exact q_ret1 rfl rfl () rfl trivial Ent.nil
      · have es : stepR s p = ⟨(Utf8.decode s p).2, (Utf8.decode s p).1⟩ := by unfold stepR; rw [if_neg hb]
        have hnz : ((Utf8.decode s p).2 : Int) ≠ 0 := by omega
        by_cases hc : (Utf8.decode s p).1 = 0
        · rw [if_pos (Or.inr hc)] at p3
          rw [p3]
          have S := utfr_step s p hlt h0
          rw [es] at S
          simp only at S
          rw [hc] at S
          (refine go ?_; intros)
          (show wpO _ _ ⟨_, .call _, _, _, _, _⟩ _ _ _ _ _ _; refine o_callA (S) (fun _ _ => ?_); try simp only [List.cons_append, List.nil_append])
          (refine go ?_; intros)
          exact q_ret1 rfl rfl () rfl trivial Ent.nil
        · rw [if_neg (fun c => c.elim hb hc), List.drop_drop] at p3
          have hcz : ((Utf8.decode s p).1 : Int) ≠ 0 := by omega
          have S := utfr_step s p hlt h0
          rw [es] at S
          simp only at S
          (refine go ?_; intros)
          (show wpO _ _ ⟨_, .call _, _, _, _, _⟩ _ _ _ _ _ _; refine o_callA (S) (fun _ _ => ?_); try simp only [List.cons_append, List.nil_append])
          (refine go ?_; intros)
          refine q_round (p + (Utf8.decode s p).2) ⟨by omega, p3⟩ (by omega) sUB Ent.nil
    · rw [drop_end (by omega), rightL_nil] at p3
      rw [p3]
      (refine go ?_; intros)
      exact q_ret1 rfl rfl () rfl trivial Ent.nil
  · have hz : (s.size : Int) > 65535 := by omega
    have e : rightD s = false := by unfold rightD; rw [decide_eq_false h0, Bool.false_and]
    (refine go ?_; intros)
    exact q_ret1 rfl rfl () (by rw [e]) trivial Ent.nil
end Go.Proofs.YtnaabpfpldelmaaGreatDoor
set_option linter.unusedSimpArgs false
set_option linter.unusedVariables false
set_option maxRecDepth 20000
namespace Go.Proofs.YtnaabpfpldelmaaGreatDoor
open Go Go.Sx
def two (n : Nat) : List UInt8 := [UInt8.ofNat (n / 256), UInt8.ofNat (n % 256)]
def putL (s : ByteArray) : List UInt8 := two s.size ++ s.data.toList
theorem two_len (n : Nat) : (two n).length = 2 := rfl
theorem u8_ofNat {n : Nat} (h : n < 256) : ((UInt8.ofNat n).toNat : Int) = n := by rw [UInt8.toNat_ofNat']; omega
abbrev rawE (e : Nat) (bs : List UInt8) : List UInt8 := if e = 0 then bs else []
attribute [local irreducible] MidQ wpE wpO wpC qE wpQ wpQO wpH wpHO wpD wpDO wpZ Ev own emp exI sl ch PostS LoopQ Rd rowsAt
set_option maxHeartbeats 1000000 in
theorem rf_put2 (n : Nat) (hn : n ≤ 140737488351232) : FnDoes Tryz.prog 58 [nat64 n] [] (fun y : Value × Nat => y.2 = 0 ↔ n ≤ 65535) (fun y => .tuple #[y.1, nat64 y.2]) (fun y => [bytI y.1 (rawE y.2 (two n))]) := by
  refine does_of Tryz.func58 rfl rfl Tryz.ntmps58 rfl eNUM (fun c => ?_)
  by_cases h : n ≤ 65535
  · have e1 := u8_ofNat (show n / 256 < 256 by omega)
    have e2 := u8_ofNat (show n % 256 < 256 by omega)
    have e3 : ((n : Nat) : Int) % 256 = ((n % 256 : Nat) : Int) := by omega
    (refine go ?_; intros)
    refine o_buildSliceN (l := [.int .u8 ((n / 256 : Nat) : Int), .int .u8 ((n % 256 : Nat) : Int)]) rfl rfl rfl rfl rfl rfl rfl rfl rfl (fun b => ?_)
    rw [show [Value.int .u8 ((n / 256 : Nat) : Int), Value.int .u8 ((n % 256 : Nat) : Int)] = u8s (two n) by unfold two u8s; simp only [List.map_cons, List.map_nil, e1, e2]]
    (refine go ?_; intros)
    exact q_ret2 rfl rfl rfl (.slice (some ⟨b, 0, none⟩) 2 2, 0) rfl (⟨fun _ => h, fun _ => rfl⟩ : (0 : Nat) = 0 ↔ _) (Ent.slClose (xs := u8s (two n)) (junk := []) pK rfl (u8s_one _) (Nat.le_refl _) (by decide) rfl eNT)
  · (refine go ?_; intros)
    exact q_ret2 rfl rfl rfl (.slice none 0 0, 1) rfl (⟨fun h => (by cases h), fun h' => absurd h' h⟩ : (1 : Nat) = 0 ↔ _) (Ent.slNil Ent.nil)
set_option maxHeartbeats 1000000 in
theorem rf_putRaw (s : ByteArray) (hs : s.size ≤ 140737488351232) : FnDoes Tryz.prog 56 [.string s] [] (fun y : Value × Nat => y.2 = 0 ↔ s.size ≤ 65535) (fun y => .tuple #[y.1, nat64 y.2]) (fun y => [bytI y.1 (rawE y.2 (putL s))]) := by
  have hp := rf_put2 s.size hs
  have hsz : s.data.toList.length = s.size := Array.length_toList
  have hb : Tryz.prog.types[5].bytes ≤ 1000 := by decide +kernel
  refine does_of Tryz.func56 rfl rfl Tryz.ntmps56 rfl eNUM (fun c => ?_)
  (refine go ?_; intros)
  (show wpO _ _ ⟨_, .call _, _, _, _, _⟩ _ _ _ _ _ _; refine o_callA (hp) (fun ⟨v, e⟩ hy => ?_); try simp only [List.cons_append, List.nil_append])
  try dsimp only at hy ⊢
  by_cases he : e = 0
  · subst he
    have h6 := hy.1 rfl
    refine wpE_fact (sl_one (v := v) .head) (fun o3 => ?_)
    (refine go ?_; intros)
    refine o_append (m := s.size) (news := u8s s.data.toList) (sz := 1) rfl rfl rfl rfl rfl rfl rfl rfl pK (src_str rfl) ?_ rfl (fun w => ?_)
    · have := Nat.mul_le_mul (show (rawE 0 (two s.size)).length + s.size ≤ 70000 by simp only [rawE, if_true, two_len]; omega) hb
      omega
    rw [show sl tU8 1 w ((rawE 0 (two s.size)).length + s.size) (u8s (rawE 0 (two s.size)) ++ u8s s.data.toList) = bytI w (putL s) by unfold bytI putL rawE; simp only [if_true, List.length_append, hsz, u8s_append]]
    refine wpE_fact (sl_one (v := w) .head) (fun o4 => ?_)
    (refine go ?_; intros)
    exact q_ret2 rfl rfl rfl (w, 0) rfl (⟨fun _ => h6, fun _ => rfl⟩ : (0 : Nat) = 0 ↔ _) eNT
  · have h1 : (e : Int) ≠ 0 := by omega
    (refine go ?_; intros)
    exact q_ret2 rfl rfl rfl (.slice none 0 0, 3) rfl (⟨fun h => (by cases h), fun h' => absurd (hy.2 h') he⟩ : (3 : Nat) = 0 ↔ _) (Ent.slNil Ent.nil)
set_option maxHeartbeats 1000000 in
theorem rf_put (s : ByteArray) (hs : s.size ≤ 140737488351232) : FnDoes Tryz.prog 55 [.string s] [] (fun y : Value × Nat => y.2 = 0 ↔ rightD s = true) (fun y => .tuple #[y.1, nat64 y.2]) (fun y => [bytI y.1 (rawE y.2 (putL s))]) := by
  have hp := rf_putRaw s hs
  have hr := utfr_right s
  have hle : rightD s = true → s.size ≤ 65535 := fun h => by unfold rightD at h; simp at h; exact h.1
  refine does_of Tryz.func55 rfl rfl Tryz.ntmps55 rfl eNUM (fun c => ?_)
  by_cases h : s.size ≤ 65535
  · (refine go ?_; intros)
    (show wpO _ _ ⟨_, .call _, _, _, _, _⟩ _ _ _ _ _ _; refine o_callA (hr) (fun _ _ => ?_); try simp only [List.cons_append, List.nil_append])
    cases hd : rightD s with
    | true =>
      (refine go ?_; intros)
      (show wpO _ _ ⟨_, .call _, _, _, _, _⟩ _ _ _ _ _ _; refine o_callA (hp) (fun ⟨v, e⟩ hy => ?_); try simp only [List.cons_append, List.nil_append])
      try dsimp only at hy ⊢
      refine wpE_fact (sl_one (v := v) .head) (fun o3 => ?_)
      (refine go ?_; intros)
      exact q_ret2 rfl rfl rfl (v, e) rfl (by show e = 0 ↔ _; exact ⟨fun _ => (by first | rfl | trivial), fun _ => hy.2 h⟩) eNT
    | false =>
      (refine go ?_; intros)
      exact q_ret2 rfl rfl rfl (.slice none 0 0, 9) rfl (by show (9 : Nat) = 0 ↔ _; exact ⟨fun h => (by cases h), fun h => (by cases h)⟩) (Ent.slNil Ent.nil)
  · (refine go ?_; intros)
    exact q_ret2 rfl rfl rfl (.slice none 0 0, 3) rfl (⟨fun h => (by cases h), fun h' => absurd (hle h') h⟩ : (3 : Nat) = 0 ↔ _) (Ent.slNil Ent.nil)
theorem rf_right11 (kd : Nat) (hk : kd = 1 ∨ kd = 12 ∨ kd = 14) : FnDoes Tryz.prog 42 [nat64 kd, nat64 0] [] (fun _ : Unit => True) (fun _ => nat64 0) (fun _ => []) := by
  refine does_of Tryz.func42 rfl rfl Tryz.ntmps42 rfl eNUM (fun c => ?_)
  rcases hk with rfl | rfl | rfl
  all_goals
    (refine go ?_; intros)
    exact q_ret1 rfl rfl () rfl trivial eNT
def lenB (m : Nat) : List UInt8 := if m ≤ 127 then [UInt8.ofNat m] else [UInt8.ofNat (m % 128 + 128), UInt8.ofNat (m / 128)]
def headB (kd m : Nat) : List UInt8 := UInt8.ofNat (kd * 16) :: lenB m
set_option maxHeartbeats 2000000 in
theorem rf_put11 (kd m : Nat) (hk : kd = 1 ∨ kd = 12 ∨ kd = 14) (hm : m ≤ 140737488351232) : FnDoes Tryz.prog 20 [.agg (hedC kd 0 m).toArray] [] (fun y : Value × Nat => y.2 = 0 ↔ m ≤ 4096) (fun y => .tuple #[y.1, nat64 y.2]) (fun y => [bytI y.1 (rawE y.2 (headB kd m))]) := by
  have hr := rf_right11 kd hk
  have hb : Tryz.prog.types[5].bytes ≤ 1000 := by decide +kernel
  have hkd : kd ≤ 14 := by omega
  refine does_of Tryz.func20 rfl rfl Tryz.ntmps20 rfl eNUM (fun c => ?_)
  (refine go ?_; intro c1)
  (show wpO _ _ ⟨_, .call _, _, _, _, _⟩ _ _ _ _ _ _; refine o_callA (hr) (fun _ _ => ?_); try simp only [List.cons_append, List.nil_append])
  by_cases h : m ≤ 4096
  · have e0 := u8_ofNat (show kd * 16 < 256 by omega)
    have e1 : (16 * (kd : Int) + ((0 : Nat) : Int)) = ((kd * 16 : Nat) : Int) := by omega
    (refine go ?_; intro b0)
    rw [e1]
    have hb1 : ∀ bb : Nat, bb < 256 → (Value.int .u8 (bb : Int)) = .int .u8 ((UInt8.ofNat bb).toNat : Int) := fun bb h => by rw [u8_ofNat h]
    refine wpC_loop (σ := Bool × Value) (fun s => s.1 = true → 127 < m) (fun s => [(5, s.2), (6, nat64 (bif s.1 then m / 128 else m))]) (fun s => [bytI s.2 (bif s.1 then [UInt8.ofNat (kd * 16), UInt8.ofNat (m % 128 + 128)] else [UInt8.ofNat (kd * 16)])]) (fun s => bif s.1 then 0 else 1) (false, .slice (some ⟨b0, 0, none⟩) 1 1) (fun h => by cases h) sUB (Ent.slClose (xs := u8s [UInt8.ofNat (kd * 16)]) (junk := []) (by rw [hb1 _ (show kd * 16 < 256 by omega)]; exact .head) rfl rfl (Nat.le_refl _) (by decide) rfl eNT) (fun s hs => ?_)
    obtain ⟨st, w⟩ := s
    try dsimp only at hs
    refine wpC_fact (sl_one (v := w) .head) (fun o3 => ?_)
    cases st with
    | true =>
      have h7 := hs rfl
      have e2 := u8_ofNat (show m / 128 < 256 by omega)
      have h8 : ((m / 128 : Nat) : Int) ≤ 127 := by omega
      dsimp only [cond_true]
      (refine go ?_; intro bb)
      refine o_append (m := 1) (news := u8s [UInt8.ofNat (m / 128)]) (sz := 1) rfl rfl rfl rfl rfl rfl rfl rfl pK (src_pts rfl pK (by rw [show u8s [UInt8.ofNat (m / 128)] = [.int .u8 ((m / 128 : Nat) : Int)] by unfold u8s; simp only [List.map_cons, List.map_nil, e2]]; rfl) rfl rfl) ?_ rfl (fun v' => ?_)
      · dsimp only [List.length_cons, List.length_nil]
        have := Nat.mul_le_mul (Nat.le_refl 3) hb
        omega
      refine wpE_fact (sl_one (v := v') .head) (fun o4 => ?_)
      (refine go ?_; intros)
      exact q_ret2 rfl rfl rfl (v', 0) rfl (⟨fun _ => h, fun _ => rfl⟩ : (0 : Nat) = 0 ↔ _) (by rw [show rawE 0 (headB kd m) = [UInt8.ofNat (kd * 16), UInt8.ofNat (m % 128 + 128), UInt8.ofNat (m / 128)] by unfold rawE headB lenB; rw [if_pos rfl, if_neg (by omega)]]; ((try simp only [List.cons_append, List.nil_append]); repeat (first | exact Ent.nil | (apply Ent.cons; repeat (first | exact Pick.head | apply Pick.tail)))))
    | false =>
      by_cases h7 : m ≤ 127
      · have e2 := u8_ofNat (show m < 256 by omega)
        dsimp only [cond_false]
        (refine go ?_; intro bb)
        refine o_append (m := 1) (news := u8s [UInt8.ofNat m]) (sz := 1) rfl rfl rfl rfl rfl rfl rfl rfl pK (src_pts rfl pK (by rw [show u8s [UInt8.ofNat m] = [.int .u8 (m : Int)] by unfold u8s; simp only [List.map_cons, List.map_nil, e2]]; rfl) rfl rfl) ?_ rfl (fun v' => ?_)
        · dsimp only [List.length_cons, List.length_nil]
          have := Nat.mul_le_mul (Nat.le_refl 2) hb
          omega
        refine wpE_fact (sl_one (v := v') .head) (fun o4 => ?_)
        (refine go ?_; intros)
        exact q_ret2 rfl rfl rfl (v', 0) rfl (⟨fun _ => h, fun _ => rfl⟩ : (0 : Nat) = 0 ↔ _) (by rw [show rawE 0 (headB kd m) = [UInt8.ofNat (kd * 16), UInt8.ofNat m] by unfold rawE headB lenB; rw [if_pos rfl, if_pos h7]]; ((try simp only [List.cons_append, List.nil_append]); repeat (first | exact Ent.nil | (apply Ent.cons; repeat (first | exact Pick.head | apply Pick.tail)))))
      · have e2 := u8_ofNat (show m % 128 + 128 < 256 by omega)
        have e3 : ((m : Nat) : Int) % 128 + 128 = ((m % 128 + 128 : Nat) : Int) := by omega
        dsimp only [cond_false]
        (refine go ?_; intro bb)
        refine o_append (m := 1) (news := u8s [UInt8.ofNat (m % 128 + 128)]) (sz := 1) rfl rfl rfl rfl rfl rfl rfl rfl pK (src_pts rfl pK (by rw [show u8s [UInt8.ofNat (m % 128 + 128)] = [.int .u8 ((m % 128 + 128 : Nat) : Int)] by unfold u8s; simp only [List.map_cons, List.map_nil, e2]]; rfl) rfl rfl) ?_ rfl (fun v' => ?_)
        · dsimp only [List.length_cons, List.length_nil]
          have := Nat.mul_le_mul (Nat.le_refl 2) hb
          omega
        (refine go ?_; intros)
        exact q_round (true, v') (fun _ => by omega) (show (0 : Nat) < 1 by decide) sUB eNT
  · (refine go ?_; intros)
    exact q_ret2 rfl rfl rfl (.slice none 0 0, 3) rfl (⟨fun h => (by cases h), fun h' => absurd h' h⟩ : (3 : Nat) = 0 ↔ _) (Ent.slNil Ent.nil)
end Go.Proofs.YtnaabpfpldelmaaGreatDoor
