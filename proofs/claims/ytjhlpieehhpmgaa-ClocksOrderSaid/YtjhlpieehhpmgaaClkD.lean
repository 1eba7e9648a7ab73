/-
  ClocksOrder: its walk.
-/
import Derived.Test.YtjhlpieehhpmgaaClkO
set_option linter.unusedSimpArgs false
set_option linter.unusedVariables false
namespace Go.Proofs.Ytjhlpieehhpmgaa
open Go Go.Sx
def u16s (l : List Int) : List Value := l.map (Value.int .u16)
theorem u16s_at {ds : List Int} {k : Nat} (h : k < ds.length) : (u16s ds)[0 + k * 1]? = some (.int .u16 (dueOf ds k)) := by
  rw [show 0 + k * 1 = k by omega, ← due_get h]; simp [u16s, h]
structure CdSt where
  i : Nat
  T : List Int
  T2 : List Int
def Ups (ds T : List Int) (i : Nat) : Prop := T.length = 8 ∧ ∀ k, k < 8 → dueOf T k = if k < i then dueOf ds k else -1
def Dns (ds T : List Int) (i : Nat) : Prop := T.length = 8 ∧ ∀ k, k < 8 → dueOf T k = if 8 - i ≤ k then dueOf ds k else -1
theorem rep_due {k : Nat} (hk : k < 8) : dueOf (List.replicate 8 (-1)) k = -1 := by unfold dueOf List.getD; rw [List.getElem?_replicate, if_pos hk]; rfl
theorem all_neg {T : List Int} (hl : T.length = 8) (h : ∀ k, k < 8 → dueOf T k < 0) : cntD T = 0 := by
  unfold cntD
  rw [List.countP_eq_zero]
  intro a ha
  obtain ⟨k, hk, rfl⟩ := List.getElem_of_mem ha
  have := h k (by omega)
  rw [due_get hk]
  simp; omega
theorem all_pos {T : List Int} (hl : T.length = 8) (h : ∀ k, k < 8 → 0 ≤ dueOf T k) : cntD T = 8 := by
  unfold cntD
  rw [← hl, List.countP_eq_length]
  intro a ha
  obtain ⟨k, hk, rfl⟩ := List.getElem_of_mem ha
  have := h k (by omega)
  rw [due_get hk]
  simpa using this
attribute [local irreducible] MidQ wpE wpO wpC qE wpQ wpQO wpH wpHO wpD wpDO wpZ Ev own emp exI sl ch PostS LoopQ Rd rowsAt
set_option maxHeartbeats 8000000 in
theorem law_order (H : PHeap) (ds : List Int) (hl : ds.length = 8) (hb : ∀ a ∈ ds, 0 ≤ a ∧ a ≤ 65535) :
    FnDoes Try.prog 5 [.agg (u16s ds).toArray] [own H] (fun _ : Unit => True) (fun _ => .bool true) (fun _ => [own H]) := by
  refine does_of Try.func5 rfl rfl Try.ntmps5 rfl (by simp only [enum, Nat.reduceAdd, Nat.zero_add]; exact rfl) (fun c => ?_)
  have hd : ∀ k, k < 8 → 0 ≤ dueOf ds k ∧ dueOf ds k ≤ 65535 := fun k hk => by
    rw [← due_get (by omega)]; exact hb _ (List.getElem_mem (by omega))
  (refine go ?_; intro tb)
  (show wpO _ _ ⟨_, .call _, _, _, _, _⟩ _ _ _ _ _ _; refine o_callA (clk_new) (fun z _ => ?_); try simp only [List.cons_append, List.nil_append])
  (refine go ?_; intros)
  (show wpO _ _ ⟨_, .call _, _, _, _, _⟩ _ _ _ _ _ _; refine o_callA (clk_new) (fun z2 _ => ?_); try simp only [List.cons_append, List.nil_append])
  (refine goB ?_; intros)
  refine wpC_meet (σ := Unit) (fun _ => True) (fun _ => [(1, ptr tb), (3, ptr z), (4, ptr z2)]) (fun _ => [own H, pts tb (.cells (u16s ds).toArray 36 (0, 0)), clkI z ds, clkI z2 ds]) ?_ (fun _ _ => ?_)
  · refine wpC_block ?_
    refine wpC_loop (σ := CdSt) (fun s => s.i ≤ 8 ∧ Ups ds s.T s.i ∧ Dns ds s.T2 s.i) (fun s => [(1, ptr tb), (3, ptr z), (4, ptr z2), (5, .int .i64 s.i)])
      (fun s => [own H, pts tb (.cells (u16s ds).toArray 36 (0, 0)), clkI z s.T, clkI z2 s.T2])
      (fun s => 8 - s.i) ⟨0, List.replicate 8 (-1), List.replicate 8 (-1)⟩ ⟨Nat.zero_le _, ⟨by simp, fun k hk => by simp only; rw [if_neg (by omega), rep_due hk]⟩, ⟨by simp, fun k hk => by simp only; rw [if_neg (by omega), rep_due hk]⟩⟩ (by repeat (first | exact trivial | refine ⟨rfl, ?_⟩)) (by ((try simp only [List.cons_append, List.nil_append]); repeat (first | exact Ent.nil | (apply Ent.cons; repeat (first | exact Pick.head | apply Pick.tail))))) (fun s hs => ?_)
    obtain ⟨i, T, T2⟩ := s
    simp only at hs ⊢
    obtain ⟨s1, s2, s3⟩ := hs
    by_cases hi : i < 8
    · obtain ⟨r, hr⟩ : ∃ r, r = 7 - i := ⟨_, rfl⟩
      have e1 : (7 : Int) - (i : Int) = (r : Int) := by omega
      have hci := u16s_at (ds := ds) (k := i) (by omega)
      have hcr := u16s_at (ds := ds) (k := r) (by omega)
      have bi := hd i hi
      have br := hd r (by omega)
      obtain ⟨g1, g2⟩ := set_ok (T := T) hi bi.1
      obtain ⟨g3, g4⟩ := set_ok (T := T2) (k := r) (by omega) br.1
      have S1 := clk_set z T i (dueOf ds i)
      rw [g1, g2] at S1
      have S2 := clk_set z2 T2 r (dueOf ds r)
      rw [g3, g4] at S2
      (refine go ?_; intros)
      (show wpO _ _ ⟨_, .call _, _, _, _, _⟩ _ _ _ _ _ _; refine o_callA (S1) (fun _ _ => ?_); try simp only [List.cons_append, List.nil_append])
      (refine go ?_; intros)
      rw [e1]
      (refine go ?_; intros)
      (show wpO _ _ ⟨_, .call _, _, _, _, _⟩ _ _ _ _ _ _; refine o_callA (S2) (fun _ _ => ?_); try simp only [List.cons_append, List.nil_append])
      (refine go ?_; intros)
      refine q_round ⟨i + 1, T.set i (dueOf ds i), T2.set r (dueOf ds r)⟩ ⟨by simp only; omega, ⟨by simpa using s2.1, fun k hk => ?_⟩, ⟨by simpa using s3.1, fun k hk => ?_⟩⟩ (by simp only; omega) (by repeat (first | exact trivial | refine ⟨rfl, ?_⟩)) (by ((try simp only [List.cons_append, List.nil_append]); repeat (first | exact Ent.nil | (apply Ent.cons; repeat (first | exact Pick.head | apply Pick.tail)))))
      · simp only
        rw [due_set (by rw [s2.1]; exact hi), s2.2 k hk]
        by_cases c : k = i
        · subst c; rw [if_pos rfl, if_pos (by omega)]
        · rw [if_neg c]
          by_cases c2 : k < i
          · rw [if_pos c2, if_pos (by omega)]
          · rw [if_neg c2, if_neg (by omega)]
      · simp only
        rw [due_set (by rw [s3.1]; omega), s3.2 k hk]
        by_cases c : k = r
        · subst c; rw [if_pos rfl, if_pos (by omega)]
        · rw [if_neg c]
          by_cases c2 : 8 - i ≤ k
          · rw [if_pos c2, if_pos (by omega)]
          · rw [if_neg c2, if_neg (by omega)]
    · obtain rfl : i = 8 := by omega
      have e1 : T = ds := due_ext s2.1 hl (fun k hk => by rw [s2.2 k hk, if_pos hk])
      have e2 : T2 = ds := due_ext s3.1 hl (fun k hk => by rw [s3.2 k hk, if_pos (by omega)])
      subst e1
      subst e2
      (refine go ?_; intros)
      exact q_mid () trivial (by repeat (first | exact trivial | refine ⟨rfl, ?_⟩)) (by ((try simp only [List.cons_append, List.nil_append]); repeat (first | exact Ent.nil | (apply Ent.cons; repeat (first | exact Pick.head | apply Pick.tail)))))
  · (refine go ?_; intros)
    (show wpO _ _ ⟨_, .call _, _, _, _, _⟩ _ _ _ _ _ _; refine o_callA (clk_fire z ds 70000 hl) (fun y hy => ?_); try simp only [List.cons_append, List.nil_append])
    (refine go ?_; intros)
    (show wpO _ _ ⟨_, .call _, _, _, _, _⟩ _ _ _ _ _ _; refine o_callA (clk_fire z2 ds 70000 hl) (fun y2 hy2 => ?_); try simp only [List.cons_append, List.nil_append])
    obtain ⟨o, T1, w⟩ := y
    obtain ⟨o2, T2, w2⟩ := y2
    simp only at hy hy2 ⊢
    obtain ⟨rfl, rfl⟩ := hy.det hy2
    obtain ⟨f1, f2, f3, f4, f5, f6, f7, f8⟩ := hy.facts hl
    have hneg : ∀ k, k < 8 → dueOf T1 k < 0 := fun k hk => by
      have h6 := f6 k hk
      have h5 := f5 k hk
      have hdk := hd k hk
      split at h5 <;> omega
    have hz := all_neg f1 hneg
    have hp := all_pos hl (fun k hk => (hd k hk).1)
    have ho : o.length = 8 := by omega
    (refine goB ?_; intros)
    refine wpC_meet (σ := Unit) (fun _ => True) (fun _ => [(3, ptr z), (4, ptr z2), (6, w), (7, w2)]) (fun _ => [own H, clkI z T1, clkI z2 T1, intsI w o, intsI w2 o]) ?_ (fun _ _ => ?_)
    · refine wpC_block ?_
      refine wpC_loop (σ := Nat) (fun j => j + 1 ≤ 8) (fun j => [(1, ptr tb), (3, ptr z), (4, ptr z2), (6, w), (7, w2), (8, .int .i64 ((j + 1 : Nat) : Int))])
        (fun _ => [own H, pts tb (.cells (u16s ds).toArray 36 (0, 0)), clkI z T1, clkI z2 T1, intsI w o, intsI w2 o]) (fun j => 8 - j) 0 (by omega) (by repeat (first | exact trivial | refine ⟨rfl, ?_⟩)) (by ((try simp only [List.cons_append, List.nil_append]); repeat (first | exact Ent.nil | (apply Ent.cons; repeat (first | exact Pick.head | apply Pick.tail))))) (fun j hj => ?_)
      refine wpC_sl (.tail (.tail (.tail (.tail .head)))) (fun _ h _ => by omega) (fun ob ocap junk e q1 q2 q3 => ?_)
      subst e
      by_cases hj8 : j + 1 < 8
      · have j1 : j < o.length := by omega
        have j2 : j + 1 < o.length := by omega
        obtain ⟨k1, ek1, k1l, _, _⟩ := f3 o[j] (List.getElem_mem j1)
        obtain ⟨k2, ek2, k2l, _, _⟩ := f3 o[j + 1] (List.getElem_mem j2)
        have hpw := List.pairwise_iff_getElem.1 f7 j (j + 1) j1 j2 (by omega)
        rw [ek1, ek2] at hpw
        simp only [Int.toNat_natCast] at hpw
        have hco1 : (ints o ++ junk)[0 + j * 1]? = some (.int .i64 (k1 : Int)) := by
          rw [List.getElem?_append_left (by rw [ints_len]; omega), show 0 + j * 1 = j by omega, ints_get j1, ek1]
        have hco2 : (ints o ++ junk)[0 + (j + 1) * 1]? = some (.int .i64 (k2 : Int)) := by
          rw [List.getElem?_append_left (by rw [ints_len]; omega), show 0 + (j + 1) * 1 = j + 1 by omega, ints_get j2, ek2]
        have hd1 := u16s_at (ds := ds) (k := k1) (by omega)
        have hd2 := u16s_at (ds := ds) (k := k2) (by omega)
        have e1 : ((j + 1 : Nat) : Int) - 1 = (j : Int) := by omega
        have hsub : IntKind.i64.wrap (((j + 1 : Nat) : Int) - 1) = (j : Int) := by rw [e1]; exact wrap64_of (by omega) (by omega)
        have b1 := hd k1 k1l
        have b2 := hd k2 k2l
        (refine go ?_; intros)
        rw [e1]
        (refine go ?_; intros)
        rw [e1]
        (refine go ?_; intros)
        by_cases heq : dueOf ds k1 = dueOf ds k2
        all_goals
          refine wpC_drawnA [pts ob (.cells (ints o ++ junk).toArray 3 (0, 0)), pts tb (.cells (u16s ds).toArray 36 (0, 0))] 41 ?_
          ((first | refine dt 0 ?_ | refine dts 0 ?_); (first | refine dt 1 ?_ | refine dts 1 ?_))
          refine dtB 2 rfl (ev_arith rfl rfl rfl hsub) ?_
          ((first | refine dt 3 ?_ | refine dts 3 ?_); (first | refine dt 4 ?_ | refine dts 4 ?_); (first | refine dt 5 ?_ | refine dts 5 ?_); (first | refine dt 6 ?_ | refine dts 6 ?_); (first | refine dt 7 ?_ | refine dts 7 ?_); (first | refine df 8 ?_ | refine dfs 8 ?_); (first | refine df 9 ?_ | refine dfs 9 ?_); (first | refine df 10 ?_ | refine dfs 10 ?_); (first | refine df 11 ?_ | refine dfs 11 ?_); (first | refine df 12 ?_ | refine dfs 12 ?_); (first | refine df 13 ?_ | refine dfs 13 ?_); (first | refine df 14 ?_ | refine dfs 14 ?_); (first | refine dt 15 ?_ | refine dts 15 ?_); (first | refine dt 16 ?_ | refine dts 16 ?_))
          refine dtB 17 rfl (ev_arith rfl rfl rfl hsub) ?_
          ((first | refine dt 18 ?_ | refine dts 18 ?_); (first | refine dt 19 ?_ | refine dts 19 ?_); (first | refine dt 20 ?_ | refine dts 20 ?_); (first | refine dt 21 ?_ | refine dts 21 ?_); (first | refine dt 22 ?_ | refine dts 22 ?_); (first | refine df 23 ?_ | refine dfs 23 ?_); (first | refine df 24 ?_ | refine dfs 24 ?_); (first | refine df 25 ?_ | refine dfs 25 ?_); (first | refine df 26 ?_ | refine dfs 26 ?_); (first | refine df 27 ?_ | refine dfs 27 ?_); (first | refine df 28 ?_ | refine dfs 28 ?_); (first | refine df 29 ?_ | refine dfs 29 ?_); (first | refine dt 30 ?_ | refine dts 30 ?_); (first | refine dt 31 ?_ | refine dts 31 ?_))
          first | refine dtB 32 rfl (ev_arith rfl rfl rfl hsub) ?_ | refine dts 32 ?_
          ((first | refine dt 33 ?_ | refine dts 33 ?_); (first | refine dt 34 ?_ | refine dts 34 ?_); (first | refine dt 35 ?_ | refine dts 35 ?_); (first | refine df 36 ?_ | refine dfs 36 ?_); (first | refine df 37 ?_ | refine dfs 37 ?_); (first | refine df 38 ?_ | refine dfs 38 ?_); (first | refine df 39 ?_ | refine dfs 39 ?_); (first | refine df 40 ?_ | refine dfs 40 ?_); refine dl ?_)
          (refine go ?_; intros)
          refine q_round (j + 1) (by omega) (by omega) (by repeat (first | exact trivial | refine ⟨rfl, ?_⟩)) ?_
          exact Ent.cons (by repeat (first | exact Pick.head | apply Pick.tail)) (Ent.cons (by repeat (first | exact Pick.head | apply Pick.tail)) (Ent.cons (by repeat (first | exact Pick.head | apply Pick.tail)) (Ent.cons (by repeat (first | exact Pick.head | apply Pick.tail)) (Ent.slClose (by repeat (first | exact Pick.head | apply Pick.tail)) (by rw [ints_len]; omega) (ints_one _) q1 q2 q3 (by ((try simp only [List.cons_append, List.nil_append]); repeat (first | exact Ent.nil | (apply Ent.cons; repeat (first | exact Pick.head | apply Pick.tail)))))))))
      · (refine go ?_; intros)
        refine q_mid () trivial (by repeat (first | exact trivial | refine ⟨rfl, ?_⟩)) ?_
        exact Ent.cons (by repeat (first | exact Pick.head | apply Pick.tail)) (Ent.cons (by repeat (first | exact Pick.head | apply Pick.tail)) (Ent.cons (by repeat (first | exact Pick.head | apply Pick.tail)) (Ent.slClose (by repeat (first | exact Pick.head | apply Pick.tail)) (by rw [ints_len]; omega) (ints_one _) q1 q2 q3 (by ((try simp only [List.cons_append, List.nil_append]); repeat (first | exact Ent.nil | (apply Ent.cons; repeat (first | exact Pick.head | apply Pick.tail))))))))
    · have Sl1 := clk_len z T1
      have Sl2 := clk_len z2 T1
      rw [hz] at Sl1 Sl2
      (refine go ?_; intros)
      (show wpO _ _ ⟨_, .call _, _, _, _, _⟩ _ _ _ _ _ _; refine o_callA (ints_same w w2 o (by omega)) (fun _ _ => ?_); try simp only [List.cons_append, List.nil_append])
      (refine go ?_; intros)
      (show wpO _ _ ⟨_, .call _, _, _, _, _⟩ _ _ _ _ _ _; refine o_callA (Sl1) (fun _ _ => ?_); try simp only [List.cons_append, List.nil_append])
      (refine go ?_; intros)
      (show wpO _ _ ⟨_, .call _, _, _, _, _⟩ _ _ _ _ _ _; refine o_callA (Sl2) (fun _ _ => ?_); try simp only [List.cons_append, List.nil_append])
      (refine go ?_; intros)
      (show wpO _ _ ⟨_, .call _, _, _, _, _⟩ _ _ _ _ _ _; refine o_callA (law_awake) (fun _ _ => ?_); try simp only [List.cons_append, List.nil_append])
      (refine go ?_; intros)
      refine q_ret1 rfl rfl () rfl trivial ?_
      ((try simp only [List.cons_append, List.nil_append]); repeat (first | exact Ent.nil | (apply Ent.cons; repeat (first | exact Pick.head | apply Pick.tail))))
end Go.Proofs.Ytjhlpieehhpmgaa
