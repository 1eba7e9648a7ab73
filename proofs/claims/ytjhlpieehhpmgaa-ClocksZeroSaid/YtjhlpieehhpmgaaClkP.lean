/-
  ClocksPlays: its walk.
-/
import Derived.Test.YtjhlpieehhpmgaaClkW
set_option linter.unusedSimpArgs false
set_option linter.unusedVariables false
namespace Go.Proofs.Ytjhlpieehhpmgaa
open Go Go.Sx
structure CAct where
  k : Int
  who : Int
  n : Int
  deriving Inhabited
def actC (a : CAct) : List Value := [.int .i64 a.k, .int .i64 a.who, .int .i64 a.n]
structure CpSt where
  i : Nat
  T : List Int
attribute [local irreducible] MidQ wpE wpO wpC qE wpQ wpQO wpH wpHO wpD wpDO wpZ Ev own emp exI sl ch PostS LoopQ Rd rowsAt
abbrev actB (t : Nat) (a : CAct) : HProp := pts t (.cells (actC a).toArray 44 (0, 0))
set_option maxHeartbeats 8000000 in
theorem law_plays (H : PHeap) (v : Value) (acts : List CAct) (hv : rowsAt H 3 v (acts.map actC)) :
    FnDoes Try.prog 6 [v] [own H] (fun _ : Unit => True) (fun _ => .bool true) (fun _ => [own H]) := by
  refine does_of Try.func6 rfl rfl Try.ntmps6 rfl (by simp only [enum, Nat.reduceAdd, Nat.zero_add]; exact rfl) (fun c => ?_)
  obtain ⟨a, cap, rfl⟩ := hv.slice
  have hv' := hv
  simp only [List.length_map] at hv' ⊢
  (refine go ?_; intros)
  (show wpO _ _ ⟨_, .call _, _, _, _, _⟩ _ _ _ _ _ _; refine o_callA (clk_new) (fun z _ => ?_); try simp only [List.cons_append, List.nil_append])
  (refine go ?_; intros)
  (show wpO _ _ ⟨_, .call _, _, _, _, _⟩ _ _ _ _ _ _; refine o_callA (ref_new) (fun x _ => ?_); try simp only [List.cons_append, List.nil_append])
  (refine go ?_; intros)
  refine wpC_loop (σ := CpSt) (fun s => s.i ≤ 80 ∧ s.T.length = 8)
    (fun s => [(0, .slice a acts.length cap), (3, ptr z), (4, ptr x), (5, .int .i64 s.i)])
    (fun s => [own H, clkI z s.T, refC x s.T])
    (fun s => 80 - s.i) ⟨0, List.replicate 8 (-1)⟩ ⟨Nat.zero_le _, by simp⟩ (by repeat (first | exact trivial | refine ⟨rfl, ?_⟩)) (by ((try simp only [List.cons_append, List.nil_append]); repeat (first | exact Ent.nil | (apply Ent.cons; repeat (first | exact Pick.head | apply Pick.tail))))) (fun s hs => ?_)
  obtain ⟨i, T⟩ := s
  simp only at hs ⊢
  obtain ⟨s1, s2⟩ := hs
  by_cases hi : i < acts.length ∧ i < 80
  · obtain ⟨i1, i2⟩ := hi
    obtain ⟨b', off, cap', e, hc⟩ := hv'.at i (by simpa using i1)
    simp only [List.length_map, Value.slice.injEq] at e
    obtain ⟨rfl, _, rfl⟩ := e
    have hc' : ∀ j u, (actC acts[i])[j]? = some u → H.cell? ⟨b', off + i * 3 + j, none⟩ = some u := fun j u hu => hc j u (by simpa using hu)
    generalize acts[i] = aa at hc'
    clear hc
    (refine goB ?_; intros)
    refine wpC_block ?_
    (refine goB ?_; intro t)
    refine wpC_meet (σ := List Int) (fun T' => T'.length = 8) (fun _ => [(0, .slice (some ⟨b', off, none⟩) acts.length cap), (3, ptr z), (4, ptr x), (5, .int .i64 i), (7, .bool true)])
      (fun T' => [own H, clkI z T', refC x T']) ?_ (fun T' hT' => ?_)
    · by_cases k0 : aa.k = 0 ∨ aa.k = 1
      · by_cases k00 : aa.k = 0
        all_goals
          (refine go ?_; intros)
          refine wpC_drawnA [actB t aa] 13 ?_
          ((first | refine dt 0 ?_ | refine dts 0 ?_); (first | refine dt 1 ?_ | refine dts 1 ?_); (first | refine dt 2 ?_ | refine dts 2 ?_); (first | refine dt 3 ?_ | refine dts 3 ?_); (first | refine dt 4 ?_ | refine dts 4 ?_); (first | refine dt 6 ?_ | refine dts 6 ?_); (first | refine dt 7 ?_ | refine dts 7 ?_); (first | refine dt 8 ?_ | refine dts 8 ?_); (first | refine dt 9 ?_ | refine dts 9 ?_); (first | refine dt 10 ?_ | refine dts 10 ?_))
          (refine dcall 5 (clk_set z T aa.who aa.n) (fun _ _ => ?_); try simp only [List.cons_append, List.nil_append])
          (refine dcall 11 (ref_set x T aa.who aa.n s2) (fun _ _ => ?_); try simp only [List.cons_append, List.nil_append])
          ((first | refine df 12 ?_ | refine dfs 12 ?_); refine dl ?_)
          (refine go ?_; intros)
          exact q_mid (setT T aa.who aa.n) (by rw [setT_len]; exact s2) (by repeat (first | exact trivial | refine ⟨rfl, ?_⟩)) (by ((try simp only [List.cons_append, List.nil_append]); repeat (first | exact Ent.nil | (apply Ent.cons; repeat (first | exact Pick.head | apply Pick.tail)))))
      by_cases k2 : aa.k = 2
      · (refine go ?_; intros)
        refine wpC_drawnA [actB t aa] 9 ?_
        ((first | refine dt 0 ?_ | refine dts 0 ?_); (first | refine dt 1 ?_ | refine dts 1 ?_); (first | refine dt 2 ?_ | refine dts 2 ?_); (first | refine dt 4 ?_ | refine dts 4 ?_); (first | refine dt 5 ?_ | refine dts 5 ?_); (first | refine dt 6 ?_ | refine dts 6 ?_))
        (refine dcall 3 (clk_drop z T aa.who) (fun _ _ => ?_); try simp only [List.cons_append, List.nil_append])
        (refine dcall 7 (ref_drop x T aa.who s2) (fun _ _ => ?_); try simp only [List.cons_append, List.nil_append])
        ((first | refine df 8 ?_ | refine dfs 8 ?_); refine dl ?_)
        (refine go ?_; intros)
        exact q_mid (dropT T aa.who) (by rw [dropT_len]; exact s2) (by repeat (first | exact trivial | refine ⟨rfl, ?_⟩)) (by ((try simp only [List.cons_append, List.nil_append]); repeat (first | exact Ent.nil | (apply Ent.cons; repeat (first | exact Pick.head | apply Pick.tail)))))
      by_cases k3 : aa.k = 3
      · (refine go ?_; intros)
        refine wpC_drawnA [actB t aa] 9 ?_
        ((first | refine dt 0 ?_ | refine dts 0 ?_); (first | refine dt 1 ?_ | refine dts 1 ?_); (first | refine dt 2 ?_ | refine dts 2 ?_); (first | refine dt 4 ?_ | refine dts 4 ?_); (first | refine dt 5 ?_ | refine dts 5 ?_); (first | refine dt 6 ?_ | refine dts 6 ?_))
        (refine dcall 3 (clk_fire z T aa.n s2) (fun y hy => ?_); try simp only [List.cons_append, List.nil_append])
        (refine dcall 7 (ref_fire x T aa.n s2) (fun y2 hy2 => ?_); try simp only [List.cons_append, List.nil_append])
        obtain ⟨o, T1, w⟩ := y
        obtain ⟨o2, T2, w2⟩ := y2
        simp only at hy hy2 ⊢
        obtain ⟨rfl, rfl⟩ := hy.det hy2
        obtain ⟨f1, f2, _⟩ := hy.facts s2
        (refine dcall 8 (ints_same w w2 o (by omega)) (fun _ _ => ?_); try simp only [List.cons_append, List.nil_append])
        (refine dl ?_)
        (refine go ?_; intros)
        exact q_mid T1 f1 (by repeat (first | exact trivial | refine ⟨rfl, ?_⟩)) (by ((try simp only [List.cons_append, List.nil_append]); repeat (first | exact Ent.nil | (apply Ent.cons; repeat (first | exact Pick.head | apply Pick.tail)))))
      · (refine go ?_; intros)
        exact q_mid T s2 (by repeat (first | exact trivial | refine ⟨rfl, ?_⟩)) (by ((try simp only [List.cons_append, List.nil_append]); repeat (first | exact Ent.nil | (apply Ent.cons; repeat (first | exact Pick.head | apply Pick.tail)))))
    · (refine go ?_; intros)
      (show wpO _ _ ⟨_, .call _, _, _, _, _⟩ _ _ _ _ _ _; refine o_callA (clk_next z T') (fun y hy => ?_); try simp only [List.cons_append, List.nil_append])
      (refine go ?_; intros)
      (show wpO _ _ ⟨_, .call _, _, _, _, _⟩ _ _ _ _ _ _; refine o_callA (ref_next x T' hT') (fun y2 hy2 => ?_); try simp only [List.cons_append, List.nil_append])
      obtain rfl := hy.eq hy2
      (refine go ?_; intros)
      refine wpC_loop (σ := Nat) (fun m => m ≤ 8) (fun m => [(0, .slice (some ⟨b', off, none⟩) acts.length cap), (3, ptr z), (4, ptr x), (5, .int .i64 i), (12, .int .i64 (cntTo T' m : Nat)), (13, .int .i64 m)])
        (fun _ => [own H, clkI z T', refC x T']) (fun m => 8 - m) 0 (Nat.zero_le _) (by repeat (first | exact trivial | refine ⟨rfl, ?_⟩)) (by ((try simp only [List.cons_append, List.nil_append]); repeat (first | exact Ent.nil | (apply Ent.cons; repeat (first | exact Pick.head | apply Pick.tail))))) (fun m hm => ?_)
      by_cases hm8 : m < 8
      · have hcm := ints_at (T := T') (k := m) (by omega)
        have hS := cntTo_succ (T := T') (m := m) (by omega)
        have hcl := cntTo_le T' m
        have S := clk_due z T' m hm8
        by_cases hd : 0 ≤ dueOf T' m
        · rw [if_pos hd, decide_eq_true hd] at S
          rw [if_pos hd] at hS
          have e1 : ((cntTo T' m : Nat) : Int) + 1 = (cntTo T' (m + 1) : Nat) := by omega
          (refine go ?_; intros)
          (show wpO _ _ ⟨_, .call _, _, _, _, _⟩ _ _ _ _ _ _; refine o_callA (S) (fun _ _ => ?_); try simp only [List.cons_append, List.nil_append])
          (refine go ?_; intros)
          rw [e1]
          (refine go ?_; intros)
          refine q_round (m + 1) (by omega) (by omega) (by repeat (first | exact trivial | refine ⟨rfl, ?_⟩)) (by ((try simp only [List.cons_append, List.nil_append]); repeat (first | exact Ent.nil | (apply Ent.cons; repeat (first | exact Pick.head | apply Pick.tail)))))
        · rw [if_neg hd, decide_eq_false hd] at S
          rw [if_neg hd] at hS
          have hS' : cntTo T' (m + 1) = cntTo T' m := by omega
          (refine go ?_; intros)
          (show wpO _ _ ⟨_, .call _, _, _, _, _⟩ _ _ _ _ _ _; refine o_callA (S) (fun _ _ => ?_); try simp only [List.cons_append, List.nil_append])
          (refine go ?_; intros)
          refine q_round (m + 1) (by omega) (by omega) ⟨rfl, rfl, rfl, rfl, by rw [hS']; rfl, rfl, trivial⟩ (by ((try simp only [List.cons_append, List.nil_append]); repeat (first | exact Ent.nil | (apply Ent.cons; repeat (first | exact Pick.head | apply Pick.tail)))))
      · obtain rfl : m = 8 := by omega
        rw [cntTo_all hT']
        (refine go ?_; intros)
        (show wpO _ _ ⟨_, .call _, _, _, _, _⟩ _ _ _ _ _ _; refine o_callA (clk_len z T') (fun _ _ => ?_); try simp only [List.cons_append, List.nil_append])
        (refine go ?_; intros)
        refine q_round ⟨i + 1, T'⟩ ⟨by simp only; omega, hT'⟩ (by simp only; omega) (by repeat (first | exact trivial | refine ⟨rfl, ?_⟩)) (by ((try simp only [List.cons_append, List.nil_append]); repeat (first | exact Ent.nil | (apply Ent.cons; repeat (first | exact Pick.head | apply Pick.tail)))))
  · by_cases hi1 : i < acts.length
    all_goals
      (refine go ?_; intros)
      (show wpO _ _ ⟨_, .call _, _, _, _, _⟩ _ _ _ _ _ _; refine o_callA (law_awake) (fun _ _ => ?_); try simp only [List.cons_append, List.nil_append])
      (refine go ?_; intros)
      refine q_ret1 rfl rfl () rfl trivial ?_
      ((try simp only [List.cons_append, List.nil_append]); repeat (first | exact Ent.nil | (apply Ent.cons; repeat (first | exact Pick.head | apply Pick.tail))))
end Go.Proofs.Ytjhlpieehhpmgaa
