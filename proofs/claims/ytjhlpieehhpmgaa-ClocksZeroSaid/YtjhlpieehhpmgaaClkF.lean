/-
  The package clocks: Fire. The document's clocks.
-/
import Derived.Test.YtjhlpieehhpmgaaClkC
set_option linter.unusedSimpArgs false
set_option linter.unusedVariables false
namespace Go.Proofs.Ytjhlpieehhpmgaa
open Go Go.Sx
abbrev intsI (v : Value) (l : List Int) : HProp := sl 3 1 v l.length (ints l)
theorem intsI_snoc (w : Value) (l : List Int) (k : Int) : sl 3 1 w (l.length + 1) (ints l ++ [.int .i64 k]) = intsI w (l ++ [k]) := by simp [intsI, ints_snoc]
theorem ints_set (l : List Int) (k : Nat) (x : Int) : (ints l).set (0 + k * 1) (.int .i64 x) = ints (l.set k x) := by simp [ints, List.map_set]
structure FireSt where
  T : List Int
  o : List Int
  w : Value
structure FireOut where
  o : List Int
  T : List Int
  w : Value
attribute [local irreducible] MidQ wpE wpO wpC qE wpQ wpQO wpH wpHO wpD wpDO wpZ Ev own emp exI sl ch PostS LoopQ Rd rowsAt
theorem clk_fire (z : Nat) (T0 : List Int) (now : Int) (hT0 : T0.length = 8) : FnDoes Try.prog 10 [ptr z, .int .i64 now] [clkI z T0] (fun y : FireOut => Fires now T0 y.o y.T) (fun y => y.w) (fun y => [clkI z y.T, intsI y.w y.o]) := by
  refine does_of Try.func10 rfl rfl Try.ntmps10 rfl (by simp only [enum, Nat.reduceAdd, Nat.zero_add]; exact rfl) (fun c => ?_)
  have h8 := cnt_le T0
  (refine go ?_; intros)
  refine wpC_loop (σ := FireSt) (fun s => s.T.length = 8 ∧ s.o.length + cntD s.T ≤ 8 ∧ ∀ o2 T2, Fires now s.T o2 T2 → Fires now T0 (s.o ++ o2) T2)
    (fun s => [(0, ptr z), (1, .int .i64 now), (5, s.w)])
    (fun s => [clkI z s.T, intsI s.w s.o])
    (fun s => cntD s.T) ⟨T0, [], .slice none 0 0⟩ ⟨hT0, by simp; omega, fun o2 T2 h => h⟩ (by repeat (first | exact trivial | refine ⟨rfl, ?_⟩)) (Ent.cons (by repeat (first | exact Pick.head | apply Pick.tail)) (Ent.slNil Ent.nil)) (fun s hs => ?_)
  obtain ⟨T, o, w⟩ := s
  simp only at hs ⊢
  obtain ⟨s1, s2, s3⟩ := hs
  (refine go ?_; intros)
  (show wpO _ _ ⟨_, .call _, _, _, _, _⟩ _ _ _ _ _ _; refine o_callA (clk_next z T) (fun y hy => ?_); try simp only [List.cons_append, List.nil_append])
  cases y with
  | none =>
    simp only [Option.isSome_none]
    (refine go ?_; intros)
    refine q_ret1 rfl rfl ⟨o, T, w⟩ rfl (by have := s3 [] T (.none hy); simpa using this) ?_
    ((try simp only [List.cons_append, List.nil_append]); repeat (first | exact Ent.nil | (apply Ent.cons; repeat (first | exact Pick.head | apply Pick.tail))))
  | some k =>
    simp only [Option.isSome_some, firstV]
    by_cases hd : dueOf T k ≤ now
    · (refine go ?_; intros)
      refine wpO_unfold .head (fun s I => ?_)
      obtain ⟨p, q, l⟩ := s
      simp only [List.cons_append, List.nil_append] at I ⊢
      have hle := I.le
      rcases I.first with ⟨_, f⟩ | ⟨k', h0, h1, f⟩
      · cases f.eq hy
      cases f.eq hy
      obtain ⟨n, hn⟩ : ∃ n, l.length = n + 1 := ⟨l.length - 1, by omega⟩
      obtain ⟨d1, d2, d3, d4⟩ := popD_all ltE_ok l n hn I.hp
      have hp := pile_popInv p q (downL ltE (swp l 0 n) n 0).1 n d1 (by omega)
      rw [d4, h1] at hp
      have hk0 := hy.2.1
      have hc := cnt_set (T := T) (k := k) (-1) (by rw [s1]; exact hy.1)
      rw [if_pos hk0, if_neg (by omega)] at hc
      refine wpO_fact (p := ∃ es, Wh l es) (fun w s => ?_) (fun hW => ?_)
      · obtain ⟨y, hy, _⟩ := HSt.unfold (.tail .head) s
        exact ⟨_, hy⟩
      obtain ⟨es, W⟩ := hW
      have I' := I.out W hy.1 hn (Nat.zero_le _) h1 hk0 d2 d3 d4
      (refine go ?_; intros)
      (show wpO _ _ ⟨_, .call _, _, _, _, _⟩ _ _ _ _ _ _; refine o_callA (heap_pop (pileOps p q) l n hn (by omega) _ hp) (fun _ _ => ?_); try simp only [List.cons_append, List.nil_append])
      (refine go ?_; intro e eb)
      refine o_append (sz := 1) (news := [.int .i64 (k : Int)]) (m := 1) rfl rfl rfl rfl rfl rfl rfl rfl (by repeat (first | exact Pick.head | apply Pick.tail)) ?_ ?_ rfl (fun w' => ?_)
      · exact src_pts rfl (by repeat (first | exact Pick.head | apply Pick.tail)) rfl rfl rfl
      · show (o.length + 1) * 8 ≤ 140737488355328
        omega
      rw [intsI_snoc]
      (refine go ?_; intros)
      refine q_round ⟨T.set k (-1), o ++ [(k : Int)], w'⟩ ⟨by simpa using s1, by simp only [List.length_append, List.length_singleton]; omega, fun o2 T2 h => ?_⟩ (by simp only; omega) (by repeat (first | exact trivial | refine ⟨rfl, ?_⟩)) (clkI_mk I' (by ((try simp only [List.cons_append, List.nil_append]); repeat (first | exact Ent.nil | (apply Ent.cons; repeat (first | exact Pick.head | apply Pick.tail))))))
      rw [List.append_assoc]
      exact s3 _ _ (.one hy hd h)
    · (refine go ?_; intros)
      refine q_ret1 rfl rfl ⟨o, T, w⟩ rfl (by have := s3 [] T (.late hy (by omega)); simpa using this) ?_
      ((try simp only [List.cons_append, List.nil_append]); repeat (first | exact Ent.nil | (apply Ent.cons; repeat (first | exact Pick.head | apply Pick.tail))))
end Go.Proofs.Ytjhlpieehhpmgaa
