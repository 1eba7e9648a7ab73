/-
  IdsBack: its walk.
-/
import Derived.Test.YtgpdfhjnlelhlaaIdsR
import Derived.Test.YtgpdfhjnlelhlaaIdsW
set_option linter.unusedSimpArgs false
set_option linter.unusedVariables false
namespace Go.Proofs.Ytgpdfhjnlelhlaa
open Go Go.Sx
attribute [local irreducible] MidQ wpE wpO wpC qE wpQ wpQO wpH wpHO wpD wpDO wpZ Ev own emp exI sl ch PostS LoopQ Rd rowsAt
structure IkSt where
  i : Nat
  T : List Bool
set_option maxHeartbeats 4000000 in
theorem law_back (H : PHeap) (most k : Int) (hm1 : 0 ≤ most) (hm2 : most ≤ 255) (hk1 : 0 ≤ k) (hk2 : k ≤ 255) :
    FnDoes Try.prog 5 [.int .u8 most, .int .u8 k] [own H] (fun _ : Unit => True) (fun _ => .bool true) (fun _ => [own H]) := by
  refine does_of Try.func5 rfl rfl Try.ntmps5 rfl (by simp only [enum, Nat.reduceAdd, Nat.zero_add]; exact rfl) (fun c => ?_)
  obtain ⟨n, hn⟩ : ∃ n : Nat, 1 + most % 40 = n := ⟨(1 + most % 40).toNat, by omega⟩
  have hn1 : 1 ≤ n := by omega
  have hn2 : n ≤ 40 := by omega
  have hr1 : 0 ≤ k % ((n : Int) + 1) := Int.emod_nonneg _ (by omega)
  have hr2 : k % ((n : Int) + 1) < (n : Int) + 1 := Int.emod_lt_of_pos _ (by omega)
  obtain ⟨m, hm⟩ : ∃ m : Nat, k % ((n : Int) + 1) = m := ⟨(k % ((n : Int) + 1)).toNat, by omega⟩
  have hmn : m ≤ n := by omega
  (refine go ?_; intros)
  rw [hn]
  (refine go ?_; intros)
  (show wpO _ _ ⟨_, .call _, _, _, _, _⟩ _ _ _ _ _ _; refine o_callA (ids_newS n hn1 (by omega)) (fun d _ => ?_); try simp only [List.cons_append, List.nil_append])
  (refine go ?_; intros)
  refine wpC_loop (σ := IkSt) (fun s => s.i ≤ m ∧ FirstT n s.i s.T)
    (fun s => [(1, .int .u8 k), (5, .int .i64 n), (6, ptr d), (8, .int .i64 s.i)])
    (fun s => [own H, idsI d n s.T])
    (fun s => m - s.i) ⟨0, List.replicate (n + 1) false⟩ ⟨Nat.zero_le _, firstT_rep n⟩ (by repeat (first | exact trivial | refine ⟨rfl, ?_⟩)) (by ((try simp only [List.cons_append, List.nil_append]); repeat (first | exact Ent.nil | (apply Ent.cons; repeat (first | exact Pick.head | apply Pick.tail))))) (fun s hs => ?_)
  obtain ⟨i, T⟩ := s
  simp only at hs ⊢
  obtain ⟨s1, s2⟩ := hs
  by_cases hi : i < m
  · (refine go ?_; intros)
    (show wpO _ _ ⟨_, .call _, _, _, _, _⟩ _ _ _ _ _ _; refine o_callA (ids_takeS d n T) (fun y hy => ?_); try simp only [List.cons_append, List.nil_append])
    obtain rfl := hy.eq (s2.free (by omega))
    (refine go ?_; intros)
    refine q_round ⟨i + 1, tookT T (some (i + 1))⟩ ⟨by simp only; omega, s2.next (by omega)⟩ (by simp only; omega) (by repeat (first | exact trivial | refine ⟨rfl, ?_⟩)) (by ((try simp only [List.cons_append, List.nil_append]); repeat (first | exact Ent.nil | (apply Ent.cons; repeat (first | exact Pick.head | apply Pick.tail)))))
  · have hT := s2.1
    have hle := takenTo_length T n
    have hnd := takenTo_nodup T n
    have hmem : ∀ j (hj : j < (takenTo T n).length), ∃ q : Nat, (takenTo T n)[j] = q ∧ 1 ≤ q ∧ q ≤ n := fun j hj => by
      obtain ⟨q, e, q1, q2, _⟩ := (takenTo_mem n).1 (List.getElem_mem hj)
      exact ⟨q, e, q1, q2⟩
    (refine go ?_; intros)
    (show wpO _ _ ⟨_, .call _, _, _, _, _⟩ _ _ _ _ _ _; refine o_callA (ids_allS d n T) (fun va _ => ?_); try simp only [List.cons_append, List.nil_append])
    have hra : Rd (intsI va (takenTo T n)) 1 va (takenTo T n).length (ints (takenTo T n)) := Rd.ofSl
    refine wpE_fact (hra.isSlice (by repeat (first | exact Pick.head | apply Pick.tail))) (fun hka => ?_)
    obtain ⟨aa, ca, rfl, hka⟩ := hka
    have hj0 : JustT n ((takenTo T n).take (takenTo T n).length) T := by rw [List.take_length]; exact JustT.ofTaken hT
    generalize hll : takenTo T n = l at hle hnd hmem hra hka hj0
    (refine go ?_; intros)
    refine wpC_loop (σ := IkSt) (fun s => s.i ≤ l.length ∧ JustT n (l.take s.i) s.T)
      (fun s => [(5, .int .i64 n), (6, ptr d), (9, .slice aa l.length ca), (10, .int .i64 ((s.i : Int) - 1))])
      (fun s => [own H, idsI d n s.T, intsI (.slice aa l.length ca) l])
      (fun s => s.i) ⟨l.length, T⟩ ⟨Nat.le_refl _, hj0⟩ (by repeat (first | exact trivial | refine ⟨rfl, ?_⟩)) (by ((try simp only [List.cons_append, List.nil_append]); repeat (first | exact Ent.nil | (apply Ent.cons; repeat (first | exact Pick.head | apply Pick.tail))))) (fun s hs => ?_)
    clear hj0 s2 hT hll
    obtain ⟨r, T⟩ := s
    simp only at hs ⊢
    obtain ⟨s1, s2⟩ := hs
    rcases Nat.eq_zero_or_pos r with hr | hr
    · subst hr
      have hf := s2.first (fun j hj => out_false s2.1 hj)
      (refine go ?_; intros)
      refine wpC_loop (σ := IkSt) (fun s => s.i ≤ n ∧ FirstT n s.i s.T)
        (fun s => [(5, .int .i64 n), (6, ptr d), (11, .int .i64 ((s.i + 1 : Nat) : Int))])
        (fun s => [own H, idsI d n s.T])
        (fun s => n - s.i) ⟨0, T⟩ ⟨Nat.zero_le _, hf⟩ (by repeat (first | exact trivial | refine ⟨rfl, ?_⟩)) (by ((try simp only [List.cons_append, List.nil_append]); repeat (first | exact Ent.nil | (apply Ent.cons; repeat (first | exact Pick.head | apply Pick.tail))))) (fun s hs => ?_)
      obtain ⟨i, T⟩ := s
      simp only at hs ⊢
      obtain ⟨s1, s2⟩ := hs
      have e1 : ((i + 1 : Nat) : Int) + 1 = ((i + 1 + 1 : Nat) : Int) := by omega
      by_cases hi : i < n
      · (refine go ?_; intros)
        (show wpO _ _ ⟨_, .call _, _, _, _, _⟩ _ _ _ _ _ _; refine o_callA (ids_takeS d n T) (fun y hy => ?_); try simp only [List.cons_append, List.nil_append])
        obtain rfl := hy.eq (s2.free (by omega))
        simp only [Option.getD_some, Option.isSome_some, if_true]
        (refine go ?_; intros)
        rw [e1]
        (refine go ?_; intros)
        refine q_round ⟨i + 1, tookT T (some (i + 1))⟩ ⟨by simp only; omega, s2.next (by omega)⟩ (by simp only; omega) (by repeat (first | exact trivial | refine ⟨rfl, ?_⟩)) (by ((try simp only [List.cons_append, List.nil_append]); repeat (first | exact Ent.nil | (apply Ent.cons; repeat (first | exact Pick.head | apply Pick.tail)))))
      · obtain rfl : i = n := by omega
        have hfl : (takenTo T i).length = i := takenTo_full i (fun j j1 j2 => s2.2.1 j j1 j2)
        (refine go ?_; intros)
        (show wpO _ _ ⟨_, .call _, _, _, _, _⟩ _ _ _ _ _ _; refine o_callA (ids_takeS d i T) (fun y hy => ?_); try simp only [List.cons_append, List.nil_append])
        obtain rfl := hy.eq s2.full
        simp only [Option.getD_none, Option.isSome_none, Bool.false_eq_true, if_false, tookT]
        have hlen := ids_lenS d i T
        rw [hfl] at hlen
        (refine go ?_; intros)
        (show wpO _ _ ⟨_, .call _, _, _, _, _⟩ _ _ _ _ _ _; refine o_callA (hlen) (fun _ _ => ?_); try simp only [List.cons_append, List.nil_append])
        (refine go ?_; intros)
        (show wpO _ _ ⟨_, .call _, _, _, _, _⟩ _ _ _ _ _ _; refine o_callA (law_awake) (fun _ _ => ?_); try simp only [List.cons_append, List.nil_append])
        (refine go ?_; intros)
        refine q_ret1 rfl rfl () rfl trivial ?_
        ((try simp only [List.cons_append, List.nil_append]); repeat (first | exact Ent.nil | (apply Ent.cons; repeat (first | exact Pick.head | apply Pick.tail))))
    · obtain ⟨r', rfl⟩ : ∃ r', r = r' + 1 := ⟨r - 1, by omega⟩
      have hrl : r' < l.length := by omega
      obtain ⟨ba, oa, rfl, _⟩ := hka (by omega)
      obtain ⟨q, hq, q1, q2⟩ := hmem r' hrl
      have hcell : (ints l)[r' * 1]? = some (.int .i64 (q : Int)) := by rw [Nat.mul_one, ints_get hrl, hq]
      obtain ⟨ht, hj⟩ := s2.out hnd hrl hq q1 q2
      have hTl := s2.1
      have e1 : ((r' + 1 : Nat) : Int) - 1 = (r' : Int) := by omega
      obtain ⟨g1, g2⟩ := give_yes (T := T) (k := q) q1 (by omega) ht
      have hqf : (T.set q false).getD q false = false := by rw [getD_set (by omega), if_pos rfl]
      obtain ⟨g3, g4⟩ := give_no (T := T.set q false) (k := q) q1 (by simp; omega) hqf
      have S1 := ids_giveS d n T q
      rw [g1, g2] at S1
      have S2 := ids_giveS d n (T.set q false) q
      rw [g3, g4] at S2
      have S3 := ids_hasS d n (T.set q false) q q1 q2
      rw [hqf] at S3
      rw [e1]
      (refine go ?_; intros)
      refine o_evB (ev_load_rd rfl rfl rfl hra (by repeat (first | exact Pick.head | apply Pick.tail)) rfl hcell) ?_
      (refine go ?_; intros)
      (show wpO _ _ ⟨_, .call _, _, _, _, _⟩ _ _ _ _ _ _; refine o_callA (S1) (fun _ _ => ?_); try simp only [List.cons_append, List.nil_append])
      (refine go ?_; intros)
      refine o_evB (ev_load_rd rfl rfl rfl hra (by repeat (first | exact Pick.head | apply Pick.tail)) rfl hcell) ?_
      (refine go ?_; intros)
      (show wpO _ _ ⟨_, .call _, _, _, _, _⟩ _ _ _ _ _ _; refine o_callA (S2) (fun _ _ => ?_); try simp only [List.cons_append, List.nil_append])
      (refine go ?_; intros)
      refine o_evB (ev_load_rd rfl rfl rfl hra (by repeat (first | exact Pick.head | apply Pick.tail)) rfl hcell) ?_
      (refine go ?_; intros)
      (show wpO _ _ ⟨_, .call _, _, _, _, _⟩ _ _ _ _ _ _; refine o_callA (S3) (fun _ _ => ?_); try simp only [List.cons_append, List.nil_append])
      (refine go ?_; intros)
      refine q_round ⟨r', T.set q false⟩ ⟨by simp only; omega, hj⟩ (by simp only; omega) (by repeat (first | exact trivial | refine ⟨rfl, ?_⟩)) (by ((try simp only [List.cons_append, List.nil_append]); repeat (first | exact Ent.nil | (apply Ent.cons; repeat (first | exact Pick.head | apply Pick.tail)))))
end Go.Proofs.Ytgpdfhjnlelhlaa
