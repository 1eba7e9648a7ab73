/-
  IdsPlays: its walk.
-/
import Derived.Test.YtgpdfhjnlelhlaaIdsR
import Derived.Test.YtgpdfhjnlelhlaaIdsW
set_option linter.unusedSimpArgs false
set_option linter.unusedVariables false
namespace Go.Proofs.Ytgpdfhjnlelhlaa
open Go Go.Sx
attribute [local irreducible] MidQ wpE wpO wpC qE wpQ wpQO wpH wpHO wpD wpDO wpZ Ev own emp exI sl ch PostS LoopQ Rd rowsAt
structure IpSt where
  i : Nat
  T : List Bool
set_option maxHeartbeats 4000000 in
theorem law_plays (H : PHeap) (most : Int) (v : Value) (acts : List Int) (hm1 : -9223372036854775808 ≤ most) (hm2 : most ≤ 9223372036854775807) (hv : rowsAt H 1 v (acts.map intC)) :
    FnDoes Try.prog 3 [.int .i64 most, v] [own H] (fun _ : Unit => True) (fun _ => .bool true) (fun _ => [own H]) := by
  refine does_of Try.func3 rfl rfl Try.ntmps3 rfl (by simp only [enum, Nat.reduceAdd, Nat.zero_add]; exact rfl) (fun c => ?_)
  obtain ⟨a, cap, rfl⟩ := hv.slice
  have hv' := hv
  simp only [List.length_map] at hv' ⊢
  by_cases c1 : 100 < most ∧ most ≤ 65535
  · obtain ⟨c1, c2⟩ := c1
    (refine go ?_; intros)
    (show wpO _ _ ⟨_, .call _, _, _, _, _⟩ _ _ _ _ _ _; refine o_callA (law_awake) (fun _ _ => ?_); try simp only [List.cons_append, List.nil_append])
    (refine go ?_; intros)
    refine q_ret1 rfl rfl () rfl trivial ?_
    ((try simp only [List.cons_append, List.nil_append]); repeat (first | exact Ent.nil | (apply Ent.cons; repeat (first | exact Pick.head | apply Pick.tail))))
  by_cases c2 : most < 1 ∨ 65535 < most
  · by_cases c3 : 100 < most
    all_goals
      have c4 : ¬ (100 < most ∧ most ≤ 65535) := c1
      (refine go ?_; intros)
      (show wpO _ _ ⟨_, .call _, _, _, _, _⟩ _ _ _ _ _ _; refine o_callA (ids_newBad most c2) (fun _ _ => ?_); try simp only [List.cons_append, List.nil_append])
      (refine go ?_; intros)
      (show wpO _ _ ⟨_, .call _, _, _, _, _⟩ _ _ _ _ _ _; refine o_callA (ref_newBad most c2) (fun _ _ => ?_); try simp only [List.cons_append, List.nil_append])
      (refine go ?_; intros)
      (show wpO _ _ ⟨_, .call _, _, _, _, _⟩ _ _ _ _ _ _; refine o_callA (law_awake) (fun _ _ => ?_); try simp only [List.cons_append, List.nil_append])
      (refine go ?_; intros)
      refine q_ret1 rfl rfl () rfl trivial ?_
      ((try simp only [List.cons_append, List.nil_append]); repeat (first | exact Ent.nil | (apply Ent.cons; repeat (first | exact Pick.head | apply Pick.tail))))
  obtain ⟨n, rfl⟩ : ∃ n : Nat, most = n := ⟨most.toNat, by omega⟩
  have hn1 : 1 ≤ n := by omega
  have hn2 : n ≤ 100 := by omega
  have c3 : ¬ (100 < (n : Int)) := by omega
  (refine go ?_; intros)
  (show wpO _ _ ⟨_, .call _, _, _, _, _⟩ _ _ _ _ _ _; refine o_callA (ids_newS n hn1 (by omega)) (fun d _ => ?_); try simp only [List.cons_append, List.nil_append])
  (refine go ?_; intros)
  (show wpO _ _ ⟨_, .call _, _, _, _, _⟩ _ _ _ _ _ _; refine o_callA (ref_new n hn1 (by omega)) (fun x _ => ?_); try simp only [List.cons_append, List.nil_append])
  (refine go ?_; intros)
  refine wpC_loop (σ := IpSt) (fun s => s.i ≤ 80 ∧ s.T.length = n + 1)
    (fun s => [(1, .slice a acts.length cap), (5, ptr d), (7, ptr x), (9, .int .i64 s.i)])
    (fun s => [own H, idsI d n s.T, refI x s.T])
    (fun s => 80 - s.i) ⟨0, List.replicate (n + 1) false⟩ ⟨Nat.zero_le _, by simp⟩ (by repeat (first | exact trivial | refine ⟨rfl, ?_⟩)) (by ((try simp only [List.cons_append, List.nil_append]); repeat (first | exact Ent.nil | (apply Ent.cons; repeat (first | exact Pick.head | apply Pick.tail))))) (fun s hs => ?_)
  obtain ⟨i, T⟩ := s
  simp only at hs ⊢
  obtain ⟨s1, s2⟩ := hs
  by_cases hi : i < acts.length ∧ i < 80
  · obtain ⟨i1, i2⟩ := hi
    obtain ⟨b', off, cap', e, hc⟩ := hv'.at i (by simpa using i1)
    simp only [List.length_map, Value.slice.injEq] at e
    obtain ⟨rfl, _, rfl⟩ := e
    have hc' : H.cell? ⟨b', off + i * 1, none⟩ = some (.int .i64 acts[i]) := by
      have := hc 0 (.int .i64 acts[i]) (by simp [intC])
      simpa using this
    generalize acts[i] = kk at hc'
    clear hc
    (refine go ?_; intros)
    refine o_evB (ev_cmp (r := kk == 0) rfl rfl rfl) ?_
    refine wpE_nil ?_
    refine q_then ?_
    refine wpC_meet (σ := List Bool) (fun T' => T'.length = n + 1) (fun _ => [(1, .slice (some ⟨b', off, none⟩) acts.length cap), (5, ptr d), (7, ptr x), (9, .int .i64 i)])
      (fun T' => [own H, idsI d n T', refI x T']) ?_ (fun T' hT' => ?_)
    · refine wpC_cond rfl (fun hb => ?_) (fun hb => ?_)
      · (refine go ?_; intros)
        (show wpO _ _ ⟨_, .call _, _, _, _, _⟩ _ _ _ _ _ _; refine o_callA (ids_takeS d n T) (fun y hy => ?_); try simp only [List.cons_append, List.nil_append])
        (refine go ?_; intros)
        (show wpO _ _ ⟨_, .call _, _, _, _, _⟩ _ _ _ _ _ _; refine o_callA (ref_take x T (by omega) (by omega)) (fun z hz => ?_); try simp only [List.cons_append, List.nil_append])
        obtain rfl := hy.eq hz
        generalize hvv : (if y.isSome then (0 : Int) else 6) = vv
        (refine go ?_; intros)
        refine q_mid (tookT T y) (by rw [tookT_len]; exact s2) (by repeat (first | exact trivial | refine ⟨rfl, ?_⟩)) (by ((try simp only [List.cons_append, List.nil_append]); repeat (first | exact Ent.nil | (apply Ent.cons; repeat (first | exact Pick.head | apply Pick.tail)))))
      · (refine go ?_; intros)
        refine wpC_drawnA [own H] 12 ?_
        ((first | refine dt 0 ?_ | refine dts 0 ?_); (first | refine dt 1 ?_ | refine dts 1 ?_); (first | refine dt 2 ?_ | refine dts 2 ?_); (first | refine dt 3 ?_ | refine dts 3 ?_); (first | refine dt 4 ?_ | refine dts 4 ?_); (first | refine dt 6 ?_ | refine dts 6 ?_); (first | refine dt 7 ?_ | refine dts 7 ?_); (first | refine dt 8 ?_ | refine dts 8 ?_); (first | refine dt 9 ?_ | refine dts 9 ?_); (first | refine dt 10 ?_ | refine dts 10 ?_))
        (refine dcall 5 (ids_giveS d n T kk) (fun _ _ => ?_); try simp only [List.cons_append, List.nil_append])
        (refine dcall 11 (ref_give x T kk (by omega) (by omega)) (fun _ _ => ?_); try simp only [List.cons_append, List.nil_append])
        (refine dl ?_)
        (refine go ?_; intros)
        refine q_mid (gaveT T kk) (by rw [gaveT_len]; exact s2) (by repeat (first | exact trivial | refine ⟨rfl, ?_⟩)) (by ((try simp only [List.cons_append, List.nil_append]); repeat (first | exact Ent.nil | (apply Ent.cons; repeat (first | exact Pick.head | apply Pick.tail)))))
    · have hle := takenTo_length T' n
      (refine go ?_; intros)
      (show wpO _ _ ⟨_, .call _, _, _, _, _⟩ _ _ _ _ _ _; refine o_callA (ref_all x n T' hT' (by omega)) (fun vx _ => ?_); try simp only [List.cons_append, List.nil_append])
      (refine go ?_; intros)
      (show wpO _ _ ⟨_, .call _, _, _, _, _⟩ _ _ _ _ _ _; refine o_callA (ids_allS d n T') (fun va _ => ?_); try simp only [List.cons_append, List.nil_append])
      (refine go ?_; intros)
      (show wpO _ _ ⟨_, .call _, _, _, _, _⟩ _ _ _ _ _ _; refine o_callA (ints_same va vx (takenTo T' n) (by omega)) (fun _ _ => ?_); try simp only [List.cons_append, List.nil_append])
      (refine go ?_; intros)
      (show wpO _ _ ⟨_, .call _, _, _, _, _⟩ _ _ _ _ _ _; refine o_callA (ids_lenS d n T') (fun _ _ => ?_); try simp only [List.cons_append, List.nil_append])
      (refine go ?_; intros)
      refine q_round ⟨i + 1, T'⟩ ⟨by simp only; omega, hT'⟩ (by simp only; omega) (by repeat (first | exact trivial | refine ⟨rfl, ?_⟩)) (by ((try simp only [List.cons_append, List.nil_append]); repeat (first | exact Ent.nil | (apply Ent.cons; repeat (first | exact Pick.head | apply Pick.tail)))))
  · by_cases hi1 : i < acts.length
    all_goals
      (refine go ?_; intros)
      (show wpO _ _ ⟨_, .call _, _, _, _, _⟩ _ _ _ _ _ _; refine o_callA (law_awake) (fun _ _ => ?_); try simp only [List.cons_append, List.nil_append])
      (refine go ?_; intros)
      refine q_ret1 rfl rfl () rfl trivial ?_
      ((try simp only [List.cons_append, List.nil_append]); repeat (first | exact Ent.nil | (apply Ent.cons; repeat (first | exact Pick.head | apply Pick.tail))))
end Go.Proofs.Ytgpdfhjnlelhlaa
