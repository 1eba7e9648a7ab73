/-
  IdsOnce: its walk.
-/
import Derived.Test.YtgpdfhjnlelhlaaIdsR
import Derived.Test.YtgpdfhjnlelhlaaIdsW
set_option linter.unusedSimpArgs false
set_option linter.unusedVariables false
namespace Go.Proofs.Ytgpdfhjnlelhlaa
open Go Go.Sx
def u8Cell (k : Int) : List Value := [.int .u8 k]
attribute [local irreducible] MidQ wpE wpO wpC qE wpQ wpQO wpH wpHO wpD wpDO wpZ Ev own emp exI sl ch PostS LoopQ Rd rowsAt
structure IoSt where
  i : Nat
  T : List Bool
set_option maxHeartbeats 4000000 in
theorem law_once (H : PHeap) (most : Int) (v : Value) (acts : List Int) (hm1 : 0 ≤ most) (hm2 : most ≤ 255) (hv : rowsAt H 1 v (acts.map u8Cell)) (hb : ∀ a ∈ acts, 0 ≤ a ∧ a ≤ 255) :
    FnDoes Try.prog 4 [.int .u8 most, v] [own H] (fun _ : Unit => True) (fun _ => .bool true) (fun _ => [own H]) := by
  refine does_of Try.func4 rfl rfl Try.ntmps4 rfl (by simp only [enum, Nat.reduceAdd, Nat.zero_add]; exact rfl) (fun c => ?_)
  obtain ⟨a, cap, rfl⟩ := hv.slice
  have hv' := hv
  simp only [List.length_map] at hv' ⊢
  obtain ⟨n, hn⟩ : ∃ n : Nat, 1 + most % 30 = n := ⟨(1 + most % 30).toNat, by omega⟩
  have hn1 : 1 ≤ n := by omega
  have hn2 : n ≤ 30 := by omega
  (refine go ?_; intros)
  rw [hn]
  (refine go ?_; intros)
  (show wpO _ _ ⟨_, .call _, _, _, _, _⟩ _ _ _ _ _ _; refine o_callA (ids_newS n hn1 (by omega)) (fun d _ => ?_); try simp only [List.cons_append, List.nil_append])
  (refine go ?_; intros)
  refine wpC_loop (σ := IoSt) (fun s => s.i ≤ 120 ∧ s.T.length = n + 1)
    (fun s => [(1, .slice a acts.length cap), (5, .int .i64 n), (6, ptr d), (8, .int .i64 s.i)])
    (fun s => [own H, idsI d n s.T])
    (fun s => 120 - s.i) ⟨0, List.replicate (n + 1) false⟩ ⟨Nat.zero_le _, by simp⟩ (by repeat (first | exact trivial | refine ⟨rfl, ?_⟩)) (by ((try simp only [List.cons_append, List.nil_append]); repeat (first | exact Ent.nil | (apply Ent.cons; repeat (first | exact Pick.head | apply Pick.tail))))) (fun s hs => ?_)
  obtain ⟨i, T⟩ := s
  simp only at hs ⊢
  obtain ⟨s1, s2⟩ := hs
  by_cases hi : i < acts.length ∧ i < 120
  · obtain ⟨i1, i2⟩ := hi
    obtain ⟨b', off, cap', e, hc⟩ := hv'.at i (by simpa using i1)
    simp only [List.length_map, Value.slice.injEq] at e
    obtain ⟨rfl, _, rfl⟩ := e
    have hc' : H.cell? ⟨b', off + i * 1, none⟩ = some (.int .u8 acts[i]) := by
      have := hc 0 (.int .u8 acts[i]) (by simp [u8Cell])
      simpa using this
    obtain ⟨hk0, hk1⟩ := hb acts[i] (List.getElem_mem _)
    generalize acts[i] = kk at hc' hk0 hk1
    clear hc
    by_cases h3 : kk % 3 = 0
    · have hr1 : 0 ≤ kk % (n : Int) := Int.emod_nonneg _ (by omega)
      have hr2 : kk % (n : Int) < n := Int.emod_lt_of_pos _ (by omega)
      obtain ⟨gg, hgg⟩ : ∃ gg : Int, 1 + kk % (n : Int) = gg := ⟨_, rfl⟩
      (refine go ?_; intros)
      rw [hgg]
      (show wpO _ _ ⟨_, .call _, _, _, _, _⟩ _ _ _ _ _ _; refine o_callA (ids_giveS d n T gg) (fun _ _ => ?_); try simp only [List.cons_append, List.nil_append])
      (refine go ?_; intros)
      refine q_round ⟨i + 1, gaveT T gg⟩ ⟨by simp only; omega, by rw [gaveT_len]; exact s2⟩ (by simp only; omega) (by repeat (first | exact trivial | refine ⟨rfl, ?_⟩)) (by ((try simp only [List.cons_append, List.nil_append]); repeat (first | exact Ent.nil | (apply Ent.cons; repeat (first | exact Pick.head | apply Pick.tail)))))
    · (refine go ?_; intros)
      (show wpO _ _ ⟨_, .call _, _, _, _, _⟩ _ _ _ _ _ _; refine o_callA (ids_allS d n T) (fun va _ => ?_); try simp only [List.cons_append, List.nil_append])
      (refine go ?_; intros)
      (show wpO _ _ ⟨_, .call _, _, _, _, _⟩ _ _ _ _ _ _; refine o_callA (ids_takeS d n T) (fun y hy => ?_); try simp only [List.cons_append, List.nil_append])
      have hle := takenTo_length T n
      have hra : Rd (intsI va (takenTo T n)) 1 va (takenTo T n).length (ints (takenTo T n)) := Rd.ofSl
      refine wpE_fact (hra.isSlice (by repeat (first | exact Pick.head | apply Pick.tail))) (fun hka => ?_)
      obtain ⟨aa, ca, rfl, hka⟩ := hka
      cases y with
      | none =>
        have hfl : (takenTo T n).length = n := takenTo_full n (fun k k1 k2 => hy k k1 (by omega))
        simp only [Option.getD_none, Option.isSome_none, Bool.false_eq_true, if_false]
        (refine go ?_; intros)
        refine q_round ⟨i + 1, T⟩ ⟨by simp only; omega, s2⟩ (by simp only; omega) (by repeat (first | exact trivial | refine ⟨rfl, ?_⟩)) (by ((try simp only [List.cons_append, List.nil_append]); repeat (first | exact Ent.nil | (apply Ent.cons; repeat (first | exact Pick.head | apply Pick.tail)))))
      | some k =>
        obtain ⟨k1, k2, k3, k4⟩ := hy
        have hcount := countP_takenTo k1 k3 k4 n
        have hne : ∀ j (hj : j < (takenTo T n).length), (takenTo T n)[j] ≠ (k : Int) := fun j hj e => by
          have hm : (takenTo T n)[j] ∈ takenTo T n := List.getElem_mem hj
          rw [e, takenTo_mem] at hm
          obtain ⟨k', e', _, _, h⟩ := hm
          obtain rfl : k = k' := by omega
          rw [k3] at h; cases h
        generalize hll : takenTo T n = l at hle hra hka hcount hne
        simp only [Option.getD_some, Option.isSome_some, if_true]
        (refine go ?_; intros)
        refine wpC_loop (σ := Nat) (fun j => j ≤ l.length) (fun j => [(1, .slice (some ⟨b', off, none⟩) acts.length cap), (5, .int .i64 n), (6, ptr d), (8, .int .i64 i), (9, .slice aa l.length ca), (10, .int .i64 k), (11, .int .i64 0), (12, .int .i64 j)])
          (fun _ => [own H, idsI d n (tookT T (some k)), intsI (.slice aa l.length ca) l]) (fun j => l.length - j) 0 (Nat.zero_le _) (by repeat (first | exact trivial | refine ⟨rfl, ?_⟩)) (by ((try simp only [List.cons_append, List.nil_append]); repeat (first | exact Ent.nil | (apply Ent.cons; repeat (first | exact Pick.head | apply Pick.tail))))) (fun j hj => ?_)
        by_cases hjl : j < l.length
        · obtain ⟨ba, oa, rfl, _⟩ := hka (by omega)
          have hcell : (ints l)[j * 1]? = some (.int .i64 l[j]) := by rw [Nat.mul_one]; exact ints_get hjl
          have hnj := hne j hjl
          (refine go ?_; intros)
          refine o_evB (ev_load_rd rfl rfl rfl hra (by repeat (first | exact Pick.head | apply Pick.tail)) rfl hcell) ?_
          (refine go ?_; intros)
          refine q_round (j + 1) (by omega) (by omega) (by repeat (first | exact trivial | refine ⟨rfl, ?_⟩)) (by ((try simp only [List.cons_append, List.nil_append]); repeat (first | exact Ent.nil | (apply Ent.cons; repeat (first | exact Pick.head | apply Pick.tail)))))
        · (refine go ?_; intros)
          refine wpC_loop (σ := Nat) (fun j => j ≤ l.length) (fun j => [(1, .slice (some ⟨b', off, none⟩) acts.length cap), (5, .int .i64 n), (6, ptr d), (8, .int .i64 i), (9, .slice aa l.length ca), (10, .int .i64 k), (11, .int .i64 0), (13, .int .i64 (((l.take j).countP (fun x => decide (x < (k : Int))) : Nat) : Int)), (14, .int .i64 j)])
            (fun _ => [own H, idsI d n (tookT T (some k)), intsI (.slice aa l.length ca) l]) (fun j => l.length - j) 0 (Nat.zero_le _) (by repeat (first | exact trivial | refine ⟨rfl, ?_⟩)) (by ((try simp only [List.cons_append, List.nil_append]); repeat (first | exact Ent.nil | (apply Ent.cons; repeat (first | exact Pick.head | apply Pick.tail))))) (fun j hj => ?_)
          by_cases hjl : j < l.length
          · obtain ⟨ba, oa, rfl, _⟩ := hka (by omega)
            have hcell : (ints l)[j * 1]? = some (.int .i64 l[j]) := by rw [Nat.mul_one]; exact ints_get hjl
            have hcs := countP_take_succ (p := fun x => decide (x < (k : Int))) hjl
            have hcl := countP_le_len l (fun x => decide (x < (k : Int))) j
            by_cases hlt : l[j] < (k : Int)
            · rw [decide_eq_true hlt, if_pos rfl] at hcs
              have e1 : (((l.take j).countP (fun x => decide (x < (k : Int))) : Nat) : Int) + 1 = (((l.take (j + 1)).countP (fun x => decide (x < (k : Int))) : Nat) : Int) := by omega
              (refine go ?_; intros)
              refine o_evB (ev_load_rd rfl rfl rfl hra (by repeat (first | exact Pick.head | apply Pick.tail)) rfl hcell) ?_
              (refine go ?_; intros)
              rw [e1]
              (refine go ?_; intros)
              refine q_round (j + 1) (by omega) (by omega) (by repeat (first | exact trivial | refine ⟨rfl, ?_⟩)) (by ((try simp only [List.cons_append, List.nil_append]); repeat (first | exact Ent.nil | (apply Ent.cons; repeat (first | exact Pick.head | apply Pick.tail)))))
            · rw [decide_eq_false hlt, if_neg (by simp)] at hcs
              rw [Nat.add_zero] at hcs
              (refine go ?_; intros)
              refine o_evB (ev_load_rd rfl rfl rfl hra (by repeat (first | exact Pick.head | apply Pick.tail)) rfl hcell) ?_
              (refine go ?_; intros)
              refine q_round (j + 1) (by omega) (by omega) ⟨rfl, rfl, rfl, rfl, rfl, rfl, rfl, by rw [hcs]; rfl, rfl, trivial⟩ (by ((try simp only [List.cons_append, List.nil_append]); repeat (first | exact Ent.nil | (apply Ent.cons; repeat (first | exact Pick.head | apply Pick.tail)))))
          · obtain rfl : j = l.length := by omega
            rw [List.take_length, hcount]
            have hmin : ((min n (k - 1) : Nat) : Int) = (k : Int) - 1 := by omega
            rw [hmin]
            have hT : (T.set k true).length = n + 1 := by simpa using s2
            have hS := ids_hasS d n (tookT T (some k)) k k1 (by omega)
            rw [show (tookT T (some k)).getD k false = true by rw [tookT, getD_set k2, if_pos rfl]] at hS
            (refine go ?_; intros)
            (show wpO _ _ ⟨_, .call _, _, _, _, _⟩ _ _ _ _ _ _; refine o_callA (hS) (fun _ _ => ?_); try simp only [List.cons_append, List.nil_append])
            (refine go ?_; intros)
            refine q_round ⟨i + 1, tookT T (some k)⟩ ⟨by simp only; omega, by rw [tookT_len]; exact s2⟩ (by simp only; omega) (by repeat (first | exact trivial | refine ⟨rfl, ?_⟩)) (by ((try simp only [List.cons_append, List.nil_append]); repeat (first | exact Ent.nil | (apply Ent.cons; repeat (first | exact Pick.head | apply Pick.tail)))))
  · by_cases hi1 : i < acts.length
    all_goals
      (refine go ?_; intros)
      (show wpO _ _ ⟨_, .call _, _, _, _, _⟩ _ _ _ _ _ _; refine o_callA (law_awake) (fun _ _ => ?_); try simp only [List.cons_append, List.nil_append])
      (refine go ?_; intros)
      refine q_ret1 rfl rfl () rfl trivial ?_
      ((try simp only [List.cons_append, List.nil_append]); repeat (first | exact Ent.nil | (apply Ent.cons; repeat (first | exact Pick.head | apply Pick.tail))))
end Go.Proofs.Ytgpdfhjnlelhlaa
