/-
  ClocksOnce: its walk.
-/
import Derived.Test.YtjhlpieehhpmgaaClkW
set_option linter.unusedSimpArgs false
set_option linter.unusedVariables false
namespace Go.Proofs.Ytjhlpieehhpmgaa
open Go Go.Sx
def u16Cell (k : Int) : List Value := [.int .u16 k]
structure CoSt where
  i : Nat
  T : List Int
theorem ints_put (l : List Int) (k : Nat) (x : Int) : (ints l).set (0 + k * 1) (.int .i64 x) = ints (l.set k x) := by simp [ints, List.map_set]
theorem want_at {T : List Int} {k : Nat} (h : k < T.length) : (ints (wantL T))[0 + k * 1]? = some (.int .i64 (dueOf T k + 1)) := by
  rw [ints_at (by rw [wantL_len]; exact h), wantL_due h]
def InR (T : List Int) : Prop := T.length = 8 ∧ ∀ k, k < 8 → -1 ≤ dueOf T k ∧ dueOf T k ≤ 65535
theorem sl_is {c : Cx} {e size len : Nat} {v : Value} {xs : List Value} {M R : List HProp} (hp : Pick M (sl e size v len xs) R) : ∀ w, HSt c M w → ∃ a cap, v = .slice a len cap := fun w s => by
  obtain ⟨_, _, h⟩ := sl_open hp s
  rcases h with ⟨rfl, rfl, _⟩ | ⟨b, cap, junk, rfl, _⟩
  · exact ⟨none, 0, rfl⟩
  · exact ⟨_, cap, rfl⟩
attribute [local irreducible] MidQ wpE wpO wpC qE wpQ wpQO wpH wpHO wpD wpDO wpZ Ev own emp exI sl ch PostS LoopQ Rd rowsAt
abbrev wantB (b : Nat) (T : List Int) : HProp := pts b (.cells (ints (wantL T)).toArray 25 (0, 0))
theorem InR.set {T : List Int} (h : InR T) {k : Nat} {d : Int} (h1 : -1 ≤ d) (h2 : d ≤ 65535) (hk : k < 8) : InR (T.set k d) := ⟨by simpa using h.1, fun j hj => by
  rw [due_set (by rw [h.1]; exact hk)]; split
  · exact ⟨h1, h2⟩
  · exact h.2 j hj⟩
set_option maxHeartbeats 8000000 in
theorem law_once (H : PHeap) (v v2 : Value) (dues nows : List Int) (hv : rowsAt H 1 v (dues.map u16Cell)) (hv2 : rowsAt H 1 v2 (nows.map u16Cell)) (hb : ∀ a ∈ dues, 0 ≤ a ∧ a ≤ 65535) (hb2 : ∀ a ∈ nows, 0 ≤ a ∧ a ≤ 65535) :
    FnDoes Try.prog 3 [v, v2] [own H] (fun _ : Unit => True) (fun _ => .bool true) (fun _ => [own H]) := by
  refine does_of Try.func3 rfl rfl Try.ntmps3 rfl (by simp only [enum, Nat.reduceAdd, Nat.zero_add]; exact rfl) (fun c => ?_)
  obtain ⟨a, cap, rfl⟩ := hv.slice
  obtain ⟨a2, cap2, rfl⟩ := hv2.slice
  have hv' := hv
  have hv2' := hv2
  simp only [List.length_map] at hv' hv2' ⊢
  (refine go ?_; intros)
  (show wpO _ _ ⟨_, .call _, _, _, _, _⟩ _ _ _ _ _ _; refine o_callA (clk_new) (fun z _ => ?_); try simp only [List.cons_append, List.nil_append])
  (refine goB ?_; intro wb)
  refine wpC_meet (σ := List Int) (fun T => InR T) (fun _ => [(0, .slice a dues.length cap), (1, .slice a2 nows.length cap2), (5, ptr z), (6, ptr wb)]) (fun T => [own H, clkI z T, wantB wb T]) ?_ (fun T hT => ?_)
  · refine wpC_block ?_
    refine wpC_loop (σ := CoSt) (fun s => s.i ≤ 40 ∧ InR s.T)
      (fun s => [(0, .slice a dues.length cap), (1, .slice a2 nows.length cap2), (5, ptr z), (6, ptr wb), (7, .int .i64 s.i)])
      (fun s => [own H, clkI z s.T, wantB wb s.T])
      (fun s => 40 - s.i) ⟨0, List.replicate 8 (-1)⟩ ⟨Nat.zero_le _, by simp, fun k hk => by
        have : dueOf (List.replicate 8 (-1)) k = -1 := by unfold dueOf List.getD; rw [List.getElem?_replicate, if_pos hk]; rfl
        simp only; omega⟩ (by repeat (first | exact trivial | refine ⟨rfl, ?_⟩)) (by ((try simp only [List.cons_append, List.nil_append]); repeat (first | exact Ent.nil | (apply Ent.cons; repeat (first | exact Pick.head | apply Pick.tail))))) (fun s hs => ?_)
    obtain ⟨i, T⟩ := s
    simp only at hs ⊢
    obtain ⟨s1, s2⟩ := hs
    have hT := s2.1
    have hLw : (ints (wantL T)).length = 8 := by rw [ints_len, wantL_len, hT]
    by_cases hi : i < dues.length ∧ i < 40
    · obtain ⟨i1, i2⟩ := hi
      obtain ⟨b', off, cap', e, hc⟩ := hv'.at i (by simpa using i1)
      simp only [List.length_map, Value.slice.injEq] at e
      obtain ⟨rfl, _, rfl⟩ := e
      have hc' : H.cell? ⟨b', off + i * 1, none⟩ = some (.int .u16 dues[i]) := by
        have := hc 0 (.int .u16 dues[i]) (by simp [u16Cell])
        simpa using this
      obtain ⟨hk0, hk1⟩ := hb dues[i] (List.getElem_mem _)
      generalize dues[i] = kk at hc' hk0 hk1
      clear hc
      obtain ⟨m, hm⟩ : ∃ m : Nat, (i : Int) % 8 = m := ⟨i % 8, by omega⟩
      have hm8 : m < 8 := by omega
      obtain ⟨e1, e2⟩ := set_ok (T := T) hm8 hk0
      have S := clk_set z T m kk
      rw [e1, e2] at S
      (refine go ?_; intros)
      rw [hm]
      (refine go ?_; intros)
      (show wpO _ _ ⟨_, .call _, _, _, _, _⟩ _ _ _ _ _ _; refine o_callA (S) (fun _ _ => ?_); try simp only [List.cons_append, List.nil_append])
      (refine go ?_; intros)
      rw [hm]
      (refine go ?_; intros)
      rw [ints_put, ← wantL_set]
      (refine go ?_; intros)
      refine q_round ⟨i + 1, T.set m kk⟩ ⟨by simp only; omega, s2.set (by omega) hk1 hm8⟩ (by simp only; omega) (by repeat (first | exact trivial | refine ⟨rfl, ?_⟩)) (by ((try simp only [List.cons_append, List.nil_append]); repeat (first | exact Ent.nil | (apply Ent.cons; repeat (first | exact Pick.head | apply Pick.tail)))))
    · by_cases hi1 : i < dues.length
      all_goals
        (refine go ?_; intros)
        exact q_mid T s2 (by repeat (first | exact trivial | refine ⟨rfl, ?_⟩)) (by ((try simp only [List.cons_append, List.nil_append]); repeat (first | exact Ent.nil | (apply Ent.cons; repeat (first | exact Pick.head | apply Pick.tail)))))
  clear hv'
  (refine go ?_; intros)
  refine wpC_loop (σ := CoSt) (fun s => s.i ≤ 20 ∧ InR s.T)
    (fun s => [(1, .slice a2 nows.length cap2), (5, ptr z), (6, ptr wb), (8, .int .i64 s.i)])
    (fun s => [own H, clkI z s.T, wantB wb s.T])
    (fun s => 20 - s.i) ⟨0, T⟩ ⟨Nat.zero_le _, hT⟩ (by repeat (first | exact trivial | refine ⟨rfl, ?_⟩)) (by ((try simp only [List.cons_append, List.nil_append]); repeat (first | exact Ent.nil | (apply Ent.cons; repeat (first | exact Pick.head | apply Pick.tail))))) (fun s hs => ?_)
  clear hT T
  obtain ⟨i, T⟩ := s
  simp only at hs ⊢
  obtain ⟨s1, s2⟩ := hs
  have hT := s2.1
  by_cases hi : i < nows.length ∧ i < 20
  · obtain ⟨i1, i2⟩ := hi
    obtain ⟨b', off, cap', e, hc⟩ := hv2'.at i (by simpa using i1)
    simp only [List.length_map, Value.slice.injEq] at e
    obtain ⟨rfl, _, rfl⟩ := e
    have hc' : H.cell? ⟨b', off + i * 1, none⟩ = some (.int .u16 nows[i]) := by
      have := hc 0 (.int .u16 nows[i]) (by simp [u16Cell])
      simpa using this
    obtain ⟨hk0, hk1⟩ := hb2 nows[i] (List.getElem_mem _)
    generalize nows[i] = kk at hc' hk0 hk1
    clear hc
    (refine go ?_; intros)
    (show wpO _ _ ⟨_, .call _, _, _, _, _⟩ _ _ _ _ _ _; refine o_callA (clk_fire z T kk hT) (fun y hy => ?_); try simp only [List.cons_append, List.nil_append])
    obtain ⟨o, T1, w⟩ := y
    simp only at hy ⊢
    obtain ⟨f1, f2, f3, f4, f5, f6, f7, f8⟩ := hy.facts hT
    (refine goB ?_; intros)
    refine wpC_meet (σ := Unit) (fun _ => True) (fun _ => [(1, .slice (some ⟨b', off, none⟩) nows.length cap2), (5, ptr z), (6, ptr wb), (8, .int .i64 i)]) (fun _ => [own H, clkI z T1, wantB wb T1]) ?_ (fun _ _ => ?_)
    · refine wpC_block ?_
      refine wpC_loop (σ := CoSt) (fun s => s.i ≤ o.length ∧ GoneTo T o s.i s.T)
        (fun s => [(1, .slice (some ⟨b', off, none⟩) nows.length cap2), (5, ptr z), (6, ptr wb), (8, .int .i64 i), (9, w), (10, .int .i64 s.i)])
        (fun s => [own H, clkI z T1, wantB wb s.T, intsI w o])
        (fun s => o.length - s.i) ⟨0, T⟩ ⟨Nat.zero_le _, GoneTo.zero hT⟩ (by repeat (first | exact trivial | refine ⟨rfl, ?_⟩)) (by ((try simp only [List.cons_append, List.nil_append]); repeat (first | exact Ent.nil | (apply Ent.cons; repeat (first | exact Pick.head | apply Pick.tail))))) (fun s hs => ?_)
      obtain ⟨j, T2⟩ := s
      simp only at hs ⊢
      obtain ⟨j1, j2⟩ := hs
      by_cases hj : j < o.length
      · refine wpC_sl (.tail (.tail (.tail .head))) (fun _ h _ => by omega) (fun ob ocap junk e q1 q2 q3 => ?_)
        subst e
        obtain ⟨k, ek, k8, k0, kn⟩ := f3 o[j] (List.getElem_mem hj)
        have hL2 : (ints (wantL T2)).length = 8 := by rw [ints_len, wantL_len, j2.1]
        have hco : (ints o ++ junk)[0 + j * 1]? = some (.int .i64 (k : Int)) := by
          rw [List.getElem?_append_left (by rw [ints_len]; omega), show 0 + j * 1 = j by omega, ints_get hj, ek]
        have hcw := want_at (T := T2) (k := k) (by rw [j2.1]; exact k8)
        rw [j2.here f4 hj k8 ek] at hcw
        have hr := s2.2 k k8
        (refine go ?_; intros)
        refine wpC_drawnA [own H, wantB wb T2, pts ob (.cells (ints o ++ junk).toArray 3 (0, 0))] 35 ?_
        ((first | refine dt 0 ?_ | refine dts 0 ?_); (first | refine df 1 ?_ | refine dfs 1 ?_); (first | refine df 2 ?_ | refine dfs 2 ?_); (first | refine df 3 ?_ | refine dfs 3 ?_); (first | refine df 4 ?_ | refine dfs 4 ?_); (first | refine df 5 ?_ | refine dfs 5 ?_); (first | refine dt 6 ?_ | refine dts 6 ?_); (first | refine df 7 ?_ | refine dfs 7 ?_); (first | refine df 8 ?_ | refine dfs 8 ?_); (first | refine df 9 ?_ | refine dfs 9 ?_); (first | refine df 10 ?_ | refine dfs 10 ?_); (first | refine df 11 ?_ | refine dfs 11 ?_); (first | refine df 12 ?_ | refine dfs 12 ?_); (first | refine dt 13 ?_ | refine dts 13 ?_); (first | refine df 14 ?_ | refine dfs 14 ?_); (first | refine df 15 ?_ | refine dfs 15 ?_); (first | refine df 16 ?_ | refine dfs 16 ?_); (first | refine df 17 ?_ | refine dfs 17 ?_); (first | refine df 18 ?_ | refine dfs 18 ?_); (first | refine df 19 ?_ | refine dfs 19 ?_); (first | refine df 20 ?_ | refine dfs 20 ?_); (first | refine df 21 ?_ | refine dfs 21 ?_); (first | refine dt 22 ?_ | refine dts 22 ?_); (first | refine dt 23 ?_ | refine dts 23 ?_); (first | refine dt 24 ?_ | refine dts 24 ?_); (first | refine dt 25 ?_ | refine dts 25 ?_); (first | refine dt 26 ?_ | refine dts 26 ?_); (first | refine dt 27 ?_ | refine dts 27 ?_); (first | refine dt 28 ?_ | refine dts 28 ?_); (first | refine dt 29 ?_ | refine dts 29 ?_); (first | refine df 30 ?_ | refine dfs 30 ?_); (first | refine df 31 ?_ | refine dfs 31 ?_); (first | refine df 32 ?_ | refine dfs 32 ?_); (first | refine df 33 ?_ | refine dfs 33 ?_); (first | refine df 34 ?_ | refine dfs 34 ?_); refine dl ?_)
        (refine go ?_; intros)
        rw [ints_put, ← show wantL (T2.set k (-1)) = (wantL T2).set k 0 from wantL_set T2 k (-1)]
        (refine go ?_; intros)
        refine q_round ⟨j + 1, T2.set k (-1)⟩ ⟨by simp only; omega, j2.step hj k8 ek⟩ (by simp only; omega) (by repeat (first | exact trivial | refine ⟨rfl, ?_⟩)) ?_
        exact Ent.cons (by repeat (first | exact Pick.head | apply Pick.tail)) (Ent.cons (by repeat (first | exact Pick.head | apply Pick.tail)) (Ent.cons (by repeat (first | exact Pick.head | apply Pick.tail)) (Ent.slClose (by repeat (first | exact Pick.head | apply Pick.tail)) (by rw [ints_len]; omega) (ints_one _) q1 q2 q3 Ent.nil)))
      · obtain rfl : j = o.length := by omega
        refine wpC_fact (sl_is (.tail (.tail (.tail .head)))) (fun hk => ?_)
        obtain ⟨wa, wc, rfl⟩ := hk
        have e : T2 = T1 := due_ext j2.1 f1 (fun k hk => by rw [j2.2 k hk, f5 k hk, List.take_length])
        subst e
        (refine go ?_; intros)
        exact q_mid () trivial (by repeat (first | exact trivial | refine ⟨rfl, ?_⟩)) (by ((try simp only [List.cons_append, List.nil_append]); repeat (first | exact Ent.nil | (apply Ent.cons; repeat (first | exact Pick.head | apply Pick.tail)))))
    · have hR1 : InR T1 := ⟨f1, fun k hk => by
        have := s2.2 k hk
        rw [f5 k hk]; split <;> omega⟩
      have hL1 : (ints (wantL T1)).length = 8 := by rw [ints_len, wantL_len, f1]
      (refine go ?_; intros)
      refine wpC_loop (σ := Nat) (fun m => m ≤ 8)
        (fun m => [(1, .slice (some ⟨b', off, none⟩) nows.length cap2), (5, ptr z), (6, ptr wb), (8, .int .i64 i), (11, .int .i64 m)])
        (fun _ => [own H, clkI z T1, wantB wb T1])
        (fun m => 8 - m) 0 (Nat.zero_le _) (by repeat (first | exact trivial | refine ⟨rfl, ?_⟩)) (by ((try simp only [List.cons_append, List.nil_append]); repeat (first | exact Ent.nil | (apply Ent.cons; repeat (first | exact Pick.head | apply Pick.tail))))) (fun m hm => ?_)
      by_cases hm8 : m < 8
      · have hcw := want_at (T := T1) (k := m) (by omega)
        have hr := hR1.2 m hm8
        have h6 := f6 m hm8
        by_cases h0 : 0 ≤ dueOf T1 m
        · have h7 := h6 h0
          (refine go ?_; intros)
          refine wpC_drawnA [own H, wantB wb T1] 15 ?_
          ((first | refine df 0 ?_ | refine dfs 0 ?_); (first | refine df 1 ?_ | refine dfs 1 ?_); (first | refine df 2 ?_ | refine dfs 2 ?_); (first | refine df 3 ?_ | refine dfs 3 ?_); (first | refine df 4 ?_ | refine dfs 4 ?_); (first | refine dt 5 ?_ | refine dts 5 ?_); (first | refine dt 6 ?_ | refine dts 6 ?_); (first | refine dt 7 ?_ | refine dts 7 ?_); (first | refine dt 8 ?_ | refine dts 8 ?_); (first | refine dt 9 ?_ | refine dts 9 ?_); (first | refine df 10 ?_ | refine dfs 10 ?_); (first | refine df 11 ?_ | refine dfs 11 ?_); (first | refine df 12 ?_ | refine dfs 12 ?_); (first | refine df 13 ?_ | refine dfs 13 ?_); (first | refine df 14 ?_ | refine dfs 14 ?_); refine dl ?_)
          (refine go ?_; intros)
          refine q_round (m + 1) (by omega) (by omega) (by repeat (first | exact trivial | refine ⟨rfl, ?_⟩)) (by ((try simp only [List.cons_append, List.nil_append]); repeat (first | exact Ent.nil | (apply Ent.cons; repeat (first | exact Pick.head | apply Pick.tail)))))
        · (refine go ?_; intros)
          refine wpC_drawnA [own H, wantB wb T1] 15 ?_
          ((first | refine df 0 ?_ | refine dfs 0 ?_); (first | refine df 1 ?_ | refine dfs 1 ?_); (first | refine df 2 ?_ | refine dfs 2 ?_); (first | refine df 3 ?_ | refine dfs 3 ?_); (first | refine df 4 ?_ | refine dfs 4 ?_); (first | refine dt 5 ?_ | refine dts 5 ?_); (first | refine dt 6 ?_ | refine dts 6 ?_); (first | refine dt 7 ?_ | refine dts 7 ?_); (first | refine dt 8 ?_ | refine dts 8 ?_); (first | refine dt 9 ?_ | refine dts 9 ?_); (first | refine df 10 ?_ | refine dfs 10 ?_); (first | refine df 11 ?_ | refine dfs 11 ?_); (first | refine df 12 ?_ | refine dfs 12 ?_); (first | refine df 13 ?_ | refine dfs 13 ?_); (first | refine df 14 ?_ | refine dfs 14 ?_); refine dl ?_)
          (refine go ?_; intros)
          refine q_round (m + 1) (by omega) (by omega) (by repeat (first | exact trivial | refine ⟨rfl, ?_⟩)) (by ((try simp only [List.cons_append, List.nil_append]); repeat (first | exact Ent.nil | (apply Ent.cons; repeat (first | exact Pick.head | apply Pick.tail)))))
      · (refine go ?_; intros)
        refine q_round ⟨i + 1, T1⟩ ⟨by simp only; omega, hR1⟩ (by simp only; omega) (by repeat (first | exact trivial | refine ⟨rfl, ?_⟩)) (by ((try simp only [List.cons_append, List.nil_append]); repeat (first | exact Ent.nil | (apply Ent.cons; repeat (first | exact Pick.head | apply Pick.tail)))))
  · by_cases hi1 : i < nows.length
    all_goals
      (refine go ?_; intros)
      (show wpO _ _ ⟨_, .call _, _, _, _, _⟩ _ _ _ _ _ _; refine o_callA (law_awake) (fun _ _ => ?_); try simp only [List.cons_append, List.nil_append])
      (refine go ?_; intros)
      refine q_ret1 rfl rfl () rfl trivial ?_
      ((try simp only [List.cons_append, List.nil_append]); repeat (first | exact Ent.nil | (apply Ent.cons; repeat (first | exact Pick.head | apply Pick.tail))))
end Go.Proofs.Ytjhlpieehhpmgaa
