/-
  FlightOne: its walk.
-/
import Derived.Test.YtgdofniaalpgpaaFltS
set_option linter.unusedSimpArgs false
set_option linter.unusedVariables false
set_option maxRecDepth 20000
namespace Go.Proofs.Ytgdofniaalpgpaa
open Go Go.Sx
structure FoSt where
  i : Nat
  L : List PSent
theorem sent_in {L : List PSent} {junk : List Value} {i j : Nat} {u : Value} (h : i < L.length) (e : (sentC L[i])[j]? = some u) : (L.flatMap sentC ++ junk)[i * 6 + j]? = some u := by
  have := sent_cell h e
  rw [List.getElem?_append_left (List.getElem?_eq_some_iff.1 this).1]
  exact this
theorem flt_ok {c : Cx} {M R : List HProp} {f : Nat} {L : List PSent} (p : Pick M (fltI f L) R) : ∀ w, HSt c M w → SentOk L := fun w s => by
  obtain ⟨y, hy, _⟩ := HSt.unfold p s
  exact hy.1.S
attribute [local irreducible] MidQ wpE wpO wpC qE wpQ wpQO wpH wpHO wpD wpDO wpZ Ev own emp exI sl ch PostS LoopQ Rd rowsAt
set_option maxHeartbeats 8000000 in
theorem law_one (H : PHeap) (v : Value) (acts : List FAct) (hv : rowsAt H 6 v (acts.map actC)) :
    FnDoes Try.prog 3 [v] [own H] (fun _ : Unit => True) (fun _ => .bool true) (fun _ => [own H]) := by
  refine does_of Try.func3 rfl rfl Try.ntmps3 rfl (by simp only [enum, Nat.reduceAdd, Nat.zero_add]; exact rfl) (fun c => ?_)
  obtain ⟨a, cap, rfl⟩ := hv.slice
  have hv' := hv
  simp only [List.length_map] at hv' ⊢
  (refine go ?_; intros)
  (show wpO _ _ ⟨_, .call _, _, _, _, _⟩ _ _ _ _ _ _; refine o_callA (flt_new) (fun f _ => ?_); try simp only [List.cons_append, List.nil_append])
  (refine go ?_; intros)
  refine wpC_loop (σ := FoSt) (fun s => s.i ≤ 80) (fun s => [(0, .slice a acts.length cap), (3, ptr f), (4, .int .i64 s.i)])
    (fun s => [own H, fltI f s.L]) (fun s => 80 - s.i) ⟨0, []⟩ (Nat.zero_le _) (by repeat (first | exact trivial | refine ⟨rfl, ?_⟩)) (by ((try simp only [List.cons_append, List.nil_append]); repeat (first | exact Ent.nil | (apply Ent.cons; repeat (first | exact Pick.head | apply Pick.tail))))) (fun s s1 => ?_)
  obtain ⟨i, L⟩ := s
  simp only at s1 ⊢
  by_cases hi : i < acts.length ∧ i < 80
  · obtain ⟨i1, i2⟩ := hi
    obtain ⟨b', off, cap', e, hc⟩ := hv'.at i (by simpa using i1)
    simp only [List.length_map, Value.slice.injEq] at e
    obtain ⟨rfl, _, rfl⟩ := e
    have hc' : ∀ j u, (actC acts[i])[j]? = some u → H.cell? ⟨b', off + i * 6 + j, none⟩ = some u := fun j u hu => hc j u (by simpa using hu)
    generalize acts[i] = aa at hc'
    clear hc
    (refine go ?_; intro x)
    refine wpO_ent (N := refI x [] :: fltI f L :: own H :: []) (Ent.fold (.slice none 0 0) (by simp) (Ent.cons (by repeat (first | exact Pick.head | apply Pick.tail)) (Ent.slNil (by ((try simp only [List.cons_append, List.nil_append]); repeat (first | exact Ent.nil | (apply Ent.cons; repeat (first | exact Pick.head | apply Pick.tail)))))))) ?_
    (show wpO _ _ ⟨_, .call _, _, _, _, _⟩ _ _ _ _ _ _; refine o_callA (law_do f x L [] aa) (fun y hy => ?_); try simp only [List.cons_append, List.nil_append])
    obtain ⟨yb, L, L2⟩ := y
    simp only
    clear hy
    (refine go ?_; intros)
    (show wpO _ _ ⟨_, .call _, _, _, _, _⟩ _ _ _ _ _ _; refine o_callA (flt_all f L) (fun w _ => ?_); try simp only [List.cons_append, List.nil_append])
    refine wpE_fact (flt_ok (by repeat (first | exact Pick.head | apply Pick.tail))) (fun hOk => ?_)
    have h8 := hOk.len
    have hr : Rd (sentsI w L) 6 w L.length (L.flatMap sentC) := Rd.ofSl
    refine wpE_fact (hr.isSlice (by repeat (first | exact Pick.head | apply Pick.tail))) (fun hk => ?_)
    obtain ⟨wa, wc, rfl, hk⟩ := hk
    (refine go ?_; intros)
    refine wpC_loop (σ := Nat) (fun k => k ≤ L.length) (fun k => [(0, .slice (some ⟨b', off, none⟩) acts.length cap), (3, ptr f), (4, .int .i64 i), (5, .slice wa L.length wc), (6, .int .i64 k)])
      (fun _ => [own H, fltI f L, sentsI (.slice wa L.length wc) L]) (fun k => L.length - k) 0 (Nat.zero_le _) (by repeat (first | exact trivial | refine ⟨rfl, ?_⟩)) (by ((try simp only [List.cons_append, List.nil_append]); repeat (first | exact Ent.nil | (apply Ent.cons; repeat (first | exact Pick.head | apply Pick.tail))))) (fun k hk2 => ?_)
    by_cases hkl : k < L.length
    · refine wpC_sl (.tail (.tail .head)) (fun _ h _ => absurd h (by omega)) (fun wb wcap junk e q1 q2 q3 => ?_)
      simp only [Value.slice.injEq] at e
      obtain ⟨rfl, _, hwc⟩ := e
      subst hwc
      obtain ⟨o1, o2, o3, o4, o5⟩ := hOk.ok L[k] (List.getElem_mem hkl)
      have c0 : (L.flatMap sentC ++ junk)[k * 6]? = some (.int .i64 L[k].id) := sent_in (j := 0) hkl rfl
      have c1 : (L.flatMap sentC ++ junk)[k * 6 + 1]? = some (.int .i64 L[k].st) := sent_in hkl rfl
      have c4 : (L.flatMap sentC ++ junk)[k * 6 + 2 + 2]? = some (.int .i64 L[k].m.qos) := by rw [Nat.add_assoc]; exact sent_in hkl rfl
      (refine goB ?_; intros)
      refine wpC_block ?_
      (refine goB ?_; intros)
      refine wpC_meet (σ := Unit) (fun _ => True) (fun k' => [(0, .slice (some ⟨b', off, none⟩) acts.length cap), (3, ptr f), (4, .int .i64 i), (5, .slice (some ⟨wb, 0, none⟩) L.length wc), (6, .int .i64 k), (67, .bool false)])
        (fun _ => [own H, fltI f L, pts wb (.cells (L.flatMap sentC ++ junk).toArray 36 (0, 0))]) ?_ (fun _ _ => ?_)
      · by_cases hs : L[k].st = 1
        · have hq := o4.1 hs
          refine wpC_drawnA [pts wb (.cells (L.flatMap sentC ++ junk).toArray 36 (0, 0))] 29 ?_
          ((first | refine dt 0 ?_ | refine dts 0 ?_); (first | refine df 1 ?_ | refine dfs 1 ?_); (first | refine df 2 ?_ | refine dfs 2 ?_); (first | refine df 3 ?_ | refine dfs 3 ?_); (first | refine df 4 ?_ | refine dfs 4 ?_); (first | refine df 5 ?_ | refine dfs 5 ?_); (first | refine df 6 ?_ | refine dfs 6 ?_); (first | refine dt 7 ?_ | refine dts 7 ?_); (first | refine df 8 ?_ | refine dfs 8 ?_); (first | refine df 9 ?_ | refine dfs 9 ?_); (first | refine df 10 ?_ | refine dfs 10 ?_); (first | refine df 11 ?_ | refine dfs 11 ?_); (first | refine df 12 ?_ | refine dfs 12 ?_); (first | refine df 13 ?_ | refine dfs 13 ?_); (first | refine df 14 ?_ | refine dfs 14 ?_); (first | refine dt 15 ?_ | refine dts 15 ?_); (first | refine dt 16 ?_ | refine dts 16 ?_); (first | refine dt 17 ?_ | refine dts 17 ?_); (first | refine dt 18 ?_ | refine dts 18 ?_); (first | refine dt 19 ?_ | refine dts 19 ?_); (first | refine dt 20 ?_ | refine dts 20 ?_); (first | refine dt 21 ?_ | refine dts 21 ?_); (first | refine df 22 ?_ | refine dfs 22 ?_); (first | refine df 23 ?_ | refine dfs 23 ?_); (first | refine df 24 ?_ | refine dfs 24 ?_); (first | refine df 25 ?_ | refine dfs 25 ?_); (first | refine df 26 ?_ | refine dfs 26 ?_); (first | refine df 27 ?_ | refine dfs 27 ?_); (first | refine df 28 ?_ | refine dfs 28 ?_); refine dl ?_)
          (refine go ?_; intros)
          exact q_mid () trivial (by repeat (first | exact trivial | refine ⟨rfl, ?_⟩)) (by ((try simp only [List.cons_append, List.nil_append]); repeat (first | exact Ent.nil | (apply Ent.cons; repeat (first | exact Pick.head | apply Pick.tail)))))
        · have hq : ¬ L[k].m.qos = 1 := fun h => hs (o4.2 h)
          refine wpC_drawnA [pts wb (.cells (L.flatMap sentC ++ junk).toArray 36 (0, 0))] 29 ?_
          ((first | refine dt 0 ?_ | refine dts 0 ?_); (first | refine df 1 ?_ | refine dfs 1 ?_); (first | refine df 2 ?_ | refine dfs 2 ?_); (first | refine df 3 ?_ | refine dfs 3 ?_); (first | refine df 4 ?_ | refine dfs 4 ?_); (first | refine df 5 ?_ | refine dfs 5 ?_); (first | refine df 6 ?_ | refine dfs 6 ?_); (first | refine dt 7 ?_ | refine dts 7 ?_); (first | refine df 8 ?_ | refine dfs 8 ?_); (first | refine df 9 ?_ | refine dfs 9 ?_); (first | refine df 10 ?_ | refine dfs 10 ?_); (first | refine df 11 ?_ | refine dfs 11 ?_); (first | refine df 12 ?_ | refine dfs 12 ?_); (first | refine df 13 ?_ | refine dfs 13 ?_); (first | refine df 14 ?_ | refine dfs 14 ?_); (first | refine dt 15 ?_ | refine dts 15 ?_); (first | refine dt 16 ?_ | refine dts 16 ?_); (first | refine dt 17 ?_ | refine dts 17 ?_); (first | refine dt 18 ?_ | refine dts 18 ?_); (first | refine dt 19 ?_ | refine dts 19 ?_); (first | refine dt 20 ?_ | refine dts 20 ?_); (first | refine dt 21 ?_ | refine dts 21 ?_); (first | refine df 22 ?_ | refine dfs 22 ?_); (first | refine df 23 ?_ | refine dfs 23 ?_); (first | refine df 24 ?_ | refine dfs 24 ?_); (first | refine df 25 ?_ | refine dfs 25 ?_); (first | refine df 26 ?_ | refine dfs 26 ?_); (first | refine df 27 ?_ | refine dfs 27 ?_); (first | refine df 28 ?_ | refine dfs 28 ?_); refine dl ?_)
          (refine go ?_; intros)
          exact q_mid () trivial (by repeat (first | exact trivial | refine ⟨rfl, ?_⟩)) (by ((try simp only [List.cons_append, List.nil_append]); repeat (first | exact Ent.nil | (apply Ent.cons; repeat (first | exact Pick.head | apply Pick.tail)))))
      · (refine go ?_; intros)
        refine wpC_loop (σ := Nat) (fun j => j ≤ k) (fun j => [(0, .slice (some ⟨b', off, none⟩) acts.length cap), (3, ptr f), (4, .int .i64 i), (5, .slice (some ⟨wb, 0, none⟩) L.length wc), (6, .int .i64 k), (7, .int .i64 j)])
          (fun _ => [own H, fltI f L, pts wb (.cells (L.flatMap sentC ++ junk).toArray 36 (0, 0))]) (fun j => k - j) 0 (Nat.zero_le _) (by repeat (first | exact trivial | refine ⟨rfl, ?_⟩)) (by ((try simp only [List.cons_append, List.nil_append]); repeat (first | exact Ent.nil | (apply Ent.cons; repeat (first | exact Pick.head | apply Pick.tail))))) (fun j hj => ?_)
        by_cases hjk : j < k
        · have hjl : j < L.length := by omega
          have d0 : (L.flatMap sentC ++ junk)[j * 6]? = some (.int .i64 L[j].id) := sent_in (j := 0) hjl rfl
          have hne : ¬ L[j].id = L[k].id := fun e => by have := hOk.inj hjl hkl e; omega
          (refine go ?_; intros)
          refine wpC_drawnA [pts wb (.cells (L.flatMap sentC ++ junk).toArray 36 (0, 0))] 10 ?_
          ((first | refine dt 0 ?_ | refine dts 0 ?_); (first | refine dt 1 ?_ | refine dts 1 ?_); (first | refine dt 2 ?_ | refine dts 2 ?_); (first | refine dt 3 ?_ | refine dts 3 ?_); (first | refine dt 4 ?_ | refine dts 4 ?_); (first | refine dt 5 ?_ | refine dts 5 ?_); (first | refine df 6 ?_ | refine dfs 6 ?_); (first | refine df 7 ?_ | refine dfs 7 ?_); (first | refine df 8 ?_ | refine dfs 8 ?_); (first | refine df 9 ?_ | refine dfs 9 ?_); refine dl ?_)
          (refine go ?_; intros)
          refine q_round (j + 1) (by omega) (by omega) (by repeat (first | exact trivial | refine ⟨rfl, ?_⟩)) (by ((try simp only [List.cons_append, List.nil_append]); repeat (first | exact Ent.nil | (apply Ent.cons; repeat (first | exact Pick.head | apply Pick.tail)))))
        · (refine go ?_; intros)
          refine q_round (k + 1) (by omega) (by omega) (by repeat (first | exact trivial | refine ⟨rfl, ?_⟩)) ?_
          exact Ent.cons (by repeat (first | exact Pick.head | apply Pick.tail)) (Ent.cons (by repeat (first | exact Pick.head | apply Pick.tail)) (Ent.slClose (by repeat (first | exact Pick.head | apply Pick.tail)) (by rw [fm_length sentC_len]) (fm_one sentC_one _) q1 q2 q3 Ent.nil))
    · (refine go ?_; intros)
      refine q_round ⟨i + 1, L⟩ (by simp only; omega) (by simp only; omega) (by repeat (first | exact trivial | refine ⟨rfl, ?_⟩)) (by ((try simp only [List.cons_append, List.nil_append]); repeat (first | exact Ent.nil | (apply Ent.cons; repeat (first | exact Pick.head | apply Pick.tail)))))
  · by_cases hi1 : i < acts.length
    all_goals
      (refine go ?_; intros)
      (show wpO _ _ ⟨_, .call _, _, _, _, _⟩ _ _ _ _ _ _; refine o_callA (law_awake) (fun _ _ => ?_); try simp only [List.cons_append, List.nil_append])
      (refine go ?_; intros)
      refine q_ret1 rfl rfl () rfl trivial ?_
      ((try simp only [List.cons_append, List.nil_append]); repeat (first | exact Ent.nil | (apply Ent.cons; repeat (first | exact Pick.head | apply Pick.tail))))
end Go.Proofs.Ytgdofniaalpgpaa
