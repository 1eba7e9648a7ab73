/-
  InboxPlays: its walk.
-/
import Derived.Test.YtkkhklamcmbodaaInbR
set_option linter.unusedSimpArgs false
set_option linter.unusedVariables false
namespace Go.Proofs.Ytkkhklamcmbodaa
open Go Go.Sx
attribute [local irreducible] wpE wpO wpC qE wpQ wpQO wpH wpHO wpD wpDO Ev own emp exI sl ch PostS LoopQ Rd rowsAt

structure IpSt where
  i : Nat
  l : List Int
set_option maxHeartbeats 8000000 in
theorem law_plays (H : PHeap) (v : Value) (acts : List Int) (hv : rowsAt H 1 v (acts.map intC)) (hb : ∀ a ∈ acts, -9223372036854775808 ≤ a ∧ a ≤ 9223372036854775807) :
    FnDoes Try.prog 4 [v] [own H] (fun _ : Unit => True) (fun _ => .bool true) (fun _ => [own H]) := by
  refine does_of Try.func4 rfl rfl Try.ntmps4 rfl (by simp only [enum, Nat.reduceAdd, Nat.zero_add]; exact rfl) (fun c => ?_)
  obtain ⟨a, cap, rfl⟩ := hv.slice
  have hv' := hv
  simp only [List.length_map] at hv' ⊢
  (refine go ?_; intros)
  (show wpO _ _ ⟨_, .call _, _, _, _, _⟩ _ _ _ _ _ _; refine o_callA (inb_new) (fun b _ => ?_); try simp only [List.cons_append, List.nil_append])
  (refine go ?_; intro x)
  refine wpC_loop (σ := IpSt) (fun s => s.i ≤ 80 ∧ InOk s.l)
    (fun s => [(0, .slice a acts.length cap), (3, ptr b), (4, ptr x), (5, .int .i64 s.i)])
    (fun s => [own H, inboxI b s.l, refI x s.l])
    (fun s => 80 - s.i) ⟨0, []⟩ ⟨Nat.zero_le _, inOk_nil⟩ (by repeat (first | exact trivial | refine ⟨rfl, ?_⟩)) (Ent.cons (by repeat (first | exact Pick.head | apply Pick.tail)) (Ent.cons (by repeat (first | exact Pick.head | apply Pick.tail)) (Ent.fold (.slice none 0 0) trivial (Ent.cons (by repeat (first | exact Pick.head | apply Pick.tail)) (Ent.slNil Ent.nil))))) (fun s hs => ?_)
  obtain ⟨i, l⟩ := s
  simp only at hs ⊢
  obtain ⟨s1, s2⟩ := hs
  by_cases hi : i < acts.length ∧ i < 80
  · obtain ⟨i1, i2⟩ := hi
    obtain ⟨b', off, cap', e, hc⟩ := hv'.at i (by simpa using i1)
    simp only [List.length_map, Value.slice.injEq] at e
    obtain ⟨rfl, _, rfl⟩ := e
    have hc' : H.cell? ⟨b', off + i * 1, none⟩ = some (.int .i64 acts[i]) := by
      have := hc 0 (.int .i64 acts[i]) (by simp [intC])
      simpa using this
    obtain ⟨hk0, hk1⟩ := hb acts[i] (List.getElem_mem _)
    generalize acts[i] = kk at hc' hk0 hk1
    clear hc
    have hl := s2.2.1
    by_cases h0 : kk = 0
    · subst h0
      refine wpC_unfold (.tail (.tail .head)) (fun v0 _ => ?_)
      simp only [List.cons_append, List.nil_append]
      (refine go ?_; intros)
      (show wpO _ _ ⟨_, .call _, _, _, _, _⟩ _ _ _ _ _ _; refine o_callA (inb_clear b l) (fun _ _ => ?_); try simp only [List.cons_append, List.nil_append])
      (refine go ?_; intros)
      refine wpO_ent (N := [own H, inboxI b [], refI x []]) (Ent.cons (by repeat (first | exact Pick.head | apply Pick.tail)) (Ent.cons (by repeat (first | exact Pick.head | apply Pick.tail)) (Ent.fold (.slice none 0 0) trivial (Ent.cons (by repeat (first | exact Pick.head | apply Pick.tail)) (Ent.slNil Ent.nil))))) ?_
      refine wpO_unfold (.tail (.tail .head)) (fun xv _ => ?_)
      simp only [List.cons_append, List.nil_append]
      have hl' := (inOk_nil).2.1
      (show wpO _ _ ⟨_, .call _, _, _, _, _⟩ _ _ _ _ _ _; refine o_callA (inb_all b ([] : List Int) hl') (fun va _ => ?_); try simp only [List.cons_append, List.nil_append])
      have hra : Rd (intsI va ([] : List Int)) 1 va ([] : List Int).length (ints ([] : List Int)) := Rd.ofSl
      have hrx : Rd (intsI xv ([] : List Int)) 1 xv ([] : List Int).length (ints ([] : List Int)) := Rd.ofSl
      refine wpE_fact (hra.isSlice (by repeat (first | exact Pick.head | apply Pick.tail))) (fun hka => ?_)
      refine wpE_fact (hrx.isSlice (by repeat (first | exact Pick.head | apply Pick.tail))) (fun hkx => ?_)
      obtain ⟨aa, ca, rfl, hka⟩ := hka
      obtain ⟨ax, cx, rfl, hkx⟩ := hkx
      (refine go ?_; intros)
      refine wpC_drawnA [refC x (.slice ax ([] : List Int).length cx)] 17 ?_
      ((first | refine dt 0 ?_ | refine dts 0 ?_); (first | refine dt 1 ?_ | refine dts 1 ?_); (first | refine df 2 ?_ | refine dfs 2 ?_); (first | refine df 3 ?_ | refine dfs 3 ?_); (first | refine df 4 ?_ | refine dfs 4 ?_); (first | refine df 5 ?_ | refine dfs 5 ?_); (first | refine df 6 ?_ | refine dfs 6 ?_); (first | refine df 7 ?_ | refine dfs 7 ?_); (first | refine df 8 ?_ | refine dfs 8 ?_); (first | refine dt 9 ?_ | refine dts 9 ?_); (first | refine dt 11 ?_ | refine dts 11 ?_); (first | refine dt 12 ?_ | refine dts 12 ?_); (first | refine dt 13 ?_ | refine dts 13 ?_); (first | refine dt 14 ?_ | refine dts 14 ?_); (first | refine dt 15 ?_ | refine dts 15 ?_))
      (refine dcall 10 (inb_len b ([] : List Int)) (fun _ _ => ?_); try simp only [List.cons_append, List.nil_append])
      ((first | refine df 16 ?_ | refine dfs 16 ?_); refine dl ?_)
      (refine go ?_; intros)
      refine wpC_loop (σ := Nat) (fun k => k ≤ ([] : List Int).length) (fun k => [(0, .slice (some ⟨b', off, none⟩) acts.length cap), (3, ptr b), (4, ptr x), (5, .int .i64 i), (12, .slice aa ([] : List Int).length ca), (13, .int .i64 k)])
        (fun _ => [own H, inboxI b ([] : List Int), refC x (.slice ax ([] : List Int).length cx), intsI (.slice ax ([] : List Int).length cx) ([] : List Int), intsI (.slice aa ([] : List Int).length ca) ([] : List Int)])
        (fun k => ([] : List Int).length - k) 0 (Nat.zero_le _) (by repeat (first | exact trivial | refine ⟨rfl, ?_⟩)) (by ((try simp only [List.cons_append, List.nil_append]); repeat (first | exact Ent.nil | (apply Ent.cons; repeat (first | exact Pick.head | apply Pick.tail))))) (fun k hk => ?_)
      by_cases hkl : k < ([] : List Int).length
      · obtain ⟨ba, oa, rfl, _⟩ := hka (by omega)
        obtain ⟨bx, ox, rfl, _⟩ := hkx (by omega)
        have hcell : (ints ([] : List Int))[k * 1]? = some (.int .i64 ([] : List Int)[k]) := by rw [Nat.mul_one]; exact ints_get hkl
        (refine go ?_; intros)
        refine wpC_quietA ?_
        refine go ?_
        refine oq_evB (ev_load_rd rfl rfl rfl hra (by repeat (first | exact Pick.head | apply Pick.tail)) rfl hcell) ?_
        refine go ?_
        refine oq_evB (ev_load_rd rfl rfl rfl hrx (by repeat (first | exact Pick.head | apply Pick.tail)) rfl hcell) ?_
        refine go ?_
        (refine go ?_; intros)
        refine q_round (k + 1) (by omega) (by omega) (by repeat (first | exact trivial | refine ⟨rfl, ?_⟩)) (by ((try simp only [List.cons_append, List.nil_append]); repeat (first | exact Ent.nil | (apply Ent.cons; repeat (first | exact Pick.head | apply Pick.tail)))))
      · (refine go ?_; intros)
        refine q_round ⟨i + 1, []⟩ ⟨by simp only; omega, inOk_nil⟩ (by simp only; omega) (by repeat (first | exact trivial | refine ⟨rfl, ?_⟩)) ?_
        exact Ent.cons (by repeat (first | exact Pick.head | apply Pick.tail)) (Ent.cons (by repeat (first | exact Pick.head | apply Pick.tail)) (Ent.fold (.slice ax ([] : List Int).length cx) trivial (by ((try simp only [List.cons_append, List.nil_append]); repeat (first | exact Ent.nil | (apply Ent.cons; repeat (first | exact Pick.head | apply Pick.tail)))))))
    by_cases hneg : kk < 0 ∧ -100000 < kk
    · obtain ⟨n1, n2⟩ := hneg
      by_cases hm : -kk ∈ l
      · (refine go ?_; intros)
        (show wpO _ _ ⟨_, .call _, _, _, _, _⟩ _ _ _ _ _ _; refine o_callA (inb_done b l (-kk) s2 hm) (fun kq hkq => ?_); try simp only [List.cons_append, List.nil_append])
        have hkq2 : kq < l.length := (List.getElem?_eq_some_iff.1 hkq.2).1
        have ef := filter_out s2.1 hkq.2
        have el : decide ((takeOut l kq).length < l.length) = true := by rw [takeOut_length hkq2]; simp; omega
        (refine go ?_; intros)
        (show wpO _ _ ⟨_, .call _, _, _, _, _⟩ _ _ _ _ _ _; refine o_callA (ref_done x l (-kk) hl) (fun _ _ => ?_); try simp only [List.cons_append, List.nil_append])
        simp only [ef, el]
        (refine go ?_; intros)
        refine wpO_ent (N := [own H, inboxI b (takeOut l kq), refI x (takeOut l kq)]) (by ((try simp only [List.cons_append, List.nil_append]); repeat (first | exact Ent.nil | (apply Ent.cons; repeat (first | exact Pick.head | apply Pick.tail))))) ?_
        refine wpO_unfold (.tail (.tail .head)) (fun xv _ => ?_)
        simp only [List.cons_append, List.nil_append]
        have hl' := (inOk_out s2 hkq2).2.1
        (show wpO _ _ ⟨_, .call _, _, _, _, _⟩ _ _ _ _ _ _; refine o_callA (inb_all b (takeOut l kq) hl') (fun va _ => ?_); try simp only [List.cons_append, List.nil_append])
        have hra : Rd (intsI va (takeOut l kq)) 1 va (takeOut l kq).length (ints (takeOut l kq)) := Rd.ofSl
        have hrx : Rd (intsI xv (takeOut l kq)) 1 xv (takeOut l kq).length (ints (takeOut l kq)) := Rd.ofSl
        refine wpE_fact (hra.isSlice (by repeat (first | exact Pick.head | apply Pick.tail))) (fun hka => ?_)
        refine wpE_fact (hrx.isSlice (by repeat (first | exact Pick.head | apply Pick.tail))) (fun hkx => ?_)
        obtain ⟨aa, ca, rfl, hka⟩ := hka
        obtain ⟨ax, cx, rfl, hkx⟩ := hkx
        (refine go ?_; intros)
        refine wpC_drawnA [refC x (.slice ax (takeOut l kq).length cx)] 17 ?_
        ((first | refine dt 0 ?_ | refine dts 0 ?_); (first | refine dt 1 ?_ | refine dts 1 ?_); (first | refine df 2 ?_ | refine dfs 2 ?_); (first | refine df 3 ?_ | refine dfs 3 ?_); (first | refine df 4 ?_ | refine dfs 4 ?_); (first | refine df 5 ?_ | refine dfs 5 ?_); (first | refine df 6 ?_ | refine dfs 6 ?_); (first | refine df 7 ?_ | refine dfs 7 ?_); (first | refine df 8 ?_ | refine dfs 8 ?_); (first | refine dt 9 ?_ | refine dts 9 ?_); (first | refine dt 11 ?_ | refine dts 11 ?_); (first | refine dt 12 ?_ | refine dts 12 ?_); (first | refine dt 13 ?_ | refine dts 13 ?_); (first | refine dt 14 ?_ | refine dts 14 ?_); (first | refine dt 15 ?_ | refine dts 15 ?_))
        (refine dcall 10 (inb_len b (takeOut l kq)) (fun _ _ => ?_); try simp only [List.cons_append, List.nil_append])
        ((first | refine df 16 ?_ | refine dfs 16 ?_); refine dl ?_)
        (refine go ?_; intros)
        refine wpC_loop (σ := Nat) (fun k => k ≤ (takeOut l kq).length) (fun k => [(0, .slice (some ⟨b', off, none⟩) acts.length cap), (3, ptr b), (4, ptr x), (5, .int .i64 i), (12, .slice aa (takeOut l kq).length ca), (13, .int .i64 k)])
          (fun _ => [own H, inboxI b (takeOut l kq), refC x (.slice ax (takeOut l kq).length cx), intsI (.slice ax (takeOut l kq).length cx) (takeOut l kq), intsI (.slice aa (takeOut l kq).length ca) (takeOut l kq)])
          (fun k => (takeOut l kq).length - k) 0 (Nat.zero_le _) (by repeat (first | exact trivial | refine ⟨rfl, ?_⟩)) (by ((try simp only [List.cons_append, List.nil_append]); repeat (first | exact Ent.nil | (apply Ent.cons; repeat (first | exact Pick.head | apply Pick.tail))))) (fun k hk => ?_)
        by_cases hkl : k < (takeOut l kq).length
        · obtain ⟨ba, oa, rfl, _⟩ := hka (by omega)
          obtain ⟨bx, ox, rfl, _⟩ := hkx (by omega)
          have hcell : (ints (takeOut l kq))[k * 1]? = some (.int .i64 (takeOut l kq)[k]) := by rw [Nat.mul_one]; exact ints_get hkl
          (refine go ?_; intros)
          refine wpC_quietA ?_
          refine go ?_
          refine oq_evB (ev_load_rd rfl rfl rfl hra (by repeat (first | exact Pick.head | apply Pick.tail)) rfl hcell) ?_
          refine go ?_
          refine oq_evB (ev_load_rd rfl rfl rfl hrx (by repeat (first | exact Pick.head | apply Pick.tail)) rfl hcell) ?_
          refine go ?_
          (refine go ?_; intros)
          refine q_round (k + 1) (by omega) (by omega) (by repeat (first | exact trivial | refine ⟨rfl, ?_⟩)) (by ((try simp only [List.cons_append, List.nil_append]); repeat (first | exact Ent.nil | (apply Ent.cons; repeat (first | exact Pick.head | apply Pick.tail)))))
        · (refine go ?_; intros)
          refine q_round ⟨i + 1, takeOut l kq⟩ ⟨by simp only; omega, inOk_out s2 hkq2⟩ (by simp only; omega) (by repeat (first | exact trivial | refine ⟨rfl, ?_⟩)) ?_
          exact Ent.cons (by repeat (first | exact Pick.head | apply Pick.tail)) (Ent.cons (by repeat (first | exact Pick.head | apply Pick.tail)) (Ent.fold (.slice ax (takeOut l kq).length cx) trivial (by ((try simp only [List.cons_append, List.nil_append]); repeat (first | exact Ent.nil | (apply Ent.cons; repeat (first | exact Pick.head | apply Pick.tail)))))))
      · (refine go ?_; intros)
        (show wpO _ _ ⟨_, .call _, _, _, _, _⟩ _ _ _ _ _ _; refine o_callA (inb_doneNo b l (-kk) s2 hm) (fun _ _ => ?_); try simp only [List.cons_append, List.nil_append])
        have ef := filter_no hm
        have el : decide (l.length < l.length) = false := by simp
        (refine go ?_; intros)
        (show wpO _ _ ⟨_, .call _, _, _, _, _⟩ _ _ _ _ _ _; refine o_callA (ref_done x l (-kk) hl) (fun _ _ => ?_); try simp only [List.cons_append, List.nil_append])
        simp only [ef, el]
        (refine go ?_; intros)
        refine wpO_ent (N := [own H, inboxI b l, refI x l]) (by ((try simp only [List.cons_append, List.nil_append]); repeat (first | exact Ent.nil | (apply Ent.cons; repeat (first | exact Pick.head | apply Pick.tail))))) ?_
        refine wpO_unfold (.tail (.tail .head)) (fun xv _ => ?_)
        simp only [List.cons_append, List.nil_append]
        have hl' := (s2).2.1
        (show wpO _ _ ⟨_, .call _, _, _, _, _⟩ _ _ _ _ _ _; refine o_callA (inb_all b (l) hl') (fun va _ => ?_); try simp only [List.cons_append, List.nil_append])
        have hra : Rd (intsI va (l)) 1 va (l).length (ints (l)) := Rd.ofSl
        have hrx : Rd (intsI xv (l)) 1 xv (l).length (ints (l)) := Rd.ofSl
        refine wpE_fact (hra.isSlice (by repeat (first | exact Pick.head | apply Pick.tail))) (fun hka => ?_)
        refine wpE_fact (hrx.isSlice (by repeat (first | exact Pick.head | apply Pick.tail))) (fun hkx => ?_)
        obtain ⟨aa, ca, rfl, hka⟩ := hka
        obtain ⟨ax, cx, rfl, hkx⟩ := hkx
        (refine go ?_; intros)
        refine wpC_drawnA [refC x (.slice ax (l).length cx)] 17 ?_
        ((first | refine dt 0 ?_ | refine dts 0 ?_); (first | refine dt 1 ?_ | refine dts 1 ?_); (first | refine df 2 ?_ | refine dfs 2 ?_); (first | refine df 3 ?_ | refine dfs 3 ?_); (first | refine df 4 ?_ | refine dfs 4 ?_); (first | refine df 5 ?_ | refine dfs 5 ?_); (first | refine df 6 ?_ | refine dfs 6 ?_); (first | refine df 7 ?_ | refine dfs 7 ?_); (first | refine df 8 ?_ | refine dfs 8 ?_); (first | refine dt 9 ?_ | refine dts 9 ?_); (first | refine dt 11 ?_ | refine dts 11 ?_); (first | refine dt 12 ?_ | refine dts 12 ?_); (first | refine dt 13 ?_ | refine dts 13 ?_); (first | refine dt 14 ?_ | refine dts 14 ?_); (first | refine dt 15 ?_ | refine dts 15 ?_))
        (refine dcall 10 (inb_len b (l)) (fun _ _ => ?_); try simp only [List.cons_append, List.nil_append])
        ((first | refine df 16 ?_ | refine dfs 16 ?_); refine dl ?_)
        (refine go ?_; intros)
        refine wpC_loop (σ := Nat) (fun k => k ≤ (l).length) (fun k => [(0, .slice (some ⟨b', off, none⟩) acts.length cap), (3, ptr b), (4, ptr x), (5, .int .i64 i), (12, .slice aa (l).length ca), (13, .int .i64 k)])
          (fun _ => [own H, inboxI b (l), refC x (.slice ax (l).length cx), intsI (.slice ax (l).length cx) (l), intsI (.slice aa (l).length ca) (l)])
          (fun k => (l).length - k) 0 (Nat.zero_le _) (by repeat (first | exact trivial | refine ⟨rfl, ?_⟩)) (by ((try simp only [List.cons_append, List.nil_append]); repeat (first | exact Ent.nil | (apply Ent.cons; repeat (first | exact Pick.head | apply Pick.tail))))) (fun k hk => ?_)
        by_cases hkl : k < (l).length
        · obtain ⟨ba, oa, rfl, _⟩ := hka (by omega)
          obtain ⟨bx, ox, rfl, _⟩ := hkx (by omega)
          have hcell : (ints (l))[k * 1]? = some (.int .i64 (l)[k]) := by rw [Nat.mul_one]; exact ints_get hkl
          (refine go ?_; intros)
          refine wpC_quietA ?_
          refine go ?_
          refine oq_evB (ev_load_rd rfl rfl rfl hra (by repeat (first | exact Pick.head | apply Pick.tail)) rfl hcell) ?_
          refine go ?_
          refine oq_evB (ev_load_rd rfl rfl rfl hrx (by repeat (first | exact Pick.head | apply Pick.tail)) rfl hcell) ?_
          refine go ?_
          (refine go ?_; intros)
          refine q_round (k + 1) (by omega) (by omega) (by repeat (first | exact trivial | refine ⟨rfl, ?_⟩)) (by ((try simp only [List.cons_append, List.nil_append]); repeat (first | exact Ent.nil | (apply Ent.cons; repeat (first | exact Pick.head | apply Pick.tail)))))
        · (refine go ?_; intros)
          refine q_round ⟨i + 1, l⟩ ⟨by simp only; omega, s2⟩ (by simp only; omega) (by repeat (first | exact trivial | refine ⟨rfl, ?_⟩)) ?_
          exact Ent.cons (by repeat (first | exact Pick.head | apply Pick.tail)) (Ent.cons (by repeat (first | exact Pick.head | apply Pick.tail)) (Ent.fold (.slice ax (l).length cx) trivial (by ((try simp only [List.cons_append, List.nil_append]); repeat (first | exact Ent.nil | (apply Ent.cons; repeat (first | exact Pick.head | apply Pick.tail)))))))
    by_cases hbad : kk < 1 ∨ 65535 < kk
    · by_cases hlt : kk < 0
      all_goals
        (refine go ?_; intros)
        (show wpO _ _ ⟨_, .call _, _, _, _, _⟩ _ _ _ _ _ _; refine o_callA (inb_comeBad b l kk hbad) (fun _ _ => ?_); try simp only [List.cons_append, List.nil_append])
        (refine go ?_; intros)
        (show wpO _ _ ⟨_, .call _, _, _, _, _⟩ _ _ _ _ _ _; refine o_callA (ref_comeBad x l kk hbad) (fun _ _ => ?_); try simp only [List.cons_append, List.nil_append])
        (refine go ?_; intros)
        refine wpO_ent (N := [own H, inboxI b l, refI x l]) (by ((try simp only [List.cons_append, List.nil_append]); repeat (first | exact Ent.nil | (apply Ent.cons; repeat (first | exact Pick.head | apply Pick.tail))))) ?_
        refine wpO_unfold (.tail (.tail .head)) (fun xv _ => ?_)
        simp only [List.cons_append, List.nil_append]
        have hl' := (s2).2.1
        (show wpO _ _ ⟨_, .call _, _, _, _, _⟩ _ _ _ _ _ _; refine o_callA (inb_all b (l) hl') (fun va _ => ?_); try simp only [List.cons_append, List.nil_append])
        have hra : Rd (intsI va (l)) 1 va (l).length (ints (l)) := Rd.ofSl
        have hrx : Rd (intsI xv (l)) 1 xv (l).length (ints (l)) := Rd.ofSl
        refine wpE_fact (hra.isSlice (by repeat (first | exact Pick.head | apply Pick.tail))) (fun hka => ?_)
        refine wpE_fact (hrx.isSlice (by repeat (first | exact Pick.head | apply Pick.tail))) (fun hkx => ?_)
        obtain ⟨aa, ca, rfl, hka⟩ := hka
        obtain ⟨ax, cx, rfl, hkx⟩ := hkx
        (refine go ?_; intros)
        refine wpC_drawnA [refC x (.slice ax (l).length cx)] 17 ?_
        ((first | refine dt 0 ?_ | refine dts 0 ?_); (first | refine dt 1 ?_ | refine dts 1 ?_); (first | refine df 2 ?_ | refine dfs 2 ?_); (first | refine df 3 ?_ | refine dfs 3 ?_); (first | refine df 4 ?_ | refine dfs 4 ?_); (first | refine df 5 ?_ | refine dfs 5 ?_); (first | refine df 6 ?_ | refine dfs 6 ?_); (first | refine df 7 ?_ | refine dfs 7 ?_); (first | refine df 8 ?_ | refine dfs 8 ?_); (first | refine dt 9 ?_ | refine dts 9 ?_); (first | refine dt 11 ?_ | refine dts 11 ?_); (first | refine dt 12 ?_ | refine dts 12 ?_); (first | refine dt 13 ?_ | refine dts 13 ?_); (first | refine dt 14 ?_ | refine dts 14 ?_); (first | refine dt 15 ?_ | refine dts 15 ?_))
        (refine dcall 10 (inb_len b (l)) (fun _ _ => ?_); try simp only [List.cons_append, List.nil_append])
        ((first | refine df 16 ?_ | refine dfs 16 ?_); refine dl ?_)
        (refine go ?_; intros)
        refine wpC_loop (σ := Nat) (fun k => k ≤ (l).length) (fun k => [(0, .slice (some ⟨b', off, none⟩) acts.length cap), (3, ptr b), (4, ptr x), (5, .int .i64 i), (12, .slice aa (l).length ca), (13, .int .i64 k)])
          (fun _ => [own H, inboxI b (l), refC x (.slice ax (l).length cx), intsI (.slice ax (l).length cx) (l), intsI (.slice aa (l).length ca) (l)])
          (fun k => (l).length - k) 0 (Nat.zero_le _) (by repeat (first | exact trivial | refine ⟨rfl, ?_⟩)) (by ((try simp only [List.cons_append, List.nil_append]); repeat (first | exact Ent.nil | (apply Ent.cons; repeat (first | exact Pick.head | apply Pick.tail))))) (fun k hk => ?_)
        by_cases hkl : k < (l).length
        · obtain ⟨ba, oa, rfl, _⟩ := hka (by omega)
          obtain ⟨bx, ox, rfl, _⟩ := hkx (by omega)
          have hcell : (ints (l))[k * 1]? = some (.int .i64 (l)[k]) := by rw [Nat.mul_one]; exact ints_get hkl
          (refine go ?_; intros)
          refine wpC_quietA ?_
          refine go ?_
          refine oq_evB (ev_load_rd rfl rfl rfl hra (by repeat (first | exact Pick.head | apply Pick.tail)) rfl hcell) ?_
          refine go ?_
          refine oq_evB (ev_load_rd rfl rfl rfl hrx (by repeat (first | exact Pick.head | apply Pick.tail)) rfl hcell) ?_
          refine go ?_
          (refine go ?_; intros)
          refine q_round (k + 1) (by omega) (by omega) (by repeat (first | exact trivial | refine ⟨rfl, ?_⟩)) (by ((try simp only [List.cons_append, List.nil_append]); repeat (first | exact Ent.nil | (apply Ent.cons; repeat (first | exact Pick.head | apply Pick.tail)))))
        · (refine go ?_; intros)
          refine q_round ⟨i + 1, l⟩ ⟨by simp only; omega, s2⟩ (by simp only; omega) (by repeat (first | exact trivial | refine ⟨rfl, ?_⟩)) ?_
          exact Ent.cons (by repeat (first | exact Pick.head | apply Pick.tail)) (Ent.cons (by repeat (first | exact Pick.head | apply Pick.tail)) (Ent.fold (.slice ax (l).length cx) trivial (by ((try simp only [List.cons_append, List.nil_append]); repeat (first | exact Ent.nil | (apply Ent.cons; repeat (first | exact Pick.head | apply Pick.tail)))))))
    by_cases hm : kk ∈ l
    · (refine go ?_; intros)
      (show wpO _ _ ⟨_, .call _, _, _, _, _⟩ _ _ _ _ _ _; refine o_callA (inb_comeThere b l kk s2 hm) (fun _ _ => ?_); try simp only [List.cons_append, List.nil_append])
      (refine go ?_; intros)
      (show wpO _ _ ⟨_, .call _, _, _, _, _⟩ _ _ _ _ _ _; refine o_callA (ref_comeThere x l kk s2 hm) (fun _ _ => ?_); try simp only [List.cons_append, List.nil_append])
      (refine go ?_; intros)
      refine wpO_ent (N := [own H, inboxI b l, refI x l]) (by ((try simp only [List.cons_append, List.nil_append]); repeat (first | exact Ent.nil | (apply Ent.cons; repeat (first | exact Pick.head | apply Pick.tail))))) ?_
      refine wpO_unfold (.tail (.tail .head)) (fun xv _ => ?_)
      simp only [List.cons_append, List.nil_append]
      have hl' := (s2).2.1
      (show wpO _ _ ⟨_, .call _, _, _, _, _⟩ _ _ _ _ _ _; refine o_callA (inb_all b (l) hl') (fun va _ => ?_); try simp only [List.cons_append, List.nil_append])
      have hra : Rd (intsI va (l)) 1 va (l).length (ints (l)) := Rd.ofSl
      have hrx : Rd (intsI xv (l)) 1 xv (l).length (ints (l)) := Rd.ofSl
      refine wpE_fact (hra.isSlice (by repeat (first | exact Pick.head | apply Pick.tail))) (fun hka => ?_)
      refine wpE_fact (hrx.isSlice (by repeat (first | exact Pick.head | apply Pick.tail))) (fun hkx => ?_)
      obtain ⟨aa, ca, rfl, hka⟩ := hka
      obtain ⟨ax, cx, rfl, hkx⟩ := hkx
      (refine go ?_; intros)
      refine wpC_drawnA [refC x (.slice ax (l).length cx)] 17 ?_
      ((first | refine dt 0 ?_ | refine dts 0 ?_); (first | refine dt 1 ?_ | refine dts 1 ?_); (first | refine df 2 ?_ | refine dfs 2 ?_); (first | refine df 3 ?_ | refine dfs 3 ?_); (first | refine df 4 ?_ | refine dfs 4 ?_); (first | refine df 5 ?_ | refine dfs 5 ?_); (first | refine df 6 ?_ | refine dfs 6 ?_); (first | refine df 7 ?_ | refine dfs 7 ?_); (first | refine df 8 ?_ | refine dfs 8 ?_); (first | refine dt 9 ?_ | refine dts 9 ?_); (first | refine dt 11 ?_ | refine dts 11 ?_); (first | refine dt 12 ?_ | refine dts 12 ?_); (first | refine dt 13 ?_ | refine dts 13 ?_); (first | refine dt 14 ?_ | refine dts 14 ?_); (first | refine dt 15 ?_ | refine dts 15 ?_))
      (refine dcall 10 (inb_len b (l)) (fun _ _ => ?_); try simp only [List.cons_append, List.nil_append])
      ((first | refine df 16 ?_ | refine dfs 16 ?_); refine dl ?_)
      (refine go ?_; intros)
      refine wpC_loop (σ := Nat) (fun k => k ≤ (l).length) (fun k => [(0, .slice (some ⟨b', off, none⟩) acts.length cap), (3, ptr b), (4, ptr x), (5, .int .i64 i), (12, .slice aa (l).length ca), (13, .int .i64 k)])
        (fun _ => [own H, inboxI b (l), refC x (.slice ax (l).length cx), intsI (.slice ax (l).length cx) (l), intsI (.slice aa (l).length ca) (l)])
        (fun k => (l).length - k) 0 (Nat.zero_le _) (by repeat (first | exact trivial | refine ⟨rfl, ?_⟩)) (by ((try simp only [List.cons_append, List.nil_append]); repeat (first | exact Ent.nil | (apply Ent.cons; repeat (first | exact Pick.head | apply Pick.tail))))) (fun k hk => ?_)
      by_cases hkl : k < (l).length
      · obtain ⟨ba, oa, rfl, _⟩ := hka (by omega)
        obtain ⟨bx, ox, rfl, _⟩ := hkx (by omega)
        have hcell : (ints (l))[k * 1]? = some (.int .i64 (l)[k]) := by rw [Nat.mul_one]; exact ints_get hkl
        (refine go ?_; intros)
        refine wpC_quietA ?_
        refine go ?_
        refine oq_evB (ev_load_rd rfl rfl rfl hra (by repeat (first | exact Pick.head | apply Pick.tail)) rfl hcell) ?_
        refine go ?_
        refine oq_evB (ev_load_rd rfl rfl rfl hrx (by repeat (first | exact Pick.head | apply Pick.tail)) rfl hcell) ?_
        refine go ?_
        (refine go ?_; intros)
        refine q_round (k + 1) (by omega) (by omega) (by repeat (first | exact trivial | refine ⟨rfl, ?_⟩)) (by ((try simp only [List.cons_append, List.nil_append]); repeat (first | exact Ent.nil | (apply Ent.cons; repeat (first | exact Pick.head | apply Pick.tail)))))
      · (refine go ?_; intros)
        refine q_round ⟨i + 1, l⟩ ⟨by simp only; omega, s2⟩ (by simp only; omega) (by repeat (first | exact trivial | refine ⟨rfl, ?_⟩)) ?_
        exact Ent.cons (by repeat (first | exact Pick.head | apply Pick.tail)) (Ent.cons (by repeat (first | exact Pick.head | apply Pick.tail)) (Ent.fold (.slice ax (l).length cx) trivial (by ((try simp only [List.cons_append, List.nil_append]); repeat (first | exact Ent.nil | (apply Ent.cons; repeat (first | exact Pick.head | apply Pick.tail)))))))
    by_cases hf : l.length < 16
    · (refine go ?_; intros)
      (show wpO _ _ ⟨_, .call _, _, _, _, _⟩ _ _ _ _ _ _; refine o_callA (inb_come b l kk s2 hm (by omega) (by omega) hf) (fun kq hkq => ?_); try simp only [List.cons_append, List.nil_append])
      (refine go ?_; intros)
      (show wpO _ _ ⟨_, .call _, _, _, _, _⟩ _ _ _ _ _ _; refine o_callA (ref_comeNew x l kk s2 hm (by omega) (by omega)) (fun kr hk' => ?_); try simp only [List.cons_append, List.nil_append])
      obtain rfl := Lb.eq hkq hk'
      simp only [if_pos hf, decide_eq_true hf]
      (refine go ?_; intros)
      refine wpO_ent (N := [own H, inboxI b (putIn l kq kk), refI x (putIn l kq kk)]) (by ((try simp only [List.cons_append, List.nil_append]); repeat (first | exact Ent.nil | (apply Ent.cons; repeat (first | exact Pick.head | apply Pick.tail))))) ?_
      refine wpO_unfold (.tail (.tail .head)) (fun xv _ => ?_)
      simp only [List.cons_append, List.nil_append]
      have hl' := (inOk_put s2 hkq hm (by omega) (by omega) hf).2.1
      (show wpO _ _ ⟨_, .call _, _, _, _, _⟩ _ _ _ _ _ _; refine o_callA (inb_all b (putIn l kq kk) hl') (fun va _ => ?_); try simp only [List.cons_append, List.nil_append])
      have hra : Rd (intsI va (putIn l kq kk)) 1 va (putIn l kq kk).length (ints (putIn l kq kk)) := Rd.ofSl
      have hrx : Rd (intsI xv (putIn l kq kk)) 1 xv (putIn l kq kk).length (ints (putIn l kq kk)) := Rd.ofSl
      refine wpE_fact (hra.isSlice (by repeat (first | exact Pick.head | apply Pick.tail))) (fun hka => ?_)
      refine wpE_fact (hrx.isSlice (by repeat (first | exact Pick.head | apply Pick.tail))) (fun hkx => ?_)
      obtain ⟨aa, ca, rfl, hka⟩ := hka
      obtain ⟨ax, cx, rfl, hkx⟩ := hkx
      (refine go ?_; intros)
      refine wpC_drawnA [refC x (.slice ax (putIn l kq kk).length cx)] 17 ?_
      ((first | refine dt 0 ?_ | refine dts 0 ?_); (first | refine dt 1 ?_ | refine dts 1 ?_); (first | refine df 2 ?_ | refine dfs 2 ?_); (first | refine df 3 ?_ | refine dfs 3 ?_); (first | refine df 4 ?_ | refine dfs 4 ?_); (first | refine df 5 ?_ | refine dfs 5 ?_); (first | refine df 6 ?_ | refine dfs 6 ?_); (first | refine df 7 ?_ | refine dfs 7 ?_); (first | refine df 8 ?_ | refine dfs 8 ?_); (first | refine dt 9 ?_ | refine dts 9 ?_); (first | refine dt 11 ?_ | refine dts 11 ?_); (first | refine dt 12 ?_ | refine dts 12 ?_); (first | refine dt 13 ?_ | refine dts 13 ?_); (first | refine dt 14 ?_ | refine dts 14 ?_); (first | refine dt 15 ?_ | refine dts 15 ?_))
      (refine dcall 10 (inb_len b (putIn l kq kk)) (fun _ _ => ?_); try simp only [List.cons_append, List.nil_append])
      ((first | refine df 16 ?_ | refine dfs 16 ?_); refine dl ?_)
      (refine go ?_; intros)
      refine wpC_loop (σ := Nat) (fun k => k ≤ (putIn l kq kk).length) (fun k => [(0, .slice (some ⟨b', off, none⟩) acts.length cap), (3, ptr b), (4, ptr x), (5, .int .i64 i), (12, .slice aa (putIn l kq kk).length ca), (13, .int .i64 k)])
        (fun _ => [own H, inboxI b (putIn l kq kk), refC x (.slice ax (putIn l kq kk).length cx), intsI (.slice ax (putIn l kq kk).length cx) (putIn l kq kk), intsI (.slice aa (putIn l kq kk).length ca) (putIn l kq kk)])
        (fun k => (putIn l kq kk).length - k) 0 (Nat.zero_le _) (by repeat (first | exact trivial | refine ⟨rfl, ?_⟩)) (by ((try simp only [List.cons_append, List.nil_append]); repeat (first | exact Ent.nil | (apply Ent.cons; repeat (first | exact Pick.head | apply Pick.tail))))) (fun k hk => ?_)
      by_cases hkl : k < (putIn l kq kk).length
      · obtain ⟨ba, oa, rfl, _⟩ := hka (by omega)
        obtain ⟨bx, ox, rfl, _⟩ := hkx (by omega)
        have hcell : (ints (putIn l kq kk))[k * 1]? = some (.int .i64 (putIn l kq kk)[k]) := by rw [Nat.mul_one]; exact ints_get hkl
        (refine go ?_; intros)
        refine wpC_quietA ?_
        refine go ?_
        refine oq_evB (ev_load_rd rfl rfl rfl hra (by repeat (first | exact Pick.head | apply Pick.tail)) rfl hcell) ?_
        refine go ?_
        refine oq_evB (ev_load_rd rfl rfl rfl hrx (by repeat (first | exact Pick.head | apply Pick.tail)) rfl hcell) ?_
        refine go ?_
        (refine go ?_; intros)
        refine q_round (k + 1) (by omega) (by omega) (by repeat (first | exact trivial | refine ⟨rfl, ?_⟩)) (by ((try simp only [List.cons_append, List.nil_append]); repeat (first | exact Ent.nil | (apply Ent.cons; repeat (first | exact Pick.head | apply Pick.tail)))))
      · (refine go ?_; intros)
        refine q_round ⟨i + 1, putIn l kq kk⟩ ⟨by simp only; omega, inOk_put s2 hkq hm (by omega) (by omega) hf⟩ (by simp only; omega) (by repeat (first | exact trivial | refine ⟨rfl, ?_⟩)) ?_
        exact Ent.cons (by repeat (first | exact Pick.head | apply Pick.tail)) (Ent.cons (by repeat (first | exact Pick.head | apply Pick.tail)) (Ent.fold (.slice ax (putIn l kq kk).length cx) trivial (by ((try simp only [List.cons_append, List.nil_append]); repeat (first | exact Ent.nil | (apply Ent.cons; repeat (first | exact Pick.head | apply Pick.tail)))))))
    · (refine go ?_; intros)
      (show wpO _ _ ⟨_, .call _, _, _, _, _⟩ _ _ _ _ _ _; refine o_callA (inb_comeFull b l kk s2 hm (by omega) (by omega) (by omega)) (fun _ _ => ?_); try simp only [List.cons_append, List.nil_append])
      (refine go ?_; intros)
      (show wpO _ _ ⟨_, .call _, _, _, _, _⟩ _ _ _ _ _ _; refine o_callA (ref_comeNew x l kk s2 hm (by omega) (by omega)) (fun kr hk' => ?_); try simp only [List.cons_append, List.nil_append])
      simp only [if_neg hf, decide_eq_false hf]
      (refine go ?_; intros)
      refine wpO_ent (N := [own H, inboxI b l, refI x l]) (by ((try simp only [List.cons_append, List.nil_append]); repeat (first | exact Ent.nil | (apply Ent.cons; repeat (first | exact Pick.head | apply Pick.tail))))) ?_
      refine wpO_unfold (.tail (.tail .head)) (fun xv _ => ?_)
      simp only [List.cons_append, List.nil_append]
      have hl' := (s2).2.1
      (show wpO _ _ ⟨_, .call _, _, _, _, _⟩ _ _ _ _ _ _; refine o_callA (inb_all b (l) hl') (fun va _ => ?_); try simp only [List.cons_append, List.nil_append])
      have hra : Rd (intsI va (l)) 1 va (l).length (ints (l)) := Rd.ofSl
      have hrx : Rd (intsI xv (l)) 1 xv (l).length (ints (l)) := Rd.ofSl
      refine wpE_fact (hra.isSlice (by repeat (first | exact Pick.head | apply Pick.tail))) (fun hka => ?_)
      refine wpE_fact (hrx.isSlice (by repeat (first | exact Pick.head | apply Pick.tail))) (fun hkx => ?_)
      obtain ⟨aa, ca, rfl, hka⟩ := hka
      obtain ⟨ax, cx, rfl, hkx⟩ := hkx
      (refine go ?_; intros)
      refine wpC_drawnA [refC x (.slice ax (l).length cx)] 17 ?_
      ((first | refine dt 0 ?_ | refine dts 0 ?_); (first | refine dt 1 ?_ | refine dts 1 ?_); (first | refine df 2 ?_ | refine dfs 2 ?_); (first | refine df 3 ?_ | refine dfs 3 ?_); (first | refine df 4 ?_ | refine dfs 4 ?_); (first | refine df 5 ?_ | refine dfs 5 ?_); (first | refine df 6 ?_ | refine dfs 6 ?_); (first | refine df 7 ?_ | refine dfs 7 ?_); (first | refine df 8 ?_ | refine dfs 8 ?_); (first | refine dt 9 ?_ | refine dts 9 ?_); (first | refine dt 11 ?_ | refine dts 11 ?_); (first | refine dt 12 ?_ | refine dts 12 ?_); (first | refine dt 13 ?_ | refine dts 13 ?_); (first | refine dt 14 ?_ | refine dts 14 ?_); (first | refine dt 15 ?_ | refine dts 15 ?_))
      (refine dcall 10 (inb_len b (l)) (fun _ _ => ?_); try simp only [List.cons_append, List.nil_append])
      ((first | refine df 16 ?_ | refine dfs 16 ?_); refine dl ?_)
      (refine go ?_; intros)
      refine wpC_loop (σ := Nat) (fun k => k ≤ (l).length) (fun k => [(0, .slice (some ⟨b', off, none⟩) acts.length cap), (3, ptr b), (4, ptr x), (5, .int .i64 i), (12, .slice aa (l).length ca), (13, .int .i64 k)])
        (fun _ => [own H, inboxI b (l), refC x (.slice ax (l).length cx), intsI (.slice ax (l).length cx) (l), intsI (.slice aa (l).length ca) (l)])
        (fun k => (l).length - k) 0 (Nat.zero_le _) (by repeat (first | exact trivial | refine ⟨rfl, ?_⟩)) (by ((try simp only [List.cons_append, List.nil_append]); repeat (first | exact Ent.nil | (apply Ent.cons; repeat (first | exact Pick.head | apply Pick.tail))))) (fun k hk => ?_)
      by_cases hkl : k < (l).length
      · obtain ⟨ba, oa, rfl, _⟩ := hka (by omega)
        obtain ⟨bx, ox, rfl, _⟩ := hkx (by omega)
        have hcell : (ints (l))[k * 1]? = some (.int .i64 (l)[k]) := by rw [Nat.mul_one]; exact ints_get hkl
        (refine go ?_; intros)
        refine wpC_quietA ?_
        refine go ?_
        refine oq_evB (ev_load_rd rfl rfl rfl hra (by repeat (first | exact Pick.head | apply Pick.tail)) rfl hcell) ?_
        refine go ?_
        refine oq_evB (ev_load_rd rfl rfl rfl hrx (by repeat (first | exact Pick.head | apply Pick.tail)) rfl hcell) ?_
        refine go ?_
        (refine go ?_; intros)
        refine q_round (k + 1) (by omega) (by omega) (by repeat (first | exact trivial | refine ⟨rfl, ?_⟩)) (by ((try simp only [List.cons_append, List.nil_append]); repeat (first | exact Ent.nil | (apply Ent.cons; repeat (first | exact Pick.head | apply Pick.tail)))))
      · (refine go ?_; intros)
        refine q_round ⟨i + 1, l⟩ ⟨by simp only; omega, s2⟩ (by simp only; omega) (by repeat (first | exact trivial | refine ⟨rfl, ?_⟩)) ?_
        exact Ent.cons (by repeat (first | exact Pick.head | apply Pick.tail)) (Ent.cons (by repeat (first | exact Pick.head | apply Pick.tail)) (Ent.fold (.slice ax (l).length cx) trivial (by ((try simp only [List.cons_append, List.nil_append]); repeat (first | exact Ent.nil | (apply Ent.cons; repeat (first | exact Pick.head | apply Pick.tail)))))))
  · by_cases hi1 : i < acts.length
    all_goals
      (refine go ?_; intros)
      (show wpO _ _ ⟨_, .call _, _, _, _, _⟩ _ _ _ _ _ _; refine o_callA (law_awake) (fun _ _ => ?_); try simp only [List.cons_append, List.nil_append])
      (refine go ?_; intros)
      refine q_ret1 rfl rfl () rfl trivial ?_
      ((try simp only [List.cons_append, List.nil_append]); repeat (first | exact Ent.nil | (apply Ent.cons; repeat (first | exact Pick.head | apply Pick.tail))))
end Go.Proofs.Ytkkhklamcmbodaa
