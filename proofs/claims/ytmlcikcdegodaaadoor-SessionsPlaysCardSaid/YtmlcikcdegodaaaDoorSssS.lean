/-
  The two sides held against each other: just the same slots, with their sessions.
-/
import Derived.Test.YtmlcikcdegodaaaDoorPlN
import Derived.Test.YtmlcikcdegodaaaDoorSssL
import Derived.Test.YtmlcikcdegodaaaDoorSsD
set_option linter.unusedSimpArgs false
set_option linter.unusedVariables false
set_option maxRecDepth 20000
namespace Go.Proofs.YtmlcikcdegodaaaDoor
open Go Go.Sx
structure StSt where
  i : Nat
  v : Value
theorem takeN_at {L : List Slot} {i p : Nat} {z : Ses} (h : L[i]? = some (some (p, z))) : takeN L (entN L (i + 1)) = takeN L (entN L i) ++ [(i : Int)] := by
  have he := ent_at h
  obtain ⟨hk, e⟩ := List.getElem?_eq_some_iff.1 he
  rw [entN_step h]
  simp only [Option.isSome_some, if_true]
  rw [takeN_snoc L _ hk, e]
theorem takeN_free {L : List Slot} {i : Nat} (h : L[i]? = some none) : takeN L (entN L (i + 1)) = takeN L (entN L i) := by
  rw [entN_step h]; rfl
theorem takeN_end {L : List Slot} (h : L.length = 8) : takeN L (entN L 8) = takenL L := by
  have := entN_len L
  rw [h] at this
  rw [this, ← takeN_all L, List.length_map]
theorem entN_le {L : List Slot} (i : Nat) : entN L i ≤ (entF 0 L).length := by
  unfold entN
  rw [entF_len]
  exact (List.Sublist.filter _ (List.take_sublist i L)).length_le
attribute [local irreducible] MidQ wpE wpO wpC qE wpQ wpQO wpH wpHO wpD wpDO wpZ Ev own emp exI sl ch PostS LoopQ Rd rowsAt
theorem rss_dropA (x : Nat) (L : List Slot) (h : L.length = 8) (i : Int) : FnDoes Tryd.prog 20 [ptr x, .int .i64 i] [rssC x L, rssS L] (fun _ : Unit => True) (fun _ => .bool (dropR L i).b) (fun _ => [rssC x (dropR L i).L, rssS (dropR L i).L]) := by
  rcases slotAt h i with c | ⟨k, rfl, c⟩ | ⟨k, p, z, rfl, c⟩
  · rw [dropR_out c]; exact rss_dropO x L i c
  · rw [dropR_free c]; exact rss_dropF x L h k c
  · rw [dropR_taken h c]; exact rss_drop x L h k p z c
set_option maxHeartbeats 4000000 in
theorem law_stands (t x : Nat) (L R : List Slot) (hL : L.length = 8) (hR : R.length = 8) (hz : zz L = zz R) : FnDoes Tryd.prog 23 [ptr t, ptr x] [sssC t L, sssS L, rssC x R, rssS R] (fun _ : Unit => True) (fun _ => .bool true) (fun _ => [sssC t L, sssS L, rssC x R, rssS R]) := by
  have h8 := entF_len8 hL
  refine does_of Tryd.func23 rfl rfl Tryd.ntmps23 rfl (by simp only [enum, Nat.reduceAdd, Nat.zero_add]; exact rfl) (fun c => ?_)
  (refine go ?_; intros)
  refine wpC_loop (σ := StSt) (fun y => y.i ≤ 8) (fun y => [(0, ptr t), (1, ptr x), (5, y.v), (6, .int .i64 y.i)]) (fun y => [sssC t L, sssS L, rssC x R, rssS R, intsI y.v (takeN L (entN L y.i))]) (fun y => 8 - y.i) ⟨0, .slice none 0 0⟩ (Nat.zero_le _) (by repeat (first | exact trivial | refine ⟨rfl, ?_⟩)) (Ent.cons (by repeat (first | exact Pick.head | apply Pick.tail)) (Ent.cons (by repeat (first | exact Pick.head | apply Pick.tail)) (Ent.cons (by repeat (first | exact Pick.head | apply Pick.tail)) (Ent.cons (by repeat (first | exact Pick.head | apply Pick.tail)) (Ent.slNil Ent.nil))))) (fun y hy => ?_)
  obtain ⟨i, v⟩ := y
  simp only at hy ⊢
  refine wpC_fact (sl_one (v := v) (by repeat (first | exact Pick.head | apply Pick.tail))) (fun hv1 => ?_)
  by_cases hl : i < 8
  · obtain ⟨o, ho⟩ := get8 hL hl
    cases o with
    | none =>
      have hf := ref_hasF (zz_free hz ho)
      (refine go ?_; intros)
      (show wpO _ _ ⟨_, .call _, _, _, _, _⟩ _ _ _ _ _ _; refine o_callA (sss_atF t L hL i ho) (fun _ _ => ?_); try simp only [List.cons_append, List.nil_append])
      (refine go ?_; intros)
      refine q_round ⟨i + 1, v⟩ hl (by simp only; omega) (by repeat (first | exact trivial | refine ⟨rfl, ?_⟩)) ?_
      simp only
      rw [takeN_free ho]
      ((try simp only [List.cons_append, List.nil_append]); repeat (first | exact Ent.nil | (apply Ent.cons; repeat (first | exact Pick.head | apply Pick.tail))))
    | some o =>
      obtain ⟨p, z⟩ := o
      obtain ⟨q, hq⟩ := zz_taken hz ho
      have hf := ref_hasT hq
      have hlen := takeN_len L (entN L i) (entN_le i)
      have hle := entN_le (L := L) i
      (refine go ?_; intros)
      (show wpO _ _ ⟨_, .call _, _, _, _, _⟩ _ _ _ _ _ _; refine o_callA (sss_atT t L hL i p z ho) (fun _ _ => ?_); try simp only [List.cons_append, List.nil_append])
      (refine go ?_; intro bb)
      refine o_append (sz := 1) (news := [.int .i64 i]) (m := 1) rfl rfl rfl rfl rfl rfl rfl rfl (by repeat (first | exact Pick.head | apply Pick.tail)) ?_ ?_ rfl (fun w' => ?_)
      · exact src_pts rfl (by repeat (first | exact Pick.head | apply Pick.tail)) rfl rfl rfl
      · show (_ + 1) * 8 ≤ 140737488355328
        omega
      rw [intsI_snoc, ← takeN_at ho]
      refine wpE_fact (sl_one (v := w') (by repeat (first | exact Pick.head | apply Pick.tail))) (fun hw' => ?_)
      (refine go ?_; intros)
      refine wpC_ent (sss_out ho (by repeat (first | exact Pick.head | apply Pick.tail))) ?_
      refine wpC_ent (rss_out hq (by repeat (first | exact Pick.head | apply Pick.tail))) ?_
      refine wpC_unfold .head (fun pp W => ?_)
      simp only [List.cons_append, List.nil_append]
      refine wpC_unfold (.tail (.tail (.tail .head))) (fun vq hvq => ?_)
      simp only [List.cons_append, List.nil_append]
      have hrq : Rd (sl 51 4 vq z.q.length (msgCells z.q)) 4 vq z.q.length (msgCells z.q) := Rd.ofSl
      refine wpC_fact (hrq.isSlice (by repeat (first | exact Pick.head | apply Pick.tail))) (fun hkq => ?_)
      obtain ⟨qa, qc, rfl, hkq⟩ := hkq
      refine wpC_drawnA [rssC x R, rseC q pp z.client z.clean z.online, pts pp.q (.cells [.slice qa z.q.length qc, .int .i64 (16 : Nat), .int .i64 z.lost].toArray 97 (0, 0))] 44 ?_
      ((first | refine dt 0 ?_ | refine dts 0 ?_); (first | refine dt 2 ?_ | refine dts 2 ?_); (first | refine dt 3 ?_ | refine dts 3 ?_); (first | refine dt 4 ?_ | refine dts 4 ?_); (first | refine dt 5 ?_ | refine dts 5 ?_); (first | refine dt 6 ?_ | refine dts 6 ?_); (first | refine dt 7 ?_ | refine dts 7 ?_); (first | refine dt 8 ?_ | refine dts 8 ?_); (first | refine dt 9 ?_ | refine dts 9 ?_); (first | refine dt 10 ?_ | refine dts 10 ?_))
      (refine dcall 1 (ses_client p z) (fun _ _ => ?_); try simp only [List.cons_append, List.nil_append])
      ((first | refine df 11 ?_ | refine dfs 11 ?_); (first | refine df 12 ?_ | refine dfs 12 ?_); (first | refine dt 13 ?_ | refine dts 13 ?_); (first | refine dt 15 ?_ | refine dts 15 ?_); (first | refine dt 16 ?_ | refine dts 16 ?_); (first | refine dt 17 ?_ | refine dts 17 ?_); (first | refine dt 18 ?_ | refine dts 18 ?_); (first | refine dt 19 ?_ | refine dts 19 ?_); (first | refine dt 20 ?_ | refine dts 20 ?_); (first | refine dt 21 ?_ | refine dts 21 ?_); (first | refine dt 22 ?_ | refine dts 22 ?_); (first | refine dt 23 ?_ | refine dts 23 ?_))
      (refine dcall 14 (ses_clean p z) (fun _ _ => ?_); try simp only [List.cons_append, List.nil_append])
      ((first | refine df 24 ?_ | refine dfs 24 ?_); (first | refine df 25 ?_ | refine dfs 25 ?_); (first | refine df 26 ?_ | refine dfs 26 ?_); (first | refine dt 27 ?_ | refine dts 27 ?_); (first | refine dt 30 ?_ | refine dts 30 ?_); (first | refine dt 31 ?_ | refine dts 31 ?_); (first | refine dt 32 ?_ | refine dts 32 ?_); (first | refine dt 33 ?_ | refine dts 33 ?_); (first | refine dt 34 ?_ | refine dts 34 ?_); (first | refine dt 35 ?_ | refine dts 35 ?_); (first | refine dt 36 ?_ | refine dts 36 ?_); (first | refine dt 37 ?_ | refine dts 37 ?_); (first | refine dt 38 ?_ | refine dts 38 ?_); (first | refine dt 39 ?_ | refine dts 39 ?_); (first | refine dt 40 ?_ | refine dts 40 ?_); (first | refine dt 41 ?_ | refine dts 41 ?_); (first | refine dt 42 ?_ | refine dts 42 ?_))
      (refine dcall 28 (ses_queue p z) (fun v2 _ => ?_); try simp only [List.cons_append, List.nil_append])
      have hr2 : Rd (sl 51 4 v2 z.q.length (msgCells z.q)) 4 v2 z.q.length (msgCells z.q) := Rd.ofSl
      refine wpD_fact (hr2.isSlice (by repeat (first | exact Pick.head | apply Pick.tail))) (fun hk2 => ?_)
      obtain ⟨qa2, qc2, rfl, hk2⟩ := hk2
      ((first | refine df 29 ?_ | refine dfs 29 ?_); (first | refine df 43 ?_ | refine dfs 43 ?_); refine dl ?_)
      (refine go ?_; intros)
      refine q_round ⟨i + 1, w'⟩ hl (by simp only; omega) (by repeat (first | exact trivial | refine ⟨rfl, ?_⟩)) ?_
      refine Ent.trans (N := rseI q z :: rssR R i :: sesI p z :: sssR L i :: [sssC t L, rssC x R, intsI w' (takeN L (entN L (i + 1)))]) (Ent.fold (σ := RsP) (φ := fun _ => SesOk z) pp W (Ent.cons (by repeat (first | exact Pick.head | apply Pick.tail)) (Ent.cons (by repeat (first | exact Pick.head | apply Pick.tail)) (Ent.cons (by repeat (first | exact Pick.head | apply Pick.tail)) (Ent.fold (σ := Value) (.slice qa z.q.length qc) hvq (by ((try simp only [List.cons_append, List.nil_append]); repeat (first | exact Ent.nil | (apply Ent.cons; repeat (first | exact Pick.head | apply Pick.tail)))))))))) ?_
      refine Ent.trans (rss_in hq .head .head) ?_
      exact Ent.trans (N := sssS L :: rssS R :: [sssC t L, rssC x R, intsI w' (takeN L (entN L (i + 1)))]) (Ent.trans (N := sesI p z :: sssR L i :: rssS R :: [sssC t L, rssC x R, intsI w' (takeN L (entN L (i + 1)))]) (by ((try simp only [List.cons_append, List.nil_append]); repeat (first | exact Ent.nil | (apply Ent.cons; repeat (first | exact Pick.head | apply Pick.tail))))) (sss_in ho .head .head)) (by ((try simp only [List.cons_append, List.nil_append]); repeat (first | exact Ent.nil | (apply Ent.cons; repeat (first | exact Pick.head | apply Pick.tail)))))
  · obtain rfl : i = 8 := by omega
    rw [takeN_end hL]
    have htl : (takenL L).length ≤ 8 := by unfold takenL; rw [List.length_map]; exact h8
    have hrv : Rd (intsI v (takenL L)) 1 v (takenL L).length (ints (takenL L)) := Rd.ofSl
    refine wpC_fact (hrv.isSlice (by repeat (first | exact Pick.head | apply Pick.tail))) (fun hk => ?_)
    obtain ⟨va, vc, rfl, hk⟩ := hk
    (refine go ?_; intros)
    (show wpO _ _ ⟨_, .call _, _, _, _, _⟩ _ _ _ _ _ _; refine o_callA (sss_all t L hL) (fun w _ => ?_); try simp only [List.cons_append, List.nil_append])
    have hrw : Rd (intsI w (takenL L)) 1 w (takenL L).length (ints (takenL L)) := Rd.ofSl
    refine wpE_fact (hrw.isSlice (by repeat (first | exact Pick.head | apply Pick.tail))) (fun hkw => ?_)
    obtain ⟨wa, wc, rfl, hkw⟩ := hkw
    (refine go ?_; intros)
    (show wpO _ _ ⟨_, .call _, _, _, _, _⟩ _ _ _ _ _ _; refine o_callA (sss_len t L hL) (fun _ _ => ?_); try simp only [List.cons_append, List.nil_append])
    (refine go ?_; intros)
    refine wpC_loop (σ := Nat) (fun k => k ≤ (takenL L).length) (fun k => [(5, .slice va (takenL L).length vc), (8, .slice wa (takenL L).length wc), (9, .int .i64 k)]) (fun _ => [sssC t L, sssS L, rssC x R, rssS R, intsI (.slice va (takenL L).length vc) (takenL L), intsI (.slice wa (takenL L).length wc) (takenL L)]) (fun k => (takenL L).length - k) 0 (Nat.zero_le _) (by repeat (first | exact trivial | refine ⟨rfl, ?_⟩)) (by ((try simp only [List.cons_append, List.nil_append]); repeat (first | exact Ent.nil | (apply Ent.cons; repeat (first | exact Pick.head | apply Pick.tail))))) (fun k hkk => ?_)
    by_cases hkl : k < (takenL L).length
    · obtain ⟨vb, vo, rfl, _⟩ := hk (by omega)
      obtain ⟨wb, wo, rfl, _⟩ := hkw (by omega)
      have hcell : (ints (takenL L))[k * 1]? = some (.int .i64 (takenL L)[k]) := by rw [Nat.mul_one]; exact ints_get hkl
      (refine go ?_; intros)
      refine wpC_drawnA [intsI (.slice (some ⟨vb, vo, none⟩) (takenL L).length vc) (takenL L), intsI (.slice (some ⟨wb, wo, none⟩) (takenL L).length wc) (takenL L)] 8 ?_
      ((first | refine dt 0 ?_ | refine dts 0 ?_); (first | refine dt 1 ?_ | refine dts 1 ?_))
      refine dtB 2 rfl (ev_indexS 1 rfl rfl rfl rfl rfl rfl hkl) ?_
      refine dtB 3 rfl (ev_load_rd rfl rfl rfl hrw (by repeat (first | exact Pick.head | apply Pick.tail)) rfl hcell) ?_
      ((first | refine dt 4 ?_ | refine dts 4 ?_); (first | refine df 5 ?_ | refine dfs 5 ?_))
      refine dfB 6 rfl (ev_indexS 1 rfl rfl rfl rfl rfl rfl hkl) ?_
      refine dfB 7 rfl (ev_load_rd rfl rfl rfl hrv (by repeat (first | exact Pick.head | apply Pick.tail)) rfl hcell) ?_
      (refine dl ?_)
      (refine go ?_; intros)
      refine q_round (k + 1) (by omega) (by omega) (by repeat (first | exact trivial | refine ⟨rfl, ?_⟩)) (by ((try simp only [List.cons_append, List.nil_append]); repeat (first | exact Ent.nil | (apply Ent.cons; repeat (first | exact Pick.head | apply Pick.tail)))))
    · (refine go ?_; intros)
      exact q_ret1 rfl rfl () rfl trivial (by ((try simp only [List.cons_append, List.nil_append]); repeat (first | exact Ent.nil | (apply Ent.cons; repeat (first | exact Pick.head | apply Pick.tail)))))
end Go.Proofs.YtmlcikcdegodaaaDoor
