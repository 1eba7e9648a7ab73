/-
  What is sent for the first time; all that is on its way, answered.
-/
import Derived.Test.YtaodhkiejnipmaaDoorSesL
import Derived.Test.YtaodhkiejnipmaaDoorSesP
set_option linter.unusedSimpArgs false
set_option linter.unusedVariables false
set_option maxRecDepth 20000
namespace Go.Proofs.YtaodhkiejnipmaaDoor
open Go Go.Sx
def strs (l : List ByteArray) : List Value := l.map Value.string
abbrev strsI (v : Value) (l : List ByteArray) : HProp := sl 9 1 v l.length (strs l)
theorem strs_app (v : Value) (l m : List ByteArray) : sl 9 1 v (l.length + m.length) (strs l ++ strs m) = strsI v (l ++ m) := by simp [strsI, strs]
theorem strs_one (v : Value) (l : List ByteArray) (t : ByteArray) : sl 9 1 v (l.length + 1) (strs l ++ [.string t]) = strsI v (l ++ [t]) := by simp [strsI, strs]
theorem pkt_cell {ps : List PPkt} {i j : Nat} {u : Value} (h : i < ps.length) (e : (pktC ps[i])[j]? = some u) : (ps.flatMap pktC)[i * 24 + j]? = some u := fm_get pktC_len ps i h j u e
theorem firsts_snoc {l : List PPkt} {j : Nat} (h : j < l.length) : firstsF (l.take (j + 1)) = firstsF (l.take j) ++ (if firstP l[j] then [l[j].m.text] else []) := by
  have e : l.take (j + 1) = l.take j ++ [l[j]] := by rw [List.take_add_one, List.getElem?_eq_getElem h]; rfl
  rw [e, firstsF_app]
  congr 1
  unfold firstsF
  by_cases c : firstP l[j] = true
  · simp [c]
  · simp [c]
theorem firsts_len (l : List PPkt) : (firstsF l).length ≤ l.length := by
  unfold firstsF
  rw [List.length_map]
  exact List.length_filter_le _ _
structure WSt where
  j : Nat
  w : Value
attribute [local irreducible] MidQ wpE wpO wpC qE wpQ wpQO wpH wpHO wpD wpDO wpZ Ev own emp exI sl ch PostS LoopQ Rd rowsAt
theorem law_firsts (v : Value) (l : List PPkt) (hl : l.length ≤ 1000) : FnDoes Tryd.prog 14 [v] [pktsI v l] (fun _ : Value => True) (fun w => w) (fun w => [pktsI v l, strsI w (firstsF l)]) := by
  refine does_of Tryd.func14 rfl rfl Tryd.ntmps14 rfl (by simp only [enum, Nat.reduceAdd, Nat.zero_add]; exact rfl) (fun c => ?_)
  have hr : Rd (pktsI v l) 24 v l.length (l.flatMap pktC) := Rd.ofSl
  refine wpC_fact (hr.isSlice (by repeat (first | exact Pick.head | apply Pick.tail))) (fun hk => ?_)
  obtain ⟨a, cap, rfl, hk⟩ := hk
  (refine go ?_; intros)
  refine wpC_loop (σ := WSt) (fun x => x.j ≤ l.length) (fun x => [(0, .slice a l.length cap), (3, x.w), (4, .int .i64 x.j)])
    (fun x => [pktsI (.slice a l.length cap) l, strsI x.w (firstsF (l.take x.j))]) (fun x => l.length - x.j) ⟨0, .slice none 0 0⟩ (Nat.zero_le _) (by repeat (first | exact trivial | refine ⟨rfl, ?_⟩)) (Ent.cons (by repeat (first | exact Pick.head | apply Pick.tail)) (Ent.slNil Ent.nil)) (fun x hx => ?_)
  obtain ⟨j, w⟩ := x
  simp only at hx ⊢
  by_cases hj : j < l.length
  · obtain ⟨b, o, rfl, _⟩ := hk (by omega)
    have hc0 : (l.flatMap pktC)[j * 24 + 0]? = some (.int .i64 l[j].kind) := pkt_cell hj rfl
    have hc2 : (l.flatMap pktC)[j * 24 + 2]? = some (.bool l[j].dup) := pkt_cell hj rfl
    have hc4 : (l.flatMap pktC)[j * 24 + 4]? = some (.string l[j].m.text) := pkt_cell hj rfl
    have hs := firsts_snoc hj
    have hlen := firsts_len (l.take j)
    rw [List.length_take] at hlen
    by_cases k3 : l[j].kind = 3
    · rcases hd : l[j].dup with _ | _
      · have hf : firstP l[j] = true := by unfold firstP; rw [k3, hd]; rfl
        rw [hf, if_pos rfl] at hs
        (refine go ?_; intros)
        refine o_evB (ev_indexS 24 rfl rfl rfl rfl rfl rfl hj) ?_
        (refine go ?_; intros)
        refine o_evB (ev_load_rd rfl rfl rfl hr (by repeat (first | exact Pick.head | apply Pick.tail)) rfl hc0) ?_
        (refine go ?_; intros)
        refine o_evB (ev_indexS 24 rfl rfl rfl rfl rfl rfl hj) ?_
        (refine go ?_; intros)
        refine o_evB (ev_load_rd rfl rfl rfl hr (by repeat (first | exact Pick.head | apply Pick.tail)) rfl hc2) ?_
        rw [hd]
        (refine go ?_; intros)
        refine o_evB (ev_indexS 24 rfl rfl rfl rfl rfl rfl hj) ?_
        (refine go ?_; intros)
        refine o_evB (ev_load_rd rfl rfl rfl hr (by repeat (first | exact Pick.head | apply Pick.tail)) rfl hc4) ?_
        (refine go ?_; intro eb)
        refine o_append (sz := 1) (news := [.string l[j].m.text]) (m := 1) rfl rfl rfl rfl rfl rfl rfl rfl (by repeat (first | exact Pick.head | apply Pick.tail)) ?_ ?_ rfl (fun w' => ?_)
        · exact src_pts rfl (by repeat (first | exact Pick.head | apply Pick.tail)) rfl rfl rfl
        · show ((firstsF (l.take j)).length + 1) * 16 ≤ 140737488355328
          omega
        rw [strs_one, ← hs]
        (refine go ?_; intros)
        refine q_round ⟨j + 1, w'⟩ (by simp only; omega) (by simp only; omega) (by repeat (first | exact trivial | refine ⟨rfl, ?_⟩)) (by ((try simp only [List.cons_append, List.nil_append]); repeat (first | exact Ent.nil | (apply Ent.cons; repeat (first | exact Pick.head | apply Pick.tail)))))
      · have hf : firstP l[j] = false := by unfold firstP; rw [hd]; simp
        rw [hf] at hs
        simp only [Bool.false_eq_true, if_false, List.append_nil] at hs
        (refine go ?_; intros)
        refine o_evB (ev_indexS 24 rfl rfl rfl rfl rfl rfl hj) ?_
        (refine go ?_; intros)
        refine o_evB (ev_load_rd rfl rfl rfl hr (by repeat (first | exact Pick.head | apply Pick.tail)) rfl hc0) ?_
        (refine go ?_; intros)
        refine o_evB (ev_indexS 24 rfl rfl rfl rfl rfl rfl hj) ?_
        (refine go ?_; intros)
        refine o_evB (ev_load_rd rfl rfl rfl hr (by repeat (first | exact Pick.head | apply Pick.tail)) rfl hc2) ?_
        rw [hd]
        (refine go ?_; intros)
        rw [← hs]
        refine q_round ⟨j + 1, w⟩ (by simp only; omega) (by simp only; omega) (by repeat (first | exact trivial | refine ⟨rfl, ?_⟩)) (by ((try simp only [List.cons_append, List.nil_append]); repeat (first | exact Ent.nil | (apply Ent.cons; repeat (first | exact Pick.head | apply Pick.tail)))))
    · have hf : firstP l[j] = false := by unfold firstP; rw [decide_eq_false k3]; rfl
      rw [hf] at hs
      simp only [Bool.false_eq_true, if_false, List.append_nil] at hs
      (refine go ?_; intros)
      refine o_evB (ev_indexS 24 rfl rfl rfl rfl rfl rfl hj) ?_
      (refine go ?_; intros)
      refine o_evB (ev_load_rd rfl rfl rfl hr (by repeat (first | exact Pick.head | apply Pick.tail)) rfl hc0) ?_
      (refine go ?_; intros)
      rw [← hs]
      refine q_round ⟨j + 1, w⟩ (by simp only; omega) (by simp only; omega) (by repeat (first | exact trivial | refine ⟨rfl, ?_⟩)) (by ((try simp only [List.cons_append, List.nil_append]); repeat (first | exact Ent.nil | (apply Ent.cons; repeat (first | exact Pick.head | apply Pick.tail)))))
  · obtain rfl : j = l.length := by omega
    rw [List.take_length]
    (refine go ?_; intros)
    exact q_ret1 rfl rfl w rfl trivial (by ((try simp only [List.cons_append, List.nil_append]); repeat (first | exact Ent.nil | (apply Ent.cons; repeat (first | exact Pick.head | apply Pick.tail)))))
theorem ansP_len {z : Ses} (h : SesOk z) (k id : Int) : (ansP z k id).length ≤ 9 := by
  unfold ansP
  split
  · have h1 := fillP_len (ok_ans' k id h)
    have h2 : (ansO z.L k id).length ≤ 1 := by unfold ansO; split <;> simp
    rw [List.length_append]; omega
  · simp
theorem all_len (l : List PSent) (z : Ses) : (allT z l).length ≤ z.q.length := by
  have := congrArg List.length (all_txt l z)
  rw [List.length_append] at this
  simp only [txt, List.length_map] at this
  omega
theorem ansT_len {z : Ses} (h : SesOk z) (k id : Int) : (firstsF (ansP z k id)).length ≤ 9 := Nat.le_trans (firsts_len _) (ansP_len h k id)
theorem law_answer (s : Nat) (z : Ses) (W : SesOk z) : FnDoes Tryd.prog 16 [ptr s] [sesI s z] (fun _ : Value => True) (fun w => w) (fun w => [sesI s (allZ z z.L), strsI w (allT z z.L)]) := by
  refine does_of Tryd.func16 rfl rfl Tryd.ntmps16 rfl (by simp only [enum, Nat.reduceAdd, Nat.zero_add]; exact rfl) (fun c => ?_)
  obtain ⟨l, hL⟩ : ∃ l, z.L = l := ⟨_, rfl⟩
  have hl8 := W.Ll
  have hq16 := W.ql
  rw [hL] at hl8 ⊢
  (refine go ?_; intros)
  (show wpO _ _ ⟨_, .call _, _, _, _, _⟩ _ _ _ _ _ _; refine o_callA (ses_flight s z) (fun v _ => ?_); try simp only [List.cons_append, List.nil_append])
  rw [hL]
  have hr : Rd (sentsI v l) 6 v l.length (l.flatMap sentC) := Rd.ofSl
  refine wpE_fact (hr.isSlice (by repeat (first | exact Pick.head | apply Pick.tail))) (fun hk => ?_)
  obtain ⟨a, cap, rfl, hk⟩ := hk
  (refine go ?_; intros)
  refine wpC_loop (σ := WSt) (fun x => x.j ≤ l.length) (fun x => [(0, ptr s), (3, x.w), (4, .slice a l.length cap), (5, .int .i64 x.j)])
    (fun x => [sesI s (allZ z (l.take x.j)), sentsI (.slice a l.length cap) l, strsI x.w (allT z (l.take x.j))]) (fun x => l.length - x.j) ⟨0, .slice none 0 0⟩ (Nat.zero_le _) (by repeat (first | exact trivial | refine ⟨rfl, ?_⟩)) (Ent.cons (by repeat (first | exact Pick.head | apply Pick.tail)) (Ent.cons (by repeat (first | exact Pick.head | apply Pick.tail)) (Ent.slNil Ent.nil))) (fun x hx => ?_)
  obtain ⟨j, w⟩ := x
  simp only at hx ⊢
  by_cases hj : j < l.length
  · obtain ⟨b, o, rfl, _⟩ := hk (by omega)
    have e1 : l.take (j + 1) = l.take j ++ [l[j]] := by rw [List.take_add_one, List.getElem?_eq_getElem hj]; rfl
    obtain ⟨z1, z2⟩ := allZ_snoc (l.take j) z l[j]
    rw [← e1] at z1 z2
    have hlen := all_len (l.take j) z
    have hc0 : (l.flatMap sentC)[j * 6 + 0]? = some (.int .i64 l[j].id) := sent_cell hj rfl
    have hc1 : (l.flatMap sentC)[j * 6 + 1]? = some (.int .i64 l[j].st) := sent_cell hj rfl
    have Wj := ok_all (l.take j) W
    generalize allZ z (l.take j) = zj at z1 z2 Wj ⊢
    generalize allT z (l.take j) = oj at z2 hlen ⊢
    by_cases h1 : l[j].st = 1
    · have ez : stepZx zj l[j] = ansZ zj 4 l[j].id := if_pos h1
      have et : stepTx zj l[j] = firstsF (ansP zj 4 l[j].id) := if_pos h1
      rw [ez] at z1
      rw [et] at z2
      have hT := ansT_len Wj 4 l[j].id
      have hP := ansP_len Wj 4 l[j].id
      (refine go ?_; intros)
      refine o_evB (ev_load_rd rfl rfl rfl hr (by repeat (first | exact Pick.head | apply Pick.tail)) rfl hc1) ?_
      (refine go ?_; intros)
      refine o_evB (ev_load_rd rfl rfl rfl hr (by repeat (first | exact Pick.head | apply Pick.tail)) rfl hc0) ?_
      (refine go ?_; intros)
      (show wpO _ _ ⟨_, .call _, _, _, _, _⟩ _ _ _ _ _ _; refine o_callA (ses_answer s zj 4 l[j].id) (fun p _ => ?_); try simp only [List.cons_append, List.nil_append])
      (refine go ?_; intros)
      (show wpO _ _ ⟨_, .call _, _, _, _, _⟩ _ _ _ _ _ _; refine o_callA (law_firsts p (ansP zj 4 l[j].id) (by omega)) (fun f _ => ?_); try simp only [List.cons_append, List.nil_append])
      (refine go ?_; intros)
      refine o_append (sz := 1) (news := strs (firstsF (ansP zj 4 l[j].id))) (m := (firstsF (ansP zj 4 l[j].id)).length) rfl rfl rfl rfl rfl rfl rfl rfl (by repeat (first | exact Pick.head | apply Pick.tail)) ?_ ?_ rfl (fun w' => ?_)
      · exact src_sl rfl (by repeat (first | exact Pick.head | apply Pick.tail))
      · show (oj.length + (firstsF (ansP zj 4 l[j].id)).length) * 16 ≤ 140737488355328
        omega
      rw [strs_app, ← z1, ← z2]
      (refine go ?_; intros)
      refine q_round ⟨j + 1, w'⟩ (by simp only; omega) (by simp only; omega) (by repeat (first | exact trivial | refine ⟨rfl, ?_⟩)) (by ((try simp only [List.cons_append, List.nil_append]); repeat (first | exact Ent.nil | (apply Ent.cons; repeat (first | exact Pick.head | apply Pick.tail)))))
    · have ez : stepZx zj l[j] = ansZ (ansZ zj 5 l[j].id) 7 l[j].id := if_neg h1
      have et : stepTx zj l[j] = firstsF (ansP zj 5 l[j].id) ++ firstsF (ansP (ansZ zj 5 l[j].id) 7 l[j].id) := if_neg h1
      rw [ez] at z1
      rw [et] at z2
      have Wk := ok_ans 5 l[j].id Wj
      have hT := ansT_len Wj 5 l[j].id
      have hP := ansP_len Wj 5 l[j].id
      have hT2 := ansT_len Wk 7 l[j].id
      have hP2 := ansP_len Wk 7 l[j].id
      (refine go ?_; intros)
      refine o_evB (ev_load_rd rfl rfl rfl hr (by repeat (first | exact Pick.head | apply Pick.tail)) rfl hc1) ?_
      (refine go ?_; intros)
      refine o_evB (ev_load_rd rfl rfl rfl hr (by repeat (first | exact Pick.head | apply Pick.tail)) rfl hc0) ?_
      (refine go ?_; intros)
      (show wpO _ _ ⟨_, .call _, _, _, _, _⟩ _ _ _ _ _ _; refine o_callA (ses_answer s zj 5 l[j].id) (fun p _ => ?_); try simp only [List.cons_append, List.nil_append])
      (refine go ?_; intros)
      (show wpO _ _ ⟨_, .call _, _, _, _, _⟩ _ _ _ _ _ _; refine o_callA (law_firsts p (ansP zj 5 l[j].id) (by omega)) (fun f _ => ?_); try simp only [List.cons_append, List.nil_append])
      (refine go ?_; intros)
      refine o_append (sz := 1) (news := strs (firstsF (ansP zj 5 l[j].id))) (m := (firstsF (ansP zj 5 l[j].id)).length) rfl rfl rfl rfl rfl rfl rfl rfl (by repeat (first | exact Pick.head | apply Pick.tail)) ?_ ?_ rfl (fun w1 => ?_)
      · exact src_sl rfl (by repeat (first | exact Pick.head | apply Pick.tail))
      · show (oj.length + (firstsF (ansP zj 5 l[j].id)).length) * 16 ≤ 140737488355328
        omega
      rw [strs_app]
      (refine go ?_; intros)
      refine o_evB (ev_load_rd rfl rfl rfl hr (by repeat (first | exact Pick.head | apply Pick.tail)) rfl hc0) ?_
      (refine go ?_; intros)
      (show wpO _ _ ⟨_, .call _, _, _, _, _⟩ _ _ _ _ _ _; refine o_callA (ses_answer s (ansZ zj 5 l[j].id) 7 l[j].id) (fun p2 _ => ?_); try simp only [List.cons_append, List.nil_append])
      (refine go ?_; intros)
      (show wpO _ _ ⟨_, .call _, _, _, _, _⟩ _ _ _ _ _ _; refine o_callA (law_firsts p2 (ansP (ansZ zj 5 l[j].id) 7 l[j].id) (by omega)) (fun f2 _ => ?_); try simp only [List.cons_append, List.nil_append])
      (refine go ?_; intros)
      refine o_append (sz := 1) (news := strs (firstsF (ansP (ansZ zj 5 l[j].id) 7 l[j].id))) (m := (firstsF (ansP (ansZ zj 5 l[j].id) 7 l[j].id)).length) rfl rfl rfl rfl rfl rfl rfl rfl (by repeat (first | exact Pick.head | apply Pick.tail)) ?_ ?_ rfl (fun w' => ?_)
      · exact src_sl rfl (by repeat (first | exact Pick.head | apply Pick.tail))
      · show ((oj ++ firstsF (ansP zj 5 l[j].id)).length + (firstsF (ansP (ansZ zj 5 l[j].id) 7 l[j].id)).length) * 16 ≤ 140737488355328
        rw [List.length_append]; omega
      rw [strs_app, ← z1, List.append_assoc, ← z2]
      (refine go ?_; intros)
      refine q_round ⟨j + 1, w'⟩ (by simp only; omega) (by simp only; omega) (by repeat (first | exact trivial | refine ⟨rfl, ?_⟩)) (by ((try simp only [List.cons_append, List.nil_append]); repeat (first | exact Ent.nil | (apply Ent.cons; repeat (first | exact Pick.head | apply Pick.tail)))))
  · obtain rfl : j = l.length := by omega
    rw [List.take_length]
    (refine go ?_; intros)
    exact q_ret1 rfl rfl w rfl trivial (by ((try simp only [List.cons_append, List.nil_append]); repeat (first | exact Ent.nil | (apply Ent.cons; repeat (first | exact Pick.head | apply Pick.tail)))))
end Go.Proofs.YtaodhkiejnipmaaDoor
