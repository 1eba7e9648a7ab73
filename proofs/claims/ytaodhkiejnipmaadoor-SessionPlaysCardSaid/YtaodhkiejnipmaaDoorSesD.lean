/-
  The two sessions held against each other; an act on both.
-/
import Derived.Test.YtaodhkiejnipmaaDoorSesR
import Derived.Test.YtaodhkiejnipmaaDoorSesL
set_option linter.unusedSimpArgs false
set_option linter.unusedVariables false
set_option maxRecDepth 20000
namespace Go.Proofs.YtaodhkiejnipmaaDoor
open Go Go.Sx
structure SAct where
  k : Int
  n : Int
  id : Int
  m : PMsg
  deriving Inhabited
def sactC (a : SAct) : List Value := [.int .i64 a.k, .int .i64 a.n, .int .i64 a.id, .string a.m.topic, .string a.m.text, .int .i64 a.m.qos, .bool a.m.retain]
def sactV (a : SAct) : Value := .agg (sactC a).toArray
noncomputable def actZ (z : Ses) (a : SAct) : Ses :=
  if a.k = 0 then attachZ z else if a.k = 1 then offZ z else if a.k = 2 ∨ a.k = 3 then delZ z a.m a.n else if a.k = 4 then ansZ z a.n a.id else if a.k = 5 then comeZ z a.id else if a.k = 6 then doneZ z a.id else z
theorem act_lost {z : Ses} (a : SAct) : (actZ z a).lost = z.lost ∨ (actZ z a).lost = z.lost + 1 := by
  unfold actZ
  split
  · left; exact (fillZ_keep _).2.2.2.1
  split
  · left; rfl
  split
  · unfold delZ
    split
    · rw [(fillZ_keep _).2.2.2.1]
      unfold putZ
      split
      · left; rfl
      · right; rfl
    · left; rfl
  split
  · left
    unfold ansZ
    split
    · exact (fillZ_keep _).2.2.2.1
    · rfl
  split
  · left; rfl
  split
  · left; rfl
  · left; rfl
theorem msg_cell {l : List PMsg} {i j : Nat} {u : Value} (h : i < l.length) (e : (l[i].cells)[j]? = some u) : (msgCells l)[i * 4 + j]? = some u := fm_get (f := PMsg.cells) (fun _ => rfl) l i h j u e
theorem pkt_cellD {ps : List PPkt} {i j : Nat} {u : Value} (h : i < ps.length) (e : (pktC ps[i])[j]? = some u) : (ps.flatMap pktC)[i * 24 + j]? = some u := fm_get pktC_len ps i h j u e
def sentVD (s : PSent) : Value := .agg (sentC s).toArray
theorem eqV_sentD (s t : PSent) : eqV Tryd.prog 6 86 (sentVD s) (sentVD t) = some ((s.id == t.id) && ((s.st == t.st) && ((decide (s.m.topic = t.m.topic) && (decide (s.m.text = t.m.text) && ((s.m.qos == t.m.qos) && ((s.m.retain == t.m.retain) && true)))) && true))) := by kernel_rfl
theorem eqV_sentD_self (s : PSent) : eqV Tryd.prog 6 86 (sentVD s) (sentVD s) = some true := by rw [eqV_sentD]; simp
theorem delP_lenD {z : Ses} (h : SesOk z) (m : PMsg) (k : Int) : (delP z m k).length ≤ 8 := by
  unfold delP
  split
  · rename_i c; exact fillP_len (ok_put h (clamp_qos c))
  · split <;> simp
theorem ansP_lenD {z : Ses} (h : SesOk z) (k id : Int) : (ansP z k id).length ≤ 9 := by
  unfold ansP
  split
  · have h1 := fillP_len (ok_ans' k id h)
    have h2 : (ansO z.L k id).length ≤ 1 := by unfold ansO; split <;> simp
    rw [List.length_append]; omega
  · simp
attribute [local irreducible] MidQ wpE wpO wpC qE wpQ wpQO wpH wpHO wpD wpDO wpZ Ev own emp exI sl ch PostS LoopQ Rd rowsAt
theorem law_packets (v1 v2 : Value) (ps : List PPkt) (hps : ps.length ≤ 1000) : FnDoes Tryd.prog 41 [v1, v2] [pktsI v1 ps, pktsI v2 ps] (fun _ : Unit => True) (fun _ => .bool true) (fun _ => []) := by
  refine does_of Tryd.func41 rfl rfl Tryd.ntmps41 rfl (by simp only [enum, Nat.reduceAdd, Nat.zero_add]; exact rfl) (fun c => ?_)
  have hr1 : Rd (pktsI v1 ps) 24 v1 ps.length (ps.flatMap pktC) := Rd.ofSl
  have hr2 : Rd (pktsI v2 ps) 24 v2 ps.length (ps.flatMap pktC) := Rd.ofSl
  refine wpC_fact (hr1.isSlice (by repeat (first | exact Pick.head | apply Pick.tail))) (fun hk1 => ?_)
  refine wpC_fact (hr2.isSlice (by repeat (first | exact Pick.head | apply Pick.tail))) (fun hk2 => ?_)
  obtain ⟨pa, pc, rfl, hk1⟩ := hk1
  obtain ⟨qa, qc, rfl, hk2⟩ := hk2
  (refine go ?_; intros)
  refine wpC_loop (σ := Nat) (fun k => k ≤ ps.length) (fun k => [(0, .slice pa ps.length pc), (1, .slice qa ps.length qc), (5, .int .i64 k)])
    (fun _ => [pktsI (.slice pa ps.length pc) ps, pktsI (.slice qa ps.length qc) ps]) (fun k => ps.length - k) 0 (Nat.zero_le _) (by repeat (first | exact trivial | refine ⟨rfl, ?_⟩)) (by ((try simp only [List.cons_append, List.nil_append]); repeat (first | exact Ent.nil | (apply Ent.cons; repeat (first | exact Pick.head | apply Pick.tail))))) (fun k hk => ?_)
  by_cases hkl : k < ps.length
  · obtain ⟨pb, po, rfl, _⟩ := hk1 (by omega)
    obtain ⟨qb, qo, rfl, _⟩ := hk2 (by omega)
    have hm : ∀ j u, (pktC ps[k])[j]? = some u → (ps.flatMap pktC)[k * 24 + j]? = some u := fun j u e => pkt_cellD hkl e
    (refine go ?_; intros)
    refine wpC_drawnA [pktsI (.slice (some ⟨pb, po, none⟩) ps.length pc) ps, pktsI (.slice (some ⟨qb, qo, none⟩) ps.length qc) ps] 9 ?_
    ((first | refine dt 0 ?_ | refine dts 0 ?_); (first | refine dt 1 ?_ | refine dts 1 ?_))
    refine dtB 2 rfl (ev_indexS 24 rfl rfl rfl rfl rfl rfl hkl) ?_
    refine dtB 3 rfl (ev_load_rd_agg (vs := pktC ps[k]) rfl rfl rfl rfl hr1 (by repeat (first | exact Pick.head | apply Pick.tail)) rfl rfl hm) ?_
    ((first | refine dt 4 ?_ | refine dts 4 ?_); (first | refine df 5 ?_ | refine dfs 5 ?_))
    refine dfB 6 rfl (ev_indexS 24 rfl rfl rfl rfl rfl rfl hkl) ?_
    refine dfB 7 rfl (ev_load_rd_agg (vs := pktC ps[k]) rfl rfl rfl rfl hr2 (by repeat (first | exact Pick.head | apply Pick.tail)) rfl rfl hm) ?_
    (refine dcall 8 (pkt_same ps[k]) (fun _ _ => ?_); try simp only [List.cons_append, List.nil_append])
    (refine dl ?_)
    (refine go ?_; intros)
    refine q_round (k + 1) (by omega) (by omega) (by repeat (first | exact trivial | refine ⟨rfl, ?_⟩)) (by ((try simp only [List.cons_append, List.nil_append]); repeat (first | exact Ent.nil | (apply Ent.cons; repeat (first | exact Pick.head | apply Pick.tail)))))
  · (refine go ?_; intros)
    exact q_ret1 rfl rfl () rfl trivial Ent.nil
set_option maxHeartbeats 8000000 in
theorem law_stands (s x : Nat) (z : Ses) : FnDoes Tryd.prog 19 [ptr s, ptr x] [sesI s z, rseI x z] (fun _ : Unit => True) (fun _ => .bool true) (fun _ => [sesI s z, rseI x z]) := by
  refine does_of Tryd.func19 rfl rfl Tryd.ntmps19 rfl (by simp only [enum, Nat.reduceAdd, Nat.zero_add]; exact rfl) (fun c => ?_)
  refine wpC_unfold (.tail .head) (fun p W => ?_)
  simp only [List.cons_append, List.nil_append]
  have hq16 := W.ql
  have hL8 := W.Ll
  have hi16 := W.io.2.1
  refine wpC_unfold (.tail .head) (fun vi hvi => ?_)
  simp only [List.cons_append, List.nil_append]
  refine wpC_unfold (.tail (.tail (.tail .head))) (fun vf hvf => ?_)
  simp only [List.cons_append, List.nil_append]
  refine wpC_unfold (.tail (.tail (.tail (.tail (.tail .head))))) (fun vq hvq => ?_)
  simp only [List.cons_append, List.nil_append]
  have hri : Rd (intsI vi z.inb) 1 vi z.inb.length (ints z.inb) := Rd.ofSl
  have hrf : Rd (sentsI vf z.L) 6 vf z.L.length (z.L.flatMap sentC) := Rd.ofSl
  have hrq : Rd (sl 30 4 vq z.q.length (msgCells z.q)) 4 vq z.q.length (msgCells z.q) := Rd.ofSl
  refine wpC_fact (hri.isSlice (by repeat (first | exact Pick.head | apply Pick.tail))) (fun hki => ?_)
  refine wpC_fact (hrf.isSlice (by repeat (first | exact Pick.head | apply Pick.tail))) (fun hkf => ?_)
  refine wpC_fact (hrq.isSlice (by repeat (first | exact Pick.head | apply Pick.tail))) (fun hkq => ?_)
  obtain ⟨ia, ic, rfl, hki⟩ := hki
  obtain ⟨fa, fc, rfl, hkf⟩ := hkf
  obtain ⟨qa, qc, rfl, hkq⟩ := hkq
  (refine go ?_; intros)
  (show wpO _ _ ⟨_, .call _, _, _, _, _⟩ _ _ _ _ _ _; refine o_callA (ses_queue s z) (fun v1 _ => ?_); try simp only [List.cons_append, List.nil_append])
  (refine go ?_; intros)
  (show wpO _ _ ⟨_, .call _, _, _, _, _⟩ _ _ _ _ _ _; refine o_callA (ses_flight s z) (fun v2 _ => ?_); try simp only [List.cons_append, List.nil_append])
  (refine go ?_; intros)
  (show wpO _ _ ⟨_, .call _, _, _, _, _⟩ _ _ _ _ _ _; refine o_callA (ses_inbox s z) (fun v3 _ => ?_); try simp only [List.cons_append, List.nil_append])
  have hr1 : Rd (sl 30 4 v1 z.q.length (msgCells z.q)) 4 v1 z.q.length (msgCells z.q) := Rd.ofSl
  have hr2 : Rd (sentsI v2 z.L) 6 v2 z.L.length (z.L.flatMap sentC) := Rd.ofSl
  have hr3 : Rd (intsI v3 z.inb) 1 v3 z.inb.length (ints z.inb) := Rd.ofSl
  refine wpE_fact (hr1.isSlice (by repeat (first | exact Pick.head | apply Pick.tail))) (fun hk1 => ?_)
  refine wpE_fact (hr2.isSlice (by repeat (first | exact Pick.head | apply Pick.tail))) (fun hk2 => ?_)
  refine wpE_fact (hr3.isSlice (by repeat (first | exact Pick.head | apply Pick.tail))) (fun hk3 => ?_)
  obtain ⟨a1, c1, rfl, hk1⟩ := hk1
  obtain ⟨a2, c2, rfl, hk2⟩ := hk2
  obtain ⟨a3, c3, rfl, hk3⟩ := hk3
  (refine go ?_; intros)
  refine wpC_drawnA [rseC x p z.client z.clean z.online, pts p.q (.cells [.slice qa z.q.length qc, .int .i64 (16 : Nat), .int .i64 z.lost].toArray 102 (0, 0)), refC p.f (.slice fa z.L.length fc), ibxC p.i (.slice ia z.inb.length ic)] 75 ?_
  ((first | refine dt 0 ?_ | refine dts 0 ?_); (first | refine dt 1 ?_ | refine dts 1 ?_); (first | refine df 2 ?_ | refine dfs 2 ?_); (first | refine df 3 ?_ | refine dfs 3 ?_); (first | refine df 4 ?_ | refine dfs 4 ?_); (first | refine df 5 ?_ | refine dfs 5 ?_); (first | refine df 6 ?_ | refine dfs 6 ?_); (first | refine df 7 ?_ | refine dfs 7 ?_); (first | refine df 8 ?_ | refine dfs 8 ?_); (first | refine df 9 ?_ | refine dfs 9 ?_); (first | refine df 10 ?_ | refine dfs 10 ?_); (first | refine df 11 ?_ | refine dfs 11 ?_); (first | refine dt 12 ?_ | refine dts 12 ?_); (first | refine dt 13 ?_ | refine dts 13 ?_); (first | refine df 14 ?_ | refine dfs 14 ?_); (first | refine df 15 ?_ | refine dfs 15 ?_); (first | refine df 16 ?_ | refine dfs 16 ?_); (first | refine df 17 ?_ | refine dfs 17 ?_); (first | refine df 18 ?_ | refine dfs 18 ?_); (first | refine df 19 ?_ | refine dfs 19 ?_); (first | refine df 20 ?_ | refine dfs 20 ?_); (first | refine df 21 ?_ | refine dfs 21 ?_); (first | refine df 22 ?_ | refine dfs 22 ?_); (first | refine df 23 ?_ | refine dfs 23 ?_); (first | refine df 24 ?_ | refine dfs 24 ?_); (first | refine dt 25 ?_ | refine dts 25 ?_); (first | refine dt 26 ?_ | refine dts 26 ?_); (first | refine df 27 ?_ | refine dfs 27 ?_); (first | refine df 28 ?_ | refine dfs 28 ?_); (first | refine df 29 ?_ | refine dfs 29 ?_); (first | refine df 30 ?_ | refine dfs 30 ?_); (first | refine df 31 ?_ | refine dfs 31 ?_); (first | refine df 32 ?_ | refine dfs 32 ?_); (first | refine df 33 ?_ | refine dfs 33 ?_); (first | refine df 34 ?_ | refine dfs 34 ?_); (first | refine df 35 ?_ | refine dfs 35 ?_); (first | refine df 36 ?_ | refine dfs 36 ?_); (first | refine df 37 ?_ | refine dfs 37 ?_); (first | refine dt 38 ?_ | refine dts 38 ?_); (first | refine dt 40 ?_ | refine dts 40 ?_); (first | refine dt 41 ?_ | refine dts 41 ?_); (first | refine dt 42 ?_ | refine dts 42 ?_); (first | refine dt 43 ?_ | refine dts 43 ?_); (first | refine dt 44 ?_ | refine dts 44 ?_); (first | refine dt 45 ?_ | refine dts 45 ?_); (first | refine dt 46 ?_ | refine dts 46 ?_))
  (refine dcall 39 (ses_lost s z) (fun _ _ => ?_); try simp only [List.cons_append, List.nil_append])
  ((first | refine df 47 ?_ | refine dfs 47 ?_); (first | refine df 48 ?_ | refine dfs 48 ?_); (first | refine df 49 ?_ | refine dfs 49 ?_); (first | refine dt 50 ?_ | refine dts 50 ?_); (first | refine dt 52 ?_ | refine dts 52 ?_); (first | refine dt 53 ?_ | refine dts 53 ?_); (first | refine dt 54 ?_ | refine dts 54 ?_); (first | refine dt 55 ?_ | refine dts 55 ?_))
  (refine dcall 51 (ses_online s z) (fun _ _ => ?_); try simp only [List.cons_append, List.nil_append])
  ((first | refine df 56 ?_ | refine dfs 56 ?_); (first | refine df 57 ?_ | refine dfs 57 ?_); (first | refine df 58 ?_ | refine dfs 58 ?_); (first | refine dt 59 ?_ | refine dts 59 ?_); (first | refine dt 61 ?_ | refine dts 61 ?_); (first | refine dt 62 ?_ | refine dts 62 ?_); (first | refine dt 63 ?_ | refine dts 63 ?_); (first | refine dt 64 ?_ | refine dts 64 ?_))
  (refine dcall 60 (ses_client s z) (fun _ _ => ?_); try simp only [List.cons_append, List.nil_append])
  ((first | refine df 65 ?_ | refine dfs 65 ?_); (first | refine df 66 ?_ | refine dfs 66 ?_); (first | refine df 67 ?_ | refine dfs 67 ?_); (first | refine dt 68 ?_ | refine dts 68 ?_); (first | refine dt 70 ?_ | refine dts 70 ?_); (first | refine dt 71 ?_ | refine dts 71 ?_); (first | refine dt 72 ?_ | refine dts 72 ?_); (first | refine dt 73 ?_ | refine dts 73 ?_))
  (refine dcall 69 (ses_clean s z) (fun _ _ => ?_); try simp only [List.cons_append, List.nil_append])
  ((first | refine df 74 ?_ | refine dfs 74 ?_); refine dl ?_)
  (refine goB ?_; intros)
  refine wpC_meet (σ := Unit) (fun _ => True) (fun _ => [(0, ptr s), (1, ptr x), (5, .slice a1 z.q.length c1), (6, .slice a2 z.L.length c2), (7, .slice a3 z.inb.length c3)]) (fun _ => [rseC x p z.client z.clean z.online, ibxC p.i (.slice ia z.inb.length ic), intsI (.slice ia z.inb.length ic) z.inb, refC p.f (.slice fa z.L.length fc), sentsI (.slice fa z.L.length fc) z.L, pts p.q (.cells [.slice qa z.q.length qc, .int .i64 (16 : Nat), .int .i64 z.lost].toArray 102 (0, 0)), sl 30 4 (.slice qa z.q.length qc) z.q.length (msgCells z.q), sesI s z, sl 30 4 (.slice a1 z.q.length c1) z.q.length (msgCells z.q), sentsI (.slice a2 z.L.length c2) z.L, intsI (.slice a3 z.inb.length c3) z.inb]) ?_ (fun _ _ => ?_)
  · refine wpC_block ?_
    refine wpC_loop (σ := Nat) (fun k => k ≤ z.q.length) (fun k => [(0, ptr s), (1, ptr x), (5, .slice a1 z.q.length c1), (6, .slice a2 z.L.length c2), (7, .slice a3 z.inb.length c3), (8, .int .i64 k)]) (fun _ => [rseC x p z.client z.clean z.online, ibxC p.i (.slice ia z.inb.length ic), intsI (.slice ia z.inb.length ic) z.inb, refC p.f (.slice fa z.L.length fc), sentsI (.slice fa z.L.length fc) z.L, pts p.q (.cells [.slice qa z.q.length qc, .int .i64 (16 : Nat), .int .i64 z.lost].toArray 102 (0, 0)), sl 30 4 (.slice qa z.q.length qc) z.q.length (msgCells z.q), sesI s z, sl 30 4 (.slice a1 z.q.length c1) z.q.length (msgCells z.q), sentsI (.slice a2 z.L.length c2) z.L, intsI (.slice a3 z.inb.length c3) z.inb]) (fun k => z.q.length - k) 0 (Nat.zero_le _) (by repeat (first | exact trivial | refine ⟨rfl, ?_⟩)) (by ((try simp only [List.cons_append, List.nil_append]); repeat (first | exact Ent.nil | (apply Ent.cons; repeat (first | exact Pick.head | apply Pick.tail))))) (fun k hk => ?_)
    by_cases hkl : k < z.q.length
    · obtain ⟨pb, po, rfl, _⟩ := hk1 (by omega)
      obtain ⟨db, do', rfl, _⟩ := hkq (by omega)
      have hm : ∀ j u, (z.q[k].cells)[j]? = some u → (msgCells z.q)[k * 4 + j]? = some u := fun j u e => msg_cell hkl e
      (refine go ?_; intros)
      refine wpC_drawnA [rseC x p z.client z.clean z.online, pts p.q (.cells [.slice (some ⟨db, do', none⟩) z.q.length qc, .int .i64 (16 : Nat), .int .i64 z.lost].toArray 102 (0, 0)), refC p.f (.slice fa z.L.length fc), ibxC p.i (.slice ia z.inb.length ic), sl 30 4 (.slice (some ⟨db, do', none⟩) z.q.length qc) z.q.length (msgCells z.q), sl 30 4 (.slice (some ⟨pb, po, none⟩) z.q.length c1) z.q.length (msgCells z.q)] 14 ?_
      ((first | refine dt 0 ?_ | refine dts 0 ?_); (first | refine dt 1 ?_ | refine dts 1 ?_); (first | refine dt 2 ?_ | refine dts 2 ?_))
      refine dtB 3 rfl (ev_load_rd_agg (vs := z.q[k].cells) rfl rfl rfl rfl hr1 (by repeat (first | exact Pick.head | apply Pick.tail)) rfl rfl hm) ?_
      ((first | refine dt 4 ?_ | refine dts 4 ?_); (first | refine dt 5 ?_ | refine dts 5 ?_); (first | refine dt 6 ?_ | refine dts 6 ?_); (first | refine dt 7 ?_ | refine dts 7 ?_); (first | refine dt 8 ?_ | refine dts 8 ?_); (first | refine dt 9 ?_ | refine dts 9 ?_); (first | refine dt 10 ?_ | refine dts 10 ?_); (first | refine df 11 ?_ | refine dfs 11 ?_); (first | refine df 12 ?_ | refine dfs 12 ?_))
      refine dfB 13 rfl (ev_load_rd_agg (vs := z.q[k].cells) rfl rfl rfl rfl hrq (by repeat (first | exact Pick.head | apply Pick.tail)) rfl rfl hm) ?_
      refine wpD_lastV rfl rfl (by decide +kernel) (by decide +kernel) rfl rfl ?_
      refine x_ev (ev_eq_agg rfl rfl (by kernel_rfl) (eqV_msg_self z.q[k]) rfl) ?_
      (refine go ?_; intros)
      refine q_round (k + 1) (by omega) (by omega) (by repeat (first | exact trivial | refine ⟨rfl, ?_⟩)) (by ((try simp only [List.cons_append, List.nil_append]); repeat (first | exact Ent.nil | (apply Ent.cons; repeat (first | exact Pick.head | apply Pick.tail)))))
    · (refine go ?_; intros)
      exact q_mid () trivial (by repeat (first | exact trivial | refine ⟨rfl, ?_⟩)) (by ((try simp only [List.cons_append, List.nil_append]); repeat (first | exact Ent.nil | (apply Ent.cons; repeat (first | exact Pick.head | apply Pick.tail)))))
  (refine goB ?_; intros)
  refine wpC_meet (σ := Unit) (fun _ => True) (fun _ => [(0, ptr s), (1, ptr x), (5, .slice a1 z.q.length c1), (6, .slice a2 z.L.length c2), (7, .slice a3 z.inb.length c3)]) (fun _ => [rseC x p z.client z.clean z.online, ibxC p.i (.slice ia z.inb.length ic), intsI (.slice ia z.inb.length ic) z.inb, refC p.f (.slice fa z.L.length fc), sentsI (.slice fa z.L.length fc) z.L, pts p.q (.cells [.slice qa z.q.length qc, .int .i64 (16 : Nat), .int .i64 z.lost].toArray 102 (0, 0)), sl 30 4 (.slice qa z.q.length qc) z.q.length (msgCells z.q), sesI s z, sl 30 4 (.slice a1 z.q.length c1) z.q.length (msgCells z.q), sentsI (.slice a2 z.L.length c2) z.L, intsI (.slice a3 z.inb.length c3) z.inb]) ?_ (fun _ _ => ?_)
  · refine wpC_block ?_
    refine wpC_loop (σ := Nat) (fun k => k ≤ z.L.length) (fun k => [(0, ptr s), (1, ptr x), (5, .slice a1 z.q.length c1), (6, .slice a2 z.L.length c2), (7, .slice a3 z.inb.length c3), (9, .int .i64 k)]) (fun _ => [rseC x p z.client z.clean z.online, ibxC p.i (.slice ia z.inb.length ic), intsI (.slice ia z.inb.length ic) z.inb, refC p.f (.slice fa z.L.length fc), sentsI (.slice fa z.L.length fc) z.L, pts p.q (.cells [.slice qa z.q.length qc, .int .i64 (16 : Nat), .int .i64 z.lost].toArray 102 (0, 0)), sl 30 4 (.slice qa z.q.length qc) z.q.length (msgCells z.q), sesI s z, sl 30 4 (.slice a1 z.q.length c1) z.q.length (msgCells z.q), sentsI (.slice a2 z.L.length c2) z.L, intsI (.slice a3 z.inb.length c3) z.inb]) (fun k => z.L.length - k) 0 (Nat.zero_le _) (by repeat (first | exact trivial | refine ⟨rfl, ?_⟩)) (by ((try simp only [List.cons_append, List.nil_append]); repeat (first | exact Ent.nil | (apply Ent.cons; repeat (first | exact Pick.head | apply Pick.tail))))) (fun k hk => ?_)
    by_cases hkl : k < z.L.length
    · obtain ⟨pb, po, rfl, _⟩ := hk2 (by omega)
      obtain ⟨db, do', rfl, _⟩ := hkf (by omega)
      have hm : ∀ j u, (sentC z.L[k])[j]? = some u → (z.L.flatMap sentC)[k * 6 + j]? = some u := fun j u e => sent_cell hkl e
      (refine go ?_; intros)
      refine wpC_drawnA [rseC x p z.client z.clean z.online, pts p.q (.cells [.slice qa z.q.length qc, .int .i64 (16 : Nat), .int .i64 z.lost].toArray 102 (0, 0)), refC p.f (.slice (some ⟨db, do', none⟩) z.L.length fc), ibxC p.i (.slice ia z.inb.length ic), sentsI (.slice (some ⟨db, do', none⟩) z.L.length fc) z.L, sentsI (.slice (some ⟨pb, po, none⟩) z.L.length c2) z.L] 14 ?_
      ((first | refine dt 0 ?_ | refine dts 0 ?_); (first | refine dt 1 ?_ | refine dts 1 ?_); (first | refine dt 2 ?_ | refine dts 2 ?_))
      refine dtB 3 rfl (ev_load_rd_agg (vs := sentC z.L[k]) rfl rfl rfl rfl hr2 (by repeat (first | exact Pick.head | apply Pick.tail)) rfl rfl hm) ?_
      ((first | refine dt 4 ?_ | refine dts 4 ?_); (first | refine dt 5 ?_ | refine dts 5 ?_); (first | refine dt 6 ?_ | refine dts 6 ?_); (first | refine dt 7 ?_ | refine dts 7 ?_); (first | refine dt 8 ?_ | refine dts 8 ?_); (first | refine dt 9 ?_ | refine dts 9 ?_); (first | refine dt 10 ?_ | refine dts 10 ?_); (first | refine df 11 ?_ | refine dfs 11 ?_); (first | refine df 12 ?_ | refine dfs 12 ?_))
      refine dfB 13 rfl (ev_load_rd_agg (vs := sentC z.L[k]) rfl rfl rfl rfl hrf (by repeat (first | exact Pick.head | apply Pick.tail)) rfl rfl hm) ?_
      refine wpD_lastV rfl rfl (by decide +kernel) (by decide +kernel) rfl rfl ?_
      refine x_ev (ev_eq_agg rfl rfl (by kernel_rfl) (eqV_sentD_self z.L[k]) rfl) ?_
      (refine go ?_; intros)
      refine q_round (k + 1) (by omega) (by omega) (by repeat (first | exact trivial | refine ⟨rfl, ?_⟩)) (by ((try simp only [List.cons_append, List.nil_append]); repeat (first | exact Ent.nil | (apply Ent.cons; repeat (first | exact Pick.head | apply Pick.tail)))))
    · (refine go ?_; intros)
      exact q_mid () trivial (by repeat (first | exact trivial | refine ⟨rfl, ?_⟩)) (by ((try simp only [List.cons_append, List.nil_append]); repeat (first | exact Ent.nil | (apply Ent.cons; repeat (first | exact Pick.head | apply Pick.tail)))))
  (refine goB ?_; intros)
  refine wpC_meet (σ := Unit) (fun _ => True) (fun _ => [(0, ptr s), (1, ptr x), (5, .slice a1 z.q.length c1), (6, .slice a2 z.L.length c2), (7, .slice a3 z.inb.length c3)]) (fun _ => [rseC x p z.client z.clean z.online, ibxC p.i (.slice ia z.inb.length ic), intsI (.slice ia z.inb.length ic) z.inb, refC p.f (.slice fa z.L.length fc), sentsI (.slice fa z.L.length fc) z.L, pts p.q (.cells [.slice qa z.q.length qc, .int .i64 (16 : Nat), .int .i64 z.lost].toArray 102 (0, 0)), sl 30 4 (.slice qa z.q.length qc) z.q.length (msgCells z.q), sesI s z, sl 30 4 (.slice a1 z.q.length c1) z.q.length (msgCells z.q), sentsI (.slice a2 z.L.length c2) z.L, intsI (.slice a3 z.inb.length c3) z.inb]) ?_ (fun _ _ => ?_)
  · refine wpC_block ?_
    refine wpC_loop (σ := Nat) (fun k => k ≤ z.inb.length) (fun k => [(0, ptr s), (1, ptr x), (5, .slice a1 z.q.length c1), (6, .slice a2 z.L.length c2), (7, .slice a3 z.inb.length c3), (10, .int .i64 k)]) (fun _ => [rseC x p z.client z.clean z.online, ibxC p.i (.slice ia z.inb.length ic), intsI (.slice ia z.inb.length ic) z.inb, refC p.f (.slice fa z.L.length fc), sentsI (.slice fa z.L.length fc) z.L, pts p.q (.cells [.slice qa z.q.length qc, .int .i64 (16 : Nat), .int .i64 z.lost].toArray 102 (0, 0)), sl 30 4 (.slice qa z.q.length qc) z.q.length (msgCells z.q), sesI s z, sl 30 4 (.slice a1 z.q.length c1) z.q.length (msgCells z.q), sentsI (.slice a2 z.L.length c2) z.L, intsI (.slice a3 z.inb.length c3) z.inb]) (fun k => z.inb.length - k) 0 (Nat.zero_le _) (by repeat (first | exact trivial | refine ⟨rfl, ?_⟩)) (by ((try simp only [List.cons_append, List.nil_append]); repeat (first | exact Ent.nil | (apply Ent.cons; repeat (first | exact Pick.head | apply Pick.tail))))) (fun k hk => ?_)
    by_cases hkl : k < z.inb.length
    · obtain ⟨pb, po, rfl, _⟩ := hk3 (by omega)
      obtain ⟨db, do', rfl, _⟩ := hki (by omega)
      have hm : (ints z.inb)[k * 1]? = some (.int .i64 z.inb[k]) := by rw [Nat.mul_one]; simp [ints, hkl]
      (refine go ?_; intros)
      refine wpC_drawnA [rseC x p z.client z.clean z.online, pts p.q (.cells [.slice qa z.q.length qc, .int .i64 (16 : Nat), .int .i64 z.lost].toArray 102 (0, 0)), refC p.f (.slice fa z.L.length fc), ibxC p.i (.slice (some ⟨db, do', none⟩) z.inb.length ic), intsI (.slice (some ⟨db, do', none⟩) z.inb.length ic) z.inb, intsI (.slice (some ⟨pb, po, none⟩) z.inb.length c3) z.inb] 14 ?_
      ((first | refine dt 0 ?_ | refine dts 0 ?_); (first | refine dt 1 ?_ | refine dts 1 ?_); (first | refine dt 2 ?_ | refine dts 2 ?_))
      refine dtB 3 rfl (ev_load_rd rfl rfl rfl hr3 (by repeat (first | exact Pick.head | apply Pick.tail)) rfl hm) ?_
      ((first | refine dt 4 ?_ | refine dts 4 ?_); (first | refine dt 5 ?_ | refine dts 5 ?_); (first | refine dt 6 ?_ | refine dts 6 ?_); (first | refine dt 7 ?_ | refine dts 7 ?_); (first | refine dt 8 ?_ | refine dts 8 ?_); (first | refine dt 9 ?_ | refine dts 9 ?_); (first | refine dt 10 ?_ | refine dts 10 ?_); (first | refine df 11 ?_ | refine dfs 11 ?_); (first | refine df 12 ?_ | refine dfs 12 ?_))
      refine dfB 13 rfl (ev_load_rd rfl rfl rfl hri (by repeat (first | exact Pick.head | apply Pick.tail)) rfl hm) ?_
      (refine dl ?_)
      (refine go ?_; intros)
      refine q_round (k + 1) (by omega) (by omega) (by repeat (first | exact trivial | refine ⟨rfl, ?_⟩)) (by ((try simp only [List.cons_append, List.nil_append]); repeat (first | exact Ent.nil | (apply Ent.cons; repeat (first | exact Pick.head | apply Pick.tail)))))
    · (refine go ?_; intros)
      exact q_mid () trivial (by repeat (first | exact trivial | refine ⟨rfl, ?_⟩)) (by ((try simp only [List.cons_append, List.nil_append]); repeat (first | exact Ent.nil | (apply Ent.cons; repeat (first | exact Pick.head | apply Pick.tail)))))
  (refine go ?_; intros)
  refine q_ret1 rfl rfl () rfl trivial (Ent.cons (by repeat (first | exact Pick.head | apply Pick.tail)) (Ent.fold (σ := RsP) (φ := fun _ => SesOk z) p W (Ent.cons (by repeat (first | exact Pick.head | apply Pick.tail)) (Ent.fold (σ := Value) (.slice ia z.inb.length ic) trivial (Ent.cons (by repeat (first | exact Pick.head | apply Pick.tail)) (Ent.cons (by repeat (first | exact Pick.head | apply Pick.tail)) (Ent.fold (σ := Value) (.slice fa z.L.length fc) hvf (Ent.cons (by repeat (first | exact Pick.head | apply Pick.tail)) (Ent.cons (by repeat (first | exact Pick.head | apply Pick.tail)) (Ent.fold (σ := Value) (.slice qa z.q.length qc) hvq (by ((try simp only [List.cons_append, List.nil_append]); repeat (first | exact Ent.nil | (apply Ent.cons; repeat (first | exact Pick.head | apply Pick.tail)))))))))))))))
theorem law_do (s x : Nat) (z : Ses) (W : SesOk z) (a : SAct) (b1 : 0 ≤ z.lost) (b2 : z.lost ≤ 1000000) : FnDoes Tryd.prog 18 [ptr s, ptr x, sactV a] [sesI s z, rseI x z] (fun _ : Unit => True) (fun _ => .bool true) (fun _ => [sesI s (actZ z a), rseI x (actZ z a)]) := by
  unfold sactV
  refine does_of Tryd.func18 rfl rfl Tryd.ntmps18 rfl (by simp only [enum, Nat.reduceAdd, Nat.zero_add]; exact rfl) (fun c => ?_)
  by_cases k0 : a.k = 0
  · have e : actZ z a = attachZ z := if_pos k0
    obtain ⟨k, h1, h2, _⟩ := attach_len W
    have h8 := W.Ll
    rw [e]
    (refine go ?_; intro ab)
    (show wpO _ _ ⟨_, .call _, _, _, _, _⟩ _ _ _ _ _ _; refine o_callA (ses_attach s z) (fun v1 _ => ?_); try simp only [List.cons_append, List.nil_append])
    (refine go ?_; intros)
    (show wpO _ _ ⟨_, .call _, _, _, _, _⟩ _ _ _ _ _ _; refine o_callA (rse_attach x z) (fun v2 _ => ?_); try simp only [List.cons_append, List.nil_append])
    (refine go ?_; intros)
    (show wpO _ _ ⟨_, .call _, _, _, _, _⟩ _ _ _ _ _ _; refine o_callA (law_packets v1 v2 (attachP z) (by omega)) (fun _ _ => ?_); try simp only [List.cons_append, List.nil_append])
    (refine go ?_; intros)
    exact q_ret1 rfl rfl () rfl trivial (by ((try simp only [List.cons_append, List.nil_append]); repeat (first | exact Ent.nil | (apply Ent.cons; repeat (first | exact Pick.head | apply Pick.tail)))))
  by_cases k1 : a.k = 1
  · have e : actZ z a = offZ z := by unfold actZ; rw [if_neg k0, if_pos k1]
    rw [e]
    refine wpC_unfold (.tail .head) (fun p W => ?_)
    simp only [List.cons_append, List.nil_append]
    (refine go ?_; intro ab)
    (show wpO _ _ ⟨_, .call _, _, _, _, _⟩ _ _ _ _ _ _; refine o_callA (ses_detach s z) (fun _ _ => ?_); try simp only [List.cons_append, List.nil_append])
    (refine go ?_; intros)
    exact q_ret1 rfl rfl () rfl trivial (Ent.cons (by repeat (first | exact Pick.head | apply Pick.tail)) (rseI_mk p (ok_off W) (by ((try simp only [List.cons_append, List.nil_append]); repeat (first | exact Ent.nil | (apply Ent.cons; repeat (first | exact Pick.head | apply Pick.tail)))))))
  by_cases k23 : a.k = 2 ∨ a.k = 3
  · have e : actZ z a = delZ z a.m a.n := by unfold actZ; rw [if_neg k0, if_neg k1, if_pos k23]
    have h8 := delP_lenD W a.m a.n
    rw [e]
    by_cases k2 : a.k = 2
    all_goals
      (refine go ?_; intro ab)
      (show wpO _ _ ⟨_, .call _, _, _, _, _⟩ _ _ _ _ _ _; refine o_callA (ses_deliver s z a.m a.n b1 b2) (fun v1 _ => ?_); try simp only [List.cons_append, List.nil_append])
      (refine go ?_; intros)
      (show wpO _ _ ⟨_, .call _, _, _, _, _⟩ _ _ _ _ _ _; refine o_callA (rse_deliver x z a.m a.n b1 b2) (fun v2 _ => ?_); try simp only [List.cons_append, List.nil_append])
      (refine go ?_; intros)
      (show wpO _ _ ⟨_, .call _, _, _, _, _⟩ _ _ _ _ _ _; refine o_callA (law_packets v1 v2 (delP z a.m a.n) (by omega)) (fun _ _ => ?_); try simp only [List.cons_append, List.nil_append])
      generalize delB z a.m a.n = db
      cases db <;> ((refine go ?_; intros); exact q_ret1 rfl rfl () rfl trivial (by ((try simp only [List.cons_append, List.nil_append]); repeat (first | exact Ent.nil | (apply Ent.cons; repeat (first | exact Pick.head | apply Pick.tail))))))
  by_cases k4 : a.k = 4
  · have e : actZ z a = ansZ z a.n a.id := by unfold actZ; rw [if_neg k0, if_neg k1, if_neg k23, if_pos k4]
    have h8 := ansP_lenD W a.n a.id
    rw [e]
    (refine go ?_; intro ab)
    refine wpC_drawnA [pts ab (.cells (sactC a).toArray 51 (0, 0))] 13 ?_
    ((first | refine dt 0 ?_ | refine dts 0 ?_); (first | refine dt 1 ?_ | refine dts 1 ?_); (first | refine dt 2 ?_ | refine dts 2 ?_); (first | refine dt 3 ?_ | refine dts 3 ?_); (first | refine dt 4 ?_ | refine dts 4 ?_); (first | refine dt 6 ?_ | refine dts 6 ?_); (first | refine dt 7 ?_ | refine dts 7 ?_); (first | refine dt 8 ?_ | refine dts 8 ?_); (first | refine dt 9 ?_ | refine dts 9 ?_); (first | refine dt 10 ?_ | refine dts 10 ?_))
    (refine dcall 5 (ses_answer s z a.n a.id) (fun v1 _ => ?_); try simp only [List.cons_append, List.nil_append])
    (refine dcall 11 (rse_answer x z a.n a.id) (fun v2 _ => ?_); try simp only [List.cons_append, List.nil_append])
    (refine dcall 12 (law_packets v1 v2 (ansP z a.n a.id) (by omega)) (fun _ _ => ?_); try simp only [List.cons_append, List.nil_append])
    (refine dl ?_)
    (refine go ?_; intros)
    exact q_ret1 rfl rfl () rfl trivial (by ((try simp only [List.cons_append, List.nil_append]); repeat (first | exact Ent.nil | (apply Ent.cons; repeat (first | exact Pick.head | apply Pick.tail)))))
  by_cases k5 : a.k = 5
  · have e : actZ z a = comeZ z a.id := by unfold actZ; rw [if_neg k0, if_neg k1, if_neg k23, if_neg k4, if_pos k5]
    rw [e]
    refine wpC_unfold (.tail .head) (fun p W => ?_)
    simp only [List.cons_append, List.nil_append]
    (refine go ?_; intro ab)
    (show wpO _ _ ⟨_, .call _, _, _, _, _⟩ _ _ _ _ _ _; refine o_callA (ses_come s z a.id) (fun _ _ => ?_); try simp only [List.cons_append, List.nil_append])
    (refine go ?_; intros)
    refine wpC_drawnA [rseC x p z.client z.clean z.online, pts ab (.cells (sactC a).toArray 51 (0, 0))] 11 ?_
    ((first | refine dt 0 ?_ | refine dts 0 ?_); (first | refine dt 1 ?_ | refine dts 1 ?_); (first | refine dt 2 ?_ | refine dts 2 ?_); (first | refine dt 3 ?_ | refine dts 3 ?_); (first | refine df 4 ?_ | refine dfs 4 ?_); (first | refine df 5 ?_ | refine dfs 5 ?_))
    (refine dcall 6 (ibx_comeT p.i z.inb a.id W.io) (fun _ _ => ?_); try simp only [List.cons_append, List.nil_append])
    ((first | refine df 7 ?_ | refine dfs 7 ?_); (first | refine dt 8 ?_ | refine dts 8 ?_); (first | refine dt 9 ?_ | refine dts 9 ?_); (first | refine df 10 ?_ | refine dfs 10 ?_); refine dl ?_)
    obtain ⟨cb, hcb⟩ : ∃ cb, (comeF z.inb a.id).b = cb := ⟨_, rfl⟩
    rw [hcb]
    cases cb <;> ((refine go ?_; intros); exact q_ret1 rfl rfl () rfl trivial (Ent.cons (by repeat (first | exact Pick.head | apply Pick.tail)) (rseI_mk p (ok_come a.id W) (by ((try simp only [List.cons_append, List.nil_append]); repeat (first | exact Ent.nil | (apply Ent.cons; repeat (first | exact Pick.head | apply Pick.tail))))))))
  by_cases k6 : a.k = 6
  · have e : actZ z a = doneZ z a.id := by unfold actZ; rw [if_neg k0, if_neg k1, if_neg k23, if_neg k4, if_neg k5, if_pos k6]
    rw [e]
    refine wpC_unfold (.tail .head) (fun p W => ?_)
    simp only [List.cons_append, List.nil_append]
    (refine go ?_; intro ab)
    refine wpC_drawnA [rseC x p z.client z.clean z.online, pts ab (.cells (sactC a).toArray 51 (0, 0))] 12 ?_
    ((first | refine dt 0 ?_ | refine dts 0 ?_); (first | refine dt 1 ?_ | refine dts 1 ?_); (first | refine dt 2 ?_ | refine dts 2 ?_); (first | refine dt 4 ?_ | refine dts 4 ?_); (first | refine dt 5 ?_ | refine dts 5 ?_); (first | refine dt 6 ?_ | refine dts 6 ?_); (first | refine dt 7 ?_ | refine dts 7 ?_); (first | refine dt 8 ?_ | refine dts 8 ?_); (first | refine dt 9 ?_ | refine dts 9 ?_))
    (refine dcall 3 (ses_done s z a.id) (fun _ _ => ?_); try simp only [List.cons_append, List.nil_append])
    (refine dcall 10 (ibx_doneT p.i z.inb a.id W.io) (fun _ _ => ?_); try simp only [List.cons_append, List.nil_append])
    obtain ⟨cb, hcb⟩ : ∃ cb, (doneF z.inb a.id).2 = cb := ⟨_, rfl⟩
    rw [hcb]
    cases cb <;> (((first | refine df 11 ?_ | refine dfs 11 ?_); refine dl ?_); (refine go ?_; intros); exact q_ret1 rfl rfl () rfl trivial (Ent.cons (by repeat (first | exact Pick.head | apply Pick.tail)) (rseI_mk p (ok_done a.id W) (by ((try simp only [List.cons_append, List.nil_append]); repeat (first | exact Ent.nil | (apply Ent.cons; repeat (first | exact Pick.head | apply Pick.tail))))))))
  · have e : actZ z a = z := by unfold actZ; rw [if_neg k0, if_neg k1, if_neg k23, if_neg k4, if_neg k5, if_neg k6]
    have k2 : a.k ≠ 2 := by omega
    have k3 : a.k ≠ 3 := by omega
    rw [e]
    (refine go ?_; intro ab)
    exact q_ret1 rfl rfl () rfl trivial (by ((try simp only [List.cons_append, List.nil_append]); repeat (first | exact Ent.nil | (apply Ent.cons; repeat (first | exact Pick.head | apply Pick.tail)))))
end Go.Proofs.YtaodhkiejnipmaaDoor
