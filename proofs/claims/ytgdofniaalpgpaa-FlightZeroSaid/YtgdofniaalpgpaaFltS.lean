/-
  Packets held against each other; what is sent again; an act on both; awake.
-/
import Derived.Test.YtgdofniaalpgpaaFltR
set_option linter.unusedSimpArgs false
set_option linter.unusedVariables false
set_option maxRecDepth 20000
namespace Go.Proofs.Ytgdofniaalpgpaa
open Go Go.Sx
def pktV (p : PPkt) : Value := .agg (pktC p).toArray
structure FAct where
  k : Int
  id : Int
  m : PMsg
  deriving Inhabited
def actC (a : FAct) : List Value := [.int .i64 a.k, .int .i64 a.id, .string a.m.topic, .string a.m.text, .int .i64 a.m.qos, .bool a.m.retain]
def actV (a : FAct) : Value := .agg (actC a).toArray
structure DoR where
  b : Bool
  L : List PSent
  L2 : List PSent
attribute [local irreducible] MidQ wpE wpO wpC qE wpQ wpQO wpH wpHO wpD wpDO wpZ Ev own emp exI sl ch PostS LoopQ Rd rowsAt
theorem pkt_same (p : PPkt) : FnDoes Try.prog 14 [pktV p, pktV p] [] (fun _ : Unit => True) (fun _ => .bool true) (fun _ => []) := by
  unfold pktV
  refine does_of Try.func14 rfl rfl Try.ntmps14 rfl (by simp only [enum, Nat.reduceAdd, Nat.zero_add]; exact rfl) (fun c => ?_)
  (refine go ?_; intro b1 b2)
  refine o_evB (ev_eq_agg rfl rfl (by kernel_rfl) (eqV_msg_self p.m) rfl) ?_
  (refine go ?_; intros)
  refine o_evB (ev_eq_agg rfl rfl (by kernel_rfl) eqV_conn rfl) ?_
  (refine go ?_; intros)
  refine wpC_loop (σ := Unit) (fun _ => True) (fun _ => [(2, ptr b1), (3, ptr b2), (5, .int .i64 0)]) (fun _ => [pts b1 (.cells (pktC p).toArray 48 (0, 0)), pts b2 (.cells (pktC p).toArray 48 (0, 0))]) (fun _ => 0) () trivial (by repeat (first | exact trivial | refine ⟨rfl, ?_⟩)) (by ((try simp only [List.cons_append, List.nil_append]); repeat (first | exact Ent.nil | (apply Ent.cons; repeat (first | exact Pick.head | apply Pick.tail))))) (fun _ _ => ?_)
  (refine go ?_; intros)
  refine wpC_loop (σ := Unit) (fun _ => True) (fun _ => [(2, ptr b1), (3, ptr b2), (6, .int .i64 0)]) (fun _ => [pts b1 (.cells (pktC p).toArray 48 (0, 0)), pts b2 (.cells (pktC p).toArray 48 (0, 0))]) (fun _ => 0) () trivial (by repeat (first | exact trivial | refine ⟨rfl, ?_⟩)) (by ((try simp only [List.cons_append, List.nil_append]); repeat (first | exact Ent.nil | (apply Ent.cons; repeat (first | exact Pick.head | apply Pick.tail))))) (fun _ _ => ?_)
  (refine go ?_; intros)
  exact q_ret1 rfl rfl () rfl trivial Ent.nil
theorem ref_again (x : Nat) (L : List PSent) : FnDoes Try.prog 13 [ptr x] [refI x L] (fun _ : Value => True) (fun w => w) (fun w => [refI x L, pktsI w (L.map againP)]) := by
  refine does_of Try.func13 rfl rfl Try.ntmps13 rfl (by simp only [enum, Nat.reduceAdd, Nat.zero_add]; exact rfl) (fun c => ?_)
  refine wpC_unfold .head (fun v h8 => ?_)
  simp only [List.cons_append, List.nil_append]
  have hr : Rd (sentsI v L) 6 v L.length (L.flatMap sentC) := Rd.ofSl
  refine wpC_fact (hr.isSlice (by repeat (first | exact Pick.head | apply Pick.tail))) (fun hk => ?_)
  obtain ⟨a, cap, rfl, hk⟩ := hk
  (refine go ?_; intros)
  refine wpC_loop (σ := FaSt) (fun s => s.k ≤ L.length) (fun s => [(0, ptr x), (3, s.w), (4, .int .i64 s.k)])
    (fun s => [refC x (.slice a L.length cap), sentsI (.slice a L.length cap) L, pktsI s.w ((L.map againP).take s.k)]) (fun s => L.length - s.k) ⟨0, .slice none 0 0⟩ (Nat.zero_le _) (by repeat (first | exact trivial | refine ⟨rfl, ?_⟩)) (Ent.cons (by repeat (first | exact Pick.head | apply Pick.tail)) (Ent.cons (by repeat (first | exact Pick.head | apply Pick.tail)) (Ent.slNil Ent.nil))) (fun s hs => ?_)
  obtain ⟨j, w⟩ := s
  simp only at hs ⊢
  by_cases hjl : j < L.length
  · obtain ⟨b, o, rfl, _⟩ := hk (by omega)
    have hid : (L.flatMap sentC)[j * 6 + 0]? = some (.int .i64 L[j].id) := sent_cell hjl rfl
    have hst : (L.flatMap sentC)[j * 6 + 1]? = some (.int .i64 L[j].st) := sent_cell hjl rfl
    have hm : ∀ i u, (L[j].m.cells)[i]? = some u → (L.flatMap sentC)[(j * 6 + 2) + i]? = some u := fun i u e => by
      rw [Nat.add_assoc]
      refine sent_cell hjl ?_
      rw [Nat.add_comm]; exact e
    have hml : j < (L.map againP).length := by rw [List.length_map]; exact hjl
    have htk : (L.map againP).take (j + 1) = (L.map againP).take j ++ [againP L[j]] := by rw [List.take_add_one, List.getElem?_eq_getElem hml, List.getElem_map]; rfl
    have hlt : ((L.map againP).take j).length = j := by rw [List.length_take]; omega
    by_cases h3 : L[j].st = 3
    · have e : againP L[j] = ⟨6, L[j].id, false, zeroMsg⟩ := by simp [againP, h3]
      rw [e] at htk
      (refine go ?_; intros)
      refine o_evB (ev_load_rd rfl rfl rfl hr (by repeat (first | exact Pick.head | apply Pick.tail)) rfl hst) ?_
      (refine go ?_; intros)
      refine o_evB (ev_load_rd rfl rfl rfl hr (by repeat (first | exact Pick.head | apply Pick.tail)) rfl hid) ?_
      (refine go ?_; intro eb)
      refine o_append (sz := 24) (news := pktC ⟨6, L[j].id, false, zeroMsg⟩) (m := 1) rfl rfl rfl rfl rfl rfl rfl rfl (by repeat (first | exact Pick.head | apply Pick.tail)) ?_ ?_ rfl (fun w' => ?_)
      · exact src_pts rfl (by repeat (first | exact Pick.head | apply Pick.tail)) rfl rfl rfl
      · show (((L.map againP).take j).length + 1) * 280 ≤ 140737488355328
        omega
      rw [pktsI_snoc, ← htk]
      (refine go ?_; intros)
      refine q_round ⟨j + 1, w'⟩ (by simp only; omega) (by simp only; omega) (by repeat (first | exact trivial | refine ⟨rfl, ?_⟩)) (by ((try simp only [List.cons_append, List.nil_append]); repeat (first | exact Ent.nil | (apply Ent.cons; repeat (first | exact Pick.head | apply Pick.tail)))))
    · have e : againP L[j] = ⟨3, L[j].id, true, L[j].m⟩ := by simp [againP, h3]
      rw [e] at htk
      (refine go ?_; intros)
      refine o_evB (ev_load_rd rfl rfl rfl hr (by repeat (first | exact Pick.head | apply Pick.tail)) rfl hst) ?_
      (refine go ?_; intros)
      refine wpC_drawnA [refC x (.slice (some ⟨b, o, none⟩) L.length cap), sentsI (.slice (some ⟨b, o, none⟩) L.length cap) L] 20 ?_
      ((first | refine dt 0 ?_ | refine dts 0 ?_); (first | refine dt 1 ?_ | refine dts 1 ?_); (first | refine dt 2 ?_ | refine dts 2 ?_); (first | refine dt 3 ?_ | refine dts 3 ?_); (first | refine dt 4 ?_ | refine dts 4 ?_); (first | refine dt 5 ?_ | refine dts 5 ?_); (first | refine dt 6 ?_ | refine dts 6 ?_); (first | refine dt 7 ?_ | refine dts 7 ?_))
      refine dtB 8 rfl (ev_load_rd rfl rfl rfl hr (by repeat (first | exact Pick.head | apply Pick.tail)) rfl hid) ?_
      ((first | refine dt 9 ?_ | refine dts 9 ?_); (first | refine dt 10 ?_ | refine dts 10 ?_); (first | refine dt 11 ?_ | refine dts 11 ?_); (first | refine dt 12 ?_ | refine dts 12 ?_); (first | refine df 13 ?_ | refine dfs 13 ?_); (first | refine df 14 ?_ | refine dfs 14 ?_); (first | refine df 15 ?_ | refine dfs 15 ?_))
      refine dfB 16 rfl (ev_load_rd_agg (vs := L[j].m.cells) rfl rfl rfl rfl hr (by repeat (first | exact Pick.head | apply Pick.tail)) rfl rfl hm) ?_
      ((first | refine df 17 ?_ | refine dfs 17 ?_))
      (refine wpD_eff 18 rfl rfl (by kernel_rfl) rfl rfl ?_; show OVL _ ⟨_, .buildSlice _ _ _, _, _, _, _⟩ _ _ _ _ _ _)
      refine x_buildSlice1 (l := pktC ⟨3, L[j].id, true, L[j].m⟩) (by rfl) (by rfl) (by rfl) (by rfl) (by rfl) (by rfl) (by rfl) (by rfl) (fun b2 => ⟨(by (try simp only [List.cons_append, List.nil_append]); repeat (first | exact Ent.nil | (apply Ent.cons; repeat (first | exact Pick.head | apply Pick.tail)))), ?_⟩)
      (refine wpD_eff 19 rfl rfl (by kernel_rfl) rfl rfl ?_; show OVL _ ⟨_, .call { callee := .builtin .append, args := _, argTypes := _ }, _, _, _, _⟩ _ _ _ _ _ _)
      refine x_append (sz := 24) (news := pktC ⟨3, L[j].id, true, L[j].m⟩) (m := 1) (by rfl) (by rfl) (by rfl) (by rfl) (by rfl) (by rfl) (by rfl) (by rfl) (by repeat (first | exact Pick.head | apply Pick.tail)) ?_ ?_ (fun w' => ⟨(by (try simp only [List.cons_append, List.nil_append]); repeat (first | exact Ent.nil | (apply Ent.cons; repeat (first | exact Pick.head | apply Pick.tail)))), ?_⟩)
      · exact src_pts rfl (by repeat (first | exact Pick.head | apply Pick.tail)) rfl rfl rfl
      · show (((L.map againP).take j).length + 1) * 280 ≤ 140737488355328
        omega
      rw [pktsI_snoc, ← htk]
      (refine dl ?_)
      (refine go ?_; intros)
      refine q_round ⟨j + 1, w'⟩ (by simp only; omega) (by simp only; omega) (by repeat (first | exact trivial | refine ⟨rfl, ?_⟩)) (by ((try simp only [List.cons_append, List.nil_append]); repeat (first | exact Ent.nil | (apply Ent.cons; repeat (first | exact Pick.head | apply Pick.tail)))))
  · obtain rfl : j = L.length := by omega
    rw [List.take_of_length_le (by simp)]
    (refine go ?_; intros)
    exact q_ret1 rfl rfl w rfl trivial (Ent.fold (.slice a L.length cap) h8 (by ((try simp only [List.cons_append, List.nil_append]); repeat (first | exact Ent.nil | (apply Ent.cons; repeat (first | exact Pick.head | apply Pick.tail))))))
theorem law_do (f x : Nat) (L L2 : List PSent) (a : FAct) : FnDoes Try.prog 8 [ptr f, ptr x, actV a] [fltI f L, refI x L2] (fun y : DoR => L = L2 → y.b = true ∧ y.L = y.L2) (fun y => .bool y.b) (fun y => [fltI f y.L, refI x y.L2]) := by
  unfold actV
  refine does_of Try.func8 rfl rfl Try.ntmps8 rfl (by simp only [enum, Nat.reduceAdd, Nat.zero_add]; exact rfl) (fun c => ?_)
  by_cases k0 : a.k = 0 ∨ a.k = 1
  · by_cases k00 : a.k = 0
    all_goals
      (refine go ?_; intro ab)
      (show wpO _ _ ⟨_, .call _, _, _, _, _⟩ _ _ _ _ _ _; refine o_callA (flt_send f L a.m) (fun y hy => ?_); try simp only [List.cons_append, List.nil_append])
      (refine go ?_; intros)
      (show wpO _ _ ⟨_, .call _, _, _, _, _⟩ _ _ _ _ _ _; refine o_callA (ref_send x L2 a.m) (fun y2 hy2 => ?_); try simp only [List.cons_append, List.nil_append])
      by_cases c1 : y.id = y2.id
      · by_cases c2 : y.e = y2.e
        · (refine go ?_; intros)
          exact q_ret1 rfl rfl ⟨true, y.L, y2.L⟩ rfl (fun e => by subst e; cases hy.eq hy2; exact ⟨rfl, rfl⟩) (by ((try simp only [List.cons_append, List.nil_append]); repeat (first | exact Ent.nil | (apply Ent.cons; repeat (first | exact Pick.head | apply Pick.tail)))))
        · (refine go ?_; intros)
          exact q_ret1 rfl rfl ⟨false, y.L, y2.L⟩ rfl (fun e => by subst e; cases hy.eq hy2; exact absurd rfl c2) (by ((try simp only [List.cons_append, List.nil_append]); repeat (first | exact Ent.nil | (apply Ent.cons; repeat (first | exact Pick.head | apply Pick.tail)))))
      · (refine go ?_; intros)
        exact q_ret1 rfl rfl ⟨false, y.L, y2.L⟩ rfl (fun e => by subst e; cases hy.eq hy2; exact absurd rfl c1) (by ((try simp only [List.cons_append, List.nil_append]); repeat (first | exact Ent.nil | (apply Ent.cons; repeat (first | exact Pick.head | apply Pick.tail)))))
  by_cases k2 : a.k = 2
  · (refine go ?_; intro ab)
    refine wpC_drawnA [pts ab (.cells (actC a).toArray 33 (0, 0))] 9 ?_
    ((first | refine dt 0 ?_ | refine dts 0 ?_); (first | refine dt 1 ?_ | refine dts 1 ?_); (first | refine dt 2 ?_ | refine dts 2 ?_); (first | refine dt 4 ?_ | refine dts 4 ?_); (first | refine dt 5 ?_ | refine dts 5 ?_); (first | refine dt 6 ?_ | refine dts 6 ?_))
    (refine dcall 3 (flt_ack f L a.id) (fun _ _ => ?_); try simp only [List.cons_append, List.nil_append])
    (refine dcall 7 (ref_ack x L2 a.id) (fun _ _ => ?_); try simp only [List.cons_append, List.nil_append])
    ((first | refine df 8 ?_ | refine dfs 8 ?_); refine dl ?_)
    (refine go ?_; intros)
    exact q_ret1 rfl rfl ⟨endV L a.id 1 == endV L2 a.id 1, endL L a.id 1, endL L2 a.id 1⟩ rfl (fun e => by subst e; simp) (by ((try simp only [List.cons_append, List.nil_append]); repeat (first | exact Ent.nil | (apply Ent.cons; repeat (first | exact Pick.head | apply Pick.tail)))))
  by_cases k3 : a.k = 3
  · (refine go ?_; intro ab)
    refine wpC_drawnA [pts ab (.cells (actC a).toArray 33 (0, 0))] 9 ?_
    ((first | refine dt 0 ?_ | refine dts 0 ?_); (first | refine dt 1 ?_ | refine dts 1 ?_); (first | refine dt 2 ?_ | refine dts 2 ?_); (first | refine dt 4 ?_ | refine dts 4 ?_); (first | refine dt 5 ?_ | refine dts 5 ?_); (first | refine dt 6 ?_ | refine dts 6 ?_))
    (refine dcall 3 (flt_rec f L a.id) (fun _ _ => ?_); try simp only [List.cons_append, List.nil_append])
    (refine dcall 7 (ref_rec x L2 a.id) (fun _ _ => ?_); try simp only [List.cons_append, List.nil_append])
    ((first | refine df 8 ?_ | refine dfs 8 ?_); refine dl ?_)
    (refine go ?_; intros)
    exact q_ret1 rfl rfl ⟨recV L a.id == recV L2 a.id, recL L a.id, recL L2 a.id⟩ rfl (fun e => by subst e; simp) (by ((try simp only [List.cons_append, List.nil_append]); repeat (first | exact Ent.nil | (apply Ent.cons; repeat (first | exact Pick.head | apply Pick.tail)))))
  by_cases k4 : a.k = 4
  · (refine go ?_; intro ab)
    refine wpC_drawnA [pts ab (.cells (actC a).toArray 33 (0, 0))] 9 ?_
    ((first | refine dt 0 ?_ | refine dts 0 ?_); (first | refine dt 1 ?_ | refine dts 1 ?_); (first | refine dt 2 ?_ | refine dts 2 ?_); (first | refine dt 4 ?_ | refine dts 4 ?_); (first | refine dt 5 ?_ | refine dts 5 ?_); (first | refine dt 6 ?_ | refine dts 6 ?_))
    (refine dcall 3 (flt_comp f L a.id) (fun _ _ => ?_); try simp only [List.cons_append, List.nil_append])
    (refine dcall 7 (ref_comp x L2 a.id) (fun _ _ => ?_); try simp only [List.cons_append, List.nil_append])
    ((first | refine df 8 ?_ | refine dfs 8 ?_); refine dl ?_)
    (refine go ?_; intros)
    exact q_ret1 rfl rfl ⟨endV L a.id 3 == endV L2 a.id 3, endL L a.id 3, endL L2 a.id 3⟩ rfl (fun e => by subst e; simp) (by ((try simp only [List.cons_append, List.nil_append]); repeat (first | exact Ent.nil | (apply Ent.cons; repeat (first | exact Pick.head | apply Pick.tail)))))
  · (refine go ?_; intro ab)
    exact q_ret1 rfl rfl ⟨true, L, L2⟩ rfl (fun e => ⟨rfl, e⟩) (by ((try simp only [List.cons_append, List.nil_append]); repeat (first | exact Ent.nil | (apply Ent.cons; repeat (first | exact Pick.head | apply Pick.tail)))))
def wkM : PMsg := ⟨⟨#[97]⟩, ⟨#[]⟩, 2, false⟩
theorem wk_send {y : SendR} (h : SendOk [] wkM y) : y = ⟨1, 0, [⟨1, 2, wkM⟩]⟩ := by
  unfold SendOk at h
  rw [if_neg (by decide), if_neg (by simp)] at h
  obtain ⟨k, hk, rfl⟩ := h
  have h1 : LeastF [] 1 := ⟨Nat.le_refl _, (fun s hs => by cases hs), fun j j1 j2 => by omega⟩
  cases hk.eq h1
  rfl
theorem law_awake : FnDoes Try.prog 10 [] [] (fun _ : Unit => True) (fun _ => .bool true) (fun _ => []) := by
  refine does_of Try.func10 rfl rfl Try.ntmps10 rfl (by simp only [enum, Nat.reduceAdd, Nat.zero_add]; exact rfl) (fun c => ?_)
  have C1 := fun f => flt_comp f [⟨1, 2, wkM⟩] 1
  have R1 := fun f => flt_rec f [⟨1, 2, wkM⟩] 1
  have C2 := fun f => flt_comp f [⟨1, 3, wkM⟩] 1
  rw [show endV [⟨1, 2, wkM⟩] 1 3 = false by rfl, show endL [⟨1, 2, wkM⟩] 1 3 = [⟨1, 2, wkM⟩] by rfl] at C1
  rw [show recV [⟨1, 2, wkM⟩] 1 = true by rfl, show recL [⟨1, 2, wkM⟩] 1 = [⟨1, 3, wkM⟩] by rfl] at R1
  rw [show endV [⟨1, 3, wkM⟩] 1 3 = true by rfl, show endL [⟨1, 3, wkM⟩] 1 3 = [] by rfl] at C2
  (refine go ?_; intros)
  (show wpO _ _ ⟨_, .call _, _, _, _, _⟩ _ _ _ _ _ _; refine o_callA (flt_new) (fun f _ => ?_); try simp only [List.cons_append, List.nil_append])
  (refine go ?_; intros)
  (show wpO _ _ ⟨_, .call _, _, _, _, _⟩ _ _ _ _ _ _; refine o_callA (flt_send f [] wkM) (fun y hy => ?_); try simp only [List.cons_append, List.nil_append])
  cases wk_send hy
  (refine go ?_; intros)
  (show wpO _ _ ⟨_, .call _, _, _, _, _⟩ _ _ _ _ _ _; refine o_callA (C1 f) (fun _ _ => ?_); try simp only [List.cons_append, List.nil_append])
  (refine go ?_; intros)
  (show wpO _ _ ⟨_, .call _, _, _, _, _⟩ _ _ _ _ _ _; refine o_callA (R1 f) (fun _ _ => ?_); try simp only [List.cons_append, List.nil_append])
  (refine go ?_; intros)
  (show wpO _ _ ⟨_, .call _, _, _, _, _⟩ _ _ _ _ _ _; refine o_callA (C2 f) (fun _ _ => ?_); try simp only [List.cons_append, List.nil_append])
  (refine go ?_; intros)
  (show wpO _ _ ⟨_, .call _, _, _, _, _⟩ _ _ _ _ _ _; refine o_callA (flt_len f []) (fun _ _ => ?_); try simp only [List.cons_append, List.nil_append])
  (refine go ?_; intros)
  exact q_ret1 rfl rfl () rfl trivial Ent.nil
end Go.Proofs.Ytgdofniaalpgpaa
