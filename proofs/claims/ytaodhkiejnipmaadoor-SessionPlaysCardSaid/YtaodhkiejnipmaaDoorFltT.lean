/-
  Packets held against each other; what is sent again.
-/
import Derived.Test.YtaodhkiejnipmaaDoorFltR
set_option linter.unusedSimpArgs false
set_option linter.unusedVariables false
set_option maxRecDepth 20000
namespace Go.Proofs.YtaodhkiejnipmaaDoor
open Go Go.Sx
def pktV (p : PPkt) : Value := .agg (pktC p).toArray
attribute [local irreducible] MidQ wpE wpO wpC qE wpQ wpQO wpH wpHO wpD wpDO wpZ Ev own emp exI sl ch PostS LoopQ Rd rowsAt
theorem pkt_same (p : PPkt) : FnDoes Tryd.prog 63 [pktV p, pktV p] [] (fun _ : Unit => True) (fun _ => .bool true) (fun _ => []) := by
  unfold pktV
  refine does_of Tryd.func63 rfl rfl Tryd.ntmps63 rfl (by simp only [enum, Nat.reduceAdd, Nat.zero_add]; exact rfl) (fun c => ?_)
  (refine go ?_; intro b1 b2)
  refine o_evB (ev_eq_agg rfl rfl (by kernel_rfl) (eqV_msg_self p.m) rfl) ?_
  (refine go ?_; intros)
  refine o_evB (ev_eq_agg rfl rfl (by kernel_rfl) eqV_conn rfl) ?_
  (refine go ?_; intros)
  refine wpC_loop (σ := Unit) (fun _ => True) (fun _ => [(2, ptr b1), (3, ptr b2), (5, .int .i64 0)]) (fun _ => [pts b1 (.cells (pktC p).toArray 83 (0, 0)), pts b2 (.cells (pktC p).toArray 83 (0, 0))]) (fun _ => 0) () trivial (by repeat (first | exact trivial | refine ⟨rfl, ?_⟩)) (by ((try simp only [List.cons_append, List.nil_append]); repeat (first | exact Ent.nil | (apply Ent.cons; repeat (first | exact Pick.head | apply Pick.tail))))) (fun _ _ => ?_)
  (refine go ?_; intros)
  refine wpC_loop (σ := Unit) (fun _ => True) (fun _ => [(2, ptr b1), (3, ptr b2), (6, .int .i64 0)]) (fun _ => [pts b1 (.cells (pktC p).toArray 83 (0, 0)), pts b2 (.cells (pktC p).toArray 83 (0, 0))]) (fun _ => 0) () trivial (by repeat (first | exact trivial | refine ⟨rfl, ?_⟩)) (by ((try simp only [List.cons_append, List.nil_append]); repeat (first | exact Ent.nil | (apply Ent.cons; repeat (first | exact Pick.head | apply Pick.tail))))) (fun _ _ => ?_)
  (refine go ?_; intros)
  exact q_ret1 rfl rfl () rfl trivial Ent.nil
theorem ref_again (x : Nat) (L : List PSent) : FnDoes Tryd.prog 64 [ptr x] [refI x L] (fun _ : Value => True) (fun w => w) (fun w => [refI x L, pktsI w (L.map againP)]) := by
  refine does_of Tryd.func64 rfl rfl Tryd.ntmps64 rfl (by simp only [enum, Nat.reduceAdd, Nat.zero_add]; exact rfl) (fun c => ?_)
  refine wpC_unfold .head (fun v h8 => ?_)
  simp only [List.cons_append, List.nil_append]
  have hr : Rd (sentsI v L) 6 v L.length (L.flatMap sentC) := Rd.ofSl
  refine wpC_fact (hr.isSlice (by repeat (first | exact Pick.head | apply Pick.tail))) (fun hk => ?_)
  obtain ⟨a, cap, rfl, hk⟩ := hk
  (refine go ?_; intros)
  refine wpC_loop (σ := FaSt) (fun s => s.k ≤ L.length) (fun s => [(0, ptr x), (3, s.w), (4, .int .i64 s.k)])
    (fun s => [refC x (.slice a L.length cap), sentsI (.slice a L.length cap) L, pktsI s.w ((L.map againP).take s.k)]) (fun s => L.length - s.k) ⟨0, .slice none 0 0⟩ (Nat.zero_le _) (by repeat (first | exact trivial | refine ⟨rfl, ?_⟩)) (Ent.cons (by repeat (first | exact Pick.head | apply Pick.tail)) (Ent.cons (by repeat (first | exact Pick.head | apply Pick.tail)) (Ent.slNil Ent.nil))) (fun s hs => ?_)
  obtain ⟨j, w⟩ := s
  simp only at hs ⊢
  by_cases hjl : j < L.length
  · obtain ⟨b, o, rfl, _⟩ := hk (by omega)
    have hid : (L.flatMap sentC)[j * 6 + 0]? = some (.int .i64 L[j].id) := sent_cell hjl rfl
    have hst : (L.flatMap sentC)[j * 6 + 1]? = some (.int .i64 L[j].st) := sent_cell hjl rfl
    have hm : ∀ i u, (L[j].m.cells)[i]? = some u → (L.flatMap sentC)[(j * 6 + 2) + i]? = some u := fun i u e => by
      rw [Nat.add_assoc]
      refine sent_cell hjl ?_
      rw [Nat.add_comm]; exact e
    have hml : j < (L.map againP).length := by rw [List.length_map]; exact hjl
    have htk : (L.map againP).take (j + 1) = (L.map againP).take j ++ [againP L[j]] := by rw [List.take_add_one, List.getElem?_eq_getElem hml, List.getElem_map]; rfl
    have hlt : ((L.map againP).take j).length = j := by rw [List.length_take]; omega
    by_cases h3 : L[j].st = 3
    · have e : againP L[j] = ⟨6, L[j].id, false, zeroMsg⟩ := by simp [againP, h3]
      rw [e] at htk
      (refine go ?_; intros)
      refine o_evB (ev_load_rd rfl rfl rfl hr (by repeat (first | exact Pick.head | apply Pick.tail)) rfl hst) ?_
      (refine go ?_; intros)
      refine o_evB (ev_load_rd rfl rfl rfl hr (by repeat (first | exact Pick.head | apply Pick.tail)) rfl hid) ?_
      (refine go ?_; intro eb)
      refine o_append (sz := 24) (news := pktC ⟨6, L[j].id, false, zeroMsg⟩) (m := 1) rfl rfl rfl rfl rfl rfl rfl rfl (by repeat (first | exact Pick.head | apply Pick.tail)) ?_ ?_ rfl (fun w' => ?_)
      · exact src_pts rfl (by repeat (first | exact Pick.head | apply Pick.tail)) rfl rfl rfl
      · show (((L.map againP).take j).length + 1) * 280 ≤ 140737488355328
        omega
      rw [pktsI_snoc, ← htk]
      (refine go ?_; intros)
      refine q_round ⟨j + 1, w'⟩ (by simp only; omega) (by simp only; omega) (by repeat (first | exact trivial | refine ⟨rfl, ?_⟩)) (by ((try simp only [List.cons_append, List.nil_append]); repeat (first | exact Ent.nil | (apply Ent.cons; repeat (first | exact Pick.head | apply Pick.tail)))))
    · have e : againP L[j] = ⟨3, L[j].id, true, L[j].m⟩ := by simp [againP, h3]
      rw [e] at htk
      (refine go ?_; intros)
      refine o_evB (ev_load_rd rfl rfl rfl hr (by repeat (first | exact Pick.head | apply Pick.tail)) rfl hst) ?_
      (refine go ?_; intros)
      refine wpC_drawnA [refC x (.slice (some ⟨b, o, none⟩) L.length cap), sentsI (.slice (some ⟨b, o, none⟩) L.length cap) L] 20 ?_
      ((first | refine dt 0 ?_ | refine dts 0 ?_); (first | refine dt 1 ?_ | refine dts 1 ?_); (first | refine dt 2 ?_ | refine dts 2 ?_); (first | refine dt 3 ?_ | refine dts 3 ?_); (first | refine dt 4 ?_ | refine dts 4 ?_); (first | refine dt 5 ?_ | refine dts 5 ?_); (first | refine dt 6 ?_ | refine dts 6 ?_); (first | refine dt 7 ?_ | refine dts 7 ?_))
      refine dtB 8 rfl (ev_load_rd rfl rfl rfl hr (by repeat (first | exact Pick.head | apply Pick.tail)) rfl hid) ?_
      ((first | refine dt 9 ?_ | refine dts 9 ?_); (first | refine dt 10 ?_ | refine dts 10 ?_); (first | refine dt 11 ?_ | refine dts 11 ?_); (first | refine dt 12 ?_ | refine dts 12 ?_); (first | refine df 13 ?_ | refine dfs 13 ?_); (first | refine df 14 ?_ | refine dfs 14 ?_); (first | refine df 15 ?_ | refine dfs 15 ?_))
      refine dfB 16 rfl (ev_load_rd_agg (vs := L[j].m.cells) rfl rfl rfl rfl hr (by repeat (first | exact Pick.head | apply Pick.tail)) rfl rfl hm) ?_
      ((first | refine df 17 ?_ | refine dfs 17 ?_))
      (refine wpD_eff 18 rfl rfl (by kernel_rfl) rfl rfl ?_; show OVL _ ⟨_, .buildSlice _ _ _, _, _, _, _⟩ _ _ _ _ _ _)
      refine x_buildSlice1 (l := pktC ⟨3, L[j].id, true, L[j].m⟩) (by rfl) (by rfl) (by rfl) (by rfl) (by rfl) (by rfl) (by rfl) (by rfl) (fun b2 => ⟨(by (try simp only [List.cons_append, List.nil_append]); repeat (first | exact Ent.nil | (apply Ent.cons; repeat (first | exact Pick.head | apply Pick.tail)))), ?_⟩)
      (refine wpD_eff 19 rfl rfl (by kernel_rfl) rfl rfl ?_; show OVL _ ⟨_, .call { callee := .builtin .append, args := _, argTypes := _ }, _, _, _, _⟩ _ _ _ _ _ _)
      refine x_append (sz := 24) (news := pktC ⟨3, L[j].id, true, L[j].m⟩) (m := 1) (by rfl) (by rfl) (by rfl) (by rfl) (by rfl) (by rfl) (by rfl) (by rfl) (by repeat (first | exact Pick.head | apply Pick.tail)) ?_ ?_ (fun w' => ⟨(by (try simp only [List.cons_append, List.nil_append]); repeat (first | exact Ent.nil | (apply Ent.cons; repeat (first | exact Pick.head | apply Pick.tail)))), ?_⟩)
      · exact src_pts rfl (by repeat (first | exact Pick.head | apply Pick.tail)) rfl rfl rfl
      · show (((L.map againP).take j).length + 1) * 280 ≤ 140737488355328
        omega
      rw [pktsI_snoc, ← htk]
      (refine dl ?_)
      (refine go ?_; intros)
      refine q_round ⟨j + 1, w'⟩ (by simp only; omega) (by simp only; omega) (by repeat (first | exact trivial | refine ⟨rfl, ?_⟩)) (by ((try simp only [List.cons_append, List.nil_append]); repeat (first | exact Ent.nil | (apply Ent.cons; repeat (first | exact Pick.head | apply Pick.tail)))))
  · obtain rfl : j = L.length := by omega
    rw [List.take_of_length_le (by simp)]
    (refine go ?_; intros)
    exact q_ret1 rfl rfl w rfl trivial (Ent.fold (.slice a L.length cap) h8 (by ((try simp only [List.cons_append, List.nil_append]); repeat (first | exact Ent.nil | (apply Ent.cons; repeat (first | exact Pick.head | apply Pick.tail))))))
end Go.Proofs.YtaodhkiejnipmaaDoor
