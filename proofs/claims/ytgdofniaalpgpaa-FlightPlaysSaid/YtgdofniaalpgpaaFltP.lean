/-
  FlightPlays: its walk.
-/
import Derived.Test.YtgdofniaalpgpaaFltO
set_option linter.unusedSimpArgs false
set_option linter.unusedVariables false
set_option maxRecDepth 20000
namespace Go.Proofs.Ytgdofniaalpgpaa
open Go Go.Sx
def sentV (s : PSent) : Value := .agg (sentC s).toArray
theorem eqV_sent (s t : PSent) : eqV Try.prog 6 36 (sentV s) (sentV t) = some ((s.id == t.id) && ((s.st == t.st) && ((decide (s.m.topic = t.m.topic) && (decide (s.m.text = t.m.text) && ((s.m.qos == t.m.qos) && ((s.m.retain == t.m.retain) && true)))) && true))) := by kernel_rfl
theorem eqV_sent_self (s : PSent) : eqV Try.prog 6 36 (sentV s) (sentV s) = some true := by rw [eqV_sent]; simp
theorem pkt_cell {l : List PPkt} {i j : Nat} {u : Value} (h : i < l.length) (e : (pktC l[i])[j]? = some u) : (l.flatMap pktC)[i * 24 + j]? = some u := fm_get pktC_len l i h j u e
attribute [local irreducible] MidQ wpE wpO wpC qE wpQ wpQO wpH wpHO wpD wpDO wpZ Ev own emp exI sl ch PostS LoopQ Rd rowsAt
set_option maxHeartbeats 8000000 in
theorem law_plays (H : PHeap) (v : Value) (acts : List FAct) (hv : rowsAt H 6 v (acts.map actC)) :
    FnDoes Try.prog 4 [v] [own H] (fun _ : Unit => True) (fun _ => .bool true) (fun _ => [own H]) := by
  refine does_of Try.func4 rfl rfl Try.ntmps4 rfl (by simp only [enum, Nat.reduceAdd, Nat.zero_add]; exact rfl) (fun c => ?_)
  obtain ⟨a, cap, rfl⟩ := hv.slice
  have hv' := hv
  simp only [List.length_map] at hv' ⊢
  (refine go ?_; intros)
  (show wpO _ _ ⟨_, .call _, _, _, _, _⟩ _ _ _ _ _ _; refine o_callA (flt_new) (fun f _ => ?_); try simp only [List.cons_append, List.nil_append])
  (refine go ?_; intro x)
  refine wpC_loop (σ := FoSt) (fun s => s.i ≤ 60) (fun s => [(0, .slice a acts.length cap), (3, ptr f), (4, ptr x), (5, .int .i64 s.i)])
    (fun s => [own H, fltI f s.L, refI x s.L]) (fun s => 60 - s.i) ⟨0, []⟩ (Nat.zero_le _) (by repeat (first | exact trivial | refine ⟨rfl, ?_⟩)) (Ent.cons (by repeat (first | exact Pick.head | apply Pick.tail)) (Ent.cons (by repeat (first | exact Pick.head | apply Pick.tail)) (Ent.fold (.slice none 0 0) (by simp) (Ent.cons (by repeat (first | exact Pick.head | apply Pick.tail)) (Ent.slNil Ent.nil))))) (fun s s1 => ?_)
  obtain ⟨i, L⟩ := s
  simp only at s1 ⊢
  by_cases hi : i < acts.length ∧ i < 60
  · obtain ⟨i1, i2⟩ := hi
    obtain ⟨b', off, cap', e, hc⟩ := hv'.at i (by simpa using i1)
    simp only [List.length_map, Value.slice.injEq] at e
    obtain ⟨rfl, _, rfl⟩ := e
    have hc' : ∀ j u, (actC acts[i])[j]? = some u → H.cell? ⟨b', off + i * 6 + j, none⟩ = some u := fun j u hu => hc j u (by simpa using hu)
    generalize acts[i] = aa at hc'
    clear hc
    (refine go ?_; intros)
    (show wpO _ _ ⟨_, .call _, _, _, _, _⟩ _ _ _ _ _ _; refine o_callA (law_do f x L L aa) (fun y hy => ?_); try simp only [List.cons_append, List.nil_append])
    obtain ⟨yb, L1, L2⟩ := y
    obtain ⟨e1, e2⟩ := hy rfl
    simp only at e1 e2
    subst e1
    subst e2
    clear hy
    simp only
    (refine go ?_; intros)
    (show wpO _ _ ⟨_, .call _, _, _, _, _⟩ _ _ _ _ _ _; refine o_callA (flt_all f L1) (fun w _ => ?_); try simp only [List.cons_append, List.nil_append])
    refine wpE_unfold (σ := Value) (φ := fun _ => L1.length ≤ 8) (My := fun v => [refC x v, sentsI v L1]) (by unfold refI; exact (by repeat (first | exact Pick.head | apply Pick.tail))) (fun xv h8 => ?_)
    simp only [List.cons_append, List.nil_append]
    have hrw : Rd (sentsI w L1) 6 w L1.length (L1.flatMap sentC) := Rd.ofSl
    have hrx : Rd (sentsI xv L1) 6 xv L1.length (L1.flatMap sentC) := Rd.ofSl
    refine wpE_fact (hrw.isSlice (by repeat (first | exact Pick.head | apply Pick.tail))) (fun hkw => ?_)
    refine wpE_fact (hrx.isSlice (by repeat (first | exact Pick.head | apply Pick.tail))) (fun hkx => ?_)
    obtain ⟨wa, wc, rfl, hkw⟩ := hkw
    obtain ⟨xa, xc, rfl, hkx⟩ := hkx
    (refine go ?_; intros)
    refine wpC_drawnA [refC x (.slice xa L1.length xc)] 17 ?_
    ((first | refine dt 0 ?_ | refine dts 0 ?_); (first | refine dt 1 ?_ | refine dts 1 ?_); (first | refine df 2 ?_ | refine dfs 2 ?_); (first | refine df 3 ?_ | refine dfs 3 ?_); (first | refine df 4 ?_ | refine dfs 4 ?_); (first | refine df 5 ?_ | refine dfs 5 ?_); (first | refine df 6 ?_ | refine dfs 6 ?_); (first | refine df 7 ?_ | refine dfs 7 ?_); (first | refine df 8 ?_ | refine dfs 8 ?_); (first | refine dt 9 ?_ | refine dts 9 ?_); (first | refine dt 11 ?_ | refine dts 11 ?_); (first | refine dt 12 ?_ | refine dts 12 ?_); (first | refine dt 13 ?_ | refine dts 13 ?_); (first | refine dt 14 ?_ | refine dts 14 ?_); (first | refine dt 15 ?_ | refine dts 15 ?_))
    (refine dcall 10 (flt_len f L1) (fun _ _ => ?_); try simp only [List.cons_append, List.nil_append])
    ((first | refine df 16 ?_ | refine dfs 16 ?_); refine dl ?_)
    (refine go ?_; intros)
    refine wpC_loop (σ := Nat) (fun k => k ≤ L1.length) (fun k => [(0, .slice (some ⟨b', off, none⟩) acts.length cap), (3, ptr f), (4, ptr x), (5, .int .i64 i), (6, .slice wa L1.length wc), (7, .int .i64 k)])
      (fun _ => [own H, fltI f L1, refC x (.slice xa L1.length xc), sentsI (.slice xa L1.length xc) L1, sentsI (.slice wa L1.length wc) L1]) (fun k => L1.length - k) 0 (Nat.zero_le _) (by repeat (first | exact trivial | refine ⟨rfl, ?_⟩)) (by ((try simp only [List.cons_append, List.nil_append]); repeat (first | exact Ent.nil | (apply Ent.cons; repeat (first | exact Pick.head | apply Pick.tail))))) (fun k hk => ?_)
    by_cases hkl : k < L1.length
    · obtain ⟨wb, wo, rfl, _⟩ := hkw (by omega)
      obtain ⟨xb, xo, rfl, _⟩ := hkx (by omega)
      have hm : ∀ j u, (sentC L1[k])[j]? = some u → (L1.flatMap sentC)[k * 6 + j]? = some u := fun j u e => sent_cell hkl e
      (refine go ?_; intros)
      refine wpC_drawnA [refC x (.slice (some ⟨xb, xo, none⟩) L1.length xc), sentsI (.slice (some ⟨xb, xo, none⟩) L1.length xc) L1, sentsI (.slice (some ⟨wb, wo, none⟩) L1.length wc) L1] 11 ?_
      ((first | refine dt 0 ?_ | refine dts 0 ?_); (first | refine dt 1 ?_ | refine dts 1 ?_); (first | refine dt 2 ?_ | refine dts 2 ?_))
      refine dtB 3 rfl (ev_load_rd_agg (vs := sentC L1[k]) rfl rfl rfl rfl hrw (by repeat (first | exact Pick.head | apply Pick.tail)) rfl rfl hm) ?_
      ((first | refine dt 4 ?_ | refine dts 4 ?_); (first | refine dt 5 ?_ | refine dts 5 ?_); (first | refine dt 6 ?_ | refine dts 6 ?_); (first | refine dt 7 ?_ | refine dts 7 ?_); (first | refine df 8 ?_ | refine dfs 8 ?_); (first | refine df 9 ?_ | refine dfs 9 ?_))
      refine dfB 10 rfl (ev_load_rd_agg (vs := sentC L1[k]) rfl rfl rfl rfl hrx (by repeat (first | exact Pick.head | apply Pick.tail)) rfl rfl hm) ?_
      refine wpD_lastV rfl rfl (by decide +kernel) (by decide +kernel) rfl rfl ?_
      refine x_ev (ev_eq_agg rfl rfl (by kernel_rfl) (eqV_sent_self L1[k]) rfl) ?_
      (refine go ?_; intros)
      refine q_round (k + 1) (by omega) (by omega) (by repeat (first | exact trivial | refine ⟨rfl, ?_⟩)) (by ((try simp only [List.cons_append, List.nil_append]); repeat (first | exact Ent.nil | (apply Ent.cons; repeat (first | exact Pick.head | apply Pick.tail)))))
    · (refine go ?_; intros)
      (show wpO _ _ ⟨_, .call _, _, _, _, _⟩ _ _ _ _ _ _; refine o_callA (flt_again f L1) (fun pv _ => ?_); try simp only [List.cons_append, List.nil_append])
      refine wpE_ent (N := pktsI pv (L1.map againP) :: fltI f L1 :: refI x L1 :: own H :: []) (Ent.cons (by repeat (first | exact Pick.head | apply Pick.tail)) (Ent.cons (by repeat (first | exact Pick.head | apply Pick.tail)) (Ent.fold (.slice xa L1.length xc) h8 (by ((try simp only [List.cons_append, List.nil_append]); repeat (first | exact Ent.nil | (apply Ent.cons; repeat (first | exact Pick.head | apply Pick.tail)))))))) ?_
      (refine go ?_; intros)
      (show wpO _ _ ⟨_, .call _, _, _, _, _⟩ _ _ _ _ _ _; refine o_callA (ref_again x L1) (fun qv _ => ?_); try simp only [List.cons_append, List.nil_append])
      have hrp : Rd (pktsI pv (L1.map againP)) 24 pv (L1.map againP).length ((L1.map againP).flatMap pktC) := Rd.ofSl
      have hrq : Rd (pktsI qv (L1.map againP)) 24 qv (L1.map againP).length ((L1.map againP).flatMap pktC) := Rd.ofSl
      refine wpE_fact (hrp.isSlice (by repeat (first | exact Pick.head | apply Pick.tail))) (fun hkp => ?_)
      refine wpE_fact (hrq.isSlice (by repeat (first | exact Pick.head | apply Pick.tail))) (fun hkq => ?_)
      obtain ⟨pa, pc, rfl, hkp⟩ := hkp
      obtain ⟨qa, qc, rfl, hkq⟩ := hkq
      generalize hps : L1.map againP = ps at hrp hrq hkp hkq
      have hp8 : ps.length ≤ 8 := by rw [← hps, List.length_map]; exact h8
      (refine go ?_; intros)
      refine wpC_loop (σ := Nat) (fun k => k ≤ ps.length) (fun k => [(0, .slice (some ⟨b', off, none⟩) acts.length cap), (3, ptr f), (4, ptr x), (5, .int .i64 i), (8, .slice pa ps.length pc), (9, .slice qa ps.length qc), (10, .int .i64 k)])
        (fun _ => [own H, fltI f L1, refI x L1, pktsI (.slice pa ps.length pc) ps, pktsI (.slice qa ps.length qc) ps]) (fun k => ps.length - k) 0 (Nat.zero_le _) (by repeat (first | exact trivial | refine ⟨rfl, ?_⟩)) (by ((try simp only [List.cons_append, List.nil_append]); repeat (first | exact Ent.nil | (apply Ent.cons; repeat (first | exact Pick.head | apply Pick.tail))))) (fun k hk => ?_)
      by_cases hkl2 : k < ps.length
      · obtain ⟨pb, po, rfl, _⟩ := hkp (by omega)
        obtain ⟨qb, qo, rfl, _⟩ := hkq (by omega)
        have hm : ∀ j u, (pktC ps[k])[j]? = some u → (ps.flatMap pktC)[k * 24 + j]? = some u := fun j u e => pkt_cell hkl2 e
        (refine go ?_; intros)
        refine wpC_drawnA [pktsI (.slice (some ⟨pb, po, none⟩) ps.length pc) ps, pktsI (.slice (some ⟨qb, qo, none⟩) ps.length qc) ps] 9 ?_
        ((first | refine dt 0 ?_ | refine dts 0 ?_); (first | refine dt 1 ?_ | refine dts 1 ?_))
        refine dtB 2 rfl (ev_indexS 24 rfl rfl rfl rfl rfl rfl hkl2) ?_
        refine dtB 3 rfl (ev_load_rd_agg (vs := pktC ps[k]) rfl rfl rfl rfl hrp (by repeat (first | exact Pick.head | apply Pick.tail)) rfl rfl hm) ?_
        ((first | refine dt 4 ?_ | refine dts 4 ?_); (first | refine df 5 ?_ | refine dfs 5 ?_))
        refine dfB 6 rfl (ev_indexS 24 rfl rfl rfl rfl rfl rfl hkl2) ?_
        refine dfB 7 rfl (ev_load_rd_agg (vs := pktC ps[k]) rfl rfl rfl rfl hrq (by repeat (first | exact Pick.head | apply Pick.tail)) rfl rfl hm) ?_
        (refine dcall 8 (pkt_same ps[k]) (fun _ _ => ?_); try simp only [List.cons_append, List.nil_append])
        (refine dl ?_)
        (refine go ?_; intros)
        refine q_round (k + 1) (by omega) (by omega) (by repeat (first | exact trivial | refine ⟨rfl, ?_⟩)) (by ((try simp only [List.cons_append, List.nil_append]); repeat (first | exact Ent.nil | (apply Ent.cons; repeat (first | exact Pick.head | apply Pick.tail)))))
      · (refine go ?_; intros)
        refine q_round ⟨i + 1, L1⟩ (by simp only; omega) (by simp only; omega) (by repeat (first | exact trivial | refine ⟨rfl, ?_⟩)) (by ((try simp only [List.cons_append, List.nil_append]); repeat (first | exact Ent.nil | (apply Ent.cons; repeat (first | exact Pick.head | apply Pick.tail)))))
  · by_cases hi1 : i < acts.length
    all_goals
      (refine go ?_; intros)
      (show wpO _ _ ⟨_, .call _, _, _, _, _⟩ _ _ _ _ _ _; refine o_callA (law_awake) (fun _ _ => ?_); try simp only [List.cons_append, List.nil_append])
      (refine go ?_; intros)
      refine q_ret1 rfl rfl () rfl trivial ?_
      ((try simp only [List.cons_append, List.nil_append]); repeat (first | exact Ent.nil | (apply Ent.cons; repeat (first | exact Pick.head | apply Pick.tail))))
end Go.Proofs.Ytgdofniaalpgpaa
