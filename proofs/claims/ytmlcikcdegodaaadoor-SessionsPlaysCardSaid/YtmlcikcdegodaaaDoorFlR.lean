/-
  The document's messages on their way. Packets held against each other.
  Packets held against each other; what is sent again.
-/
import Derived.Test.YtmlcikcdegodaaaDoorFlQ
set_option linter.unusedSimpArgs false
set_option linter.unusedVariables false
set_option maxRecDepth 20000
namespace Go.Proofs.YtmlcikcdegodaaaDoor
open Go Go.Sx
abbrev refC (x : Nat) (v : Value) : HProp := pts x (.cells [v].toArray 116 (0, 0))
def refI (x : Nat) (L : List PSent) : HProp := exI (σ := Value) (fun _ => L.length ≤ 8) fun v => [refC x v, sentsI v L]
def idxI : Option Nat → Int
  | none => -1
  | some i => i
theorem sent_cell {L : List PSent} {i j : Nat} {u : Value} (h : i < L.length) (e : (sentC L[i])[j]? = some u) : (L.flatMap sentC)[i * 6 + j]? = some u := fm_get sentC_len L i h j u e
theorem fm_take {α : Type} {f : α → List Value} {sz : Nat} (hf : ∀ m, (f m).length = sz) : ∀ (l : List α) (k : Nat), (l.flatMap f).take (k * sz) = (l.take k).flatMap f
  | [], k => by simp
  | a :: l, 0 => by simp
  | a :: l, k + 1 => by
    have e : (k + 1) * sz = (f a).length + k * sz := by rw [hf, Nat.add_mul]; omega
    rw [List.flatMap_cons, List.take_succ_cons, List.flatMap_cons, e, List.take_length_add_append, fm_take hf l k]
theorem fm_drop {α : Type} {f : α → List Value} {sz : Nat} (hf : ∀ m, (f m).length = sz) : ∀ (l : List α) (k : Nat), (l.flatMap f).drop (k * sz) = (l.drop k).flatMap f
  | [], k => by simp
  | a :: l, 0 => by simp
  | a :: l, k + 1 => by
    have e : (k + 1) * sz = (f a).length + k * sz := by rw [hf, Nat.add_mul]; omega
    rw [List.flatMap_cons, List.drop_succ_cons, e, List.drop_length_add_append, fm_drop hf l k]
theorem eqV_msg (m m' : PMsg) : eqV Tryd.prog 6 51 (msgV m) (msgV m') = some (decide (m.topic = m'.topic) && (decide (m.text = m'.text) && ((m.qos == m'.qos) && ((m.retain == m'.retain) && true)))) := by kernel_rfl
theorem eqV_msg_self (m : PMsg) : eqV Tryd.prog 6 51 (msgV m) (msgV m) = some true := by rw [eqV_msg]; simp
def connV : Value := .agg #[.int .i64 0, .bool false, .int .i64 0, .string ⟨#[]⟩, .bool false, .string ⟨#[]⟩, .string ⟨#[]⟩, .int .i64 0, .bool false, .bool false, .string ⟨#[]⟩, .bool false, .string ⟨#[]⟩]
theorem eqV_conn : eqV Tryd.prog 6 84 connV connV = some true := by kernel_rfl
attribute [local irreducible] MidQ wpE wpO wpC qE wpQ wpQO wpH wpHO wpD wpDO wpZ Ev own emp exI sl ch PostS LoopQ Rd rowsAt
theorem refI_close {x b cap : Nat} {L L' : List PSent} {junk : List Value} {M R : List HProp} (h8 : L'.length ≤ 8) (hl : L'.length = L.length) (q1 : L.length ≤ cap) (q2 : cap ≤ maxLen) (q3 : (L.flatMap sentC ++ junk).length = cap * 6)
    (e : Ent M (refC x (.slice (some ⟨b, 0, none⟩) L.length cap) :: pts b (.cells (L'.flatMap sentC ++ junk).toArray 133 (0, 0)) :: R)) : Ent M (refI x L' :: R) := by
  refine Ent.trans e (Ent.fold (.slice (some ⟨b, 0, none⟩) L.length cap) h8 (Ent.cons .head ?_))
  rw [sentsI, hl]
  exact Ent.slClose .head (by rw [fm_length sentC_len]; omega) (fm_one sentC_one _) q1 q2 (by rw [List.length_append, fm_length sentC_len, hl, ← fm_length (f := sentC) sentC_len L, ← List.length_append]; exact q3) (Ent.refl _)
theorem ref_find (x : Nat) (v : Value) (L : List PSent) (id : Int) (h8 : L.length ≤ 8) : FnDoes Tryd.prog 58 [ptr x, .int .i64 id] [refC x v, sentsI v L] (fun _ : Unit => True) (fun _ => .int .i64 (idxI (idxF L id))) (fun _ => [refC x v, sentsI v L]) := by
  refine does_of Tryd.func58 rfl rfl Tryd.ntmps58 rfl (by simp only [enum, Nat.reduceAdd, Nat.zero_add]; exact rfl) (fun c => ?_)
  have hr : Rd (sentsI v L) 6 v L.length (L.flatMap sentC) := Rd.ofSl
  refine wpC_fact (hr.isSlice (by repeat (first | exact Pick.head | apply Pick.tail))) (fun hk => ?_)
  obtain ⟨a, cap, rfl, hk⟩ := hk
  (refine go ?_; intros)
  refine wpC_loop (σ := Nat) (fun j => j ≤ L.length ∧ ∀ k (hk : k < L.length), k < j → L[k].id ≠ id) (fun j => [(0, ptr x), (1, .int .i64 id), (5, .int .i64 j)])
    (fun _ => [refC x (.slice a L.length cap), sentsI (.slice a L.length cap) L]) (fun j => L.length - j) 0 ⟨Nat.zero_le _, fun k _ h => by omega⟩ (by repeat (first | exact trivial | refine ⟨rfl, ?_⟩)) (by ((try simp only [List.cons_append, List.nil_append]); repeat (first | exact Ent.nil | (apply Ent.cons; repeat (first | exact Pick.head | apply Pick.tail))))) (fun j hj => ?_)
  obtain ⟨j1, j2⟩ := hj
  by_cases hjl : j < L.length
  · obtain ⟨b, o, rfl, _⟩ := hk (by omega)
    have hcell : (L.flatMap sentC)[j * 6 + 0]? = some (.int .i64 L[j].id) := sent_cell hjl rfl
    by_cases he : L[j].id = id
    all_goals
      (refine go ?_; intros)
      refine o_evB (ev_load_rd rfl rfl rfl hr (by repeat (first | exact Pick.head | apply Pick.tail)) rfl hcell) ?_
      (refine go ?_; intros)
      first
        | (refine q_ret1 rfl rfl () ?_ trivial (by ((try simp only [List.cons_append, List.nil_append]); repeat (first | exact Ent.nil | (apply Ent.cons; repeat (first | exact Pick.head | apply Pick.tail)))))
           rw [idxF_some hjl he j2]; rfl)
        | refine q_round (j + 1) ⟨by omega, fun k hk hkj => by
            by_cases c : k = j
            · subst c; exact he
            · exact j2 k hk (by omega)⟩ (by omega) (by repeat (first | exact trivial | refine ⟨rfl, ?_⟩)) (by ((try simp only [List.cons_append, List.nil_append]); repeat (first | exact Ent.nil | (apply Ent.cons; repeat (first | exact Pick.head | apply Pick.tail)))))
  · (refine go ?_; intros)
    refine q_ret1 rfl rfl () ?_ trivial (by ((try simp only [List.cons_append, List.nil_append]); repeat (first | exact Ent.nil | (apply Ent.cons; repeat (first | exact Pick.head | apply Pick.tail)))))
    rw [idxF_none (fun k hk => j2 k hk (by omega))]; rfl
theorem least_is : ∀ (L : List PSent), ∃ k, LeastF L k := fun L => by
  have h : ∃ k : Nat, 1 ≤ k ∧ ∀ s ∈ L, s.id ≠ k := by
    by_cases c : ∃ k : Nat, 1 ≤ k ∧ ∀ s ∈ L, s.id ≠ k
    · exact c
    · exfalso
      have := pigeon (L.length + 1) (L.map (·.id)) (fun k k1 _ => by
        by_cases c2 : (k : Int) ∈ L.map (·.id)
        · exact c2
        · exact absurd ⟨k, k1, fun s hs e => c2 (List.mem_map.2 ⟨s, hs, e⟩)⟩ c)
      rw [List.length_map] at this
      omega
  obtain ⟨k, hk⟩ := h
  induction k using Nat.strongRecOn with
  | _ k ih =>
    by_cases c : ∃ j : Nat, j < k ∧ 1 ≤ j ∧ ∀ s ∈ L, s.id ≠ j
    · obtain ⟨j, j1, j2⟩ := c
      exact ih j j1 j2
    · refine ⟨k, hk.1, hk.2, fun j j1 j2 => ?_⟩
      by_cases c2 : ∃ s ∈ L, s.id = (j : Int)
      · exact c2
      · exact absurd ⟨j, j2, j1, fun s hs e => c2 ⟨s, hs, e⟩⟩ c
theorem idx_there {L : List PSent} {id : Int} (h : ∃ s ∈ L, s.id = id) : ∃ i, idxF L id = some i := by
  cases e : idxF L id with
  | some i => exact ⟨i, rfl⟩
  | none => obtain ⟨s, hs, e'⟩ := h; exact absurd e' (idxF_no e s hs)
theorem ref_send (x : Nat) (L : List PSent) (m : PMsg) : FnDoes Tryd.prog 52 [ptr x, msgV m] [refI x L] (fun y : SendR => SendOk L m y) (fun y => .tuple #[.int .i64 y.id, .int .i64 y.e]) (fun y => [refI x y.L]) := by
  refine does_of Tryd.func52 rfl rfl Tryd.ntmps52 rfl (by simp only [enum, Nat.reduceAdd, Nat.zero_add]; exact rfl) (fun c => ?_)
  refine wpC_unfold .head (fun v h8 => ?_)
  simp only [List.cons_append, List.nil_append]
  by_cases q0 : m.qos < 1 ∨ 2 < m.qos
  · (refine go ?_; intro mb)
    refine q_ret2 rfl rfl rfl ⟨0, 10, L⟩ rfl (by unfold SendOk; rw [if_pos q0]) (Ent.fold v h8 (by ((try simp only [List.cons_append, List.nil_append]); repeat (first | exact Ent.nil | (apply Ent.cons; repeat (first | exact Pick.head | apply Pick.tail))))))
  by_cases c8 : 8 ≤ L.length
  · by_cases q1 : m.qos = 1
    all_goals
      (refine go ?_; intro mb)
      refine q_ret2 rfl rfl rfl ⟨0, 6, L⟩ rfl (by unfold SendOk; rw [if_neg q0, if_pos c8]) (Ent.fold v h8 (by ((try simp only [List.cons_append, List.nil_append]); repeat (first | exact Ent.nil | (apply Ent.cons; repeat (first | exact Pick.head | apply Pick.tail))))))
  obtain ⟨k, hk⟩ := least_is L
  have hk9 := hk.le
  have F := fun id => ref_find x v L id h8
  have hst : stOf m = if m.qos = 2 then 2 else 1 := rfl
  by_cases q1 : m.qos = 1
  all_goals
    have q1' := q1
    (refine goB ?_; intro mb)
    refine wpC_meet (σ := Unit) (fun _ => True) (fun _ => [(0, ptr x), (3, ptr mb), (6, .int .i64 k)]) (fun _ => [refC x v, sentsI v L, pts mb (.cells m.cells.toArray 51 (0, 0))]) ?_ (fun _ _ => ?_)
    · refine wpC_block ?_
      refine wpC_loop (σ := Nat) (fun i => 1 ≤ i ∧ i ≤ k) (fun i => [(0, ptr x), (3, ptr mb), (6, .int .i64 i)]) (fun _ => [refC x v, sentsI v L, pts mb (.cells m.cells.toArray 51 (0, 0))]) (fun i => k - i) 1 ⟨Nat.le_refl _, hk.1⟩ (by repeat (first | exact trivial | refine ⟨rfl, ?_⟩)) (by ((try simp only [List.cons_append, List.nil_append]); repeat (first | exact Ent.nil | (apply Ent.cons; repeat (first | exact Pick.head | apply Pick.tail))))) (fun i hi => ?_)
      have S := F i
      by_cases hik : i = k
      · subst hik
        rw [idxF_none (fun j hj => hk.2.1 _ (List.getElem_mem hj))] at S
        simp only [idxI] at S
        (refine go ?_; intros)
        (show wpO _ _ ⟨_, .call _, _, _, _, _⟩ _ _ _ _ _ _; refine o_callA (S) (fun _ _ => ?_); try simp only [List.cons_append, List.nil_append])
        (refine go ?_; intros)
        exact q_mid () trivial (by repeat (first | exact trivial | refine ⟨rfl, ?_⟩)) (by ((try simp only [List.cons_append, List.nil_append]); repeat (first | exact Ent.nil | (apply Ent.cons; repeat (first | exact Pick.head | apply Pick.tail)))))
      · obtain ⟨j, hj⟩ := idx_there (hk.2.2 i hi.1 (by omega))
        rw [hj] at S
        simp only [idxI] at S
        (refine go ?_; intros)
        (show wpO _ _ ⟨_, .call _, _, _, _, _⟩ _ _ _ _ _ _; refine o_callA (S) (fun _ _ => ?_); try simp only [List.cons_append, List.nil_append])
        (refine go ?_; intros)
        exact q_round (i + 1) ⟨by omega, by omega⟩ (by omega) (by repeat (first | exact trivial | refine ⟨rfl, ?_⟩)) (by ((try simp only [List.cons_append, List.nil_append]); repeat (first | exact Ent.nil | (apply Ent.cons; repeat (first | exact Pick.head | apply Pick.tail)))))
    · obtain ⟨s0, hs0⟩ : ∃ s0, s0 = stOf m := ⟨_, rfl⟩
      have hs1 : s0 = if m.qos = 2 then 2 else 1 := by rw [hs0]; rfl
      first
        | (rw [if_neg (by omega)] at hs1
           have hq : ¬ m.qos = 2 := by omega
           (refine go ?_; intros))
        | (rw [if_pos (by omega)] at hs1
           have hq : m.qos = 2 := by omega
           (refine go ?_; intros))
      all_goals
        refine wpC_drawnA [refC x v, pts mb (.cells m.cells.toArray 51 (0, 0))] 13 ?_
        ((first | refine dt 0 ?_ | refine dts 0 ?_); (first | refine dt 1 ?_ | refine dts 1 ?_); (first | refine dt 2 ?_ | refine dts 2 ?_); (first | refine dt 3 ?_ | refine dts 3 ?_); (first | refine dt 4 ?_ | refine dts 4 ?_); (first | refine dt 5 ?_ | refine dts 5 ?_); (first | refine dt 6 ?_ | refine dts 6 ?_); (first | refine df 7 ?_ | refine dfs 7 ?_); (first | refine df 8 ?_ | refine dfs 8 ?_))
        (refine wpD_eff 9 rfl rfl (by kernel_rfl) rfl rfl ?_; show OVL _ ⟨_, .buildSlice _ _ _, _, _, _, _⟩ _ _ _ _ _ _)
        refine x_buildSlice1 (l := sentC ⟨k, s0, m⟩) (by rfl) (by rw [hs1]; rfl) (by rfl) (by rfl) (by rfl) (by rfl) (by rfl) (by rfl) (fun b2 => ⟨(by (try simp only [List.cons_append, List.nil_append]); repeat (first | exact Ent.nil | (apply Ent.cons; repeat (first | exact Pick.head | apply Pick.tail)))), ?_⟩)
        (refine wpD_eff 10 rfl rfl (by kernel_rfl) rfl rfl ?_; show OVL _ ⟨_, .call { callee := .builtin .append, args := _, argTypes := _ }, _, _, _, _⟩ _ _ _ _ _ _)
        refine x_append (sz := 6) (news := sentC ⟨k, s0, m⟩) (m := 1) (by rfl) (by rfl) (by rfl) (by rfl) (by rfl) (by rfl) (by rfl) (by rfl) (by repeat (first | exact Pick.head | apply Pick.tail)) ?_ ?_ (fun v' => ⟨(by (try simp only [List.cons_append, List.nil_append]); repeat (first | exact Ent.nil | (apply Ent.cons; repeat (first | exact Pick.head | apply Pick.tail)))), ?_⟩)
        · exact src_pts rfl (by repeat (first | exact Pick.head | apply Pick.tail)) rfl rfl rfl
        · show (L.length + 1) * 64 ≤ 140737488355328
          omega
        rw [sentsI_snoc]
        ((first | refine df 11 ?_ | refine dfs 11 ?_); (first | refine df 12 ?_ | refine dfs 12 ?_))
        (refine wpD_lastU rfl rfl (by kernel_rfl) (by kernel_rfl) rfl ?_; show OUL _ ⟨_, .store _ _ _, _, _, _, _⟩ _ _ _ _ _)
        refine OUL_know (sl_one (v := v') (by repeat (first | exact Pick.head | apply Pick.tail))) (fun hv' => ?_)
        refine x_store (l' := ?_) (by rfl) (by rfl) (by rfl) (by rfl) hv' (by repeat (first | exact Pick.head | apply Pick.tail)) ?_ ?_
        rotate_left
        (first | exact Upd1.head | exact (Upd1.tail Upd1.head) | exact (Upd1.tail (Upd1.tail Upd1.head)) | exact (Upd1.tail (Upd1.tail (Upd1.tail Upd1.head))) | exact (Upd1.tail (Upd1.tail (Upd1.tail (Upd1.tail Upd1.head)))) | exact (Upd1.tail (Upd1.tail (Upd1.tail (Upd1.tail (Upd1.tail Upd1.head))))) | exact (Upd1.tail (Upd1.tail (Upd1.tail (Upd1.tail (Upd1.tail (Upd1.tail Upd1.head)))))) | exact (Upd1.tail (Upd1.tail (Upd1.tail (Upd1.tail (Upd1.tail (Upd1.tail (Upd1.tail Upd1.head))))))) | exact (Upd1.tail (Upd1.tail (Upd1.tail (Upd1.tail (Upd1.tail (Upd1.tail (Upd1.tail (Upd1.tail Upd1.head)))))))) | exact (Upd1.tail (Upd1.tail (Upd1.tail (Upd1.tail (Upd1.tail (Upd1.tail (Upd1.tail (Upd1.tail (Upd1.tail Upd1.head))))))))))
        (refine go ?_; intros)
        refine q_ret2 rfl rfl rfl ⟨k, 0, L ++ [⟨k, s0, m⟩]⟩ rfl (by unfold SendOk; rw [if_neg q0, if_neg c8, hs0]; exact ⟨k, hk, rfl⟩) ?_
        exact Ent.fold v' (by simp; omega) (by ((try simp only [List.cons_append, List.nil_append]); repeat (first | exact Ent.nil | (apply Ent.cons; repeat (first | exact Pick.head | apply Pick.tail)))))
end Go.Proofs.YtmlcikcdegodaaaDoor
set_option linter.unusedSimpArgs false
set_option linter.unusedVariables false
set_option maxRecDepth 20000
namespace Go.Proofs.YtmlcikcdegodaaaDoor
open Go Go.Sx
def pktV (p : PPkt) : Value := .agg (pktC p).toArray
attribute [local irreducible] MidQ wpE wpO wpC qE wpQ wpQO wpH wpHO wpD wpDO wpZ Ev own emp exI sl ch PostS LoopQ Rd rowsAt
end Go.Proofs.YtmlcikcdegodaaaDoor
