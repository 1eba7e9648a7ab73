/-
  Sessions: dropping at any int; awake; SessionsOne's walk.
-/
import Derived.Test.YtmlcikcdegodaaaDoorSsQ
set_option linter.unusedSimpArgs false
set_option linter.unusedVariables false
set_option maxRecDepth 20000
namespace Go.Proofs.YtmlcikcdegodaaaDoor
open Go Go.Sx
structure SsAct where
  k : Int
  client : ByteArray
  clean : Bool
  slot : Int
  deriving Inhabited
def ssactC (a : SsAct) : List Value := [.int .i64 a.k, .string a.client, .bool a.clean, .int .i64 a.slot]
theorem taken_get {L : List Slot} {k : Nat} (h : k < (entF 0 L).length) : (ints (takenL L))[k]? = some (.int .i64 ((entF 0 L)[k].1 : Int)) := by
  unfold ints takenL
  rw [List.map_map, List.getElem?_map, List.getElem?_eq_getElem h]; rfl
def L0 : List Slot := List.replicate 8 none
def aB : ByteArray := ⟨#[97]⟩
theorem aB_new : newB aB = true := by kernel_rfl
theorem wake1 (cn : Bool) (s : Nat) : openR true L0 aB cn s = ⟨0, false, 0, L0.set 0 (some (s, newZ aB cn))⟩ := by
  unfold openR
  rw [if_neg (by simp), if_neg (by decide), if_pos (by decide)]
  rfl
theorem wake2 (s s' : Nat) : openR true (L0.set 0 (some (s, newZ aB false))) aB false s' = ⟨0, true, 0, L0.set 0 (some (s, newZ aB false))⟩ := by
  have hf : findL (L0.set 0 (some (s, newZ aB false))) aB = 0 := findL_is (o := some (s, newZ aB false)) rfl (by simp [isC, newZ]) (fun j hj => by omega)
  unfold openR
  rw [if_neg (by simp), hf, if_pos (by decide), if_pos ⟨rfl, rfl⟩]
  rfl
theorem sss_gone {L : List Slot} {i : Nat} {o : Slot} {M R : List HProp} (h : L[i]? = some o) (pk : Pick M (sssS L) R) : Ent M (sssS (L.set i none) :: R) := by
  have hi := (List.getElem?_eq_some_iff.1 h).1
  have h1 : Ent M (slotI o :: sssR L i :: R) := Ent.out pk (by rw [List.getElem?_map, h]; rfl)
  have h2 : Ent (slotI o :: sssR L i :: R) (emp :: sssR L i :: R) := Ent.trans Ent.cons_tail (Ent.emp (Ent.refl _))
  have h3 := Ent.back (M := emp :: sssR L i :: R) (A := emp) (l := L.map slotI) (i := i) .head .head (by simpa using hi)
  rw [sssS, List.map_set]
  exact Ent.trans h1 (Ent.trans h2 h3)
attribute [local irreducible] MidQ wpE wpO wpC qE wpQ wpQO wpH wpHO wpD wpDO wpZ Ev own emp exI sl ch PostS LoopQ Rd rowsAt
theorem sss_dropA (t : Nat) (L : List Slot) (h : L.length = 8) (i : Int) : FnDoes Tryd.prog 8 [ptr t, .int .i64 i] [sssC t L, sssS L] (fun _ : Unit => True) (fun _ => .bool (dropR L i).b) (fun _ => [sssC t (dropR L i).L, sssS (dropR L i).L]) := by
  rcases slotAt h i with c | ⟨k, rfl, c⟩ | ⟨k, p, z, rfl, c⟩
  · rw [dropR_out c]; exact (sss_dropO t L h i c).frame1 (Picks.ent (by repeat (first | exact Picks.nil | (apply Picks.cons; repeat (first | exact Pick.head | apply Pick.tail))))) (fun _ _ => Ent.refl _)
  · rw [dropR_free c]; exact (sss_dropF t L h k c).frame1 (Picks.ent (by repeat (first | exact Picks.nil | (apply Picks.cons; repeat (first | exact Pick.head | apply Pick.tail))))) (fun _ _ => Ent.refl _)
  · rw [dropR_taken h c]; exact (sss_drop t L h k p z c).frame1 (Picks.ent (by repeat (first | exact Picks.nil | (apply Picks.cons; repeat (first | exact Pick.head | apply Pick.tail))))) (fun _ _ => Ent.trans (Ent.refl _) (Ent.cons (by repeat (first | exact Pick.head | apply Pick.tail)) (Ent.trans (sss_gone c (by repeat (first | exact Pick.head | apply Pick.tail))) (Ent.cons .head Ent.nil))))
theorem law_awake (H : PHeap) (V : ValidIn H) : FnDoes Tryd.prog 14 [] [own H] (fun _ : Unit => True) (fun _ => .bool true) (fun _ => [own H]) := by
  refine does_of Tryd.func14 rfl rfl Tryd.ntmps14 rfl (by simp only [enum, Nat.reduceAdd, Nat.zero_add]; exact rfl) (fun c => ?_)
  (refine go ?_; intros)
  (show wpO _ _ ⟨_, .call _, _, _, _, _⟩ _ _ _ _ _ _; refine o_callA (sss_new) (fun t _ => ?_); try simp only [List.cons_append, List.nil_append])
  have O1 := sss_open H V t L0 (by decide) aB false
  rw [aB_new] at O1
  simp only [wake1] at O1
  (refine go ?_; intros)
  (show wpO _ _ ⟨_, .call _, _, _, _, _⟩ _ _ _ _ _ _; refine o_callA (O1) (fun s _ => ?_); try simp only [List.cons_append, List.nil_append])
  have O2 := sss_open H V t (L0.set 0 (some (s, newZ aB false))) rfl aB false
  rw [aB_new] at O2
  simp only [wake2] at O2
  (refine go ?_; intros)
  (show wpO _ _ ⟨_, .call _, _, _, _, _⟩ _ _ _ _ _ _; refine o_callA (O2) (fun s' _ => ?_); try simp only [List.cons_append, List.nil_append])
  (refine go ?_; intros)
  (show wpO _ _ ⟨_, .call _, _, _, _, _⟩ _ _ _ _ _ _; refine o_callA (sss_len t (L0.set 0 (some (s, newZ aB false))) rfl) (fun _ _ => ?_); try simp only [List.cons_append, List.nil_append])
  rw [show ((takenL (L0.set 0 (some (s, newZ aB false)))).length : Int) = 1 from rfl]
  (refine go ?_; intros)
  exact q_ret1 rfl rfl () rfl trivial (by ((try simp only [List.cons_append, List.nil_append]); repeat (first | exact Ent.nil | (apply Ent.cons; repeat (first | exact Pick.head | apply Pick.tail)))))
structure OneSt where
  i : Nat
  L : List Slot
set_option maxHeartbeats 4000000 in
theorem one_walk (H : PHeap) (V : ValidIn H) (v : Value) (acts : List SsAct) (hv : rowsAt H 4 v (acts.map ssactC)) : FnDoes Tryd.prog 3 [v] [own H] (fun _ : Unit => True) (fun _ => .bool true) (fun _ => [own H]) := by
  refine does_of Tryd.func3 rfl rfl Tryd.ntmps3 rfl (by simp only [enum, Nat.reduceAdd, Nat.zero_add]; exact rfl) (fun c => ?_)
  obtain ⟨a, cap, rfl⟩ := hv.slice
  have hv' := hv
  simp only [List.length_map] at hv' ⊢
  (refine go ?_; intros)
  (show wpO _ _ ⟨_, .call _, _, _, _, _⟩ _ _ _ _ _ _; refine o_callA (sss_new) (fun t _ => ?_); try simp only [List.cons_append, List.nil_append])
  (refine go ?_; intros)
  refine wpC_loop (σ := OneSt) (fun y => (y.i ≤ 60 ∧ y.i ≤ acts.length) ∧ y.L.length = 8 ∧ Uniq y.L) (fun y => [(0, .slice a acts.length cap), (3, ptr t), (4, .int .i64 y.i)]) (fun y => [own H, sssC t y.L, sssS y.L]) (fun y => 60 - y.i) ⟨0, L0⟩ ⟨⟨Nat.zero_le _, Nat.zero_le _⟩, rfl, uniq_none 8⟩ (by repeat (first | exact trivial | refine ⟨rfl, ?_⟩)) (by ((try simp only [List.cons_append, List.nil_append]); repeat (first | exact Ent.nil | (apply Ent.cons; repeat (first | exact Pick.head | apply Pick.tail))))) (fun y hy => ?_)
  obtain ⟨i, L⟩ := y
  simp only at hy ⊢
  obtain ⟨⟨y1, y2⟩, y3, y4⟩ := hy
  by_cases hi : i < acts.length ∧ i < 60
  · obtain ⟨i1, i2⟩ := hi
    obtain ⟨b', off, cap', e, hc⟩ := hv'.at i (by simpa using i1)
    simp only [List.length_map, Value.slice.injEq] at e
    obtain ⟨rfl, _, rfl⟩ := e
    have hc' : ∀ j u, (ssactC acts[i])[j]? = some u → H.cell? ⟨b', off + i * 4 + j, none⟩ = some u := fun j u e => hc j u (by simpa using e)
    clear hc
    generalize acts[i] = aa at hc'
    have c0 : H.cell? ⟨b', off + i * 4, none⟩ = some (.int .i64 aa.k) := hc' 0 _ rfl
    have c1 := hc' 1 _ rfl
    have c2 := hc' 2 _ rfl
    have c3 := hc' 3 _ rfl
    have h8 := entF_len8 y3
    (refine goB ?_; intros)
    refine wpC_block ?_
    refine wpC_seq ?_
    refine wpC_meet (σ := List Slot) (fun L' => L'.length = 8 ∧ Uniq L') (fun _ => [(0, .slice (some ⟨b', off, none⟩) acts.length cap), (3, ptr t), (4, .int .i64 i)]) (fun L' => [own H, sssC t L', sssS L']) ?_ (fun L' hL' => ?_)
    · by_cases ck : aa.k = 2
      · (refine go ?_; intros)
        (show wpO _ _ ⟨_, .call _, _, _, _, _⟩ _ _ _ _ _ _; refine o_callA (sss_dropA t L y3 aa.slot) (fun _ _ => ?_); try simp only [List.cons_append, List.nil_append])
        (refine go ?_; intros)
        exact q_mid (dropR L aa.slot).L ⟨by rw [dropR_len]; exact y3, uniq_dropR y4 _⟩ (by repeat (first | exact trivial | refine ⟨rfl, ?_⟩)) (by ((try simp only [List.cons_append, List.nil_append]); repeat (first | exact Ent.nil | (apply Ent.cons; repeat (first | exact Pick.head | apply Pick.tail)))))
      · (refine go ?_; intros)
        refine wpC_drawnA [own H] 11 ?_
        ((first | refine dt 0 ?_ | refine dts 0 ?_); (first | refine dt 1 ?_ | refine dts 1 ?_); (first | refine dt 2 ?_ | refine dts 2 ?_); (first | refine dt 3 ?_ | refine dts 3 ?_); (first | refine dt 4 ?_ | refine dts 4 ?_); (first | refine dt 5 ?_ | refine dts 5 ?_); (first | refine dt 6 ?_ | refine dts 6 ?_); (first | refine df 7 ?_ | refine dfs 7 ?_); (first | refine df 8 ?_ | refine dfs 8 ?_); (first | refine df 9 ?_ | refine dfs 9 ?_); (first | refine df 10 ?_ | refine dfs 10 ?_))
        (refine dlcall (sss_open H V t L y3 aa.client aa.clean) (fun s _ => ?_); try simp only [List.cons_append, List.nil_append])
        (refine go ?_; intros)
        exact q_mid (openR (newB aa.client) L aa.client aa.clean s).L ⟨by rw [openR_len]; exact y3, uniq_open y3 y4 _ _ _ _⟩ (by repeat (first | exact trivial | refine ⟨rfl, ?_⟩)) (by ((try simp only [List.cons_append, List.nil_append]); repeat (first | exact Ent.nil | (apply Ent.cons; repeat (first | exact Pick.head | apply Pick.tail)))))
    obtain ⟨z3, z4⟩ := hL'
    have h8' := entF_len8 z3
    have htl : (takenL L').length = (entF 0 L').length := by unfold takenL; rw [List.length_map]
    (refine go ?_; intros)
    (show wpO _ _ ⟨_, .call _, _, _, _, _⟩ _ _ _ _ _ _; refine o_callA (sss_all t L' z3) (fun w _ => ?_); try simp only [List.cons_append, List.nil_append])
    have hr : Rd (intsI w (takenL L')) 1 w (takenL L').length (ints (takenL L')) := Rd.ofSl
    refine wpE_fact (hr.isSlice (by repeat (first | exact Pick.head | apply Pick.tail))) (fun hk => ?_)
    obtain ⟨wa, wc, rfl, hk⟩ := hk
    (refine go ?_; intros)
    refine wpC_loop (σ := Nat) (fun k => k ≤ (takenL L').length) (fun k => [(0, .slice (some ⟨b', off, none⟩) acts.length cap), (3, ptr t), (4, .int .i64 i), (5, .slice wa (takenL L').length wc), (6, .int .i64 k)]) (fun _ => [own H, sssC t L', sssS L', intsI (.slice wa (takenL L').length wc) (takenL L')]) (fun k => (takenL L').length - k) 0 (Nat.zero_le _) (by repeat (first | exact trivial | refine ⟨rfl, ?_⟩)) (by ((try simp only [List.cons_append, List.nil_append]); repeat (first | exact Ent.nil | (apply Ent.cons; repeat (first | exact Pick.head | apply Pick.tail))))) (fun k hkk => ?_)
    by_cases hkl : k < (takenL L').length
    · obtain ⟨wb, wo, rfl, hwc⟩ := hk (by omega)
      have hke : k < (entF 0 L').length := by omega
      obtain ⟨z, hz, _⟩ := ent_of (List.getElem?_eq_getElem hke)
      have hi8 : (entF 0 L')[k].1 < 8 := by have := (List.getElem?_eq_some_iff.1 hz).1; omega
      have hcell : (ints (takenL L'))[k * 1]? = some (.int .i64 ((entF 0 L')[k].1 : Int)) := by
        rw [Nat.mul_one, taken_get hke]
      have F := sss_find t L' z3 z.client
      rw [uniq_find z4 hz] at F
      simp only [hi8, if_true] at F
      (refine go ?_; intros)
      refine o_evB (ev_load_rd rfl rfl rfl hr (by repeat (first | exact Pick.head | apply Pick.tail)) rfl hcell) ?_
      (refine go ?_; intros)
      (show wpO _ _ ⟨_, .call _, _, _, _, _⟩ _ _ _ _ _ _; refine o_callA (sss_atT t L' z3 (entF 0 L')[k].1 (entF 0 L')[k].2 z hz) (fun _ _ => ?_); try simp only [List.cons_append, List.nil_append])
      (refine go ?_; intros)
      refine wpO_ent (sss_out hz (by repeat (first | exact Pick.head | apply Pick.tail))) ?_
      (show wpO _ _ ⟨_, .call _, _, _, _, _⟩ _ _ _ _ _ _; refine o_callA (ses_client (entF 0 L')[k].2 z) (fun _ _ => ?_); try simp only [List.cons_append, List.nil_append])
      refine wpE_ent (sss_in hz (by repeat (first | exact Pick.head | apply Pick.tail)) (by repeat (first | exact Pick.head | apply Pick.tail))) ?_
      (refine go ?_; intros)
      (show wpO _ _ ⟨_, .call _, _, _, _, _⟩ _ _ _ _ _ _; refine o_callA (F) (fun _ _ => ?_); try simp only [List.cons_append, List.nil_append])
      (refine go ?_; intros)
      refine o_evB (ev_load_rd rfl rfl rfl hr (by repeat (first | exact Pick.head | apply Pick.tail)) rfl hcell) ?_
      (refine go ?_; intros)
      refine q_round (k + 1) (by omega) (by omega) (by repeat (first | exact trivial | refine ⟨rfl, ?_⟩)) (by ((try simp only [List.cons_append, List.nil_append]); repeat (first | exact Ent.nil | (apply Ent.cons; repeat (first | exact Pick.head | apply Pick.tail)))))
    · have hle : ((takenL L').length : Int) ≤ 8 := by omega
      (refine go ?_; intros)
      refine q_round ⟨i + 1, L'⟩ ⟨⟨by simp only; omega, by simp only; omega⟩, z3, z4⟩ (by simp only; omega) (by repeat (first | exact trivial | refine ⟨rfl, ?_⟩)) (by ((try simp only [List.cons_append, List.nil_append]); repeat (first | exact Ent.nil | (apply Ent.cons; repeat (first | exact Pick.head | apply Pick.tail)))))
  · by_cases c1 : i < acts.length
    all_goals
      (refine go ?_; intros)
      (show wpO _ _ ⟨_, .call _, _, _, _, _⟩ _ _ _ _ _ _; refine o_callA (law_awake H V) (fun _ _ => ?_); try simp only [List.cons_append, List.nil_append])
      (refine go ?_; intros)
      exact q_ret1 rfl rfl () rfl trivial (by ((try simp only [List.cons_append, List.nil_append]); repeat (first | exact Ent.nil | (apply Ent.cons; repeat (first | exact Pick.head | apply Pick.tail)))))
end Go.Proofs.YtmlcikcdegodaaaDoor
