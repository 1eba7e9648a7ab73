/-
  SessionsPlays' walk.
-/
import Derived.Test.YtmlcikcdegodaaaDoorSssS
set_option linter.unusedSimpArgs false
set_option linter.unusedVariables false
set_option maxRecDepth 20000
namespace Go.Proofs.YtmlcikcdegodaaaDoor
open Go Go.Sx
structure SpSt where
  i : Nat
  L : List Slot
  R : List Slot
structure SpOk (n : Nat) (y : SpSt) : Prop where
  i8 : y.i ≤ 80
  il : y.i ≤ n
  l8 : y.L.length = 8
  r8 : y.R.length = 8
  zz : Sx.zz y.L = Sx.zz y.R
  lo : LostOk y.L y.i
structure SpMid where
  L : List Slot
  R : List Slot
structure MidOk (n : Int) (y : SpMid) : Prop where
  l8 : y.L.length = 8
  r8 : y.R.length = 8
  zz : Sx.zz y.L = Sx.zz y.R
  lo : LostOk y.L n
theorem sssV_set {L : List Slot} {i p : Nat} {z z' : Ses} (h : L[i]? = some (some (p, z))) : sssV (L.set i (some (p, z'))) = sssV L := by
  have hi := (List.getElem?_eq_some_iff.1 h).1
  have e1 := set_slot hi (some (p, z)) rfl
  have e2 := set_slot hi (some (p, z')) rfl
  rw [set_same h] at e1
  rw [← e2, e1]
theorem refP_set {L : List Slot} {i p : Nat} {z z' : Ses} (h : L[i]? = some (some (p, z))) : (L.set i (some (p, z'))).map refP = L.map refP := by
  rw [List.map_set, show refP (some (p, z')) = refP (some (p, z)) from rfl, ← List.map_set, rset_same h]
theorem zz_del {L R : List Slot} (h : Sx.zz L = Sx.zz R) (i p q : Nat) (z : Ses) : Sx.zz (L.set i (some (p, z))) = Sx.zz (R.set i (some (q, z))) := by rw [zz_set, zz_set, h]; rfl
def tM28 : PMsg := ⟨⟨#[116]⟩, ⟨#[]⟩, 1, false⟩
theorem del_le (z : Ses) {n : Int} (h0 : 0 ≤ z.lost) (h1 : z.lost ≤ n) : 0 ≤ (delZ z tM28 1).lost ∧ (delZ z tM28 1).lost ≤ n + 1 := by
  rcases del_lost28 z tM28 1 with e | e <;> omega
attribute [local irreducible] MidQ wpE wpO wpC qE wpQ wpQO wpH wpHO wpD wpDO wpZ Ev own emp exI sl ch PostS LoopQ Rd rowsAt
set_option maxHeartbeats 8000000 in
theorem plays_walk (H : PHeap) (V : ValidIn H) (v : Value) (acts : List SsAct) (hv : rowsAt H 4 v (acts.map ssactC)) : FnDoes Tryd.prog 6 [v] [own H] (fun _ : Unit => True) (fun _ => .bool true) (fun _ => [own H]) := by
  refine does_of Tryd.func6 rfl rfl Tryd.ntmps6 rfl (by simp only [enum, Nat.reduceAdd, Nat.zero_add]; exact rfl) (fun c => ?_)
  obtain ⟨a, cap, rfl⟩ := hv.slice
  have hv' := hv
  simp only [List.length_map] at hv' ⊢
  (refine go ?_; intros)
  (show wpO _ _ ⟨_, .call _, _, _, _, _⟩ _ _ _ _ _ _; refine o_callA (sss_new) (fun t _ => ?_); try simp only [List.cons_append, List.nil_append])
  (refine go ?_; intro x)
  refine wpC_loop (σ := SpSt) (SpOk acts.length) (fun y => [(0, .slice a acts.length cap), (3, ptr t), (4, ptr x), (5, .int .i64 y.i)]) (fun y => [own H, sssC t y.L, sssS y.L, rssC x y.R, rssS y.R]) (fun y => 80 - y.i) ⟨0, L0, L0⟩ ⟨Nat.zero_le _, Nat.zero_le _, rfl, rfl, rfl, (fun i p z e => by
    exfalso
    have e' : (List.replicate 8 (none : Slot))[i]? = some (some (p, z)) := e
    rw [List.getElem?_replicate] at e'
    split at e' <;> cases e')⟩ (by repeat (first | exact trivial | refine ⟨rfl, ?_⟩)) (Ent.cons (by repeat (first | exact Pick.head | apply Pick.tail)) (Ent.cons (by repeat (first | exact Pick.head | apply Pick.tail)) (Ent.cons (by repeat (first | exact Pick.head | apply Pick.tail)) (Ent.cons (by repeat (first | exact Pick.head | apply Pick.tail)) (Ent.starEmp (fun A hA => by
      have hA' : A ∈ List.replicate 8 (emp : HProp) := hA
      exact List.eq_of_mem_replicate hA') Ent.nil))))) (fun y hy => ?_)
  obtain ⟨i, L, R⟩ := y
  obtain ⟨y1, y2, y3, y4, y5, y6⟩ := hy
  simp only at y1 y2 y3 y4 y5 y6 ⊢
  by_cases hi : i < acts.length ∧ i < 80
  · obtain ⟨i1, i2⟩ := hi
    obtain ⟨b', off, cap', e, hc⟩ := hv'.at i (by simpa using i1)
    simp only [List.length_map, Value.slice.injEq] at e
    obtain ⟨rfl, _, rfl⟩ := e
    have hc' : ∀ j u, (ssactC acts[i])[j]? = some u → H.cell? ⟨b', off + i * 4 + j, none⟩ = some u := fun j u e => hc j u (by simpa using e)
    clear hc
    generalize acts[i] = aa at hc'
    (refine goB ?_; intros)
    refine wpC_block ?_
    (refine goB ?_; intro ab)
    refine wpC_meet (σ := SpMid) (MidOk ((i : Int) + 1)) (fun _ => [(0, .slice (some ⟨b', off, none⟩) acts.length cap), (3, ptr t), (4, ptr x), (5, .int .i64 i)]) (fun y => [own H, sssC t y.L, sssS y.L, rssC x y.R, rssS y.R]) ?_ (fun y hy => ?_)
    · refine wpC_block ?_
      by_cases k01 : aa.k = 0 ∨ aa.k = 1
      · by_cases k0 : aa.k = 0
        · (refine go ?_; intros)
          (show wpO _ _ ⟨_, .call _, _, _, _, _⟩ _ _ _ _ _ _; refine o_callA (sss_open H V t L y3 aa.client aa.clean) (fun s _ => ?_); try simp only [List.cons_append, List.nil_append])
          (refine go ?_; intros)
          (show wpO _ _ ⟨_, .call _, _, _, _, _⟩ _ _ _ _ _ _; refine o_callA (rss_open x R y4 aa.client aa.clean) (fun s2 _ => ?_); try simp only [List.cons_append, List.nil_append])
          obtain ⟨o1, o2, o3, o4⟩ := openR_zz y5 (newB aa.client) aa.client aa.clean s s2
          rw [← o1, ← o2, ← o3]
          (refine go ?_; intros)
          exact q_mid ⟨(openR (newB aa.client) L aa.client aa.clean s).L, (openR (newB aa.client) R aa.client aa.clean s2).L⟩ ⟨by simp only; rw [openR_len]; exact y3, by simp only; rw [openR_len]; exact y4, o4, lost_open (lost_mono y6 (by omega)) (by omega) _ _ _ _⟩ (by repeat (first | exact trivial | refine ⟨rfl, ?_⟩)) (by ((try simp only [List.cons_append, List.nil_append]); repeat (first | exact Ent.nil | (apply Ent.cons; repeat (first | exact Pick.head | apply Pick.tail)))))
        · have k1 : aa.k = 1 := by omega
          (refine go ?_; intros)
          (show wpO _ _ ⟨_, .call _, _, _, _, _⟩ _ _ _ _ _ _; refine o_callA (sss_open H V t L y3 aa.client aa.clean) (fun s _ => ?_); try simp only [List.cons_append, List.nil_append])
          (refine go ?_; intros)
          (show wpO _ _ ⟨_, .call _, _, _, _, _⟩ _ _ _ _ _ _; refine o_callA (rss_open x R y4 aa.client aa.clean) (fun s2 _ => ?_); try simp only [List.cons_append, List.nil_append])
          obtain ⟨o1, o2, o3, o4⟩ := openR_zz y5 (newB aa.client) aa.client aa.clean s s2
          rw [← o1, ← o2, ← o3]
          (refine go ?_; intros)
          exact q_mid ⟨(openR (newB aa.client) L aa.client aa.clean s).L, (openR (newB aa.client) R aa.client aa.clean s2).L⟩ ⟨by simp only; rw [openR_len]; exact y3, by simp only; rw [openR_len]; exact y4, o4, lost_open (lost_mono y6 (by omega)) (by omega) _ _ _ _⟩ (by repeat (first | exact trivial | refine ⟨rfl, ?_⟩)) (by ((try simp only [List.cons_append, List.nil_append]); repeat (first | exact Ent.nil | (apply Ent.cons; repeat (first | exact Pick.head | apply Pick.tail)))))
      have k0 : aa.k ≠ 0 := fun e => k01 (.inl e)
      have k1 : aa.k ≠ 1 := fun e => k01 (.inr e)
      by_cases k2 : aa.k = 2
      · obtain ⟨d1, d2⟩ := dropR_zz y5 aa.slot
        (refine go ?_; intros)
        refine wpC_drawnA [pts ab (.cells (ssactC aa).toArray 26 (0, 0))] 8 ?_
        ((first | refine dt 0 ?_ | refine dts 0 ?_); (first | refine dt 1 ?_ | refine dts 1 ?_); (first | refine dt 2 ?_ | refine dts 2 ?_); (first | refine dt 4 ?_ | refine dts 4 ?_); (first | refine dt 5 ?_ | refine dts 5 ?_); (first | refine dt 6 ?_ | refine dts 6 ?_))
        (refine dcall 3 (sss_dropA t L y3 aa.slot) (fun _ _ => ?_); try simp only [List.cons_append, List.nil_append])
        (refine dcall 7 (rss_dropA x R y4 aa.slot) (fun _ _ => ?_); try simp only [List.cons_append, List.nil_append])
        rw [← d1]
        (refine dl ?_)
        (refine go ?_; intros)
        exact q_mid ⟨(dropR L aa.slot).L, (dropR R aa.slot).L⟩ ⟨by simp only; rw [dropR_len]; exact y3, by simp only; rw [dropR_len]; exact y4, d2, lost_drop (lost_mono y6 (by omega)) _⟩ (by repeat (first | exact trivial | refine ⟨rfl, ?_⟩)) (by ((try simp only [List.cons_append, List.nil_append]); repeat (first | exact Ent.nil | (apply Ent.cons; repeat (first | exact Pick.head | apply Pick.tail)))))
      by_cases k3 : aa.k = 3
      · have stay : MidOk ((i : Int) + 1) ⟨L, R⟩ := ⟨y3, y4, y5, lost_mono y6 (by omega)⟩
        rcases slotAt y3 aa.slot with c | ⟨k, ek, c⟩ | ⟨k, p, z, ek, c⟩
        · by_cases cn : aa.slot < 0
          · (refine go ?_; intros)
            refine wpC_drawnA [pts ab (.cells (ssactC aa).toArray 26 (0, 0)), rssC x R] 17 ?_
            ((first | refine df 0 ?_ | refine dfs 0 ?_); (first | refine df 1 ?_ | refine dfs 1 ?_); (first | refine df 2 ?_ | refine dfs 2 ?_); (first | refine df 3 ?_ | refine dfs 3 ?_); (first | refine df 4 ?_ | refine dfs 4 ?_); (first | refine df 5 ?_ | refine dfs 5 ?_); (first | refine df 6 ?_ | refine dfs 6 ?_); (first | refine df 7 ?_ | refine dfs 7 ?_); (first | refine df 8 ?_ | refine dfs 8 ?_); (first | refine dt 9 ?_ | refine dts 9 ?_); (first | refine dt 10 ?_ | refine dts 10 ?_); (first | refine dt 11 ?_ | refine dts 11 ?_); (first | refine df 12 ?_ | refine dfs 12 ?_); (first | refine df 13 ?_ | refine dfs 13 ?_); (first | refine df 14 ?_ | refine dfs 14 ?_); (first | refine df 15 ?_ | refine dfs 15 ?_); (first | refine df 16 ?_ | refine dfs 16 ?_); refine dl ?_)
            (refine go ?_; intros)
            exact q_mid ⟨L, R⟩ stay (by repeat (first | exact trivial | refine ⟨rfl, ?_⟩)) (by ((try simp only [List.cons_append, List.nil_append]); repeat (first | exact Ent.nil | (apply Ent.cons; repeat (first | exact Pick.head | apply Pick.tail)))))
          · have cn8 : ¬ aa.slot < 8 := by omega
            (refine go ?_; intros)
            refine wpC_drawnA [pts ab (.cells (ssactC aa).toArray 26 (0, 0)), rssC x R] 17 ?_
            ((first | refine df 0 ?_ | refine dfs 0 ?_); (first | refine df 1 ?_ | refine dfs 1 ?_); (first | refine df 2 ?_ | refine dfs 2 ?_); (first | refine df 3 ?_ | refine dfs 3 ?_); (first | refine df 4 ?_ | refine dfs 4 ?_); (first | refine df 5 ?_ | refine dfs 5 ?_); (first | refine df 6 ?_ | refine dfs 6 ?_); (first | refine df 7 ?_ | refine dfs 7 ?_); (first | refine df 8 ?_ | refine dfs 8 ?_); (first | refine dt 9 ?_ | refine dts 9 ?_); (first | refine dt 10 ?_ | refine dts 10 ?_); (first | refine dt 11 ?_ | refine dts 11 ?_); (first | refine df 12 ?_ | refine dfs 12 ?_); (first | refine df 13 ?_ | refine dfs 13 ?_); (first | refine df 14 ?_ | refine dfs 14 ?_); (first | refine df 15 ?_ | refine dfs 15 ?_); (first | refine df 16 ?_ | refine dfs 16 ?_); refine dl ?_)
            (refine go ?_; intros)
            exact q_mid ⟨L, R⟩ stay (by repeat (first | exact trivial | refine ⟨rfl, ?_⟩)) (by ((try simp only [List.cons_append, List.nil_append]); repeat (first | exact Ent.nil | (apply Ent.cons; repeat (first | exact Pick.head | apply Pick.tail)))))
        · have hf := ref_hasF (zz_free y5 c)
          have es : ssactC aa = [.int .i64 aa.k, .string aa.client, .bool aa.clean, .int .i64 (k : Int)] := by unfold ssactC; rw [ek]
          have hk8 : k < 8 := by have := (List.getElem?_eq_some_iff.1 c).1; omega
          rw [es]
          (refine go ?_; intros)
          refine wpC_drawnA [pts ab (.cells [.int .i64 aa.k, .string aa.client, .bool aa.clean, .int .i64 (k : Int)].toArray 26 (0, 0)), rssC x R] 17 ?_
          ((first | refine df 0 ?_ | refine dfs 0 ?_); (first | refine df 1 ?_ | refine dfs 1 ?_); (first | refine df 2 ?_ | refine dfs 2 ?_); (first | refine df 3 ?_ | refine dfs 3 ?_); (first | refine df 4 ?_ | refine dfs 4 ?_); (first | refine df 5 ?_ | refine dfs 5 ?_); (first | refine df 6 ?_ | refine dfs 6 ?_); (first | refine df 7 ?_ | refine dfs 7 ?_); (first | refine df 8 ?_ | refine dfs 8 ?_); (first | refine dt 9 ?_ | refine dts 9 ?_); (first | refine dt 10 ?_ | refine dts 10 ?_); (first | refine dt 11 ?_ | refine dts 11 ?_); (first | refine df 12 ?_ | refine dfs 12 ?_); (first | refine df 13 ?_ | refine dfs 13 ?_); (first | refine df 14 ?_ | refine dfs 14 ?_); (first | refine df 15 ?_ | refine dfs 15 ?_); (first | refine df 16 ?_ | refine dfs 16 ?_); refine dl ?_)
          (refine go ?_; intros)
          exact q_mid ⟨L, R⟩ stay (by repeat (first | exact trivial | refine ⟨rfl, ?_⟩)) (by ((try simp only [List.cons_append, List.nil_append]); repeat (first | exact Ent.nil | (apply Ent.cons; repeat (first | exact Pick.head | apply Pick.tail)))))
        · obtain ⟨q, hq⟩ := zz_taken y5 c
          have hf := ref_hasT hq
          have es : ssactC aa = [.int .i64 aa.k, .string aa.client, .bool aa.clean, .int .i64 (k : Int)] := by unfold ssactC; rw [ek]
          have hk8 : k < 8 := by have := (List.getElem?_eq_some_iff.1 c).1; omega
          obtain ⟨l0, l1⟩ := y6 k p z c
          obtain ⟨m0, m1⟩ := del_le z l0 l1
          have hle : z.lost ≤ 1000000 := by omega
          have eV := sssV_set (z' := delZ z tM28 1) c
          have eR := refP_set (z' := delZ z tM28 1) hq
          rw [es]
          (refine go ?_; intros)
          refine wpC_drawnA [pts ab (.cells [.int .i64 aa.k, .string aa.client, .bool aa.clean, .int .i64 (k : Int)].toArray 26 (0, 0)), rssC x R] 17 ?_
          ((first | refine df 0 ?_ | refine dfs 0 ?_); (first | refine df 1 ?_ | refine dfs 1 ?_); (first | refine df 2 ?_ | refine dfs 2 ?_); (first | refine df 3 ?_ | refine dfs 3 ?_); (first | refine df 4 ?_ | refine dfs 4 ?_); (first | refine df 5 ?_ | refine dfs 5 ?_); (first | refine df 6 ?_ | refine dfs 6 ?_); (first | refine df 7 ?_ | refine dfs 7 ?_); (first | refine df 8 ?_ | refine dfs 8 ?_); (first | refine dt 9 ?_ | refine dts 9 ?_); (first | refine dt 10 ?_ | refine dts 10 ?_); (first | refine dt 11 ?_ | refine dts 11 ?_); (first | refine df 12 ?_ | refine dfs 12 ?_); (first | refine df 13 ?_ | refine dfs 13 ?_); (first | refine df 14 ?_ | refine dfs 14 ?_); (first | refine df 15 ?_ | refine dfs 15 ?_); (first | refine df 16 ?_ | refine dfs 16 ?_); refine dl ?_)
          (refine go ?_; intros)
          refine wpC_ent (rss_out hq (by repeat (first | exact Pick.head | apply Pick.tail))) ?_
          refine wpC_ent (sss_out c (by repeat (first | exact Pick.head | apply Pick.tail))) ?_
          refine wpC_drawnA [pts ab (.cells [.int .i64 aa.k, .string aa.client, .bool aa.clean, .int .i64 (k : Int)].toArray 26 (0, 0)), rssC x R] 8 ?_
          ((first | refine dt 0 ?_ | refine dts 0 ?_); (first | refine dt 1 ?_ | refine dts 1 ?_); (first | refine dt 2 ?_ | refine dts 2 ?_); (first | refine dt 3 ?_ | refine dts 3 ?_); (first | refine dt 4 ?_ | refine dts 4 ?_); (first | refine dt 5 ?_ | refine dts 5 ?_); (first | refine dt 6 ?_ | refine dts 6 ?_); (first | refine df 7 ?_ | refine dfs 7 ?_))
          (refine dlcall (rse_deliver q z tM28 1 l0 hle) (fun v1 _ => ?_); try simp only [List.cons_append, List.nil_append])
          (refine go ?_; intros)
          (show wpO _ _ ⟨_, .call _, _, _, _, _⟩ _ _ _ _ _ _; refine o_callA (sss_atT t L y3 k p z c) (fun _ _ => ?_); try simp only [List.cons_append, List.nil_append])
          (refine go ?_; intros)
          (show wpO _ _ ⟨_, .call _, _, _, _, _⟩ _ _ _ _ _ _; refine o_callA (ses_deliver p z tM28 1 l0 hle) (fun v2 _ => ?_); try simp only [List.cons_append, List.nil_append])
          (refine go ?_; intros)
          refine q_mid ⟨L.set k (some (p, delZ z tM28 1)), R.set k (some (q, delZ z tM28 1))⟩ ⟨by simpa using y3, by simpa using y4, zz_del y5 k p q _, lost_set (lost_mono y6 (by omega)) k _ (fun p' z' e => by cases e; exact ⟨m0, m1⟩)⟩ (by repeat (first | exact trivial | refine ⟨rfl, ?_⟩)) ?_
          simp only
          have eC : sssC t (L.set k (some (p, delZ z tM28 1))) = sssC t L := by
            show pts t (.cells (sssV (L.set k (some (p, delZ z tM28 1)))).toArray 44 (0, 0)) = _
            rw [eV]
          have eD : rssC x (R.set k (some (q, delZ z tM28 1))) = rssC x R := by
            show pts x (.cells ((R.set k (some (q, delZ z tM28 1))).map refP).toArray 59 (0, 0)) = _
            rw [eR]
          rw [eC, eD]
          refine Ent.trans (N := sesI p (delZ z tM28 1) :: sssR L k :: rseI q (delZ z tM28 1) :: rssR R k :: [own H, sssC t L, rssC x R]) (by ((try simp only [List.cons_append, List.nil_append]); repeat (first | exact Ent.nil | (apply Ent.cons; repeat (first | exact Pick.head | apply Pick.tail))))) ?_
          refine Ent.trans (sss_inS (by omega) .head .head) ?_
          exact Ent.trans (N := rssS (R.set k (some (q, delZ z tM28 1))) :: sssS (L.set k (some (p, delZ z tM28 1))) :: [own H, sssC t L, rssC x R]) (Ent.trans (N := rseI q (delZ z tM28 1) :: rssR R k :: sssS (L.set k (some (p, delZ z tM28 1))) :: [own H, sssC t L, rssC x R]) (by ((try simp only [List.cons_append, List.nil_append]); repeat (first | exact Ent.nil | (apply Ent.cons; repeat (first | exact Pick.head | apply Pick.tail))))) (rss_inS (by omega) .head .head)) (by ((try simp only [List.cons_append, List.nil_append]); repeat (first | exact Ent.nil | (apply Ent.cons; repeat (first | exact Pick.head | apply Pick.tail)))))
      · have e : findL R aa.client = findL L aa.client := by rw [findL_zz, findL_zz, y5]
        have F1 := sss_find t L y3 aa.client
        have F2 := rss_find x R y4 aa.client
        rw [e] at F2
        have stay : MidOk ((i : Int) + 1) ⟨L, R⟩ := ⟨y3, y4, y5, lost_mono y6 (by omega)⟩
        by_cases hf : findL L aa.client < 8
        all_goals
          simp only [hf, if_true, if_false] at F1 F2
          (refine go ?_; intros)
          (show wpO _ _ ⟨_, .call _, _, _, _, _⟩ _ _ _ _ _ _; refine o_callA (F1) (fun _ _ => ?_); try simp only [List.cons_append, List.nil_append])
          (refine go ?_; intros)
          (show wpO _ _ ⟨_, .call _, _, _, _, _⟩ _ _ _ _ _ _; refine o_callA (F2) (fun _ _ => ?_); try simp only [List.cons_append, List.nil_append])
          (refine go ?_; intros)
          exact q_mid ⟨L, R⟩ stay (by repeat (first | exact trivial | refine ⟨rfl, ?_⟩)) (by ((try simp only [List.cons_append, List.nil_append]); repeat (first | exact Ent.nil | (apply Ent.cons; repeat (first | exact Pick.head | apply Pick.tail)))))
    obtain ⟨L', R'⟩ := y
    obtain ⟨z3, z4, z5, z6⟩ := hy
    simp only at z3 z4 z5 z6 ⊢
    (refine go ?_; intros)
    (show wpO _ _ ⟨_, .call _, _, _, _, _⟩ _ _ _ _ _ _; refine o_callA (law_stands t x L' R' z3 z4 z5) (fun _ _ => ?_); try simp only [List.cons_append, List.nil_append])
    (refine go ?_; intros)
    exact q_round ⟨i + 1, L', R'⟩ ⟨by simp only; omega, by simp only; omega, z3, z4, z5, by simpa using z6⟩ (by simp only; omega) (by repeat (first | exact trivial | refine ⟨rfl, ?_⟩)) (by ((try simp only [List.cons_append, List.nil_append]); repeat (first | exact Ent.nil | (apply Ent.cons; repeat (first | exact Pick.head | apply Pick.tail)))))
  · by_cases c1 : i < acts.length
    all_goals
      (refine go ?_; intros)
      (show wpO _ _ ⟨_, .call _, _, _, _, _⟩ _ _ _ _ _ _; refine o_callA (law_awake H V) (fun _ _ => ?_); try simp only [List.cons_append, List.nil_append])
      (refine go ?_; intros)
      exact q_ret1 rfl rfl () rfl trivial (by ((try simp only [List.cons_append, List.nil_append]); repeat (first | exact Ent.nil | (apply Ent.cons; repeat (first | exact Pick.head | apply Pick.tail)))))
end Go.Proofs.YtmlcikcdegodaaaDoor
