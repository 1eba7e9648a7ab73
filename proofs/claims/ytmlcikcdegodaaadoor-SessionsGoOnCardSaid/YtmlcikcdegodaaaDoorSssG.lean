/-
  SessionsGoOn's walk.
-/
import Derived.Test.YtmlcikcdegodaaaDoorSssL
set_option linter.unusedSimpArgs false
set_option linter.unusedVariables false
set_option maxRecDepth 20000
namespace Go.Proofs.YtmlcikcdegodaaaDoor
open Go Go.Sx
def zB : ByteArray := ⟨#[122]⟩
theorem zB_new : newB zB = true := by kernel_rfl
def L1 (s : Nat) : List Slot := L0.set 0 (some (s, newZ zB false))
def L2 (s s' : Nat) (z : Ses) : List Slot := (L1 s).set 1 (some (s', z))
theorem go1_open (s : Nat) : openR true L0 zB false s = ⟨0, false, 0, L1 s⟩ := by
  unfold openR
  rw [if_neg (by simp), if_neg (by decide), if_pos (by decide)]
  rfl
theorem go2_find (s : Nat) : findL (L1 s) aB = 8 := findL_no fun j o ho => by
  match j with
  | 0 => cases ho; rfl
  | 1 => cases ho; rfl
  | 2 => cases ho; rfl
  | 3 => cases ho; rfl
  | 4 => cases ho; rfl
  | 5 => cases ho; rfl
  | 6 => cases ho; rfl
  | 7 => cases ho; rfl
  | j + 8 => simp [L1, L0] at ho
theorem go2_free (s : Nat) : freeL (L1 s) = 1 := freeL_is (i := 1) rfl fun j hj o ho => by
  obtain rfl : j = 0 := by omega
  cases ho; rfl
theorem go2_open (s s' : Nat) (was : Bool) : openR true (L1 s) aB was s' = ⟨1, false, 0, L2 s s' (newZ aB was)⟩ := by
  unfold openR
  rw [if_neg (by simp), go2_find, if_neg (by omega), go2_free, if_pos (by omega)]
  rfl
theorem go3_find (s s' : Nat) (z : Ses) (hz : z.client = aB) : findL (L2 s s' z) aB = 1 := findL_is (o := some (s', z)) rfl (by simp [isC, hz]) fun j hj o ho => by
  obtain rfl : j = 0 := by omega
  cases ho; rfl
theorem go3_open (s s' s'' : Nat) (z : Ses) (hz : z.client = aB) (comes : Bool) : openR true (L2 s s' z) aB comes s'' = if z.clean = false ∧ comes = false then ⟨1, true, 0, L2 s s' z⟩ else ⟨1, false, 0, L2 s s'' (newZ aB comes)⟩ := by
  unfold openR
  rw [if_neg (by simp), go3_find s s' z hz, if_pos (by omega)]
  by_cases c : z.clean = false ∧ comes = false
  · rw [if_pos ⟨c.2, c.1⟩, if_pos c]; rfl
  · rw [if_neg (fun h => c ⟨h.2, h.1⟩), if_neg c]
    congr 1
def tM28 : PMsg := ⟨⟨#[116]⟩, ⟨#[]⟩, 1, false⟩
/-- A session that is not online: behind k messages. -/
def goZ (z0 : Ses) (k : Nat) : Ses := { z0 with q := List.replicate k tM28 }
theorem go_del (was : Bool) (k : Nat) (h : k < 16) : delZ (goZ (newZ aB was) k) tM28 1 = goZ (newZ aB was) (k + 1) := by
  have c : 0 < (clampQ tM28 1).qos := by decide
  unfold delZ
  rw [if_pos c]
  have e : putZ (goZ (newZ aB was) k) (clampQ tM28 1) = goZ (newZ aB was) (k + 1) := by
    unfold putZ
    rw [if_pos (by simpa [goZ] using h)]
    simp only [goZ, List.replicate_succ']
    rfl
  rw [e]
  rfl
theorem L2_set (s s' : Nat) (z z' : Ses) : (L2 s s' z).set 1 (some (s', z')) = L2 s s' z' := rfl
theorem L2_val (s s' : Nat) (z z' : Ses) : sssV (L2 s s' z) = sssV (L2 s s' z') := rfl
theorem L2_C (t s s' : Nat) (z z' : Ses) : sssC t (L2 s s' z) = sssC t (L2 s s' z') := rfl
theorem L2_len (s s' : Nat) (z : Ses) : ((takenL (L2 s s' z)).length : Int) = 2 := rfl
attribute [local irreducible] MidQ wpE wpO wpC qE wpQ wpQO wpH wpHO wpD wpDO wpZ Ev own emp exI sl ch PostS LoopQ Rd rowsAt
structure GoSt where
  i : Nat
theorem goon_walk (H : PHeap) (V : ValidIn H) (was comes : Bool) (n : Int) (n0 : 0 ≤ n) (n1 : n ≤ 255) : FnDoes Tryd.prog 5 [.bool was, .bool comes, .int .u8 n] [own H] (fun _ : Unit => True) (fun _ => .bool true) (fun _ => [own H]) := by
  refine does_of Tryd.func5 rfl rfl Tryd.ntmps5 rfl (by simp only [enum, Nat.reduceAdd, Nat.zero_add]; exact rfl) (fun c => ?_)
  obtain ⟨k, hk⟩ : ∃ k : Nat, n % 16 = k := ⟨(n % 16).toNat, by omega⟩
  have hk16 : k < 16 := by omega
  (refine go ?_; intros)
  (show wpO _ _ ⟨_, .call _, _, _, _, _⟩ _ _ _ _ _ _; refine o_callA (sss_new) (fun t _ => ?_); try simp only [List.cons_append, List.nil_append])
  have O1 := sss_open H V t L0 (by decide) zB false
  rw [zB_new] at O1
  simp only [go1_open] at O1
  (refine go ?_; intros)
  (show wpO _ _ ⟨_, .call _, _, _, _, _⟩ _ _ _ _ _ _; refine o_callA (O1) (fun s _ => ?_); try simp only [List.cons_append, List.nil_append])
  have O2 := sss_open H V t (L1 s) rfl aB was
  rw [aB_new] at O2
  simp only [go2_open] at O2
  (refine go ?_; intros)
  (show wpO _ _ ⟨_, .call _, _, _, _, _⟩ _ _ _ _ _ _; refine o_callA (O2) (fun s' _ => ?_); try simp only [List.cons_append, List.nil_append])
  (refine go ?_; intros)
  (show wpO _ _ ⟨_, .call _, _, _, _, _⟩ _ _ _ _ _ _; refine o_callA (sss_atT t (L2 s s' (newZ aB was)) rfl 1 s' (newZ aB was) rfl) (fun _ _ => ?_); try simp only [List.cons_append, List.nil_append])
  (refine go ?_; intros)
  rw [hk]
  refine wpC_loop (σ := Nat) (fun i => i ≤ k) (fun i => [(0, .bool was), (1, .bool comes), (7, ptr t), (8, .int .i64 1), (11, ptr s'), (12, .int .i64 k), (13, .int .i64 i)]) (fun i => [own H, sssC t (L2 s s' (goZ (newZ aB was) i)), sssS (L2 s s' (goZ (newZ aB was) i))]) (fun i => k - i) 0 (Nat.zero_le _) (by repeat (first | exact trivial | refine ⟨rfl, ?_⟩)) (by ((try simp only [List.cons_append, List.nil_append]); repeat (first | exact Ent.nil | (apply Ent.cons; repeat (first | exact Pick.head | apply Pick.tail))))) (fun i hi => ?_)
  by_cases hik : i < k
  · refine wpC_ent (sss_out (L := L2 s s' (goZ (newZ aB was) i)) (i := 1) (p := s') (z := goZ (newZ aB was) i) rfl (by repeat (first | exact Pick.head | apply Pick.tail))) ?_
    (refine go ?_; intros)
    (show wpO _ _ ⟨_, .call _, _, _, _, _⟩ _ _ _ _ _ _; refine o_callA (ses_deliver s' (goZ (newZ aB was) i) tM28 1 (by show (0 : Int) ≤ 0; exact Int.le_refl 0) (by show (0 : Int) ≤ 1000000; decide)) (fun v _ => ?_); try simp only [List.cons_append, List.nil_append])
    rw [go_del was i (by omega)]
    (refine go ?_; intros)
    refine q_round (i + 1) (by omega) (by omega) (by repeat (first | exact trivial | refine ⟨rfl, ?_⟩)) ?_
    have e := sss_inS (L := L2 s s' (goZ (newZ aB was) i)) (i := 1) (p := s') (z := goZ (newZ aB was) (i + 1)) (show 1 < 8 by decide) (M := sesI s' (goZ (newZ aB was) (i + 1)) :: sssR (L2 s s' (goZ (newZ aB was) i)) 1 :: []) .head .head
    rw [L2_set] at e
    rw [L2_C t s s' (goZ (newZ aB was) (i + 1)) (goZ (newZ aB was) i)]
    exact Ent.cons (by repeat (first | exact Pick.head | apply Pick.tail)) (Ent.cons (by repeat (first | exact Pick.head | apply Pick.tail)) (Ent.trans (Ent.cons (by repeat (first | exact Pick.head | apply Pick.tail)) (Ent.cons (by repeat (first | exact Pick.head | apply Pick.tail)) Ent.nil)) e))
  · obtain rfl : i = k := by omega
    have e0 : ∀ cm, ((newZ aB cm).q.length : Int) = 0 := fun _ => rfl
    have e0a := e0 comes
    have e0t := e0 true
    have ek : ((goZ (newZ aB was) i).q.length : Int) = i := by simp [goZ]
    cases was with
    | true =>
      have O3 := sss_open H V t (L2 s s' (goZ (newZ aB true) i)) rfl aB comes
      rw [aB_new] at O3
      have e : ∀ s'', openR true (L2 s s' (goZ (newZ aB true) i)) aB comes s'' = ⟨1, false, 0, L2 s s'' (newZ aB comes)⟩ := fun s'' => by
        rw [go3_open s s' s'' _ rfl, if_neg (fun h => by cases h.1)]
      simp only [e] at O3
      (refine go ?_; intros)
      (show wpO _ _ ⟨_, .call _, _, _, _, _⟩ _ _ _ _ _ _; refine o_callA (O3) (fun s'' _ => ?_); try simp only [List.cons_append, List.nil_append])
      (refine go ?_; intros)
      (show wpO _ _ ⟨_, .call _, _, _, _, _⟩ _ _ _ _ _ _; refine o_callA (sss_atT t (L2 s s'' (newZ aB comes)) rfl 1 s'' (newZ aB comes) rfl) (fun _ _ => ?_); try simp only [List.cons_append, List.nil_append])
      (refine go ?_; intros)
      refine wpO_ent (sss_out (L := L2 s s'' (newZ aB comes)) (i := 1) (p := s'') (z := newZ aB comes) rfl (by repeat (first | exact Pick.head | apply Pick.tail))) ?_
      (show wpO _ _ ⟨_, .call _, _, _, _, _⟩ _ _ _ _ _ _; refine o_callA (ses_queue s'' (newZ aB comes)) (fun v _ => ?_); try simp only [List.cons_append, List.nil_append])
      (refine go ?_; intros)
      (show wpO _ _ ⟨_, .call _, _, _, _, _⟩ _ _ _ _ _ _; refine o_callA (ses_clean s'' (newZ aB comes)) (fun _ _ => ?_); try simp only [List.cons_append, List.nil_append])
      rw [show (newZ aB comes).clean = comes from rfl]
      cases comes
      all_goals
        (refine go ?_; intros)
        (show wpO _ _ ⟨_, .call _, _, _, _, _⟩ _ _ _ _ _ _; refine o_callA (sss_len t (L2 s s'' (newZ aB _)) rfl) (fun _ _ => ?_); try simp only [List.cons_append, List.nil_append])
        rw [L2_len]
        (refine go ?_; intros)
        (show wpO _ _ ⟨_, .call _, _, _, _, _⟩ _ _ _ _ _ _; refine o_callA (law_awake H V) (fun _ _ => ?_); try simp only [List.cons_append, List.nil_append])
        (refine go ?_; intros)
        exact q_ret1 rfl rfl () rfl trivial (by ((try simp only [List.cons_append, List.nil_append]); repeat (first | exact Ent.nil | (apply Ent.cons; repeat (first | exact Pick.head | apply Pick.tail)))))
    | false =>
      cases comes with
      | true =>
        have O3 := sss_open H V t (L2 s s' (goZ (newZ aB false) i)) rfl aB true
        rw [aB_new] at O3
        have e : ∀ s'', openR true (L2 s s' (goZ (newZ aB false) i)) aB true s'' = ⟨1, false, 0, L2 s s'' (newZ aB true)⟩ := fun s'' => by
          rw [go3_open s s' s'' _ rfl, if_neg (fun h => by cases h.2)]
        simp only [e] at O3
        (refine go ?_; intros)
        (show wpO _ _ ⟨_, .call _, _, _, _, _⟩ _ _ _ _ _ _; refine o_callA (O3) (fun s'' _ => ?_); try simp only [List.cons_append, List.nil_append])
        (refine go ?_; intros)
        (show wpO _ _ ⟨_, .call _, _, _, _, _⟩ _ _ _ _ _ _; refine o_callA (sss_atT t (L2 s s'' (newZ aB true)) rfl 1 s'' (newZ aB true) rfl) (fun _ _ => ?_); try simp only [List.cons_append, List.nil_append])
        (refine go ?_; intros)
        refine wpO_ent (sss_out (L := L2 s s'' (newZ aB true)) (i := 1) (p := s'') (z := newZ aB true) rfl (by repeat (first | exact Pick.head | apply Pick.tail))) ?_
        (show wpO _ _ ⟨_, .call _, _, _, _, _⟩ _ _ _ _ _ _; refine o_callA (ses_queue s'' (newZ aB true)) (fun v _ => ?_); try simp only [List.cons_append, List.nil_append])
        (refine go ?_; intros)
        (show wpO _ _ ⟨_, .call _, _, _, _, _⟩ _ _ _ _ _ _; refine o_callA (ses_clean s'' (newZ aB true)) (fun _ _ => ?_); try simp only [List.cons_append, List.nil_append])
        rw [show (newZ aB true).clean = true from rfl]
        (refine go ?_; intros)
        (show wpO _ _ ⟨_, .call _, _, _, _, _⟩ _ _ _ _ _ _; refine o_callA (sss_len t (L2 s s'' (newZ aB true)) rfl) (fun _ _ => ?_); try simp only [List.cons_append, List.nil_append])
        rw [L2_len]
        (refine go ?_; intros)
        (show wpO _ _ ⟨_, .call _, _, _, _, _⟩ _ _ _ _ _ _; refine o_callA (law_awake H V) (fun _ _ => ?_); try simp only [List.cons_append, List.nil_append])
        (refine go ?_; intros)
        exact q_ret1 rfl rfl () rfl trivial (by ((try simp only [List.cons_append, List.nil_append]); repeat (first | exact Ent.nil | (apply Ent.cons; repeat (first | exact Pick.head | apply Pick.tail)))))
      | false =>
        have O3 := sss_open H V t (L2 s s' (goZ (newZ aB false) i)) rfl aB false
        rw [aB_new] at O3
        have e : ∀ s'', openR true (L2 s s' (goZ (newZ aB false) i)) aB false s'' = ⟨1, true, 0, L2 s s' (goZ (newZ aB false) i)⟩ := fun s'' => by
          rw [go3_open s s' s'' _ rfl, if_pos ⟨rfl, rfl⟩]
        simp only [e] at O3
        (refine go ?_; intros)
        (show wpO _ _ ⟨_, .call _, _, _, _, _⟩ _ _ _ _ _ _; refine o_callA (O3) (fun s'' _ => ?_); try simp only [List.cons_append, List.nil_append])
        (refine go ?_; intros)
        (show wpO _ _ ⟨_, .call _, _, _, _, _⟩ _ _ _ _ _ _; refine o_callA (sss_atT t (L2 s s' (goZ (newZ aB false) i)) rfl 1 s' (goZ (newZ aB false) i) rfl) (fun _ _ => ?_); try simp only [List.cons_append, List.nil_append])
        (refine go ?_; intros)
        refine wpO_ent (sss_out (L := L2 s s' (goZ (newZ aB false) i)) (i := 1) (p := s') (z := goZ (newZ aB false) i) rfl (by repeat (first | exact Pick.head | apply Pick.tail))) ?_
        (show wpO _ _ ⟨_, .call _, _, _, _, _⟩ _ _ _ _ _ _; refine o_callA (ses_queue s' (goZ (newZ aB false) i)) (fun v _ => ?_); try simp only [List.cons_append, List.nil_append])
        (refine go ?_; intros)
        (show wpO _ _ ⟨_, .call _, _, _, _, _⟩ _ _ _ _ _ _; refine o_callA (ses_clean s' (goZ (newZ aB false) i)) (fun _ _ => ?_); try simp only [List.cons_append, List.nil_append])
        rw [show (goZ (newZ aB false) i).clean = false from rfl]
        (refine go ?_; intros)
        (show wpO _ _ ⟨_, .call _, _, _, _, _⟩ _ _ _ _ _ _; refine o_callA (sss_len t (L2 s s' (goZ (newZ aB false) i)) rfl) (fun _ _ => ?_); try simp only [List.cons_append, List.nil_append])
        rw [L2_len]
        (refine go ?_; intros)
        (show wpO _ _ ⟨_, .call _, _, _, _, _⟩ _ _ _ _ _ _; refine o_callA (law_awake H V) (fun _ _ => ?_); try simp only [List.cons_append, List.nil_append])
        (refine go ?_; intros)
        exact q_ret1 rfl rfl () rfl trivial (by ((try simp only [List.cons_append, List.nil_append]); repeat (first | exact Ent.nil | (apply Ent.cons; repeat (first | exact Pick.head | apply Pick.tail)))))
end Go.Proofs.YtmlcikcdegodaaaDoor
