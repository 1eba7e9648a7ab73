/-
  SessionRoom's walk.
-/
import Derived.Test.YtaodhkiejnipmaaDoorSesL
set_option linter.unusedSimpArgs false
set_option linter.unusedVariables false
namespace Go.Sx
open Go
structure RmSt where
  i : Nat
  z : Ses
structure RmOk (k : Nat) (x : RmSt) : Prop where
  ik : x.i ≤ k
  ok : SesOk x.z
  off : x.z.online = false
  q : x.z.q.length = min x.i 16
  lost : x.z.lost = x.i - min (x.i : Int) 16
  L : x.z.L = []
theorem RmOk.step {k : Nat} {x : RmSt} (h : RmOk k x) (hi : x.i < k) : RmOk k ⟨x.i + 1, delZ x.z tM 1⟩ ∧ delP x.z tM 1 = [] ∧ delB x.z tM 1 = decide (x.i < 16) := by
  obtain ⟨d1, d2, d3⟩ := del_off (z := x.z) (m := tM) (n := 1) h.off (by decide)
  have ho := ok_del tM 1 h.ok
  refine ⟨⟨by simp only; omega, ho, ?_, ?_, ?_, ?_⟩, d2, ?_⟩
  · simp only; rw [d1]; unfold putZ; split <;> exact h.off
  · simp only; rw [d1]; unfold putZ
    have := h.q
    split
    · simp only [List.length_append, List.length_cons, List.length_nil]; omega
    · simp only; omega
  · simp only; rw [d1]; unfold putZ
    have := h.q
    have := h.lost
    split
    · simp only; omega
    · simp only; omega
  · simp only; rw [d1]; unfold putZ; split <;> exact h.L
  · rw [d3]; unfold putB; have := h.q
    by_cases c : x.i < 16
    · rw [decide_eq_true c, decide_eq_true (by omega)]
    · rw [decide_eq_false c, decide_eq_false (by omega)]
end Go.Sx
set_option maxRecDepth 20000
namespace Go.Proofs.YtaodhkiejnipmaaDoor
open Go Go.Sx
attribute [local irreducible] MidQ wpE wpO wpC qE wpQ wpQO wpH wpHO wpD wpDO wpZ Ev own emp exI sl ch PostS LoopQ Rd rowsAt
theorem room_walk (H : PHeap) (V : ValidIn H) (n : Int) (n0 : 0 ≤ n) (n1 : n ≤ 255) : FnDoes Tryd.prog 3 [.int .u8 n] [own H] (fun _ : Unit => True) (fun _ => .bool true) (fun _ => [own H]) := by
  refine does_of Tryd.func3 rfl rfl Tryd.ntmps3 rfl (by simp only [enum, Nat.reduceAdd, Nat.zero_add]; exact rfl) (fun c => ?_)
  obtain ⟨k, hk⟩ : ∃ k : Nat, n % 40 = k := ⟨(n % 40).toNat, by omega⟩
  have hk40 : k < 40 := by omega
  (refine go ?_; intros)
  (show wpO _ _ ⟨_, .call _, _, _, _, _⟩ _ _ _ _ _ _; refine o_callA (ses_newT H V ⟨#[99]⟩ true (by kernel_rfl)) (fun s _ => ?_); try simp only [List.cons_append, List.nil_append])
  (refine go ?_; intros)
  rw [hk]
  refine wpC_loop (σ := RmSt) (RmOk k) (fun x => [(0, .int .u8 n), (3, ptr s), (5, .int .i64 k), (6, .int .i64 x.i)]) (fun x => [own H, sesI s x.z]) (fun x => k - x.i) ⟨0, newZ ⟨#[99]⟩ true⟩ ⟨Nat.zero_le _, ok_new (by decide), rfl, rfl, rfl, rfl⟩ (by repeat (first | exact trivial | refine ⟨rfl, ?_⟩)) (by ((try simp only [List.cons_append, List.nil_append]); repeat (first | exact Ent.nil | (apply Ent.cons; repeat (first | exact Pick.head | apply Pick.tail))))) (fun x hx => ?_)
  obtain ⟨i, z⟩ := x
  have hik := hx.ik
  have hlost := hx.lost
  have hq := hx.q
  simp only at hik hlost hq ⊢
  by_cases hlt : i < k
  · obtain ⟨st, sp, sb⟩ := hx.step hlt
    (refine go ?_; intros)
    (show wpO _ _ ⟨_, .call _, _, _, _, _⟩ _ _ _ _ _ _; refine o_callA (ses_deliver s z tM 1 (by omega) (by omega)) (fun v _ => ?_); try simp only [List.cons_append, List.nil_append])
    simp only at sp sb st
    rw [sp, sb]
    by_cases c : i < 16
    · have cz : (i : Int) < 16 := by omega
      rw [decide_eq_true c]
      (refine go ?_; intros)
      refine q_round ⟨i + 1, delZ z tM 1⟩ st (by simp only; omega) (by repeat (first | exact trivial | refine ⟨rfl, ?_⟩)) (by ((try simp only [List.cons_append, List.nil_append]); repeat (first | exact Ent.nil | (apply Ent.cons; repeat (first | exact Pick.head | apply Pick.tail)))))
    · have cz : ¬ (i : Int) < 16 := by omega
      rw [decide_eq_false c]
      (refine go ?_; intros)
      refine q_round ⟨i + 1, delZ z tM 1⟩ st (by simp only; omega) (by repeat (first | exact trivial | refine ⟨rfl, ?_⟩)) (by ((try simp only [List.cons_append, List.nil_append]); repeat (first | exact Ent.nil | (apply Ent.cons; repeat (first | exact Pick.head | apply Pick.tail)))))
  · obtain rfl : i = k := by omega
    obtain ⟨j, j1, j2, j3, j4⟩ := attach_len hx.ok
    obtain ⟨j', i1, i2, i3, i4⟩ := attach_len (ok_attach hx.ok)
    have hL := congrArg List.length hx.L
    simp only [List.length_nil] at j1 j2 j3 j4 i1 i2 i3 i4 hL
    (refine go ?_; intros)
    refine o_evB (ev_min (r := (min i 16 : Nat)) rfl rfl (by omega)) ?_
    (refine go ?_; intros)
    (show wpO _ _ ⟨_, .call _, _, _, _, _⟩ _ _ _ _ _ _; refine o_callA (ses_queue s z) (fun v1 _ => ?_); try simp only [List.cons_append, List.nil_append])
    (refine go ?_; intros)
    (show wpO _ _ ⟨_, .call _, _, _, _, _⟩ _ _ _ _ _ _; refine o_callA (ses_lost s z) (fun _ _ => ?_); try simp only [List.cons_append, List.nil_append])
    (refine go ?_; intros)
    (show wpO _ _ ⟨_, .call _, _, _, _, _⟩ _ _ _ _ _ _; refine o_callA (ses_attach s z) (fun v2 _ => ?_); try simp only [List.cons_append, List.nil_append])
    (refine go ?_; intros)
    refine o_evB (ev_min (r := (j : Nat)) rfl rfl (by omega)) ?_
    (refine go ?_; intros)
    (show wpO _ _ ⟨_, .call _, _, _, _, _⟩ _ _ _ _ _ _; refine o_callA (ses_attach s (attachZ z)) (fun v3 _ => ?_); try simp only [List.cons_append, List.nil_append])
    (refine go ?_; intros)
    (show wpO _ _ ⟨_, .call _, _, _, _, _⟩ _ _ _ _ _ _; refine o_callA (ses_flight s (attachZ (attachZ z))) (fun v4 _ => ?_); try simp only [List.cons_append, List.nil_append])
    (refine go ?_; intros)
    (show wpO _ _ ⟨_, .call _, _, _, _, _⟩ _ _ _ _ _ _; refine o_callA (ses_queue s (attachZ (attachZ z))) (fun v5 _ => ?_); try simp only [List.cons_append, List.nil_append])
    (refine go ?_; intros)
    (show wpO _ _ ⟨_, .call _, _, _, _, _⟩ _ _ _ _ _ _; refine o_callA (law_awake H V) (fun _ _ => ?_); try simp only [List.cons_append, List.nil_append])
    (refine go ?_; intros)
    exact q_ret1 rfl rfl () rfl trivial (by ((try simp only [List.cons_append, List.nil_append]); repeat (first | exact Ent.nil | (apply Ent.cons; repeat (first | exact Pick.head | apply Pick.tail)))))
end Go.Proofs.YtaodhkiejnipmaaDoor
