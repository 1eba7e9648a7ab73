/-
  The document's inbox.
-/
import Derived.Test.YtaodhkiejnipmaaDoorSqZ
set_option linter.unusedSimpArgs false
set_option linter.unusedVariables false
set_option maxRecDepth 20000
namespace Go.Proofs.YtaodhkiejnipmaaDoor
open Go Go.Sx
abbrev ibxC (x : Nat) (v : Value) : HProp := pts x (.cells [v].toArray 95 (0, 0))
def ibxI (x : Nat) (l : List Int) : HProp := exI (σ := Value) (fun _ => True) fun v => [ibxC x v, intsI v l]
attribute [local irreducible] MidQ wpE wpO wpC qE wpQ wpQO wpH wpHO wpD wpDO wpZ Ev own emp exI sl ch PostS LoopQ Rd rowsAt

structure RdSt where
  k : Nat
  w : Value
theorem ibx_done (x : Nat) (l : List Int) (id : Int) (hl : l.length ≤ 16) : FnDoes Tryd.prog 46 [ptr x, .int .i64 id] [ibxI x l] (fun _ : Unit => True)
    (fun _ => .bool (decide ((l.filter fun y => !decide (y = id)).length < l.length))) (fun _ => [ibxI x (l.filter fun y => !decide (y = id))]) := by
  refine does_of Tryd.func46 rfl rfl Tryd.ntmps46 rfl (by simp only [enum, Nat.reduceAdd, Nat.zero_add]; exact rfl) (fun c => ?_)
  refine wpC_unfold .head (fun v _ => ?_)
  simp only [List.cons_append, List.nil_append]
  have hr : Rd (intsI v l) 1 v l.length (ints l) := Rd.ofSl
  refine wpC_fact (hr.isSlice (by repeat (first | exact Pick.head | apply Pick.tail))) (fun hk => ?_)
  obtain ⟨a, cap, rfl, hk⟩ := hk
  (refine go ?_; intros)
  refine wpC_loop (σ := RdSt) (fun s => s.k ≤ l.length)
    (fun s => [(0, ptr x), (1, .int .i64 id), (5, s.w), (6, .int .i64 s.k)])
    (fun s => [ibxC x (.slice a l.length cap), intsI (.slice a l.length cap) l, intsI s.w ((l.take s.k).filter fun y => !decide (y = id))])
    (fun s => l.length - s.k) ⟨0, .slice none 0 0⟩ (Nat.zero_le _) (by repeat (first | exact trivial | refine ⟨rfl, ?_⟩)) (Ent.cons (by repeat (first | exact Pick.head | apply Pick.tail)) (Ent.cons (by repeat (first | exact Pick.head | apply Pick.tail)) (Ent.slNil Ent.nil))) (fun s hs => ?_)
  obtain ⟨k, w⟩ := s
  simp only at hs ⊢
  by_cases hkl : k < l.length
  · obtain ⟨b, off, rfl, hc⟩ := hk (by omega)
    have hcell : (ints l)[k * 1]? = some (.int .i64 l[k]) := by rw [Nat.mul_one]; exact ints_get hkl
    have htk : l.take (k + 1) = l.take k ++ [l[k]] := by rw [List.take_succ_eq_append_getElem hkl]
    have hfl : ((l.take k).filter fun y => !decide (y = id)).length ≤ 16 := Nat.le_trans (List.length_filter_le _ _) (by simp; omega)
    (refine go ?_; intros)
    refine o_evB (ev_load_rd rfl rfl rfl hr (by repeat (first | exact Pick.head | apply Pick.tail)) rfl hcell) ?_
    by_cases he : l[k] = id
    · (refine go ?_; intros)
      refine q_round ⟨k + 1, w⟩ (by simp only; omega) (by simp only; omega) (by repeat (first | exact trivial | refine ⟨rfl, ?_⟩)) ?_
      simp only [htk, List.filter_append, List.filter_cons, he, decide_true, Bool.not_true, Bool.false_eq_true, if_false, List.filter_nil, List.append_nil]
      ((try simp only [List.cons_append, List.nil_append]); repeat (first | exact Ent.nil | (apply Ent.cons; repeat (first | exact Pick.head | apply Pick.tail))))
    · (refine go ?_; intros)
      refine o_evB (ev_load_rd rfl rfl rfl hr (by repeat (first | exact Pick.head | apply Pick.tail)) rfl hcell) ?_
      (refine go ?_; intro bb)
      (refine go ?_; intros)
      refine o_append (sz := 1) (news := [.int .i64 l[k]]) (m := 1) rfl rfl rfl rfl rfl rfl rfl rfl (by repeat (first | exact Pick.head | apply Pick.tail)) ?_ ?_ rfl (fun w' => ?_)
      · exact src_pts rfl (by repeat (first | exact Pick.head | apply Pick.tail)) rfl rfl rfl
      · show (_ + 1) * 8 ≤ 140737488355328
        omega
      rw [intsI_snoc]
      (refine go ?_; intros)
      refine q_round ⟨k + 1, w'⟩ (by simp only; omega) (by simp only; omega) (by repeat (first | exact trivial | refine ⟨rfl, ?_⟩)) ?_
      simp only [htk, List.filter_append, List.filter_cons, he, decide_false, Bool.not_false, if_true, List.filter_nil]
      ((try simp only [List.cons_append, List.nil_append]); repeat (first | exact Ent.nil | (apply Ent.cons; repeat (first | exact Pick.head | apply Pick.tail))))
  · obtain rfl : k = l.length := by omega
    simp only [List.take_length]
    refine wpC_fact (sl_one (v := w) (by repeat (first | exact Pick.head | apply Pick.tail))) (fun hw => ?_)
    by_cases hlt : (l.filter fun y => !decide (y = id)).length < l.length
    all_goals
      (refine go ?_; intros)
      refine q_ret1 rfl rfl () (by simp [hlt]) trivial ?_
      exact Ent.fold w trivial (by ((try simp only [List.cons_append, List.nil_append]); repeat (first | exact Ent.nil | (apply Ent.cons; repeat (first | exact Pick.head | apply Pick.tail)))))

theorem ibx_comeBad (x : Nat) (l : List Int) (id : Int) (h : id < 1 ∨ 65535 < id) : FnDoes Tryd.prog 45 [ptr x, .int .i64 id] [ibxI x l] (fun _ : Unit => True) (fun _ => .tuple #[.bool false, .int .i64 1]) (fun _ => [ibxI x l]) := by
  refine does_of Tryd.func45 rfl rfl Tryd.ntmps45 rfl (by simp only [enum, Nat.reduceAdd, Nat.zero_add]; exact rfl) (fun c => ?_)
  by_cases h1 : id < 1
  all_goals
    (refine go ?_; intros)
    refine q_ret2 rfl rfl rfl () rfl trivial ?_
    ((try simp only [List.cons_append, List.nil_append]); repeat (first | exact Ent.nil | (apply Ent.cons; repeat (first | exact Pick.head | apply Pick.tail))))

structure RcSt where
  i : Nat
  k : Nat
/-- The first i of a row, of which k lie below. -/
def Pre (l : List Int) (id : Int) (i k : Nat) : Prop := k ≤ i ∧ i ≤ l.length ∧ (∀ j (h : j < l.length), j < k → l[j] < id) ∧ ∀ j (h : j < l.length), k ≤ j → j < i → id < l[j]
theorem pre_lb {l : List Int} {id : Int} {k : Nat} (h : Pre l id l.length k) : Lb l id k := ⟨h.1, h.2.2.1, fun j hj hk => Int.le_of_lt (h.2.2.2 j hj hk hj)⟩
theorem pre_below {l : List Int} {id : Int} {i k : Nat} (ha : Asc l) (h : Pre l id i k) (hi : i < l.length) (hlt : l[i] < id) : Pre l id (i + 1) (i + 1) := ⟨Nat.le_refl _, hi, fun j hj hji => by
  by_cases e : j = i
  · subst e; exact hlt
  · have := asc_lt ha hi (show j < i by omega); omega, fun j hj h1 h2 => by omega⟩
theorem pre_above {l : List Int} {id : Int} {i k : Nat} (h : Pre l id i k) (hi : i < l.length) (hlt : id < l[i]) : Pre l id (i + 1) k := ⟨by have := h.1; omega, hi, h.2.2.1, fun j hj h1 h2 => by
  by_cases e : j = i
  · subst e; exact hlt
  · exact h.2.2.2 j hj h1 (by omega)⟩

set_option maxHeartbeats 1000000 in
theorem ibx_comeThere (x : Nat) (l : List Int) (id : Int) (ho : InOk l) (hm : id ∈ l) : FnDoes Tryd.prog 45 [ptr x, .int .i64 id] [ibxI x l] (fun _ : Unit => True) (fun _ => .tuple #[.bool false, .int .i64 0]) (fun _ => [ibxI x l]) := by
  refine does_of Tryd.func45 rfl rfl Tryd.ntmps45 rfl (by simp only [enum, Nat.reduceAdd, Nat.zero_add]; exact rfl) (fun c => ?_)
  obtain ⟨h1, h2⟩ := ho.2.2 id hm
  have hl := ho.2.1
  refine wpC_unfold .head (fun v _ => ?_)
  simp only [List.cons_append, List.nil_append]
  have hr : Rd (intsI v l) 1 v l.length (ints l) := Rd.ofSl
  refine wpC_fact (hr.isSlice (by repeat (first | exact Pick.head | apply Pick.tail))) (fun hk => ?_)
  obtain ⟨a, cap, rfl, hk⟩ := hk
  (refine go ?_; intros)
  refine wpC_loop (σ := RcSt) (fun s => s.i ≤ l.length ∧ s.k ≤ s.i ∧ ∀ j (h : j < l.length), j < s.i → l[j] ≠ id)
    (fun s => [(0, ptr x), (1, .int .i64 id), (6, .int .i64 s.k), (7, .int .i64 s.i)])
    (fun s => [ibxC x (.slice a l.length cap), intsI (.slice a l.length cap) l])
    (fun s => l.length - s.i) ⟨0, 0⟩ ⟨Nat.zero_le _, Nat.le_refl _, fun j _ h => absurd h (Nat.not_lt_zero _)⟩ (by repeat (first | exact trivial | refine ⟨rfl, ?_⟩)) (by ((try simp only [List.cons_append, List.nil_append]); repeat (first | exact Ent.nil | (apply Ent.cons; repeat (first | exact Pick.head | apply Pick.tail))))) (fun s hs => ?_)
  obtain ⟨i, k⟩ := s
  simp only at hs ⊢
  obtain ⟨s1, s2, s3⟩ := hs
  by_cases hkl : i < l.length
  · obtain ⟨b, off, rfl, hc⟩ := hk (by omega)
    have hcell : (ints l)[i * 1]? = some (.int .i64 l[i]) := by rw [Nat.mul_one]; exact ints_get hkl
    (refine go ?_; intros)
    refine o_evB (ev_load_rd rfl rfl rfl hr (by repeat (first | exact Pick.head | apply Pick.tail)) rfl hcell) ?_
    by_cases he : l[i] = id
    · (refine go ?_; intros)
      refine q_ret2 rfl rfl rfl () rfl trivial ?_
      exact Ent.fold _ trivial (by ((try simp only [List.cons_append, List.nil_append]); repeat (first | exact Ent.nil | (apply Ent.cons; repeat (first | exact Pick.head | apply Pick.tail)))))
    · (refine go ?_; intros)
      refine o_evB (ev_load_rd rfl rfl rfl hr (by repeat (first | exact Pick.head | apply Pick.tail)) rfl hcell) ?_
      have hne : ∀ j (h : j < l.length), j < i + 1 → l[j] ≠ id := fun j h hj => by
        by_cases e : j = i
        · subst e; exact he
        · exact s3 j h (by omega)
      by_cases hlt : l[i] < id
      · (refine go ?_; intros)
        refine q_round ⟨i + 1, i + 1⟩ ⟨by simp only; omega, by simp only; omega, hne⟩ (by simp only; omega) (by repeat (first | exact trivial | refine ⟨rfl, ?_⟩)) (by ((try simp only [List.cons_append, List.nil_append]); repeat (first | exact Ent.nil | (apply Ent.cons; repeat (first | exact Pick.head | apply Pick.tail)))))
      · (refine go ?_; intros)
        refine q_round ⟨i + 1, k⟩ ⟨by simp only; omega, by simp only; omega, hne⟩ (by simp only; omega) (by repeat (first | exact trivial | refine ⟨rfl, ?_⟩)) (by ((try simp only [List.cons_append, List.nil_append]); repeat (first | exact Ent.nil | (apply Ent.cons; repeat (first | exact Pick.head | apply Pick.tail)))))
  · exfalso
    obtain ⟨j, hj, e⟩ := List.getElem_of_mem hm
    exact s3 j hj (by omega) e

set_option maxHeartbeats 1000000 in
theorem ibx_comeNew (x : Nat) (l : List Int) (id : Int) (ho : InOk l) (hm : id ∉ l) (h1 : 1 ≤ id) (h2 : id ≤ 65535) : FnDoes Tryd.prog 45 [ptr x, .int .i64 id] [ibxI x l] (fun k : Nat => Lb l id k)
    (fun _ => .tuple #[.bool (decide (l.length < 16)), .int .i64 (if l.length < 16 then 0 else 6)]) (fun k => [ibxI x (if l.length < 16 then putIn l k id else l)]) := by
  refine does_of Tryd.func45 rfl rfl Tryd.ntmps45 rfl (by simp only [enum, Nat.reduceAdd, Nat.zero_add]; exact rfl) (fun c => ?_)
  have hl := ho.2.1
  refine wpC_unfold .head (fun v _ => ?_)
  simp only [List.cons_append, List.nil_append]
  have hr : Rd (intsI v l) 1 v l.length (ints l) := Rd.ofSl
  refine wpC_fact (hr.isSlice (by repeat (first | exact Pick.head | apply Pick.tail))) (fun hk => ?_)
  obtain ⟨a, cap, rfl, hk⟩ := hk
  (refine go ?_; intros)
  refine wpC_loop (σ := RcSt) (fun s => Pre l id s.i s.k)
    (fun s => [(0, ptr x), (1, .int .i64 id), (6, .int .i64 s.k), (7, .int .i64 s.i)])
    (fun s => [ibxC x (.slice a l.length cap), intsI (.slice a l.length cap) l])
    (fun s => l.length - s.i) ⟨0, 0⟩ ⟨Nat.le_refl _, Nat.zero_le _, fun j _ h => absurd h (Nat.not_lt_zero _), fun j _ _ h => absurd h (Nat.not_lt_zero _)⟩ (by repeat (first | exact trivial | refine ⟨rfl, ?_⟩)) (by ((try simp only [List.cons_append, List.nil_append]); repeat (first | exact Ent.nil | (apply Ent.cons; repeat (first | exact Pick.head | apply Pick.tail))))) (fun s hs => ?_)
  obtain ⟨i, k⟩ := s
  simp only at hs ⊢
  have s1 := hs.2.1
  have s2 := hs.1
  by_cases hkl : i < l.length
  · obtain ⟨b, off, rfl, hc⟩ := hk (by omega)
    have hcell : (ints l)[i * 1]? = some (.int .i64 l[i]) := by rw [Nat.mul_one]; exact ints_get hkl
    have he : ¬ l[i] = id := fun e => hm (by rw [← e]; exact List.getElem_mem _)
    (refine go ?_; intros)
    refine o_evB (ev_load_rd rfl rfl rfl hr (by repeat (first | exact Pick.head | apply Pick.tail)) rfl hcell) ?_
    (refine go ?_; intros)
    refine o_evB (ev_load_rd rfl rfl rfl hr (by repeat (first | exact Pick.head | apply Pick.tail)) rfl hcell) ?_
    by_cases hlt : l[i] < id
    · (refine go ?_; intros)
      refine q_round ⟨i + 1, i + 1⟩ (pre_below ho.1 hs hkl hlt) (by simp only; omega) (by repeat (first | exact trivial | refine ⟨rfl, ?_⟩)) (by ((try simp only [List.cons_append, List.nil_append]); repeat (first | exact Ent.nil | (apply Ent.cons; repeat (first | exact Pick.head | apply Pick.tail)))))
    · (refine go ?_; intros)
      refine q_round ⟨i + 1, k⟩ (pre_above hs hkl (by omega)) (by simp only; omega) (by repeat (first | exact trivial | refine ⟨rfl, ?_⟩)) (by ((try simp only [List.cons_append, List.nil_append]); repeat (first | exact Ent.nil | (apply Ent.cons; repeat (first | exact Pick.head | apply Pick.tail)))))
  · obtain rfl : i = l.length := by omega
    have hlb := pre_lb hs
    by_cases hf : l.length < 16
    · simp only [if_pos hf]
      (refine go ?_; intro bb)
      (refine go ?_; intros)
      refine o_evB (ev_slcHi (h := k) rfl rfl rfl rfl rfl (by omega)) ?_
      have hr1 : Rd (intsI (.slice a l.length cap) l) 1 (.slice a k cap) (l.take k).length (ints (l.take k)) := by
        have := hr.take s2
        rw [Nat.mul_one, ← ints_take] at this
        rw [show (l.take k).length = k by simp; omega]
        exact this
      have hr2 : Rd (intsI (.slice a l.length cap) l) 1 (.slice (if cap = k then a else a.map fun x => x.add (k * 1)) (l.length - k) (cap - k)) (l.drop k).length (ints (l.drop k)) := by
        have := hr.drop s2
        rw [show (ints l).drop (k * 1) = ints (l.drop k) by rw [Nat.mul_one, ints_drop]] at this
        rw [show (l.drop k).length = l.length - k by simp]
        exact this
      have hlt : (l.take k).length ≤ 16 := by simp; omega
      have hld : (l.drop k).length ≤ 16 := by simp; omega
      (refine go ?_; intros)
      refine wpO_ent (N := [intsI (.slice (some ⟨bb, 0, none⟩) 0 0) [], ibxC x (.slice a l.length cap), intsI (.slice a l.length cap) l]) (Ent.slClose (junk := []) .head rfl rfl (Nat.le_refl _) (Nat.zero_le _) rfl (by ((try simp only [List.cons_append, List.nil_append]); repeat (first | exact Ent.nil | (apply Ent.cons; repeat (first | exact Pick.head | apply Pick.tail)))))) ?_
      refine o_append (sz := 1) (news := ints (l.take k)) (m := (l.take k).length) rfl rfl rfl rfl rfl rfl rfl rfl .head (hr1.src (.tail (.tail .head)) rfl) ?_ rfl (fun w1 => ?_)
      · show (0 + (l.take k).length) * 8 ≤ 140737488355328
        omega
      rw [intsI_append, List.nil_append]
      (refine go ?_; intro b2)
      refine o_append (sz := 1) (news := [.int .i64 id]) (m := 1) rfl rfl rfl rfl rfl rfl rfl rfl (by repeat (first | exact Pick.head | apply Pick.tail)) ?_ ?_ rfl (fun w2 => ?_)
      · exact src_pts rfl (by repeat (first | exact Pick.head | apply Pick.tail)) rfl rfl rfl
      · show (_ + 1) * 8 ≤ 140737488355328
        omega
      rw [intsI_snoc]
      (refine go ?_; intros)
      refine o_evB (ev_slcLo (l := k) 1 rfl rfl rfl rfl rfl rfl (by omega)) ?_
      (refine go ?_; intros)
      refine o_append (sz := 1) (news := ints (l.drop k)) (m := (l.drop k).length) rfl rfl rfl rfl rfl rfl rfl rfl .head (hr2.src (by repeat (first | exact Pick.head | apply Pick.tail)) rfl) ?_ rfl (fun w3 => ?_)
      · show ((l.take k ++ [id]).length + (l.drop k).length) * 8 ≤ 140737488355328
        simp only [List.length_append, List.length_cons, List.length_nil]
        omega
      rw [intsI_append]
      refine wpE_fact (sl_one (v := w3) .head) (fun hw3 => ?_)
      (refine go ?_; intros)
      refine q_ret2 rfl rfl rfl k (by simp [hf]) hlb ?_
      refine Ent.fold w3 trivial ?_
      simp only [putIn, List.append_assoc, List.cons_append, List.nil_append]
      ((try simp only [List.cons_append, List.nil_append]); repeat (first | exact Ent.nil | (apply Ent.cons; repeat (first | exact Pick.head | apply Pick.tail))))
    · simp only [if_neg hf]
      (refine go ?_; intros)
      refine q_ret2 rfl rfl rfl k (by simp [hf]) hlb ?_
      exact Ent.fold _ trivial (by ((try simp only [List.cons_append, List.nil_append]); repeat (first | exact Ent.nil | (apply Ent.cons; repeat (first | exact Pick.head | apply Pick.tail)))))
end Go.Proofs.YtaodhkiejnipmaaDoor
