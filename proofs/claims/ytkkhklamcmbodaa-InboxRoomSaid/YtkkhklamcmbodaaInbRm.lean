/-
  InboxRoom: its walk.
-/
import Derived.Test.YtkkhklamcmbodaaInbC
set_option linter.unusedSimpArgs false
set_option linter.unusedVariables false
namespace Go.Proofs.Ytkkhklamcmbodaa
open Go Go.Sx
attribute [local irreducible] wpE wpO wpC qE wpQ wpQO wpH wpHO wpD wpDO Ev own emp exI sl ch PostS LoopQ Rd rowsAt

/-- k numbers in a row, from n on. -/
def runI (n : Int) (k : Nat) : List Int := (List.range k).map fun (i : Nat) => n + (i : Int)
theorem runI_length (n : Int) (k : Nat) : (runI n k).length = k := by simp [runI]
theorem runI_get (n : Int) (k j : Nat) (h : j < k) : (runI n k)[j]'(by rw [runI_length]; exact h) = n + j := by simp [runI]
theorem mem_runI {n x : Int} {k : Nat} : x ∈ runI n k ↔ n ≤ x ∧ x < n + k := by
  simp only [runI, List.mem_map, List.mem_range]
  constructor
  · rintro ⟨i, hi, rfl⟩; omega
  · intro h; exact ⟨(x - n).toNat, by omega, by omega⟩
theorem runI_succ (n : Int) (k : Nat) : runI n (k + 1) = runI n k ++ [n + k] := by simp [runI, List.range_succ]
theorem runI_cons (n : Int) (k : Nat) : runI n (k + 1) = n :: runI (n + 1) k := by
  apply List.ext_getElem
  · simp [runI]
  · intro j h1 h2
    rw [runI_get n (k + 1) j (by rw [runI_length] at h1; exact h1)]
    cases j with
    | zero => simp
    | succ j =>
      rw [List.getElem_cons_succ, runI_get (n + 1) k j (by rw [runI_length] at h1; omega)]
      push_cast; omega
theorem runI_ok (n : Int) (k : Nat) (h1 : 1 ≤ n) (h2 : n + k ≤ 65536) (hk : k ≤ 16) : InOk (runI n k) := ⟨by
  unfold Asc
  rw [List.pairwise_iff_getElem]
  intro i j hi hj hij
  rw [runI_length] at hi hj
  rw [runI_get n k i hi, runI_get n k j hj]; omega, by rw [runI_length]; exact hk, fun x hx => by
  have := mem_runI.1 hx; omega⟩
theorem put_end {n : Int} {k j : Nat} (h : Lb (runI n k) (n + k) j) : putIn (runI n k) j (n + k) = runI n (k + 1) := by
  have hj : j = k := by
    have h1 := h.1
    rw [runI_length] at h1
    rcases Nat.lt_or_ge j k with c | c
    · have := h.2.2 j (by rw [runI_length]; exact c) (Nat.le_refl _)
      rw [runI_get n k j c] at this; omega
    · omega
  subst hj
  unfold putIn
  rw [List.take_of_length_le (by rw [runI_length]; omega), List.drop_eq_nil_of_le (by rw [runI_length]; omega), runI_succ]
theorem put_front {n : Int} {k j : Nat} (h : Lb (runI (n + 1) k) n j) : putIn (runI (n + 1) k) j n = runI n (k + 1) := by
  have hj : j = 0 := by
    have h1 := h.1
    rw [runI_length] at h1
    rcases Nat.eq_zero_or_pos j with c | c
    · exact c
    · have := h.2.1 0 (by rw [runI_length]; omega) c
      rw [runI_get (n + 1) k 0 (by omega)] at this; omega
  subst hj
  unfold putIn
  rw [List.take_zero, List.drop_zero, runI_cons]; rfl

set_option maxHeartbeats 4000000 in
theorem law_room (H : PHeap) (x : Int) (hx0 : 0 ≤ x) (hx1 : x ≤ 65535) (t : Bool) :
    FnDoes Try.prog 5 [.int .u16 x, .bool t] [own H] (fun _ : Unit => True) (fun _ => .bool true) (fun _ => [own H]) := by
  refine does_of Try.func5 rfl rfl Try.ntmps5 rfl (by simp only [enum, Nat.reduceAdd, Nat.zero_add]; exact rfl) (fun c => ?_)
  obtain ⟨n, hn⟩ : ∃ n, n = 1 + x % 60000 := ⟨_, rfl⟩
  have hn1 : 1 ≤ n := by omega
  have hn2 : n ≤ 60000 := by omega
  have first : ∀ i : Nat, i ≤ 16 → InOk (runI (if t then n + 16 - i else n) i) := fun i hi => runI_ok _ _ (by split <;> omega) (by split <;> omega) hi
  (refine go ?_; intros)
  (show wpO _ _ ⟨_, .call _, _, _, _, _⟩ _ _ _ _ _ _; refine o_callA (inb_new) (fun b _ => ?_); try simp only [List.cons_append, List.nil_append])
  (refine go ?_; intros)
  rw [← hn]
  refine wpC_loop (σ := Nat) (fun i => i ≤ 16) (fun i => [(1, .bool t), (5, ptr b), (6, .int .i64 n), (7, .int .i64 i)])
    (fun i => [own H, inboxI b (runI (if t then n + 16 - i else n) i)]) (fun i => 16 - i) 0 (Nat.zero_le _) (by repeat (first | exact trivial | refine ⟨rfl, ?_⟩)) (by ((try simp only [List.cons_append, List.nil_append]); repeat (first | exact Ent.nil | (apply Ent.cons; repeat (first | exact Pick.head | apply Pick.tail))))) (fun i hi => ?_)
  by_cases hlt : i < 16
  · have ho := first i hi
    have hlen := runI_length (if t then n + 16 - i else n) i
    cases t with
    | false =>
      simp only [Bool.false_eq_true, if_false] at ho hlen ⊢
      (refine go ?_; intros)
      (show wpO _ _ ⟨_, .call _, _, _, _, _⟩ _ _ _ _ _ _; refine o_callA (inb_come b (runI n i) (n + i) ho (by rw [mem_runI]; omega) (by omega) (by omega) (by rw [hlen]; exact hlt)) (fun k hk => ?_); try simp only [List.cons_append, List.nil_append])
      rw [put_end hk]
      (refine go ?_; intros)
      refine q_round (i + 1) (by omega) (by omega) (by repeat (first | exact trivial | refine ⟨rfl, ?_⟩)) ?_
      show Ent _ [own H, inboxI b (runI n (i + 1))]
      ((try simp only [List.cons_append, List.nil_append]); repeat (first | exact Ent.nil | (apply Ent.cons; repeat (first | exact Pick.head | apply Pick.tail))))
    | true =>
      simp only [if_true] at ho hlen ⊢
      have e1 : n + 16 - (i : Int) = n + 16 - 1 - i + 1 := by omega
      rw [e1] at ho hlen ⊢
      (refine go ?_; intros)
      (show wpO _ _ ⟨_, .call _, _, _, _, _⟩ _ _ _ _ _ _; refine o_callA (inb_come b (runI (n + 16 - 1 - i + 1) i) (n + 16 - 1 - i) ho (by rw [mem_runI]; omega) (by omega) (by omega) (by rw [hlen]; exact hlt)) (fun k hk => ?_); try simp only [List.cons_append, List.nil_append])
      rw [put_front hk]
      (refine go ?_; intros)
      refine q_round (i + 1) (by omega) (by omega) (by repeat (first | exact trivial | refine ⟨rfl, ?_⟩)) ?_
      show Ent _ [own H, inboxI b (runI (n + 16 - ((i + 1 : Nat) : Int)) (i + 1))]
      have e2 : n + 16 - ((i + 1 : Nat) : Int) = n + 16 - 1 - i := by omega
      rw [e2]
      ((try simp only [List.cons_append, List.nil_append]); repeat (first | exact Ent.nil | (apply Ent.cons; repeat (first | exact Pick.head | apply Pick.tail))))
  · obtain rfl : i = 16 := by omega
    have e0 : (if t = true then n + 16 - ((16 : Nat) : Int) else n) = n := by split <;> omega
    rw [e0]
    have ho := runI_ok n 16 hn1 (by omega) (by omega)
    have hlen := runI_length n 16
    (refine go ?_; intros)
    (show wpO _ _ ⟨_, .call _, _, _, _, _⟩ _ _ _ _ _ _; refine o_callA (inb_all b (runI n 16) ho.2.1) (fun va _ => ?_); try simp only [List.cons_append, List.nil_append])
    have hra : Rd (intsI va (runI n 16)) 1 va (runI n 16).length (ints (runI n 16)) := Rd.ofSl
    rw [hlen] at hra
    refine wpE_fact (hra.isSlice (by rw [← hlen]; exact (by repeat (first | exact Pick.head | apply Pick.tail)))) (fun hka => ?_)
    obtain ⟨aa, ca, rfl, hka⟩ := hka
    (refine go ?_; intros)
    refine wpC_loop (σ := Nat) (fun k => k ≤ 16) (fun k => [(5, ptr b), (6, .int .i64 n), (11, .slice aa 16 ca), (12, .int .i64 k)])
      (fun _ => [own H, inboxI b (runI n 16), intsI (.slice aa 16 ca) (runI n 16)]) (fun k => 16 - k) 0 (Nat.zero_le _) (by repeat (first | exact trivial | refine ⟨rfl, ?_⟩)) (by ((try simp only [List.cons_append, List.nil_append]); repeat (first | exact Ent.nil | (apply Ent.cons; repeat (first | exact Pick.head | apply Pick.tail))))) (fun k hk => ?_)
    by_cases hkl : k < 16
    · obtain ⟨ba, oa, rfl, _⟩ := hka (by omega)
      have hcell : (ints (runI n 16))[k * 1]? = some (.int .i64 (n + k)) := by
        rw [Nat.mul_one, ints_get (by rw [hlen]; exact hkl), runI_get n 16 k hkl]
      (refine go ?_; intros)
      refine o_evB (ev_load_rd rfl rfl rfl hra (by repeat (first | exact Pick.head | apply Pick.tail)) rfl hcell) ?_
      (refine go ?_; intros)
      refine q_round (k + 1) (by omega) (by omega) (by repeat (first | exact trivial | refine ⟨rfl, ?_⟩)) (by ((try simp only [List.cons_append, List.nil_append]); repeat (first | exact Ent.nil | (apply Ent.cons; repeat (first | exact Pick.head | apply Pick.tail)))))
    · (refine go ?_; intros)
      have hn100 : n + 100 ∉ runI n 16 := by rw [mem_runI]; omega
      (show wpO _ _ ⟨_, .call _, _, _, _, _⟩ _ _ _ _ _ _; refine o_callA (inb_comeFull b (runI n 16) (n + 100) ho hn100 (by omega) (by omega) hlen) (fun _ _ => ?_); try simp only [List.cons_append, List.nil_append])
      (refine go ?_; intros)
      have hm3 : n + 3 ∈ runI n 16 := by rw [mem_runI]; omega
      (show wpO _ _ ⟨_, .call _, _, _, _, _⟩ _ _ _ _ _ _; refine o_callA (inb_done b (runI n 16) (n + 3) ho hm3) (fun j hj => ?_); try simp only [List.cons_append, List.nil_append])
      have hjl : j < (runI n 16).length := (List.getElem?_eq_some_iff.1 hj.2).1
      have ho2 := inOk_out ho hjl
      have hn2' : n + 100 ∉ takeOut (runI n 16) j := fun e => hn100 (mem_takeOut e)
      have hl2 : (takeOut (runI n 16) j).length = 15 := by rw [takeOut_length hjl, hlen]
      (refine go ?_; intros)
      (show wpO _ _ ⟨_, .call _, _, _, _, _⟩ _ _ _ _ _ _; refine o_callA (inb_come b (takeOut (runI n 16) j) (n + 100) ho2 hn2' (by omega) (by omega) (by omega)) (fun j2 hj2 => ?_); try simp only [List.cons_append, List.nil_append])
      have hl3 : (putIn (takeOut (runI n 16) j) j2 (n + 100)).length = 16 := by rw [putIn_length hj2.1, hl2]
      (refine go ?_; intros)
      (show wpO _ _ ⟨_, .call _, _, _, _, _⟩ _ _ _ _ _ _; refine o_callA (inb_clear b (putIn (takeOut (runI n 16) j) j2 (n + 100))) (fun _ _ => ?_); try simp only [List.cons_append, List.nil_append])
      rw [hl3]
      (refine go ?_; intros)
      (show wpO _ _ ⟨_, .call _, _, _, _, _⟩ _ _ _ _ _ _; refine o_callA (inb_len b []) (fun _ _ => ?_); try simp only [List.cons_append, List.nil_append])
      (refine go ?_; intros)
      (show wpO _ _ ⟨_, .call _, _, _, _, _⟩ _ _ _ _ _ _; refine o_callA (law_awake) (fun _ _ => ?_); try simp only [List.cons_append, List.nil_append])
      (refine go ?_; intros)
      refine q_ret1 rfl rfl () rfl trivial ?_
      ((try simp only [List.cons_append, List.nil_append]); repeat (first | exact Ent.nil | (apply Ent.cons; repeat (first | exact Pick.head | apply Pick.tail))))
end Go.Proofs.Ytkkhklamcmbodaa
