/-
  InboxOnce: its walk.
-/
import Derived.Test.YtkkhklamcmbodaaInbC
set_option linter.unusedSimpArgs false
set_option linter.unusedVariables false
namespace Go.Proofs.Ytkkhklamcmbodaa
open Go Go.Sx
attribute [local irreducible] wpE wpO wpC qE wpQ wpQO wpH wpHO wpD wpDO Ev own emp exI sl ch PostS LoopQ Rd rowsAt

theorem inb_comeAny (b : Nat) (l : List Int) (id : Int) (ho : InOk l) (h1 : 1 ≤ id) (h2 : id ≤ 65535) : FnDoes Try.prog 8 [ptr b, .int .i64 id] [inboxI b l] (fun r : List Int × Bool × Int => InOk r.1 ∧ ∀ x ∈ l, x ∈ r.1)
    (fun r => .tuple #[.bool r.2.1, .int .i64 r.2.2]) (fun r => [inboxI b r.1]) := by
  by_cases hm : id ∈ l
  · exact (inb_comeThere b l id ho hm).turn (Ent.refl _) (fun y _ => ⟨(l, false, 0), ⟨ho, fun x hx => hx⟩, rfl, Ent.refl _⟩)
  · by_cases hf : l.length = 16
    · exact (inb_comeFull b l id ho hm h1 h2 hf).turn (Ent.refl _) (fun y _ => ⟨(l, false, 6), ⟨ho, fun x hx => hx⟩, rfl, Ent.refl _⟩)
    · have hl : l.length < 16 := by have := ho.2.1; omega
      exact (inb_come b l id ho hm h1 h2 hl).turn (Ent.refl _) (fun k hk => ⟨(putIn l k id, true, 0), ⟨inOk_put ho hk hm h1 h2 hl, fun x hx => mem_putIn.2 (.inr hx)⟩, rfl, Ent.refl _⟩)
theorem inb_doneAny (b : Nat) (l : List Int) (id : Int) (ho : InOk l) : FnDoes Try.prog 9 [ptr b, .int .i64 id] [inboxI b l] (fun r : List Int × Bool => InOk r.1 ∧ ∀ x ∈ l, x ≠ id → x ∈ r.1)
    (fun r => .bool r.2) (fun r => [inboxI b r.1]) := by
  by_cases hm : id ∈ l
  · exact (inb_done b l id ho hm).turn (Ent.refl _) (fun k hk => ⟨(takeOut l k, true), ⟨inOk_out ho (List.getElem?_eq_some_iff.1 hk.2).1, fun x hx hne => mem_takeOut_ne hk.2 hx hne⟩, rfl, Ent.refl _⟩)
  · exact (inb_doneNo b l id ho hm).turn (Ent.refl _) (fun y _ => ⟨(l, false), ⟨ho, fun x hx _ => hx⟩, rfl, Ent.refl _⟩)

structure OnSt where
  i : Nat
  l : List Int
def u16Cell (k : Int) : List Value := [.int .u16 k]

set_option maxHeartbeats 4000000 in
theorem law_once (H : PHeap) (x : Int) (hx0 : 0 ≤ x) (hx1 : x ≤ 65535) (v : Value) (ks : List Int) (hv : rowsAt H 1 v (ks.map u16Cell)) (hks : ∀ k ∈ ks, 0 ≤ k ∧ k ≤ 65535) :
    FnDoes Try.prog 3 [.int .u16 x, v] [own H] (fun _ : Unit => True) (fun _ => .bool true) (fun _ => [own H]) := by
  refine does_of Try.func3 rfl rfl Try.ntmps3 rfl (by simp only [enum, Nat.reduceAdd, Nat.zero_add]; exact rfl) (fun c => ?_)
  obtain ⟨a, cap, rfl⟩ := hv.slice
  have hv' := hv
  simp only [List.length_map] at hv' ⊢
  obtain ⟨n, hn⟩ : ∃ n, n = 1 + x % 65535 := ⟨_, rfl⟩
  have hn1 : 1 ≤ n := by omega
  have hn2 : n ≤ 65535 := by omega
  (refine go ?_; intros)
  (show wpO _ _ ⟨_, .call _, _, _, _, _⟩ _ _ _ _ _ _; refine o_callA (inb_new) (fun b _ => ?_); try simp only [List.cons_append, List.nil_append])
  (refine go ?_; intros)
  rw [← hn]
  (show wpO _ _ ⟨_, .call _, _, _, _, _⟩ _ _ _ _ _ _; refine o_callA (inb_come b [] n inOk_nil (by simp) hn1 hn2 (by simp)) (fun k0 hk0 => ?_); try simp only [List.cons_append, List.nil_append])
  (refine go ?_; intros)
  refine wpC_loop (σ := OnSt) (fun s => s.i ≤ 40 ∧ InOk s.l ∧ n ∈ s.l)
    (fun s => [(1, .slice a ks.length cap), (5, ptr b), (6, .int .i64 n), (9, .int .i64 s.i)])
    (fun s => [own H, inboxI b s.l])
    (fun s => 40 - s.i) ⟨0, putIn [] k0 n⟩ ⟨Nat.zero_le _, inOk_put inOk_nil hk0 (by simp) hn1 hn2 (by simp), mem_putIn.2 (.inl rfl)⟩ (by repeat (first | exact trivial | refine ⟨rfl, ?_⟩)) (by ((try simp only [List.cons_append, List.nil_append]); repeat (first | exact Ent.nil | (apply Ent.cons; repeat (first | exact Pick.head | apply Pick.tail))))) (fun s hs => ?_)
  obtain ⟨i, l⟩ := s
  simp only at hs ⊢
  obtain ⟨s1, s2, s3⟩ := hs
  by_cases hi : i < ks.length ∧ i < 40
  · obtain ⟨i1, i2⟩ := hi
    obtain ⟨b', off, cap', e, hc⟩ := hv'.at i (by simpa using i1)
    simp only [List.length_map, Value.slice.injEq] at e
    obtain ⟨rfl, _, rfl⟩ := e
    have hc' : H.cell? ⟨b', off + i * 1, none⟩ = some (.int .u16 ks[i]) := by
      have := hc 0 (.int .u16 ks[i]) (by simp [u16Cell])
      simpa using this
    obtain ⟨hk0, hk1⟩ := hks ks[i] (List.getElem_mem _)
    generalize ks[i] = kk at hc' hk0 hk1
    clear hc
    obtain ⟨m, hm⟩ : ∃ m, m = 1 + kk % 65535 := ⟨_, rfl⟩
    have hm1 : 1 ≤ m := by omega
    have hm2 : m ≤ 65535 := by omega
    have hlen := s2.2.1
    by_cases hmn : m = n
    · have hmn' : 1 + kk % 65535 = n := by omega
      (refine go ?_; intros)
      refine q_round ⟨i + 1, l⟩ ⟨by simp only; omega, s2, s3⟩ (by simp only; omega) (by repeat (first | exact trivial | refine ⟨rfl, ?_⟩)) (by ((try simp only [List.cons_append, List.nil_append]); repeat (first | exact Ent.nil | (apply Ent.cons; repeat (first | exact Pick.head | apply Pick.tail)))))
    · have hmn' : ¬ 1 + kk % 65535 = n := by omega
      have hcome : ∀ l', InOk l' → n ∈ l' → True := fun _ _ _ => trivial
      by_cases h3 : i % 3 = 2
      · have h3' : (i : Int) % 3 = 2 := by omega
        (refine go ?_; intros)
        rw [← hm]
        (show wpO _ _ ⟨_, .call _, _, _, _, _⟩ _ _ _ _ _ _; refine o_callA (inb_doneAny b l m s2) (fun r hr => ?_); try simp only [List.cons_append, List.nil_append])
        have hnr := hr.2 n s3 (fun e => hmn e.symm)
        have hlr := hr.1.2.1
        (refine go ?_; intros)
        (show wpO _ _ ⟨_, .call _, _, _, _, _⟩ _ _ _ _ _ _; refine o_callA (inb_comeThere b r.1 n hr.1 hnr) (fun _ _ => ?_); try simp only [List.cons_append, List.nil_append])
        (refine go ?_; intros)
        (show wpO _ _ ⟨_, .call _, _, _, _, _⟩ _ _ _ _ _ _; refine o_callA (inb_len b r.1) (fun _ _ => ?_); try simp only [List.cons_append, List.nil_append])
        (refine go ?_; intros)
        refine q_round ⟨i + 1, r.1⟩ ⟨by simp only; omega, hr.1, hnr⟩ (by simp only; omega) (by repeat (first | exact trivial | refine ⟨rfl, ?_⟩)) (by ((try simp only [List.cons_append, List.nil_append]); repeat (first | exact Ent.nil | (apply Ent.cons; repeat (first | exact Pick.head | apply Pick.tail)))))
      · have h3' : ¬ (i : Int) % 3 = 2 := by omega
        (refine go ?_; intros)
        rw [← hm]
        (show wpO _ _ ⟨_, .call _, _, _, _, _⟩ _ _ _ _ _ _; refine o_callA (inb_comeAny b l m s2 hm1 hm2) (fun r hr => ?_); try simp only [List.cons_append, List.nil_append])
        have hnr := hr.2 n s3
        have hlr := hr.1.2.1
        (refine go ?_; intros)
        (show wpO _ _ ⟨_, .call _, _, _, _, _⟩ _ _ _ _ _ _; refine o_callA (inb_comeThere b r.1 n hr.1 hnr) (fun _ _ => ?_); try simp only [List.cons_append, List.nil_append])
        (refine go ?_; intros)
        (show wpO _ _ ⟨_, .call _, _, _, _, _⟩ _ _ _ _ _ _; refine o_callA (inb_len b r.1) (fun _ _ => ?_); try simp only [List.cons_append, List.nil_append])
        (refine go ?_; intros)
        refine q_round ⟨i + 1, r.1⟩ ⟨by simp only; omega, hr.1, hnr⟩ (by simp only; omega) (by repeat (first | exact trivial | refine ⟨rfl, ?_⟩)) (by ((try simp only [List.cons_append, List.nil_append]); repeat (first | exact Ent.nil | (apply Ent.cons; repeat (first | exact Pick.head | apply Pick.tail)))))
  · by_cases hi1 : i < ks.length
    all_goals
      (refine go ?_; intros)
      (show wpO _ _ ⟨_, .call _, _, _, _, _⟩ _ _ _ _ _ _; refine o_callA (inb_done b l n s2 s3) (fun k hk => ?_); try simp only [List.cons_append, List.nil_append])
      have hkl : k < l.length := (List.getElem?_eq_some_iff.1 hk.2).1
      have ho2 := inOk_out s2 hkl
      have hno := not_mem_takeOut s2.1 hk.2
      have hl2 : (takeOut l k).length < 16 := by rw [takeOut_length hkl]; have := s2.2.1; omega
      (refine go ?_; intros)
      (show wpO _ _ ⟨_, .call _, _, _, _, _⟩ _ _ _ _ _ _; refine o_callA (inb_doneNo b (takeOut l k) n ho2 hno) (fun _ _ => ?_); try simp only [List.cons_append, List.nil_append])
      (refine go ?_; intros)
      (show wpO _ _ ⟨_, .call _, _, _, _, _⟩ _ _ _ _ _ _; refine o_callA (inb_come b (takeOut l k) n ho2 hno hn1 hn2 hl2) (fun k2 hk2 => ?_); try simp only [List.cons_append, List.nil_append])
      (refine go ?_; intros)
      (show wpO _ _ ⟨_, .call _, _, _, _, _⟩ _ _ _ _ _ _; refine o_callA (law_awake) (fun _ _ => ?_); try simp only [List.cons_append, List.nil_append])
      (refine go ?_; intros)
      refine q_ret1 rfl rfl () rfl trivial ?_
      ((try simp only [List.cons_append, List.nil_append]); repeat (first | exact Ent.nil | (apply Ent.cons; repeat (first | exact Pick.head | apply Pick.tail))))
end Go.Proofs.Ytkkhklamcmbodaa
