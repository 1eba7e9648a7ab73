/-
  The document's own hander-out: a row of bools.
-/
import Derived.Test.YtgpdfhjnlelhlaaSxM
import Derived.Test.YtgpdfhjnlelhlaaIdsS
import Derived.Test.YtgpdfhjnlelhlaaIdsN
set_option linter.unusedSimpArgs false
set_option linter.unusedVariables false
namespace Go.Proofs.Ytgpdfhjnlelhlaa
open Go Go.Sx
def bls (l : List Bool) : List Value := l.map Value.bool
theorem bls_len (l : List Bool) : (bls l).length = l.length := by simp [bls]
theorem bls_get {l : List Bool} {k : Nat} (h : k < l.length) : (bls l)[k]? = some (.bool l[k]) := by simp [bls, h]
theorem bls_set (l : List Bool) (k : Nat) (x : Bool) : (bls l).set k (.bool x) = bls (l.set k x) := by simp [bls, List.map_set]
theorem bls_one (l : List Bool) : (bls l).all (·.oneCell') = true := by simp [bls, Value.oneCell']
theorem bls_rep (n : Nat) (b : Bool) : bls (List.replicate n b) = List.replicate n (.bool b) := by simp [bls]
theorem bls_at {T : List Bool} {k : Nat} {junk : List Value} (h : k < T.length) : (bls T ++ junk)[0 + k * 1]? = some (.bool (T.getD k false)) := by
  rw [List.getElem?_append_left (by rw [bls_len]; omega), show 0 + k * 1 = k by omega, bls_get h]
  simp [List.getD, h]
theorem bls_put {T : List Bool} {k : Nat} {junk : List Value} {b : Bool} (h : k < T.length) : (bls T ++ junk).set (0 + k * 1) (.bool b) = bls (T.set k b) ++ junk := by
  rw [show 0 + k * 1 = k by omega, List.set_append_left _ _ (by rw [bls_len]; exact h), bls_set]
abbrev blsI (v : Value) (l : List Bool) : HProp := sl 4 1 v l.length (bls l)
abbrev refC (x : Nat) (v : Value) : HProp := pts x (.cells [v].toArray 52 (0, 0))
def refI (x : Nat) (l : List Bool) : HProp := exI (σ := Value) (fun _ => True) fun v => [refC x v, blsI v l]
attribute [local irreducible] MidQ wpE wpO wpC qE wpQ wpQO wpH wpHO wpD wpDO wpZ Ev own emp exI sl ch PostS LoopQ Rd rowsAt
theorem refI_close {x b cap : Nat} {T T' : List Bool} {junk : List Value} {M R : List HProp} (hl : T'.length = T.length) (q1 : T.length ≤ cap) (q2 : cap ≤ maxLen) (q3 : (bls T ++ junk).length = cap * 1)
    (e : Ent M (refC x (.slice (some ⟨b, 0, none⟩) T.length cap) :: pts b (.cells (bls T' ++ junk).toArray 4 (0, 0)) :: R)) : Ent M (refI x T' :: R) := by
  refine Ent.trans e (Ent.fold (.slice (some ⟨b, 0, none⟩) T.length cap) trivial (Ent.cons .head ?_))
  rw [blsI, hl]
  exact Ent.slClose .head (by rw [bls_len]; omega) (bls_one _) q1 q2 (by rw [List.length_append, bls_len, hl, ← bls_len T, ← List.length_append]; exact q3) (Ent.refl _)
theorem ref_newBad (most : Int) (h : most < 1 ∨ 65535 < most) : FnDoes Try.prog 9 [.int .i64 most] [] (fun _ : Unit => True) (fun _ => .tuple #[.pointer none, .int .i64 1]) (fun _ => []) := by
  refine does_of Try.func9 rfl rfl Try.ntmps9 rfl (by simp only [enum, Nat.reduceAdd, Nat.zero_add]; exact rfl) (fun c => ?_)
  by_cases h1 : most < 1
  · (refine go ?_; intros)
    exact q_ret2 rfl rfl rfl () rfl trivial Ent.nil
  · have h2 : 65535 < most := by omega
    (refine go ?_; intros)
    exact q_ret2 rfl rfl rfl () rfl trivial Ent.nil
theorem ref_new (m : Nat) (h1 : 1 ≤ m) (h2 : m ≤ 65535) : FnDoes Try.prog 9 [.int .i64 m] [] (fun _ : Nat => True) (fun y => .tuple #[ptr y, .int .i64 0]) (fun y => [refI y (List.replicate (m + 1) false)]) := by
  refine does_of Try.func9 rfl rfl Try.ntmps9 rfl (by simp only [enum, Nat.reduceAdd, Nat.zero_add]; exact rfl) (fun c => ?_)
  have h3 : ¬ (m : Int) < 1 := by omega
  have h4 : ¬ 65535 < (m : Int) := by omega
  have e1 : (m : Int) + 1 = ((m + 1 : Nat) : Int) := by omega
  (refine go ?_; intros)
  try rw [e1]
  (refine go ?_; intros)
  refine o_makeSlice1 (l := m + 1) rfl rfl rfl rfl rfl rfl rfl (by omega) ?_ (by omega) rfl (fun v => ?_)
  · show (m + 1) * 1 ≤ _
    omega
  rw [← bls_rep]
  have hr : Rd (sl 4 1 v (m + 1) (bls (List.replicate (m + 1) false))) 1 v (m + 1) (bls (List.replicate (m + 1) false)) := Rd.ofSl
  refine wpE_fact (hr.isSlice .head) (fun hk => ?_)
  obtain ⟨a, cap, rfl, _⟩ := hk
  (refine go ?_; intro d)
  (refine go ?_; intros)
  refine q_ret2 rfl rfl rfl d rfl trivial ?_
  refine Ent.fold (.slice a (m + 1) cap) trivial ?_
  simp only [blsI, List.length_replicate]
  ((try simp only [List.cons_append, List.nil_append]); repeat (first | exact Ent.nil | (apply Ent.cons; repeat (first | exact Pick.head | apply Pick.tail))))
theorem ref_take (x : Nat) (T : List Bool) (h1 : 1 ≤ T.length) (hl : T.length ≤ 100000) : FnDoes Try.prog 11 [ptr x] [refI x T] (fun y : Option Nat => IsFree T y) (fun y => .tuple #[.int .i64 ((y.getD 0 : Nat) : Int), .int .i64 (if y.isSome then 0 else 6)]) (fun y => [refI x (tookT T y)]) := by
  refine does_of Try.func11 rfl rfl Try.ntmps11 rfl (by simp only [enum, Nat.reduceAdd, Nat.zero_add]; exact rfl) (fun c => ?_)
  refine wpC_unfold .head (fun v _ => ?_)
  simp only [List.cons_append, List.nil_append]
  refine wpC_sl (.tail .head) (fun _ h _ => by omega) (fun b cap junk e q1 q2 q3 => ?_)
  subst e
  have hL : (bls T ++ junk).length = T.length + junk.length := by simp [bls]
  (refine go ?_; intros)
  refine wpC_loop (σ := Nat) (fun i => 1 ≤ i ∧ i ≤ T.length ∧ ∀ j, 1 ≤ j → j < i → T.getD j false = true)
    (fun i => [(0, ptr x), (4, .int .i64 i)])
    (fun _ => [refC x (.slice (some ⟨b, 0, none⟩) T.length cap), pts b (.cells (bls T ++ junk).toArray 4 (0, 0))])
    (fun i => T.length - i) 1 ⟨Nat.le_refl _, h1, fun j _ _ => by omega⟩ (by repeat (first | exact trivial | refine ⟨rfl, ?_⟩)) (by ((try simp only [List.cons_append, List.nil_append]); repeat (first | exact Ent.nil | (apply Ent.cons; repeat (first | exact Pick.head | apply Pick.tail))))) (fun i hs => ?_)
  obtain ⟨s1, s2, s3⟩ := hs
  by_cases hi : i < T.length
  · have hci := bls_at (junk := junk) hi
    cases hf : T.getD i false with
    | false =>
      rw [hf] at hci
      (refine go ?_; intros)
      refine q_ret2 rfl rfl rfl (some i) rfl ⟨s1, hi, hf, s3⟩ ?_
      rw [bls_put hi]
      exact refI_close (by simp [tookT]) q1 q2 q3 (by ((try simp only [List.cons_append, List.nil_append]); repeat (first | exact Ent.nil | (apply Ent.cons; repeat (first | exact Pick.head | apply Pick.tail)))))
    | true =>
      rw [hf] at hci
      (refine go ?_; intros)
      refine q_round (i + 1) ⟨by omega, by omega, fun j j1 j2 => ?_⟩ (by omega) (by repeat (first | exact trivial | refine ⟨rfl, ?_⟩)) (by ((try simp only [List.cons_append, List.nil_append]); repeat (first | exact Ent.nil | (apply Ent.cons; repeat (first | exact Pick.head | apply Pick.tail)))))
      by_cases c : j = i
      · subst c; exact hf
      · exact s3 j j1 (by omega)
  · (refine go ?_; intros)
    refine q_ret2 rfl rfl rfl none rfl (fun k k1 k2 => s3 k k1 (by omega)) ?_
    exact refI_close rfl q1 q2 q3 (by ((try simp only [List.cons_append, List.nil_append]); repeat (first | exact Ent.nil | (apply Ent.cons; repeat (first | exact Pick.head | apply Pick.tail)))))
theorem ref_give (x : Nat) (T : List Bool) (id : Int) (h1 : 1 ≤ T.length) (hl : T.length ≤ 100000) : FnDoes Try.prog 13 [ptr x, .int .i64 id] [refI x T] (fun _ : Unit => True) (fun _ => .int .i64 (giveV T id)) (fun _ => [refI x (gaveT T id)]) := by
  refine does_of Try.func13 rfl rfl Try.ntmps13 rfl (by simp only [enum, Nat.reduceAdd, Nat.zero_add]; exact rfl) (fun c => ?_)
  refine wpC_unfold .head (fun v _ => ?_)
  simp only [List.cons_append, List.nil_append]
  refine wpC_sl (.tail .head) (fun _ h _ => by omega) (fun b cap junk e q1 q2 q3 => ?_)
  subst e
  have hL : (bls T ++ junk).length = T.length + junk.length := by simp [bls]
  by_cases c1 : id < 1
  · obtain ⟨e1, e2⟩ := give_bad (T := T) (id := id) (.inl c1)
    rw [e1, e2]
    (refine go ?_; intros)
    exact q_ret1 rfl rfl () rfl trivial (refI_close rfl q1 q2 q3 (by ((try simp only [List.cons_append, List.nil_append]); repeat (first | exact Ent.nil | (apply Ent.cons; repeat (first | exact Pick.head | apply Pick.tail))))))
  by_cases c2 : (T.length : Int) ≤ id
  · obtain ⟨e1, e2⟩ := give_bad (T := T) (id := id) (.inr c2)
    rw [e1, e2]
    (refine go ?_; intros)
    exact q_ret1 rfl rfl () rfl trivial (refI_close rfl q1 q2 q3 (by ((try simp only [List.cons_append, List.nil_append]); repeat (first | exact Ent.nil | (apply Ent.cons; repeat (first | exact Pick.head | apply Pick.tail))))))
  obtain ⟨k, rfl⟩ : ∃ k : Nat, id = k := ⟨id.toNat, by omega⟩
  have hk : k < T.length := by omega
  have hci := bls_at (junk := junk) hk
  cases hf : T.getD k false with
  | false =>
    rw [hf] at hci
    obtain ⟨e1, e2⟩ := give_no (T := T) (k := k) (by omega) (by omega) hf
    rw [e1, e2]
    (refine go ?_; intros)
    exact q_ret1 rfl rfl () rfl trivial (refI_close rfl q1 q2 q3 (by ((try simp only [List.cons_append, List.nil_append]); repeat (first | exact Ent.nil | (apply Ent.cons; repeat (first | exact Pick.head | apply Pick.tail))))))
  | true =>
    rw [hf] at hci
    obtain ⟨e1, e2⟩ := give_yes (T := T) (k := k) (by omega) (by omega) hf
    rw [e1, e2]
    (refine go ?_; intros)
    refine q_ret1 rfl rfl () rfl trivial ?_
    rw [bls_put hk]
    exact refI_close (by simp) q1 q2 q3 (by ((try simp only [List.cons_append, List.nil_append]); repeat (first | exact Ent.nil | (apply Ent.cons; repeat (first | exact Pick.head | apply Pick.tail)))))
structure RaSt where
  k : Nat
  w : Value
theorem ref_all (x n : Nat) (T : List Bool) (hn : T.length = n + 1) (hl : n ≤ 70000) : FnDoes Try.prog 14 [ptr x] [refI x T] (fun _ : Value => True) (fun v => v) (fun v => [refI x T, intsI v (takenTo T n)]) := by
  refine does_of Try.func14 rfl rfl Try.ntmps14 rfl (by simp only [enum, Nat.reduceAdd, Nat.zero_add]; exact rfl) (fun c => ?_)
  refine wpC_unfold .head (fun v _ => ?_)
  simp only [List.cons_append, List.nil_append]
  refine wpC_sl (.tail .head) (fun _ h _ => by omega) (fun b cap junk e q1 q2 q3 => ?_)
  subst e
  (refine go ?_; intros)
  refine wpC_loop (σ := RaSt) (fun s => s.k ≤ n)
    (fun s => [(0, ptr x), (3, s.w), (4, .int .i64 ((s.k + 1 : Nat) : Int))])
    (fun s => [refC x (.slice (some ⟨b, 0, none⟩) T.length cap), pts b (.cells (bls T ++ junk).toArray 4 (0, 0)), intsI s.w (takenTo T s.k)])
    (fun s => n - s.k) ⟨0, .slice none 0 0⟩ (Nat.zero_le _) (by repeat (first | exact trivial | refine ⟨rfl, ?_⟩)) (Ent.cons (by repeat (first | exact Pick.head | apply Pick.tail)) (Ent.cons (by repeat (first | exact Pick.head | apply Pick.tail)) (Ent.slNil Ent.nil))) (fun s hs => ?_)
  obtain ⟨k, w⟩ := s
  simp only at hs ⊢
  have e1 : ((k + 1 : Nat) : Int) + 1 = ((k + 1 + 1 : Nat) : Int) := by omega
  have hle := takenTo_length T k
  by_cases hkl : k < n
  · have hlt : ((k + 1 : Nat) : Int) < (T.length : Int) := by omega
    have hk1 : k + 1 < T.length := by omega
    have hci := bls_at (junk := junk) hk1
    cases hz : T.getD (k + 1) false with
    | false =>
      rw [hz] at hci
      (refine go ?_; intros)
      try rw [e1]
      (refine go ?_; intros)
      refine q_round ⟨k + 1, w⟩ (by simp only; omega) (by simp only; omega) (by repeat (first | exact trivial | refine ⟨rfl, ?_⟩)) ?_
      rw [takenTo, hz]
      simp only [Bool.false_eq_true, if_false, List.append_nil]
      ((try simp only [List.cons_append, List.nil_append]); repeat (first | exact Ent.nil | (apply Ent.cons; repeat (first | exact Pick.head | apply Pick.tail))))
    | true =>
      rw [hz] at hci
      (refine go ?_; intros)
      refine o_append (sz := 1) (news := [.int .i64 ((k + 1 : Nat) : Int)]) (m := 1) rfl rfl rfl rfl rfl rfl rfl rfl (by repeat (first | exact Pick.head | apply Pick.tail)) ?_ ?_ rfl (fun w' => ?_)
      · exact src_pts rfl (by repeat (first | exact Pick.head | apply Pick.tail)) rfl rfl rfl
      · show (_ + 1) * 8 ≤ 140737488355328
        omega
      rw [intsI_snoc]
      (refine go ?_; intros)
      try rw [e1]
      (refine go ?_; intros)
      refine q_round ⟨k + 1, w'⟩ (by simp only; omega) (by simp only; omega) (by repeat (first | exact trivial | refine ⟨rfl, ?_⟩)) ?_
      rw [takenTo, hz]
      simp only [if_true]
      ((try simp only [List.cons_append, List.nil_append]); repeat (first | exact Ent.nil | (apply Ent.cons; repeat (first | exact Pick.head | apply Pick.tail))))
  · obtain rfl : k = n := by omega
    have hlt : ¬ ((k + 1 : Nat) : Int) < (T.length : Int) := by omega
    (refine go ?_; intros)
    refine q_ret1 rfl rfl w rfl trivial ?_
    exact refI_close rfl q1 q2 q3 (by ((try simp only [List.cons_append, List.nil_append]); repeat (first | exact Ent.nil | (apply Ent.cons; repeat (first | exact Pick.head | apply Pick.tail)))))
theorem ints_same (va vb : Value) (l : List Int) (hl : l.length ≤ 1000000) : FnDoes Try.prog 15 [va, vb] [intsI va l, intsI vb l] (fun _ : Unit => True) (fun _ => .bool true) (fun _ => [intsI va l, intsI vb l]) := by
  refine does_of Try.func15 rfl rfl Try.ntmps15 rfl (by simp only [enum, Nat.reduceAdd, Nat.zero_add]; exact rfl) (fun c => ?_)
  have hra : Rd (intsI va l) 1 va l.length (ints l) := Rd.ofSl
  have hrb : Rd (intsI vb l) 1 vb l.length (ints l) := Rd.ofSl
  refine wpC_fact (hra.isSlice (by repeat (first | exact Pick.head | apply Pick.tail))) (fun hka => ?_)
  refine wpC_fact (hrb.isSlice (by repeat (first | exact Pick.head | apply Pick.tail))) (fun hkb => ?_)
  obtain ⟨aa, ca, rfl, hka⟩ := hka
  obtain ⟨ab, cb, rfl, hkb⟩ := hkb
  (refine go ?_; intros)
  refine wpC_loop (σ := Nat) (fun k => k ≤ l.length) (fun k => [(0, .slice aa l.length ca), (1, .slice ab l.length cb), (5, .int .i64 k)])
    (fun _ => [intsI (.slice aa l.length ca) l, intsI (.slice ab l.length cb) l]) (fun k => l.length - k) 0 (Nat.zero_le _) (by repeat (first | exact trivial | refine ⟨rfl, ?_⟩)) (by ((try simp only [List.cons_append, List.nil_append]); repeat (first | exact Ent.nil | (apply Ent.cons; repeat (first | exact Pick.head | apply Pick.tail))))) (fun k hk => ?_)
  by_cases hkl : k < l.length
  · obtain ⟨ba, oa, rfl, _⟩ := hka (by omega)
    obtain ⟨bb, ob, rfl, _⟩ := hkb (by omega)
    have hcell : (ints l)[k * 1]? = some (.int .i64 l[k]) := by rw [Nat.mul_one]; exact ints_get hkl
    (refine go ?_; intros)
    refine wpC_quietA ?_
    refine go ?_
    refine oq_evB (ev_load_rd rfl rfl rfl hra (by repeat (first | exact Pick.head | apply Pick.tail)) rfl hcell) ?_
    refine go ?_
    refine oq_evB (ev_load_rd rfl rfl rfl hrb (by repeat (first | exact Pick.head | apply Pick.tail)) rfl hcell) ?_
    refine go ?_
    (refine go ?_; intros)
    refine q_round (k + 1) (by omega) (by omega) (by repeat (first | exact trivial | refine ⟨rfl, ?_⟩)) (by ((try simp only [List.cons_append, List.nil_append]); repeat (first | exact Ent.nil | (apply Ent.cons; repeat (first | exact Pick.head | apply Pick.tail)))))
  · (refine go ?_; intros)
    refine q_ret1 rfl rfl () rfl trivial ?_
    ((try simp only [List.cons_append, List.nil_append]); repeat (first | exact Ent.nil | (apply Ent.cons; repeat (first | exact Pick.head | apply Pick.tail))))
end Go.Proofs.Ytgpdfhjnlelhlaa
