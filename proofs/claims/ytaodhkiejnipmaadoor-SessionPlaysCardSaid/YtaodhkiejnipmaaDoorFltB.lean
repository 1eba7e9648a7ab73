/-
  The package flight: find; taking one out of a row of pointers.
-/
import Derived.Test.YtaodhkiejnipmaaDoorFltA
set_option linter.unusedSimpArgs false
set_option linter.unusedVariables false
set_option maxRecDepth 20000
namespace Go.Proofs.YtaodhkiejnipmaaDoor
open Go Go.Sx
def fptr (ps : List Nat) : Option Nat → Value
  | none => .pointer none
  | some i => ptr (ps.getD i 0)
theorem getD_at {ps : List Nat} {i : Nat} (h : i < ps.length) : ps.getD i 0 = ps[i] := by simp [List.getD, h]
abbrev qC (t q : Nat) : HProp := pts t (.cells [ptr q].toArray 119 (0, 0))
def clo (t : Nat) : Value := .func (.func 86) #[] #[ptr t]
/-- A row whose element i is being moved out, m elements done. -/
def mvd (ps : List Nat) (i m : Nat) : List Nat := (ps.eraseIdx i).take m ++ ps.drop m
theorem er_len {ps : List Nat} {i : Nat} (hi : i < ps.length) : (ps.eraseIdx i).length = ps.length - 1 := by rw [List.length_eraseIdx, if_pos hi]
theorem mvd_len {ps : List Nat} {i m : Nat} (hi : i < ps.length) (hm : m < ps.length) : (mvd ps i m).length = ps.length := by
  have := er_len hi
  simp only [mvd, List.length_append, List.length_take, List.length_drop]; omega
theorem mvd_zero {ps : List Nat} {i : Nat} (hi : i < ps.length) : mvd ps i i = ps := by
  unfold mvd
  rw [List.eraseIdx_eq_take_drop_succ, List.take_append_of_le_length (by simp; omega), List.take_take, Nat.min_self, List.take_append_drop]
theorem mvd_get {ps : List Nat} {i m : Nat} (hi : i < ps.length) (hm : m + 1 < ps.length) : (mvd ps i m)[m + 1]? = some ps[m + 1] := by
  have := er_len hi
  unfold mvd
  rw [List.getElem?_append_right (by simp; omega)]
  simp only [List.length_take, List.getElem?_drop]
  rw [show m + (m + 1 - min m (ps.eraseIdx i).length) = m + 1 by omega, List.getElem?_eq_getElem hm]
theorem mvd_step {ps : List Nat} {i m : Nat} (him : i ≤ m) (hm : m + 1 < ps.length) : (mvd ps i m).set m ps[m + 1] = mvd ps i (m + 1) := by
  have hl := er_len (ps := ps) (i := i) (by omega)
  have h1 : ((ps.eraseIdx i).take m).length = m := by rw [List.length_take]; omega
  unfold mvd
  rw [List.set_append_right _ _ (by omega), h1, Nat.sub_self, List.drop_eq_getElem_cons (by omega : m < ps.length), List.set_cons_zero, List.take_add_one, List.getElem?_eq_getElem (by omega : m < (ps.eraseIdx i).length), List.getElem_eraseIdx, dif_neg (by omega)]
  simp
theorem mvd_end {ps : List Nat} {i n : Nat} (hi : i < ps.length) (hn : ps.length = n + 1) : mvd ps i n = ps.eraseIdx i ++ [ps[n]] := by
  have hl := er_len hi
  unfold mvd
  rw [List.take_of_length_le (by omega), List.drop_eq_getElem_cons (by omega), List.drop_eq_nil_of_le (by omega)]
attribute [local irreducible] MidQ wpE wpO wpC qE wpQ wpQO wpH wpHO wpD wpDO wpZ Ev own emp exI sl ch PostS LoopQ Rd rowsAt
attribute [local irreducible] starI
theorem flt_find (f d : Nat) (v : Value) (ps : List Nat) (L : List PSent) (id : Int) (hl : ps.length = L.length) (h8 : L.length ≤ 8) : FnDoes Tryd.prog 75 [ptr f, .int .i64 id] [fltC f v d, ptrsI v ps, starI (blks ps L)] (fun _ : Unit => True)
    (fun _ => fptr ps (idxF L id)) (fun _ => [fltC f v d, ptrsI v ps, starI (blks ps L)]) := by
  refine does_of Tryd.func75 rfl rfl Tryd.ntmps75 rfl (by simp only [enum, Nat.reduceAdd, Nat.zero_add]; exact rfl) (fun c => ?_)
  have hr : Rd (ptrsI v ps) 1 v ps.length (ptrs ps) := Rd.ofSl
  refine wpC_fact (hr.isSlice (by repeat (first | exact Pick.head | apply Pick.tail))) (fun hk => ?_)
  obtain ⟨a, cap, rfl, hk⟩ := hk
  (refine go ?_; intros)
  (show wpO _ _ ⟨_, .call _, _, _, _, _⟩ _ _ _ _ _ _; refine o_callA (flt_none f d (.slice a ps.length cap)) (fun _ _ => ?_); try simp only [List.cons_append, List.nil_append])
  (refine go ?_; intros)
  refine wpC_loop (σ := Nat) (fun j => j ≤ L.length ∧ ∀ k (hk : k < L.length), k < j → L[k].id ≠ id) (fun j => [(0, ptr f), (1, .int .i64 id), (12, .slice a ps.length cap), (13, .int .i64 ps.length), (14, .int .i64 j)])
    (fun _ => [fltC f (.slice a ps.length cap) d, ptrsI (.slice a ps.length cap) ps, starI (blks ps L)]) (fun j => L.length - j) 0 ⟨Nat.zero_le _, fun k _ h => by omega⟩ (by repeat (first | exact trivial | refine ⟨rfl, ?_⟩)) (by ((try simp only [List.cons_append, List.nil_append]); repeat (first | exact Ent.nil | (apply Ent.cons; repeat (first | exact Pick.head | apply Pick.tail))))) (fun j hj => ?_)
  obtain ⟨j1, j2⟩ := hj
  by_cases hjl : j < L.length
  · obtain ⟨b, o, rfl, _⟩ := hk (by omega)
    have hcell : (ptrs ps)[j * 1]? = some (ptr ps[j]) := by rw [Nat.mul_one]; simp [ptrs, show j < ps.length by omega]
    have hb := blks_at (ps := ps) (L := L) (i := j) (by omega) hjl
    have hjp : j < ps.length := by omega
    by_cases he : L[j].id = id
    all_goals
      (refine go ?_; intros)
      refine o_evB (ev_load_rd rfl rfl rfl hr (by repeat (first | exact Pick.head | apply Pick.tail)) rfl hcell) ?_
      (refine go ?_; intros)
      refine o_evB (ev_load_star (i := j) rfl rfl rfl (by repeat (first | exact Pick.head | apply Pick.tail)) hb rfl) ?_
      (refine go ?_; intros)
      first
        | (refine q_ret1 rfl rfl () ?_ trivial (by ((try simp only [List.cons_append, List.nil_append]); repeat (first | exact Ent.nil | (apply Ent.cons; repeat (first | exact Pick.head | apply Pick.tail)))))
           rw [idxF_some hjl he j2]
           simp [fptr, List.getD, hjp])
        | refine q_round (j + 1) ⟨by omega, fun k hk hkj => by
            by_cases c : k = j
            · subst c; exact he
            · exact j2 k hk (by omega)⟩ (by omega) (by repeat (first | exact trivial | refine ⟨rfl, ?_⟩)) (by ((try simp only [List.cons_append, List.nil_append]); repeat (first | exact Ent.nil | (apply Ent.cons; repeat (first | exact Pick.head | apply Pick.tail)))))
  · (refine go ?_; intros)
    refine q_ret1 rfl rfl () ?_ trivial (by ((try simp only [List.cons_append, List.nil_append]); repeat (first | exact Ent.nil | (apply Ent.cons; repeat (first | exact Pick.head | apply Pick.tail)))))
    rw [idxF_none (fun k hk => j2 k hk (by omega))]
    rfl
theorem end_clo (t i j : Nat) (ps : List Nat) (L : List PSent) (hl : ps.length = L.length) (hi : i < ps.length) (hj : j < ps.length) : FnDoes Tryd.prog 86 ([ptr ps[j]] ++ [ptr t]) [qC t ps[i], starI (blks ps L)] (fun _ : Unit => True) (fun _ => .bool (decide (j = i))) (fun _ => [qC t ps[i], starI (blks ps L)]) := by
  show FnDoes Tryd.prog 86 [ptr ps[j], ptr t] [qC t ps[i], starI (blks ps L)] (fun _ : Unit => True) (fun _ => .bool (decide (j = i))) (fun _ => [qC t ps[i], starI (blks ps L)])
  refine does_of Tryd.func86 rfl rfl Tryd.ntmps86 rfl (by simp only [enum, Nat.reduceAdd, Nat.zero_add]; exact rfl) (fun c => ?_)
  have hbi := blks_at (ps := ps) (L := L) (i := i) hi (by omega)
  have hbj := blks_at (ps := ps) (L := L) (i := j) hj (by omega)
  by_cases h : j = i
  · subst h
    (refine go ?_; intros)
    refine o_evB (ev_eq_ptr_same rfl rfl rfl rfl rfl) ?_
    (refine go ?_; intros)
    exact q_ret1 rfl rfl () (by simp) trivial (by ((try simp only [List.cons_append, List.nil_append]); repeat (first | exact Ent.nil | (apply Ent.cons; repeat (first | exact Pick.head | apply Pick.tail)))))
  · (refine go ?_; intros)
    refine o_evB (ev_eq_ptr_other rfl rfl rfl rfl rfl (by repeat (first | exact Pick.head | apply Pick.tail)) hbj hbi h) ?_
    (refine go ?_; intros)
    exact q_ret1 rfl rfl () (by simp [h]) trivial (by ((try simp only [List.cons_append, List.nil_append]); repeat (first | exact Ent.nil | (apply Ent.cons; repeat (first | exact Pick.head | apply Pick.tail)))))
theorem index_func (t i : Nat) (v : Value) (ps : List Nat) (L : List PSent) (hl : ps.length = L.length) (h8 : L.length ≤ 8) (hi : i < ps.length) : FnDoes Tryd.prog 92 [v, clo t] [ptrsI v ps, qC t ps[i], starI (blks ps L)] (fun _ : Unit => True)
    (fun _ => .int .i64 i) (fun _ => [ptrsI v ps, qC t ps[i], starI (blks ps L)]) := by
  refine does_of Tryd.func92 rfl rfl Tryd.ntmps92 rfl (by simp only [enum, Nat.reduceAdd, Nat.zero_add]; exact rfl) (fun c => ?_)
  have hr : Rd (ptrsI v ps) 1 v ps.length (ptrs ps) := Rd.ofSl
  refine wpC_fact (hr.isSlice (by repeat (first | exact Pick.head | apply Pick.tail))) (fun hk => ?_)
  obtain ⟨a, cap, rfl, hk⟩ := hk
  obtain ⟨b, o, rfl, _⟩ := hk (by omega)
  (refine go ?_; intros)
  refine wpC_loop (σ := Nat) (fun j => j ≤ i) (fun j => [(0, .slice (some ⟨b, o, none⟩) ps.length cap), (1, clo t), (7, .int .i64 ps.length), (8, .int .i64 j)])
    (fun _ => [ptrsI (.slice (some ⟨b, o, none⟩) ps.length cap) ps, qC t ps[i], starI (blks ps L)]) (fun j => i - j) 0 (Nat.zero_le _) (by repeat (first | exact trivial | refine ⟨rfl, ?_⟩)) (by ((try simp only [List.cons_append, List.nil_append]); repeat (first | exact Ent.nil | (apply Ent.cons; repeat (first | exact Pick.head | apply Pick.tail))))) (fun j hj => ?_)
  have hjp : j < ps.length := by omega
  have hcell : (ptrs ps)[j * 1]? = some (ptr ps[j]) := by rw [Nat.mul_one]; simp [ptrs, hjp]
  have S := end_clo t i j ps L hl hi hjp
  by_cases h : j = i
  · rw [decide_eq_true h] at S
    subst h
    (refine go ?_; intros)
    refine o_evB (ev_load_rd rfl rfl rfl hr (by repeat (first | exact Pick.head | apply Pick.tail)) rfl hcell) ?_
    (refine go ?_; intros)
    refine o_callVA S (fun _ _ => ?_)
    (refine go ?_; intros)
    exact q_ret1 rfl rfl () rfl trivial (by ((try simp only [List.cons_append, List.nil_append]); repeat (first | exact Ent.nil | (apply Ent.cons; repeat (first | exact Pick.head | apply Pick.tail)))))
  · rw [decide_eq_false h] at S
    (refine go ?_; intros)
    refine o_evB (ev_load_rd rfl rfl rfl hr (by repeat (first | exact Pick.head | apply Pick.tail)) rfl hcell) ?_
    (refine go ?_; intros)
    refine o_callVA S (fun _ _ => ?_)
    (refine go ?_; intros)
    refine q_round (j + 1) (by omega) (by omega) (by repeat (first | exact trivial | refine ⟨rfl, ?_⟩)) (by ((try simp only [List.cons_append, List.nil_append]); repeat (first | exact Ent.nil | (apply Ent.cons; repeat (first | exact Pick.head | apply Pick.tail)))))
theorem ptrs_put {l : List Nat} {k q : Nat} {junk : List Value} (h : k < l.length) : (ptrs l ++ junk).set (0 + k * 1) (ptr q) = ptrs (l.set k q) ++ junk := by
  rw [show 0 + k * 1 = k by omega, List.set_append_left _ _ (by rw [ptrs_len]; exact h)]
  simp [ptrs, List.map_set]
theorem delete_func (t i : Nat) (v : Value) (ps : List Nat) (L : List PSent) (hl : ps.length = L.length) (h8 : L.length ≤ 8) (hi : i < ps.length) : FnDoes Tryd.prog 85 [v, clo t] [ptrsI v ps, qC t ps[i], starI (blks ps L)] (fun _ : Value => True)
    (fun w => w) (fun w => [ptrsI w (ps.eraseIdx i), qC t ps[i], starI (blks ps L)]) := by
  refine does_of Tryd.func85 rfl rfl Tryd.ntmps85 rfl (by simp only [enum, Nat.reduceAdd, Nat.zero_add]; exact rfl) (fun c => ?_)
  obtain ⟨n, hn⟩ : ∃ n, ps.length = n + 1 := ⟨ps.length - 1, by omega⟩
  have hne : ¬ ((i : Int) = -1) := by omega
  (refine go ?_; intros)
  (show wpO _ _ ⟨_, .call _, _, _, _, _⟩ _ _ _ _ _ _; refine o_callA (index_func t i v ps L hl h8 hi) (fun _ _ => ?_); try simp only [List.cons_append, List.nil_append])
  (refine goB ?_; intros)
  refine wpC_sl .head (fun _ h _ => by omega) (fun b cap junk e q1 q2 q3 => ?_)
  subst e
  refine wpC_block ?_
  refine wpC_loop (σ := Nat) (fun m => i ≤ m ∧ m ≤ n) (fun m => [(0, .slice (some ⟨b, 0, none⟩) ps.length cap), (1, clo t), (5, .int .i64 m), (6, .int .i64 ((m + 1 : Nat) : Int))])
    (fun m => [ptrsB b (ptrs (mvd ps i m) ++ junk), qC t ps[i], starI (blks ps L)]) (fun m => n - m) i ⟨Nat.le_refl _, by omega⟩ ⟨rfl, rfl, rfl, rfl, trivial⟩ (by rw [mvd_zero hi]; ((try simp only [List.cons_append, List.nil_append]); repeat (first | exact Ent.nil | (apply Ent.cons; repeat (first | exact Pick.head | apply Pick.tail))))) (fun m hm => ?_)
  obtain ⟨m1, m2⟩ := hm
  have hml := mvd_len (ps := ps) (i := i) (m := m) hi (by omega)
  have hL : (ptrs (mvd ps i m) ++ junk).length = ps.length + junk.length := by rw [List.length_append, ptrs_len, hml]
  by_cases hmn : m < n
  · have hm1 : m + 1 < ps.length := by omega
    have hcell : (ptrs (mvd ps i m) ++ junk)[0 + (m + 1) * 1]? = some (ptr ps[m + 1]) := by
      rw [List.getElem?_append_left (by rw [ptrs_len]; omega), show 0 + (m + 1) * 1 = m + 1 by omega]
      simp only [ptrs, List.getElem?_map, mvd_get hi hm1, Option.map_some]
    have S := end_clo t i (m + 1) ps L hl hi hm1
    rw [decide_eq_false (by omega : ¬ m + 1 = i)] at S
    have e1 : ((m + 1 : Nat) : Int) + 1 = ((m + 1 + 1 : Nat) : Int) := by omega
    have e2 : (m : Int) + 1 = ((m + 1 : Nat) : Int) := by omega
    (refine go ?_; intros)
    refine o_callVA S (fun _ _ => ?_)
    (refine go ?_; intros)
    rw [ptrs_put (by omega), mvd_step m1 hm1]
    (refine go ?_; intros)
    refine q_round (m + 1) ⟨by omega, by omega⟩ (by omega) ⟨rfl, rfl, rfl, rfl, trivial⟩ (by ((try simp only [List.cons_append, List.nil_append]); repeat (first | exact Ent.nil | (apply Ent.cons; repeat (first | exact Pick.head | apply Pick.tail)))))
  · obtain rfl : m = n := by omega
    have hend := mvd_end (ps := ps) (i := i) hi hn
    have hel := er_len hi
    (refine go ?_; intros)
    refine o_evB (ev_slcLo (l := m) 1 rfl rfl rfl rfl rfl rfl (by omega)) ?_
    rw [if_neg (by omega), show ps.length - m = 1 by omega]
    simp only [Option.map_some, add_lit]
    (refine go ?_; intros)
    refine o_clear1 (off := 0 + m * 1) rfl rfl rfl rfl rfl rfl (by repeat (first | exact Pick.head | apply Pick.tail)) (by omega) rfl ?_
    (refine go ?_; intros)
    refine o_evB (ev_slcHi (h := m) rfl rfl rfl rfl rfl (by omega)) ?_
    (refine go ?_; intros)
    refine q_ret1 rfl rfl (.slice (some ⟨b, 0, none⟩) m cap) rfl trivial ?_
    have ec : (ptrs (mvd ps i m) ++ junk).set (0 + m * 1) (.pointer none) = ptrs (ps.eraseIdx i) ++ (.pointer none :: junk) := by
      rw [hend, show 0 + m * 1 = m by omega]
      simp only [ptrs, List.map_append, List.map_cons, List.map_nil, List.append_assoc, List.cons_append, List.nil_append]
      rw [List.set_append_right _ _ (by simp; omega)]
      simp [show m - (ps.eraseIdx i).length = 0 by omega]
    rw [ec]
    have em : (ps.eraseIdx i).length = m := by omega
    rw [ptrsI, em]
    refine Ent.slClose (by repeat (first | exact Pick.head | apply Pick.tail)) (by rw [ptrs_len]; omega) (ptrs_one _) (by omega) q2 ?_ (by ((try simp only [List.cons_append, List.nil_append]); repeat (first | exact Ent.nil | (apply Ent.cons; repeat (first | exact Pick.head | apply Pick.tail)))))
    rw [← ec, List.length_set, hL]
    have := q3
    rw [List.length_append, ptrs_len] at this
    exact this
end Go.Proofs.YtaodhkiejnipmaaDoor
