/-
  Numbers that came back: a heap behind heap.Interface.
-/
import Derived.Test.YtmlcikcdegodaaaDoorHeapW
import Derived.Test.YtmlcikcdegodaaaDoorHeapX
import Derived.Test.YtmlcikcdegodaaaDoorInbM
import Derived.Test.YtmlcikcdegodaaaDoorIdsM
set_option linter.unusedSimpArgs false
set_option linter.unusedVariables false
set_option maxRecDepth 20000
namespace Go.Proofs.YtmlcikcdegodaaaDoor
open Go Go.Sx
def ptr (q : Nat) : Value := .pointer (some ⟨q, 0, none⟩)
abbrev intsI (v : Value) (l : List Int) : HProp := sl 3 1 v l.length (ints l)
abbrev backC (p : Nat) (v : Value) : HProp := pts p (.cells [v].toArray 145 (0, 0))
def backI (p : Nat) (l : List Int) : HProp := exI (σ := Value) (fun _ => True) fun v => [backC p v, intsI v l]
theorem intsI_snoc (w : Value) (l : List Int) (k : Int) : sl 3 1 w (l.length + 1) (ints l ++ [.int .i64 k]) = intsI w (l ++ [k]) := by simp [intsI, ints_snoc]
theorem ints_set (l : List Int) (k : Nat) (x : Int) : (ints l).set k (.int .i64 x) = ints (l.set k x) := by simp [ints, List.map_set]
attribute [local irreducible] MidQ wpE wpO wpC qE wpQ wpQO wpH wpHO wpD wpDO wpZ Ev own emp exI sl ch PostS LoopQ Rd rowsAt

theorem back_len (p : Nat) (v : Value) (l : List Int) : FnDoes Tryd.prog 90 [v] [backC p v, intsI v l] (fun _ : Unit => True) (fun _ => .int .i64 l.length) (fun _ => [backI p l]) := by
  refine does_of Tryd.func90 rfl rfl Tryd.ntmps90 rfl (by simp only [enum, Nat.reduceAdd, Nat.zero_add]; exact rfl) (fun c => ?_)
  (refine go ?_; intros)
  refine q_ret1 rfl rfl () rfl trivial ?_
  exact Ent.fold v trivial (by ((try simp only [List.cons_append, List.nil_append]); repeat (first | exact Ent.nil | (apply Ent.cons; repeat (first | exact Pick.head | apply Pick.tail)))))
theorem back_less (p : Nat) (v : Value) (l : List Int) (i j : Nat) (hi : i < l.length) (hj : j < l.length) : FnDoes Tryd.prog 91 [v, .int .i64 i, .int .i64 j] [backC p v, intsI v l] (fun _ : Unit => True) (fun _ => .bool (ltI (nth l i) (nth l j))) (fun _ => [backI p l]) := by
  refine does_of Tryd.func91 rfl rfl Tryd.ntmps91 rfl (by simp only [enum, Nat.reduceAdd, Nat.zero_add]; exact rfl) (fun c => ?_)
  have hr : Rd (intsI v l) 1 v l.length (ints l) := Rd.ofSl
  refine wpC_fact (hr.isSlice (by repeat (first | exact Pick.head | apply Pick.tail))) (fun hk => ?_)
  obtain ⟨a, cap, rfl, hk⟩ := hk
  obtain ⟨b, off, rfl, hc⟩ := hk (by omega)
  have hci : (ints l)[i * 1]? = some (.int .i64 l[i]) := by rw [Nat.mul_one]; exact ints_get hi
  have hcj : (ints l)[j * 1]? = some (.int .i64 l[j]) := by rw [Nat.mul_one]; exact ints_get hj
  rw [nth_eq hi, nth_eq hj]
  by_cases hlt : l[i] < l[j]
  all_goals
    (refine go ?_; intros)
    refine wpC_quietA ?_
    refine go ?_
    refine oq_evB (ev_load_rd rfl rfl rfl hr (by repeat (first | exact Pick.head | apply Pick.tail)) rfl hci) ?_
    refine go ?_
    refine oq_evB (ev_load_rd rfl rfl rfl hr (by repeat (first | exact Pick.head | apply Pick.tail)) rfl hcj) ?_
    refine go ?_
    (refine go ?_; intros)
    refine q_ret1 rfl rfl () (by simp [ltI, hlt]) trivial ?_
    exact Ent.fold _ trivial (by ((try simp only [List.cons_append, List.nil_append]); repeat (first | exact Ent.nil | (apply Ent.cons; repeat (first | exact Pick.head | apply Pick.tail)))))
theorem back_swap (p : Nat) (v : Value) (l : List Int) (i j : Nat) (hi : i < l.length) (hj : j < l.length) : FnDoes Tryd.prog 93 [v, .int .i64 i, .int .i64 j] [backC p v, intsI v l] (fun _ : Unit => True) (fun _ => .tuple #[]) (fun _ => [backI p (swp l i j)]) := by
  refine does_of Tryd.func93 rfl rfl Tryd.ntmps93 rfl (by simp only [enum, Nat.reduceAdd, Nat.zero_add]; exact rfl) (fun c => ?_)
  refine wpC_sl (.tail .head) (fun _ h _ => by omega) (fun b cap junk e h1 h2 h3 => ?_)
  subst e
  have hL : (ints l ++ junk).length = l.length + junk.length := by simp [ints]
  have hci : (ints l ++ junk)[0 + i * 1]? = some (.int .i64 l[i]) := by
    rw [List.getElem?_append_left (by rw [ints_len]; omega), show 0 + i * 1 = i by omega]; exact ints_get hi
  have hcj : (ints l ++ junk)[0 + j * 1]? = some (.int .i64 l[j]) := by
    rw [List.getElem?_append_left (by rw [ints_len]; omega), show 0 + j * 1 = j by omega]; exact ints_get hj
  (refine go ?_; intros)
  refine wpC_drawnT ?_
  (refine zt 0 ?_; refine zt 1 ?_; refine zt 2 ?_; refine zt 3 ?_; refine zt 4 ?_; refine zt 5 ?_; refine zt 8 ?_; refine zt 9 ?_)
  refine wpZ_D [pts b (.cells (ints l ++ junk).toArray 3 (0, 0))] 13 3 5 ?_
  ((first | refine dt 6 ?_ | refine dts 6 ?_); (first | refine dt 7 ?_ | refine dts 7 ?_); (first | refine dt 10 ?_ | refine dts 10 ?_); (first | refine dt 11 ?_ | refine dts 11 ?_); (first | refine df 12 ?_ | refine dfs 12 ?_))
  refine dz ?_
  (refine wpZ_unit 13 rfl rfl (by decide +kernel) rfl ?_; show OUL _ ⟨_, .store _ _ _, _, _, _, _⟩ _ _ _ _ _)
  refine x_store (by rfl) (by rfl) (by rfl) (by rfl) rfl (by repeat (first | exact Pick.head | apply Pick.tail)) (Upd1.of (by omega)) ?_
  (refine zf 14 ?_)
  (refine wpZ_unit 15 rfl rfl (by decide +kernel) rfl ?_; show OUL _ ⟨_, .store _ _ _, _, _, _, _⟩ _ _ _ _ _)
  refine x_store (by rfl) (by rfl) (by rfl) (by rfl) rfl .head (Upd1.of (by simp only [List.length_set]; omega)) ?_
  refine zend ?_
  (refine go ?_; intros)
  refine q_ret0 rfl () rfl trivial ?_ _ (Or.inr rfl)
  have e1 : ((ints l ++ junk).set (0 + i * 1) (.int .i64 l[j])).set (0 + j * 1) (.int .i64 l[i]) = ints (swp l i j) ++ junk := by
    rw [show 0 + i * 1 = i by omega, show 0 + j * 1 = j by omega, List.set_append_left _ _ (by rw [ints_len]; exact hi), ints_set, List.set_append_left _ _ (by rw [ints_len, List.length_set]; exact hj), ints_set]
    simp [swp, nth_eq hi, nth_eq hj]
  rw [e1]
  have hs : (swp l i j).length = l.length := swp_length _ _ _
  refine Ent.fold (.slice (some ⟨b, 0, none⟩) l.length cap) trivial (Ent.cons (by repeat (first | exact Pick.head | apply Pick.tail)) ?_)
  rw [intsI, hs]
  exact Ent.slClose .head (by rw [ints_len, hs]; omega) (ints_one _) h1 h2 (by rw [List.length_append, ints_len, hs]; rw [hL] at h3; exact h3) Ent.nil
theorem back_pop (p : Nat) (l : List Int) (h0 : 0 < l.length) (hl : l.length ≤ 1000000) : FnDoes Tryd.prog 92 [ptr p] [backI p l] (fun _ : Unit => True) (fun _ => .iface 3 (.int .i64 (nth l (l.length - 1)))) (fun _ => [backI p (l.take (l.length - 1))]) := by
  refine does_of Tryd.func92 rfl rfl Tryd.ntmps92 rfl (by simp only [enum, Nat.reduceAdd, Nat.zero_add]; exact rfl) (fun c => ?_)
  refine wpC_unfold .head (fun v _ => ?_)
  simp only [List.cons_append, List.nil_append]
  refine wpC_sl (.tail .head) (fun _ h _ => by omega) (fun b cap junk e h1 h2 h3 => ?_)
  subst e
  obtain ⟨k, hk⟩ : ∃ k, l.length = k + 1 := ⟨l.length - 1, by omega⟩
  have hkl : k < l.length := by omega
  rw [show l.length - 1 = k by omega, nth_eq hkl]
  have hcell : (ints l ++ junk)[0 + k * 1]? = some (.int .i64 l[k]) := by
    rw [List.getElem?_append_left (by rw [ints_len]; omega), show 0 + k * 1 = k by omega]; exact ints_get hkl
  have e1 : ((l.length : Int) - 1) = (k : Int) := by omega
  (refine go ?_; intros)
  rw [e1]
  (refine go ?_; intros)
  refine o_evB (ev_slcHi (h := k) rfl rfl rfl rfl rfl (by omega)) ?_
  (refine go ?_; intros)
  refine q_ret1 rfl rfl () rfl trivial ?_
  have e2 : ints l ++ junk = ints (l.take k) ++ (.int .i64 l[k] :: junk) := by
    have := List.take_append_drop k l
    rw [List.drop_eq_getElem_cons hkl, List.drop_eq_nil_of_le (by omega)] at this
    conv => lhs; rw [← this]
    simp only [ints, List.map_append, List.map_cons, List.map_nil, List.append_assoc, List.cons_append, List.nil_append]
  have e3 : (l.take k).length = k := by rw [List.length_take]; omega
  rw [e2]
  refine Ent.fold (.slice (some ⟨b, 0, none⟩) k cap) trivial (Ent.cons (by repeat (first | exact Pick.head | apply Pick.tail)) ?_)
  rw [intsI, e3]
  exact Ent.slClose .head (by rw [ints_len, e3]; omega) (ints_one _) (by omega) h2 (by rw [← e2]; exact h3) Ent.nil
end Go.Proofs.YtmlcikcdegodaaaDoor
