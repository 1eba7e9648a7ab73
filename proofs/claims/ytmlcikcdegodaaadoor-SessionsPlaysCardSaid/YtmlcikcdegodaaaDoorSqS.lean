/-
  The document's queue (crierref22), and the two held against each other.
  The document's inbox.
-/
import Derived.Test.YtmlcikcdegodaaaDoorSqA
import Derived.Test.YtmlcikcdegodaaaDoorSqQ
set_option linter.unusedSimpArgs false
set_option linter.unusedVariables false
set_option maxRecDepth 20000
namespace Go.Proofs.YtmlcikcdegodaaaDoor
open Go Go.Sx

def rquI (x most : Nat) (l : List PMsg) (lost : Int) : HProp := exI (σ := Value) (fun _ => l.length ≤ most ∧ most ≤ 1000) fun v =>
  [pts x (.cells [v, .int .i64 most, .int .i64 lost].toArray 97 (0, 0)), sl 51 4 v l.length (msgCells l)]
theorem msgCells_at (l : List PMsg) (junk : List Value) (k : Nat) (h : k < l.length) : ((msgCells l ++ junk).drop (k * 4)).take 4 = l[k].cells := by
  induction l generalizing k with
  | nil => simp at h
  | cons m l ih =>
    cases k with
    | zero => simp [msgCells_cons, PMsg.cells]
    | succ k =>
      have := ih k (by simpa using h)
      rw [msgCells_cons, show (k + 1) * 4 = 4 + k * 4 by omega, ← List.drop_drop]
      simpa [PMsg.cells] using this

attribute [local irreducible] MidQ wpE wpO wpC qE wpQ wpQO wpH wpHO wpD wpDO wpZ Ev own emp exI sl ch PostS LoopQ Rd rowsAt

theorem rqu_new (n : Nat) (h1 : 1 ≤ n) (h2 : n ≤ 1000) : FnDoes Tryd.prog 50 [.int .i64 n] [] (fun _ : Nat => True) (fun q => .tuple #[ptr q, .int .i64 0]) (fun q => [rquI q n [] 0]) := by
  refine does_of Tryd.func50 rfl rfl Tryd.ntmps50 rfl (by simp only [enum, Nat.reduceAdd, Nat.zero_add]; exact rfl) (fun c => ?_)
  (refine go ?_; intro b)
  exact q_ret2 rfl rfl rfl b rfl trivial (Ent.fold (.slice none 0 0) ⟨Nat.zero_le _, h2⟩ (Ent.cons .head (Ent.slNil Ent.nil)))
theorem rqu_newBad (most : Int) (h : most < 1 ∨ 1000 < most) : FnDoes Tryd.prog 50 [.int .i64 most] [] (fun _ : Unit => True) (fun _ => .tuple #[.pointer none, .int .i64 1]) (fun _ => []) := by
  refine does_of Tryd.func50 rfl rfl Tryd.ntmps50 rfl (by simp only [enum, Nat.reduceAdd, Nat.zero_add]; exact rfl) (fun c => ?_)
  rcases h with h | h
  · (refine go ?_; intros)
    exact q_ret2 rfl rfl rfl () rfl trivial Ent.nil
  · by_cases h' : most < 1
    · (refine go ?_; intros)
      exact q_ret2 rfl rfl rfl () rfl trivial Ent.nil
    · (refine go ?_; intros)
      exact q_ret2 rfl rfl rfl () rfl trivial Ent.nil

theorem rqu_put (q most : Nat) (l : List PMsg) (lost : Int) (m : PMsg) (h : l.length < most) : FnDoes Tryd.prog 37 [ptr q, m.val] [rquI q most l lost] (fun _ : Unit => True) (fun _ => .bool true) (fun _ => [rquI q most (l ++ [m]) lost]) := by
  refine does_of Tryd.func37 rfl rfl Tryd.ntmps37 rfl (by simp only [enum, Nat.reduceAdd, Nat.zero_add]; exact rfl) (fun c => ?_)
  refine wpC_unfold .head (fun v hq => ?_)
  simp only [List.cons_append, List.nil_append]
  (refine go ?_; intro b)
  refine wpC_quietA ?_
  refine go ?_
  (refine go ?_; intros)
  refine wpC_drawnA [pts b (.cells m.cells.toArray 51 (0, 0)), pts q (.cells [v, .int .i64 most, .int .i64 lost].toArray 97 (0, 0))] 10 ?_
  ((first | refine dt 0 ?_ | refine dts 0 ?_); (first | refine dt 1 ?_ | refine dts 1 ?_); (first | refine dt 2 ?_ | refine dts 2 ?_); (first | refine dt 3 ?_ | refine dts 3 ?_); (first | refine dt 4 ?_ | refine dts 4 ?_); (first | refine df 5 ?_ | refine dfs 5 ?_))
  (refine wpD_eff 6 rfl rfl (by kernel_rfl) rfl rfl ?_; show OVL _ ⟨_, .buildSlice _ _ _, _, _, _, _⟩ _ _ _ _ _ _)
  refine x_buildSlice1 (by rfl) (by rfl) (by rfl) (by rfl) (by rfl) (by rfl) (by rfl) (by rfl) (fun b2 => ⟨(by (try simp only [List.cons_append, List.nil_append]); repeat (first | exact Ent.nil | (apply Ent.cons; repeat (first | exact Pick.head | apply Pick.tail)))), ?_⟩)
  (refine wpD_eff 7 rfl rfl (by kernel_rfl) rfl rfl ?_; show OVL _ ⟨_, .call { callee := .builtin .append, args := _, argTypes := _ }, _, _, _, _⟩ _ _ _ _ _ _)
  refine x_append (news := m.cells) (m := 1) (by rfl) (by rfl) (by rfl) (by rfl) (by rfl) (by rfl) (by rfl) (by rfl) (by repeat (first | exact Pick.head | apply Pick.tail)) ?_ ?_ (fun v' => ⟨(by (try simp only [List.cons_append, List.nil_append]); repeat (first | exact Ent.nil | (apply Ent.cons; repeat (first | exact Pick.head | apply Pick.tail)))), ?_⟩)
  · exact src_pts rfl (by repeat (first | exact Pick.head | apply Pick.tail)) rfl rfl rfl
  · show (l.length + 1) * 48 ≤ 140737488355328
    omega
  ((first | refine df 8 ?_ | refine dfs 8 ?_); (first | refine df 9 ?_ | refine dfs 9 ?_))
  (refine wpD_lastU rfl rfl (by kernel_rfl) (by kernel_rfl) rfl ?_; show OUL _ ⟨_, .store _ _ _, _, _, _, _⟩ _ _ _ _ _)
  refine OUL_know (sl_one (v := v') (by repeat (first | exact Pick.head | apply Pick.tail))) (fun hv' => ?_)
  refine x_store (l' := ?_) (by rfl) (by rfl) (by rfl) (by rfl) hv' (by repeat (first | exact Pick.head | apply Pick.tail)) ?_ ?_
  rotate_left
  (first | exact Upd1.head | exact (Upd1.tail Upd1.head) | exact (Upd1.tail (Upd1.tail Upd1.head)) | exact (Upd1.tail (Upd1.tail (Upd1.tail Upd1.head))) | exact (Upd1.tail (Upd1.tail (Upd1.tail (Upd1.tail Upd1.head)))) | exact (Upd1.tail (Upd1.tail (Upd1.tail (Upd1.tail (Upd1.tail Upd1.head))))) | exact (Upd1.tail (Upd1.tail (Upd1.tail (Upd1.tail (Upd1.tail (Upd1.tail Upd1.head)))))) | exact (Upd1.tail (Upd1.tail (Upd1.tail (Upd1.tail (Upd1.tail (Upd1.tail (Upd1.tail Upd1.head))))))) | exact (Upd1.tail (Upd1.tail (Upd1.tail (Upd1.tail (Upd1.tail (Upd1.tail (Upd1.tail (Upd1.tail Upd1.head)))))))) | exact (Upd1.tail (Upd1.tail (Upd1.tail (Upd1.tail (Upd1.tail (Upd1.tail (Upd1.tail (Upd1.tail (Upd1.tail Upd1.head))))))))))
  (refine go ?_; intros)
  refine q_ret1 rfl rfl () rfl trivial ?_
  refine Ent.fold v' (by simp; omega) ?_
  simp only [List.length_append, List.length_cons, List.length_nil, msgCells_snoc]
  ((try simp only [List.cons_append, List.nil_append]); repeat (first | exact Ent.nil | (apply Ent.cons; repeat (first | exact Pick.head | apply Pick.tail))))
theorem rqu_putFull (q most : Nat) (l : List PMsg) (lost : Int) (m : PMsg) (h : most ≤ l.length) (h1 : -9223372036854775808 ≤ lost + 1) (h2 : lost + 1 ≤ 9223372036854775807) : FnDoes Tryd.prog 37 [ptr q, m.val] [rquI q most l lost] (fun _ : Unit => True) (fun _ => .bool false) (fun _ => [rquI q most l (lost + 1)]) := by
  refine does_of Tryd.func37 rfl rfl Tryd.ntmps37 rfl (by simp only [enum, Nat.reduceAdd, Nat.zero_add]; exact rfl) (fun c => ?_)
  refine wpC_unfold .head (fun v hq => ?_)
  simp only [List.cons_append, List.nil_append]
  (refine go ?_; intros)
  refine wpC_quietA ?_
  refine go ?_
  (refine go ?_; intros)
  refine q_ret1 rfl rfl () rfl trivial ?_
  refine Ent.fold v hq ?_
  ((try simp only [List.cons_append, List.nil_append]); repeat (first | exact Ent.nil | (apply Ent.cons; repeat (first | exact Pick.head | apply Pick.tail))))

theorem rqu_takeNil (q most : Nat) (lost : Int) : FnDoes Tryd.prog 51 [ptr q] [rquI q most [] lost] (fun _ : Unit => True) (fun _ => .tuple #[zeroMsg.val, .bool false]) (fun _ => [rquI q most [] lost]) := by
  refine does_of Tryd.func51 rfl rfl Tryd.ntmps51 rfl (by simp only [enum, Nat.reduceAdd, Nat.zero_add]; exact rfl) (fun c => ?_)
  refine wpC_unfold .head (fun v hq => ?_)
  simp only [List.cons_append, List.nil_append]
  (refine go ?_; intros)
  refine q_ret2c (l := zeroMsg.cells) rfl rfl rfl ?_ rfl rfl rfl rfl () rfl trivial ?_
  · exact ⟨_, _, _, (by repeat (first | exact Pick.head | apply Pick.tail))⟩
  refine Ent.fold v hq ?_
  ((try simp only [List.cons_append, List.nil_append]); repeat (first | exact Ent.nil | (apply Ent.cons; repeat (first | exact Pick.head | apply Pick.tail))))
theorem rqu_take (q most : Nat) (l : List PMsg) (lost : Int) (m : PMsg) : FnDoes Tryd.prog 51 [ptr q] [rquI q most (m :: l) lost] (fun _ : Unit => True) (fun _ => .tuple #[m.val, .bool true]) (fun _ => [rquI q most l lost]) := by
  refine does_of Tryd.func51 rfl rfl Tryd.ntmps51 rfl (by simp only [enum, Nat.reduceAdd, Nat.zero_add]; exact rfl) (fun c => ?_)
  refine wpC_unfold .head (fun v hq => ?_)
  simp only [List.cons_append, List.nil_append]
  refine wpC_sl (.tail .head) (fun _ h _ => by simp at h) (fun b1 c1 j1 e1 f1 g1 i1 => ?_)
  subst e1
  simp only [List.length_cons] at hq f1
  (refine go ?_; intro bz)
  have hM : (m :: l).length ≤ c1 := by simp only [List.length_cons]; exact f1
  refine o_ev rfl (ev_indexAddr (i := 0) (k := 0) rfl rfl rfl rfl rfl (by simp) rfl) rfl ?_
  (refine go ?_; intro bm b)
  generalize hz : List.take _ (List.drop 0 (msgCells (m :: l) ++ j1)) = z
  obtain rfl : z = m.cells := by rw [← hz]; exact msgCells_at (m :: l) j1 0 (by simp)
  show wpO _ _ ⟨_, .slice _ _ _ _ _, _, _, _, _⟩ _ _ _ _ _ _
  refine o_slice_lo (k := 1) (by rfl) (by rfl) (by rfl) (by rfl) rfl (by simp) hM (by rfl) (fun off' hoff => ?_)
  (refine go ?_; intros)
  have hoff' : ((msgCells (m :: l) ++ j1).drop off').take (l.length * 4) = msgCells l := by
    rcases hoff with ⟨h1, h2⟩ | h2
    · have h3 : l = [] := List.eq_nil_of_length_eq_zero (by omega)
      subst h3
      simp [msgCells]
    · have h3 : off' = 4 := h2
      subst h3
      rw [msgCells_cons, List.append_assoc]
      show List.take (l.length * 4) (msgCells l ++ j1) = msgCells l
      rw [← msgCells_length]
      exact List.take_left
  refine wpO_ent (N := [sl 51 4 (.slice (some ⟨b, 0, none⟩) 0 0) 0 [], pts bz (.cells zeroMsg.cells.toArray 51 (0, 0)), pts bm (.cells m.cells.toArray 51 (0, 0)), pts b1 (.cells (msgCells (m :: l) ++ j1).toArray 51 (0, 0)),
    pts q (.cells [.slice (some ⟨b1, 0, none⟩) (m :: l).length c1, .int .i64 most, .int .i64 lost].toArray 97 (0, 0))]) (Ent.slClose (junk := []) .head rfl rfl (Nat.le_refl _) (Nat.zero_le _) rfl (by ((try simp only [List.cons_append, List.nil_append]); repeat (first | exact Ent.nil | (apply Ent.cons; repeat (first | exact Pick.head | apply Pick.tail)))))) ?_
  refine o_append (sz := 4) (news := msgCells l) (m := l.length) rfl rfl rfl rfl rfl rfl rfl rfl (by repeat (first | exact Pick.head | apply Pick.tail)) ?_ ?_ rfl (fun v' => ?_)
  · exact src_pts rfl (by repeat (first | exact Pick.head | apply Pick.tail)) hoff' (msgCells_length l) (msgCells_one l)
  · show (0 + l.length) * 48 ≤ 140737488355328
    omega
  (refine go ?_; intros)
  refine wpO_fact (sl_one (v := v') (by repeat (first | exact Pick.head | apply Pick.tail))) (fun hv' => ?_)
  refine o_store (l' := ?_) rfl rfl rfl rfl hv' (by repeat (first | exact Pick.head | apply Pick.tail)) ?_ ?_
  rotate_left
  (first | exact Upd1.head | exact (Upd1.tail Upd1.head) | exact (Upd1.tail (Upd1.tail Upd1.head)) | exact (Upd1.tail (Upd1.tail (Upd1.tail Upd1.head))) | exact (Upd1.tail (Upd1.tail (Upd1.tail (Upd1.tail Upd1.head)))) | exact (Upd1.tail (Upd1.tail (Upd1.tail (Upd1.tail (Upd1.tail Upd1.head))))) | exact (Upd1.tail (Upd1.tail (Upd1.tail (Upd1.tail (Upd1.tail (Upd1.tail Upd1.head)))))) | exact (Upd1.tail (Upd1.tail (Upd1.tail (Upd1.tail (Upd1.tail (Upd1.tail (Upd1.tail Upd1.head))))))) | exact (Upd1.tail (Upd1.tail (Upd1.tail (Upd1.tail (Upd1.tail (Upd1.tail (Upd1.tail (Upd1.tail Upd1.head)))))))) | exact (Upd1.tail (Upd1.tail (Upd1.tail (Upd1.tail (Upd1.tail (Upd1.tail (Upd1.tail (Upd1.tail (Upd1.tail Upd1.head))))))))))
  (refine go ?_; intros)
  refine q_ret2c (l := m.cells) rfl rfl rfl ?_ rfl rfl rfl rfl () rfl trivial ?_
  · exact ⟨_, _, _, (by repeat (first | exact Pick.head | apply Pick.tail))⟩
  refine Ent.fold v' (by omega) ?_
  simp only [Nat.zero_add, List.nil_append]
  ((try simp only [List.cons_append, List.nil_append]); repeat (first | exact Ent.nil | (apply Ent.cons; repeat (first | exact Pick.head | apply Pick.tail))))

end Go.Proofs.YtmlcikcdegodaaaDoor
set_option linter.unusedSimpArgs false
set_option linter.unusedVariables false
set_option maxRecDepth 20000
namespace Go.Proofs.YtmlcikcdegodaaaDoor
open Go Go.Sx
abbrev ibxC (x : Nat) (v : Value) : HProp := pts x (.cells [v].toArray 118 (0, 0))
def ibxI (x : Nat) (l : List Int) : HProp := exI (σ := Value) (fun _ => True) fun v => [ibxC x v, intsI v l]
attribute [local irreducible] MidQ wpE wpO wpC qE wpQ wpQO wpH wpHO wpD wpDO wpZ Ev own emp exI sl ch PostS LoopQ Rd rowsAt

structure RdSt where
  k : Nat
  w : Value
structure RcSt where
  i : Nat
  k : Nat
/-- The first i of a row, of which k lie below. -/
def Pre (l : List Int) (id : Int) (i k : Nat) : Prop := k ≤ i ∧ i ≤ l.length ∧ (∀ j (h : j < l.length), j < k → l[j] < id) ∧ ∀ j (h : j < l.length), k ≤ j → j < i → id < l[j]
theorem pre_lb {l : List Int} {id : Int} {k : Nat} (h : Pre l id l.length k) : Lb l id k := ⟨h.1, h.2.2.1, fun j hj hk => Int.le_of_lt (h.2.2.2 j hj hk hj)⟩
theorem pre_below {l : List Int} {id : Int} {i k : Nat} (ha : Asc l) (h : Pre l id i k) (hi : i < l.length) (hlt : l[i] < id) : Pre l id (i + 1) (i + 1) := ⟨Nat.le_refl _, hi, fun j hj hji => by
  by_cases e : j = i
  · subst e; exact hlt
  · have := asc_lt ha hi (show j < i by omega); omega, fun j hj h1 h2 => by omega⟩
theorem pre_above {l : List Int} {id : Int} {i k : Nat} (h : Pre l id i k) (hi : i < l.length) (hlt : id < l[i]) : Pre l id (i + 1) k := ⟨by have := h.1; omega, hi, h.2.2.1, fun j hj h1 h2 => by
  by_cases e : j = i
  · subst e; exact hlt
  · exact h.2.2.2 j hj h1 (by omega)⟩

end Go.Proofs.YtmlcikcdegodaaaDoor
