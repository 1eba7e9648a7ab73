/-
  What each function of the package queue does.
-/
import Derived.Test.YtmlcikcdegodaaaDoorFlR
set_option linter.unusedSimpArgs false
set_option linter.unusedVariables false
set_option maxRecDepth 20000
namespace Go.Proofs.YtmlcikcdegodaaaDoor
open Go Go.Sx


def queueI (q cap : Nat) (l : List PMsg) (lost : Int) : HProp := exI (σ := Nat) (fun _ => l.length ≤ cap ∧ cap ≤ 1000) fun cb => [pts q (.cells [.chan (some cb), .int .i64 lost].toArray 107 (0, 0)), ch cb cap (l.map PMsg.val)]

attribute [local irreducible] MidQ wpE wpO wpC qE wpQ wpQO wpH wpHO wpD wpDO wpZ Ev own emp exI sl ch PostS LoopQ Rd rowsAt

theorem queue_noneRaw (q cb : Nat) (lost : Int) : FnDoes Tryd.prog 44 [ptr q] [pts q (.cells [.chan (some cb), .int .i64 lost].toArray 107 (0, 0))] (fun _ : Unit => True) (fun _ => .bool false) (fun _ => [pts q (.cells [.chan (some cb), .int .i64 lost].toArray 107 (0, 0))]) := by
  refine does_of Tryd.func44 rfl rfl Tryd.ntmps44 rfl (by simp only [enum, Nat.reduceAdd, Nat.zero_add]; exact rfl) (fun c => ?_)
  (refine go ?_; intros)
  exact q_ret1 rfl rfl () rfl trivial (Ent.refl _)
theorem queue_noneNil : FnDoes Tryd.prog 44 [.pointer none] [] (fun _ : Unit => True) (fun _ => .bool true) (fun _ => []) := by
  refine does_of Tryd.func44 rfl rfl Tryd.ntmps44 rfl (by simp only [enum, Nat.reduceAdd, Nat.zero_add]; exact rfl) (fun c => ?_)
  (refine go ?_; intros)
  exact q_ret1 rfl rfl () rfl trivial (Ent.refl _)
theorem queue_noneZero (q : Nat) : FnDoes Tryd.prog 44 [ptr q] [pts q (.cells [.chan none, .int .i64 0].toArray 107 (0, 0))] (fun _ : Unit => True) (fun _ => .bool true) (fun _ => [pts q (.cells [.chan none, .int .i64 0].toArray 107 (0, 0))]) := by
  refine does_of Tryd.func44 rfl rfl Tryd.ntmps44 rfl (by simp only [enum, Nat.reduceAdd, Nat.zero_add]; exact rfl) (fun c => ?_)
  (refine go ?_; intros)
  exact q_ret1 rfl rfl () rfl trivial (Ent.refl _)

theorem queue_new (most : Int) (h1 : 1 ≤ most) (h2 : most ≤ 1000) : FnDoes Tryd.prog 40 [.int .i64 most] [] (fun _ : Nat => True) (fun q => .tuple #[ptr q, .int .i64 0]) (fun q => [queueI q most.toNat [] 0]) := by
  refine does_of Tryd.func40 rfl rfl Tryd.ntmps40 rfl (by simp only [enum, Nat.reduceAdd, Nat.zero_add]; exact rfl) (fun c => ?_)
  (refine go ?_; intros)
  refine o_makeChan rfl rfl rfl (by omega) ?_ (by omega) rfl (fun cb => ?_)
  · show (48 : Int) * most ≤ _
    omega
  (refine go ?_; intro b)
  exact q_ret2 rfl rfl rfl b rfl trivial (Ent.fold cb (by simp; omega) (Ent.cons .head (Ent.trans Ent.ch (Ent.refl _))))
theorem queue_newBad (most : Int) (h : most < 1 ∨ 1000 < most) : FnDoes Tryd.prog 40 [.int .i64 most] [] (fun _ : Unit => True) (fun _ => .tuple #[.pointer none, .int .i64 1]) (fun _ => []) := by
  refine does_of Tryd.func40 rfl rfl Tryd.ntmps40 rfl (by simp only [enum, Nat.reduceAdd, Nat.zero_add]; exact rfl) (fun c => ?_)
  rcases h with h | h
  · (refine go ?_; intros)
    exact q_ret2 rfl rfl rfl () rfl trivial Ent.nil
  · by_cases h' : most < 1
    · (refine go ?_; intros)
      exact q_ret2 rfl rfl rfl () rfl trivial Ent.nil
    · (refine go ?_; intros)
      exact q_ret2 rfl rfl rfl () rfl trivial Ent.nil

theorem queue_put (q cap : Nat) (l : List PMsg) (lost : Int) (m : PMsg) (h : l.length < cap) : FnDoes Tryd.prog 32 [ptr q, m.val] [queueI q cap l lost] (fun _ : Unit => True) (fun _ => .bool true) (fun _ => [queueI q cap (l ++ [m]) lost]) := by
  refine does_of Tryd.func32 rfl rfl Tryd.ntmps32 rfl (by simp only [enum, Nat.reduceAdd, Nat.zero_add]; exact rfl) (fun c => ?_)
  refine wpC_unfold .head (fun cb hq => ?_)
  simp only [List.cons_append, List.nil_append, List.map_cons, List.map_nil]
  (refine go ?_; intros)
  (show wpO _ _ ⟨_, .call _, _, _, _, _⟩ _ _ _ _ _ _; refine o_callA (queue_noneRaw _ _ _) (fun _ _ => ?_); try simp only [List.cons_append, List.nil_append])
  (refine go ?_; intros)
  refine o_sel_send rfl rfl rfl rfl (by repeat (first | exact Pick.head | apply Pick.tail)) (by simpa using h) rfl ?_
  (refine go ?_; intros)
  refine q_ret1 rfl rfl () rfl trivial ?_
  refine Ent.fold cb (by first | exact hq | (simp only [List.length_append, List.length_cons, List.length_nil] at hq ⊢; omega)) ?_
  simp only [List.map_append, List.map_cons, List.map_nil]
  ((try simp only [List.cons_append, List.nil_append]); repeat (first | exact Ent.nil | (apply Ent.cons; repeat (first | exact Pick.head | apply Pick.tail))))
theorem queue_putFull (q cap : Nat) (l : List PMsg) (lost : Int) (m : PMsg) (h : cap ≤ l.length) (h1 : -9223372036854775808 ≤ lost + 1) (h2 : lost + 1 ≤ 9223372036854775807) : FnDoes Tryd.prog 32 [ptr q, m.val] [queueI q cap l lost] (fun _ : Unit => True) (fun _ => .bool false) (fun _ => [queueI q cap l (lost + 1)]) := by
  refine does_of Tryd.func32 rfl rfl Tryd.ntmps32 rfl (by simp only [enum, Nat.reduceAdd, Nat.zero_add]; exact rfl) (fun c => ?_)
  refine wpC_unfold .head (fun cb hq => ?_)
  simp only [List.cons_append, List.nil_append, List.map_cons, List.map_nil]
  (refine go ?_; intros)
  (show wpO _ _ ⟨_, .call _, _, _, _, _⟩ _ _ _ _ _ _; refine o_callA (queue_noneRaw _ _ _) (fun _ _ => ?_); try simp only [List.cons_append, List.nil_append])
  (refine go ?_; intros)
  refine o_sel_full rfl rfl rfl rfl (by repeat (first | exact Pick.head | apply Pick.tail)) (by simpa using h) rfl ?_
  (refine go ?_; intros)
  refine q_ret1 rfl rfl () rfl trivial ?_
  refine Ent.fold cb (by first | exact hq | (simp only [List.length_append, List.length_cons, List.length_nil] at hq ⊢; omega)) ?_
  ((try simp only [List.cons_append, List.nil_append]); repeat (first | exact Ent.nil | (apply Ent.cons; repeat (first | exact Pick.head | apply Pick.tail))))

theorem queue_take (q cap : Nat) (l : List PMsg) (lost : Int) (m : PMsg) : FnDoes Tryd.prog 46 [ptr q] [queueI q cap (m :: l) lost] (fun _ : Unit => True) (fun _ => .tuple #[m.val, .bool true]) (fun _ => [queueI q cap l lost]) := by
  refine does_of Tryd.func46 rfl rfl Tryd.ntmps46 rfl (by simp only [enum, Nat.reduceAdd, Nat.zero_add]; exact rfl) (fun c => ?_)
  refine wpC_unfold .head (fun cb hq => ?_)
  simp only [List.cons_append, List.nil_append, List.map_cons, List.map_nil]
  (refine go ?_; intros)
  (show wpO _ _ ⟨_, .call _, _, _, _, _⟩ _ _ _ _ _ _; refine o_callA (queue_noneRaw _ _ _) (fun _ _ => ?_); try simp only [List.cons_append, List.nil_append])
  (refine go ?_; intros)
  refine o_sel_recv rfl rfl rfl (by repeat (first | exact Pick.head | apply Pick.tail)) rfl ?_
  (refine go ?_; intros)
  refine q_ret2c (l := m.cells) rfl rfl rfl ?_ rfl rfl rfl rfl () rfl trivial ?_
  · exact ⟨_, _, _, (by repeat (first | exact Pick.head | apply Pick.tail))⟩
  refine Ent.fold cb (by first | exact hq | (simp only [List.length_append, List.length_cons, List.length_nil] at hq ⊢; omega)) ?_
  ((try simp only [List.cons_append, List.nil_append]); repeat (first | exact Ent.nil | (apply Ent.cons; repeat (first | exact Pick.head | apply Pick.tail))))
theorem queue_takeNil (q cap : Nat) (lost : Int) : FnDoes Tryd.prog 46 [ptr q] [queueI q cap [] lost] (fun _ : Unit => True) (fun _ => .tuple #[zeroMsg.val, .bool false]) (fun _ => [queueI q cap [] lost]) := by
  refine does_of Tryd.func46 rfl rfl Tryd.ntmps46 rfl (by simp only [enum, Nat.reduceAdd, Nat.zero_add]; exact rfl) (fun c => ?_)
  refine wpC_unfold .head (fun cb hq => ?_)
  simp only [List.cons_append, List.nil_append, List.map_cons, List.map_nil]
  (refine go ?_; intros)
  (show wpO _ _ ⟨_, .call _, _, _, _, _⟩ _ _ _ _ _ _; refine o_callA (queue_noneRaw _ _ _) (fun _ _ => ?_); try simp only [List.cons_append, List.nil_append])
  (refine go ?_; intros)
  refine o_sel_empty rfl rfl rfl (by repeat (first | exact Pick.head | apply Pick.tail)) rfl ?_
  (refine go ?_; intros)
  refine q_ret2c (l := zeroMsg.cells) rfl rfl rfl ?_ rfl rfl rfl rfl () rfl trivial ?_
  · exact ⟨_, _, _, (by repeat (first | exact Pick.head | apply Pick.tail))⟩
  refine Ent.fold cb (by first | exact hq | (simp only [List.length_append, List.length_cons, List.length_nil] at hq ⊢; omega)) ?_
  ((try simp only [List.cons_append, List.nil_append]); repeat (first | exact Ent.nil | (apply Ent.cons; repeat (first | exact Pick.head | apply Pick.tail))))

theorem queue_len (q cap : Nat) (l : List PMsg) (lost : Int) : FnDoes Tryd.prog 48 [ptr q] [queueI q cap l lost] (fun _ : Unit => True) (fun _ => .int .i64 l.length) (fun _ => [queueI q cap l lost]) := by
  refine does_of Tryd.func48 rfl rfl Tryd.ntmps48 rfl (by simp only [enum, Nat.reduceAdd, Nat.zero_add]; exact rfl) (fun c => ?_)
  refine wpC_unfold .head (fun cb hq => ?_)
  simp only [List.cons_append, List.nil_append, List.map_cons, List.map_nil]
  (refine go ?_; intros)
  (show wpO _ _ ⟨_, .call _, _, _, _, _⟩ _ _ _ _ _ _; refine o_callA (queue_noneRaw _ _ _) (fun _ _ => ?_); try simp only [List.cons_append, List.nil_append])
  (refine go ?_; intros)
  exact q_ret1 rfl rfl () (by simp) trivial (Ent.fold cb (by first | exact hq | (simp only [List.length_append, List.length_cons, List.length_nil] at hq ⊢; omega)) (Ent.refl _))

def msgCells (l : List PMsg) : List Value := l.flatMap PMsg.cells
theorem msgCells_length (l : List PMsg) : (msgCells l).length = l.length * 4 := by
  induction l with
  | nil => rfl
  | cons m l ih => simp [msgCells, PMsg.cells] at ih ⊢; omega
theorem msgCells_snoc (l : List PMsg) (m : PMsg) : msgCells (l ++ [m]) = msgCells l ++ m.cells := by simp [msgCells]
theorem msgCells_cons (l : List PMsg) (m : PMsg) : msgCells (m :: l) = m.cells ++ msgCells l := by simp [msgCells]
theorem msgCells_one (l : List PMsg) : (msgCells l).all (·.oneCell') = true := by
  induction l with
  | nil => rfl
  | cons m l ih => simp only [msgCells_cons, List.all_append, ih]; rfl
theorem rot_step (l : List PMsg) (k : Nat) (h : k < l.length) : l.drop k = l[k] :: l.drop (k + 1) ∧ l.take (k + 1) = l.take k ++ [l[k]] :=
  ⟨List.drop_eq_getElem_cons h, by rw [List.take_succ_eq_append_getElem h]⟩

theorem queue_all (q cap : Nat) (l : List PMsg) (lost : Int) : FnDoes Tryd.prog 35 [ptr q] [queueI q cap l lost] (fun _ : Value => True) (fun v => v) (fun v => [queueI q cap l lost, sl 51 4 v l.length (msgCells l)]) := by
  refine does_of Tryd.func35 rfl rfl Tryd.ntmps35 rfl (by simp only [enum, Nat.reduceAdd, Nat.zero_add]; exact rfl) (fun c => ?_)
  (refine go ?_; intros)
  (show wpO _ _ ⟨_, .call _, _, _, _, _⟩ _ _ _ _ _ _; refine o_callA (queue_len _ _ _ _) (fun _ _ => ?_); try simp only [List.cons_append, List.nil_append])
  refine wpE_unfold .head (fun cb hq => ?_)
  simp only [List.cons_append, List.nil_append]
  (refine go ?_; intros)
  refine wpC_loop (σ := Nat × Value) (fun x => x.1 ≤ l.length)
    (fun x => [(0, ptr q), (3, x.2), (6, .int .i64 l.length), (7, .int .i64 x.1)])
    (fun x => [pts q (.cells [.chan (some cb), .int .i64 lost].toArray 107 (0, 0)), ch cb cap ((l.drop x.1 ++ l.take x.1).map PMsg.val), sl 51 4 x.2 x.1 (msgCells (l.take x.1))])
    (fun x => l.length - x.1) (0, .slice none 0 0) (Nat.zero_le _) (by repeat (first | exact trivial | refine ⟨rfl, ?_⟩)) ?_ (fun x hx => ?_)
  · simp only [List.drop_zero, List.take_zero, List.append_nil]
    refine Ent.cons .head (Ent.cons .head (Ent.slNil Ent.nil))
  obtain ⟨k, v⟩ := x
  simp only at hx ⊢
  by_cases hk : k < l.length
  · obtain ⟨e1, e2⟩ := rot_step l k hk
    simp only [e1, List.cons_append, List.map_cons]
    (refine go ?_; intros)
    refine o_recv rfl rfl rfl rfl (by repeat (first | exact Pick.head | apply Pick.tail)) rfl ?_
    (refine go ?_; intros)
    refine o_append (news := l[k].cells) (m := 1) rfl rfl rfl rfl rfl rfl rfl rfl (by repeat (first | exact Pick.head | apply Pick.tail)) ?_ ?_ rfl (fun v' => ?_)
    · exact src_pts rfl (by repeat (first | exact Pick.head | apply Pick.tail)) rfl rfl rfl
    · show (k + 1) * 48 ≤ 140737488355328
      omega
    (refine go ?_; intros)
    refine wpC_tail 5 rfl (by kernel_rfl) rfl rfl ?_
    repeat' (first | refine gh_none rfl ?_ | refine gh_yes rfl rfl rfl ?_ | refine gh_no rfl rfl rfl rfl rfl rfl ?_ | (show wpHO _ _ _ _ ⟨_, .move _, _, _, _, _⟩ _ _ _ _ _ _; first | refine oh_ev rfl (ev_move rfl) rfl ?_) | (show wpHO _ _ _ _ ⟨_, .assign _, _, _, _, _⟩ _ _ _ _ _ _; first | refine oh_ev rfl (ev_assign rfl) rfl ?_) | (show wpHO _ _ _ _ ⟨_, .pick _ _ _, _, _, _, _⟩ _ _ _ _ _ _; first | refine oh_ev rfl (ev_pick_t rfl rfl) rfl ?_ | refine oh_ev rfl (ev_pick_f rfl rfl) rfl ?_) | (show wpHO _ _ _ _ ⟨_, .nilCheck _, _, _, _, _⟩ _ _ _ _ _ _; first | refine oh_ev rfl (ev_nilCheck rfl) rfl ?_) | (show wpHO _ _ _ _ ⟨_, .extract _ _, _, _, _, _⟩ _ _ _ _ _ _; first | refine oh_ev rfl (ev_extract rfl rfl) rfl ?_) | (show wpHO _ _ _ _ ⟨_, .fieldAddr _ _ _, _, _, _, _⟩ _ _ _ _ _ _; first | refine oh_ev rfl (ev_fieldAddr rfl rfl rfl rfl rfl (by simp only [List.getElem_toArray, List.getElem_cons_zero, List.getElem_cons_succ, Nat.reduceAdd, Nat.zero_add, Nat.add_zero]; exact rfl)) rfl ?_) | (show wpHO _ _ _ _ ⟨_, .load _ _, _, _, _, _⟩ _ _ _ _ _ _; first | (refine oh_ev (v := ?_) rfl (ev_load rfl rfl rfl (by repeat (first | exact Pick.head | apply Pick.tail)) ?_) rfl ?_; rotate_left; exact rfl) | refine oh_ev rfl (ev_load_whole rfl rfl rfl rfl (by repeat (first | exact Pick.head | apply Pick.tail)) rfl) rfl ?_ | (refine oh_ev rfl (ev_load_agg (vs := ?_) rfl rfl rfl rfl (by repeat (first | exact Pick.head | apply Pick.tail)) ?_ ?_) rfl ?_; rotate_left; exact rfl; exact rfl)) | (show wpHO _ _ _ _ ⟨_, .binOp _ _ _ _ _, _, _, _, _⟩ _ _ _ _ _ _; first | refine oh_ev rfl (ev_nil_ptr rfl rfl rfl) rfl ?_ | refine oh_ev rfl (ev_nil_chan rfl rfl rfl) rfl ?_ | refine oh_ev rfl (ev_arith rfl rfl rfl (wrap64_of (by omega) (by omega))) rfl ?_ | refine oh_ev rfl (ev_rem rfl rfl (by omega) (by omega) rfl) rfl ?_ | refine oh_ev rfl (ev_cmp_t rfl rfl rfl (by first | (simp only [cmpP]; done) | (simp only [cmpP]; omega) | (simp only [cmpP, List.length_cons, List.length_nil, List.length_append, List.length_map, List.length_drop, List.length_take]; omega))) rfl ?_ | refine oh_ev rfl (ev_cmp_f rfl rfl rfl (by first | (simp only [cmpP]; done) | (simp only [cmpP]; omega) | (simp only [cmpP, List.length_cons, List.length_nil, List.length_append, List.length_map, List.length_drop, List.length_take]; omega))) rfl ?_ | refine oh_ev rfl (ev_eq_bool rfl rfl rfl rfl) rfl ?_ | refine oh_ev rfl (ev_nil_map rfl rfl rfl) rfl ?_ | refine oh_ev rfl (ev_nil_slice rfl rfl rfl) rfl ?_) | (show wpHO _ _ _ _ ⟨_, .convert _ _ _, _, _, _, _⟩ _ _ _ _ _ _; first | refine oh_ev rfl (ev_conv_int rfl rfl rfl (wrap64_of (by omega) (by omega))) rfl ?_) | (show wpHO _ _ _ _ ⟨_, .unOp _ _ _, _, _, _, _⟩ _ _ _ _ _ _; first | refine oh_ev rfl (ev_not rfl rfl) rfl ?_) | (show wpHO _ _ _ _ ⟨_, .field _ _ _, _, _, _, _⟩ _ _ _ _ _ _; first | refine oh_ev rfl (ev_field rfl rfl rfl rfl rfl rfl) rfl ?_) | (show wpHO _ _ _ _ ⟨_, .build _ _, _, _, _, _⟩ _ _ _ _ _ _; first | refine oh_ev rfl (ev_build rfl rfl rfl rfl rfl rfl rfl) rfl ?_) | (show wpHO _ _ _ _ ⟨_, .call { callee := .builtin .len, args := _, argTypes := _ }, _, _, _, _⟩ _ _ _ _ _ _; first | refine oh_ev rfl (ev_len_slice rfl rfl) rfl ?_ | refine oh_ev rfl (ev_len_str rfl rfl) rfl ?_ | refine oh_ev rfl (ev_len_ch rfl rfl (by repeat (first | exact Pick.head | apply Pick.tail))) rfl ?_ | refine oh_ev rfl (ev_len_sl rfl rfl (by repeat (first | exact Pick.head | apply Pick.tail))) rfl ?_) | (show wpHO _ _ _ _ ⟨_, .call { callee := .builtin .cap, args := _, argTypes := _ }, _, _, _, _⟩ _ _ _ _ _ _; first | refine oh_ev rfl (ev_cap_ch rfl rfl (by repeat (first | exact Pick.head | apply Pick.tail))) rfl ?_) | refine wpH_nil rfl ?_)
    (refine go ?_; intros)
    refine o_send rfl rfl (by repeat (first | exact Pick.head | apply Pick.tail)) (by simp; omega) ?_
    (refine go ?_; intros)
    refine q_round (k + 1, v') (by simp only; omega) (by simp only; omega) (by repeat (first | exact trivial | refine ⟨rfl, ?_⟩)) ?_
    simp only [e2, msgCells_snoc, List.map_append, List.map_cons, List.map_nil, List.append_assoc]
    ((try simp only [List.cons_append, List.nil_append]); repeat (first | exact Ent.nil | (apply Ent.cons; repeat (first | exact Pick.head | apply Pick.tail))))
  · have hk' : k = l.length := by omega
    subst hk'
    (refine go ?_; intros)
    simp only [List.drop_length, List.nil_append, List.take_length]
    refine q_ret1 rfl rfl v rfl trivial ?_
    refine Ent.fold cb hq ?_
    ((try simp only [List.cons_append, List.nil_append]); repeat (first | exact Ent.nil | (apply Ent.cons; repeat (first | exact Pick.head | apply Pick.tail))))
end Go.Proofs.YtmlcikcdegodaaaDoor
