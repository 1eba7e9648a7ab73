/-
  What each function of the package device does; what the document's does.
-/
import Derived.Test.YtcejjoikioemhaaRows
import Derived.Test.YtcejjoikioemhaaSxI
set_option linter.unusedSimpArgs false
set_option linter.unusedVariables false
namespace Go.Proofs.Ytcejjoikioemhaa
open Go Go.Sx

structure Item where
  name : ByteArray
  hasAlias : Bool
  alias : Int
  type : Int
  null : Bool
  vk : Int
  vn : Int
  vs : ByteArray
def Item.cells (m : Item) : List Value := [.string m.name, .bool m.hasAlias, .int .u64 m.alias, .int .u32 m.type, .bool m.null, .int .i64 m.vk, .int .u64 m.vn, .string m.vs]
theorem item_len (m : Item) : m.cells.length = 8 := rfl
theorem item_one (m : Item) : m.cells.all (·.oneCell') = true := rfl
abbrev noText : ByteArray := ⟨#[]⟩
abbrev items (l : List Item) : List Value := l.flatMap Item.cells
abbrev itemsI (v : Value) (l : List Item) : HProp := sl 49 8 v l.length (items l)
def ptr (q : Nat) : Value := .pointer (some ⟨q, 0, none⟩)

def devI (d : Nat) (name : ByteArray) (on : Bool) (l : List Item) (lives : Int) : HProp := exI (σ := Value) (fun _ => True) fun v =>
  [pts d (.cells [.string name, .bool on, v, .int .i64 lives].toArray 54 (0, 0)), itemsI v l]
def refI (d : Nat) (name : ByteArray) (on : Bool) (l : List Item) (lives : Int) : HProp := exI (σ := Value) (fun _ => True) fun v =>
  [pts d (.cells [.string name, .bool on, v, .int .i64 lives].toArray 33 (0, 0)), itemsI v l]
attribute [local irreducible] wpE wpO wpC qE wpQ wpQO wpH wpHO wpD wpDO Ev own emp exI sl ch PostS LoopQ Rd rowsAt

theorem dev_noneNil : FnDoes Try.prog 20 [.pointer none] [] (fun _ : Unit => True) (fun _ => .bool true) (fun _ => []) := by
  refine does_of Try.func20 rfl rfl Try.ntmps20 rfl (by simp only [enum, Nat.reduceAdd, Nat.zero_add]; exact rfl) (fun c => ?_)
  (refine go ?_; intros)
  exact q_ret1 rfl rfl () rfl trivial (Ent.refl _)
theorem dev_noneRaw (d : Nat) (name : ByteArray) (on : Bool) (v : Value) (lives : Int) (h : name ≠ noText) : FnDoes Try.prog 20 [ptr d] [pts d (.cells [.string name, .bool on, v, .int .i64 lives].toArray 54 (0, 0))] (fun _ : Unit => True) (fun _ => .bool false)
    (fun _ => [pts d (.cells [.string name, .bool on, v, .int .i64 lives].toArray 54 (0, 0))]) := by
  refine does_of Try.func20 rfl rfl Try.ntmps20 rfl (by simp only [enum, Nat.reduceAdd, Nat.zero_add]; exact rfl) (fun c => ?_)
  (refine go ?_; intros)
  exact q_ret1 rfl rfl () rfl trivial (Ent.refl _)
theorem dev_noneZero (d : Nat) (on : Bool) (v : Value) (lives : Int) : FnDoes Try.prog 20 [ptr d] [pts d (.cells [.string noText, .bool on, v, .int .i64 lives].toArray 54 (0, 0))] (fun _ : Unit => True) (fun _ => .bool true)
    (fun _ => [pts d (.cells [.string noText, .bool on, v, .int .i64 lives].toArray 54 (0, 0))]) := by
  refine does_of Try.func20 rfl rfl Try.ntmps20 rfl (by simp only [enum, Nat.reduceAdd, Nat.zero_add]; exact rfl) (fun c => ?_)
  (refine go ?_; intros)
  exact q_ret1 rfl rfl () rfl trivial (Ent.refl _)

theorem dev_new (name : ByteArray) (h : name ≠ noText) : FnDoes Try.prog 7 [.string name] [] (fun _ : Nat => True) (fun q => .tuple #[ptr q, .int .i64 0]) (fun q => [devI q name false [] 0]) := by
  refine does_of Try.func7 rfl rfl Try.ntmps7 rfl (by simp only [enum, Nat.reduceAdd, Nat.zero_add]; exact rfl) (fun c => ?_)
  (refine go ?_; intro b)
  (refine go ?_; intros)
  exact q_ret2 rfl rfl rfl b rfl trivial (Ent.fold (.slice none 0 0) trivial (Ent.cons .head (Ent.slNil Ent.nil)))
theorem dev_newBad : FnDoes Try.prog 7 [.string noText] [] (fun _ : Unit => True) (fun _ => .tuple #[.pointer none, .int .i64 1]) (fun _ => []) := by
  refine does_of Try.func7 rfl rfl Try.ntmps7 rfl (by simp only [enum, Nat.reduceAdd, Nat.zero_add]; exact rfl) (fun c => ?_)
  (refine go ?_; intros)
  exact q_ret2 rfl rfl rfl () rfl trivial Ent.nil

theorem clone_items (X : HProp) (v : Value) (l : List Item) (hr : Rd X 8 v l.length (items l)) (hb : l.length * 72 ≤ 140737488355328) : FnDoes Try.prog 21 [v] [X] (fun _ : Value => True) (fun v' => v') (fun v' => [X, itemsI v' l]) := by
  refine does_of Try.func21 rfl rfl Try.ntmps21 rfl (by simp only [enum, Nat.reduceAdd, Nat.zero_add]; exact rfl) (fun c => ?_)
  refine wpC_fact (hr.kind .head) (fun hk => ?_)
  rcases hk with ⟨rfl, hm⟩ | ⟨a, cap, rfl, hcap, _⟩
  · obtain rfl : l = [] := List.eq_nil_of_length_eq_zero hm
    (refine go ?_; intros)
    exact q_ret1 rfl rfl (.slice none 0 0) rfl trivial (Ent.cons .head (Ent.slNil Ent.nil))
  · (refine go ?_; intro bb)
    (refine go ?_; intros)
    refine wpO_ent (N := [sl 49 8 (.slice (some ⟨bb, 0, none⟩) 0 0) 0 [], X]) (Ent.slClose (junk := []) .head rfl rfl (Nat.le_refl _) (Nat.zero_le _) rfl (by ((try simp only [List.cons_append, List.nil_append]); repeat (first | exact Ent.nil | (apply Ent.cons; repeat (first | exact Pick.head | apply Pick.tail)))))) ?_
    refine o_append (sz := 8) (news := items l) (m := l.length) rfl rfl rfl rfl rfl rfl rfl rfl (by repeat (first | exact Pick.head | apply Pick.tail)) (hr.src (.tail .head) rfl) ?_ rfl (fun v' => ?_)
    · show (0 + l.length) * 72 ≤ 140737488355328
      omega
    (refine go ?_; intros)
    refine q_ret1 rfl rfl v' rfl trivial ?_
    simp only [Nat.zero_add, List.nil_append]
    ((try simp only [List.cons_append, List.nil_append]); repeat (first | exact Ent.nil | (apply Ent.cons; repeat (first | exact Pick.head | apply Pick.tail))))

theorem birth_needs (v : Value) : FnDoes Try.prog 37 [.agg #[v]] [] (fun _ : Unit => True) (fun _ => .bool false) (fun _ => []) := by
  refine does_of Try.func37 rfl rfl Try.ntmps37 rfl (by simp only [enum, Nat.reduceAdd, Nat.zero_add]; exact rfl) (fun c => ?_)
  (refine go ?_; intros)
  exact q_ret1 rfl rfl () rfl trivial Ent.nil
theorem told_needs (v : Value) : FnDoes Try.prog 38 [.agg #[v]] [] (fun _ : Unit => True) (fun _ => .bool true) (fun _ => []) := by
  refine does_of Try.func38 rfl rfl Try.ntmps38 rfl (by simp only [enum, Nat.reduceAdd, Nat.zero_add]; exact rfl) (fun c => ?_)
  (refine go ?_; intros)
  exact q_ret1 rfl rfl () rfl trivial Ent.nil
theorem death_needs : FnDoes Try.prog 39 [.agg #[]] [] (fun _ : Unit => True) (fun _ => .bool true) (fun _ => []) := by
  refine does_of Try.func39 rfl rfl Try.ntmps39 rfl (by simp only [enum, Nat.reduceAdd, Nat.zero_add]; exact rfl) (fun c => ?_)
  (refine go ?_; intros)
  exact q_ret1 rfl rfl () rfl trivial Ent.nil

theorem happens_birth (d : Nat) (name : ByteArray) (on : Bool) (l0 : List Item) (lives : Int) (X : HProp) (v : Value) (l : List Item) (h : name ≠ noText) (h0 : 0 ≤ lives) (h1 : lives ≤ 1000000) (hr : Rd X 8 v l.length (items l)) (hb : l.length * 72 ≤ 140737488355328) :
    FnDoes Try.prog 19 [ptr d, .iface 58 (.agg #[v])] [devI d name on l0 lives, X] (fun _ : Unit => True) (fun _ => .int .i64 0) (fun _ => [devI d name true l (lives + 1), X]) := by
  refine does_of Try.func19 rfl rfl Try.ntmps19 rfl (by simp only [enum, Nat.reduceAdd, Nat.zero_add]; exact rfl) (fun c => ?_)
  refine wpC_fact (hr.one1 (by repeat (first | exact Pick.head | apply Pick.tail))) (fun hvx => ?_)
  refine wpC_unfold .head (fun dv _ => ?_)
  simp only [List.cons_append, List.nil_append]
  (refine go ?_; intros)
  (show wpO _ _ ⟨_, .call _, _, _, _, _⟩ _ _ _ _ _ _; refine o_callA (dev_noneRaw d name on dv lives h) (fun _ _ => ?_); try simp only [List.cons_append, List.nil_append])
  (refine go ?_; intros)
  (show wpO _ _ ⟨_, .call _, _, _, _, _⟩ _ _ _ _ _ _; refine o_invokeA (birth_needs v) (fun _ _ => ?_); try simp only [List.cons_append, List.nil_append])
  (refine go ?_; intros)
  (show wpO _ _ ⟨_, .call _, _, _, _, _⟩ _ _ _ _ _ _; refine o_callA (clone_items X v l hr hb) (fun v' _ => ?_); try simp only [List.cons_append, List.nil_append])
  refine wpE_fact (sl_one (v := v') (by repeat (first | exact Pick.head | apply Pick.tail))) (fun hv' => ?_)
  (refine go ?_; intros)
  refine q_ret1 rfl rfl () rfl trivial ?_
  exact Ent.fold v' trivial (by ((try simp only [List.cons_append, List.nil_append]); repeat (first | exact Ent.nil | (apply Ent.cons; repeat (first | exact Pick.head | apply Pick.tail)))))
end Go.Proofs.Ytcejjoikioemhaa
