/-
  The document's device; two views held against each other; awake.
-/
import Derived.Test.YtcejjoikioemhaaDevB
set_option linter.unusedSimpArgs false
set_option linter.unusedVariables false
namespace Go.Proofs.Ytcejjoikioemhaa
open Go Go.Sx
attribute [local irreducible] wpE wpO wpC qE wpQ wpQO wpH wpHO wpD wpDO Ev own emp exI sl ch PostS LoopQ Rd rowsAt

theorem ref_born (d : Nat) (name : ByteArray) (on : Bool) (l0 : List Item) (lives : Int) (X : HProp) (v : Value) (l : List Item) (h0 : 0 ≤ lives) (h1 : lives ≤ 1000000) (hr : Rd X 8 v l.length (items l)) (hb : l.length * 72 ≤ 140737488355328) :
    FnDoes Try.prog 10 [ptr d, v] [refI d name on l0 lives, X] (fun _ : Unit => True) (fun _ => .tuple #[]) (fun _ => [refI d name true l (lives + 1), X]) := by
  refine does_of Try.func10 rfl rfl Try.ntmps10 rfl (by simp only [enum, Nat.reduceAdd, Nat.zero_add]; exact rfl) (fun c => ?_)
  refine wpC_unfold .head (fun dv _ => ?_)
  simp only [List.cons_append, List.nil_append]
  (refine go ?_; intro bb)
  (refine go ?_; intros)
  refine wpO_ent (N := [sl 49 8 (.slice (some ⟨bb, 0, none⟩) 0 0) 0 [], X, pts d (.cells [.string name, .bool true, dv, .int .i64 lives].toArray 33 (0, 0))]) (Ent.slClose (junk := []) .head rfl rfl (Nat.le_refl _) (Nat.zero_le _) rfl (by ((try simp only [List.cons_append, List.nil_append]); repeat (first | exact Ent.nil | (apply Ent.cons; repeat (first | exact Pick.head | apply Pick.tail)))))) ?_
  refine o_append (sz := 8) (news := items l) (m := l.length) rfl rfl rfl rfl rfl rfl rfl rfl (by repeat (first | exact Pick.head | apply Pick.tail)) (hr.src (.tail .head) rfl) ?_ rfl (fun v' => ?_)
  · show (0 + l.length) * 72 ≤ 140737488355328
    omega
  refine wpE_fact (sl_one (v := v') (by repeat (first | exact Pick.head | apply Pick.tail))) (fun hv' => ?_)
  (refine go ?_; intros)
  refine q_ret0 rfl () rfl trivial ?_ _ (Or.inr rfl)
  simp only [Nat.zero_add, List.nil_append]
  exact Ent.fold v' trivial (by ((try simp only [List.cons_append, List.nil_append]); repeat (first | exact Ent.nil | (apply Ent.cons; repeat (first | exact Pick.head | apply Pick.tail)))))
theorem ref_told (d : Nat) (name : ByteArray) (l0 : List Item) (lives : Int) (X : HProp) (v : Value) (l : List Item) (hr : Rd X 8 v l.length (items l)) (hb : l.length * 72 ≤ 140737488355328) :
    FnDoes Try.prog 12 [ptr d, v] [refI d name true l0 lives, X] (fun _ : Unit => True) (fun _ => .int .i64 0) (fun _ => [refI d name true l lives, X]) := by
  refine does_of Try.func12 rfl rfl Try.ntmps12 rfl (by simp only [enum, Nat.reduceAdd, Nat.zero_add]; exact rfl) (fun c => ?_)
  refine wpC_unfold .head (fun dv _ => ?_)
  simp only [List.cons_append, List.nil_append]
  (refine go ?_; intro bb)
  (refine go ?_; intros)
  refine wpO_ent (N := [sl 49 8 (.slice (some ⟨bb, 0, none⟩) 0 0) 0 [], X, pts d (.cells [.string name, .bool true, dv, .int .i64 lives].toArray 33 (0, 0))]) (Ent.slClose (junk := []) .head rfl rfl (Nat.le_refl _) (Nat.zero_le _) rfl (by ((try simp only [List.cons_append, List.nil_append]); repeat (first | exact Ent.nil | (apply Ent.cons; repeat (first | exact Pick.head | apply Pick.tail)))))) ?_
  refine o_append (sz := 8) (news := items l) (m := l.length) rfl rfl rfl rfl rfl rfl rfl rfl (by repeat (first | exact Pick.head | apply Pick.tail)) (hr.src (.tail .head) rfl) ?_ rfl (fun v' => ?_)
  · show (0 + l.length) * 72 ≤ 140737488355328
    omega
  refine wpE_fact (sl_one (v := v') (by repeat (first | exact Pick.head | apply Pick.tail))) (fun hv' => ?_)
  (refine go ?_; intros)
  refine q_ret1 rfl rfl () rfl trivial ?_
  simp only [Nat.zero_add, List.nil_append]
  exact Ent.fold v' trivial (by ((try simp only [List.cons_append, List.nil_append]); repeat (first | exact Ent.nil | (apply Ent.cons; repeat (first | exact Pick.head | apply Pick.tail)))))
theorem ref_toldOff (d : Nat) (name : ByteArray) (l0 : List Item) (lives : Int) (v : Value) :
    FnDoes Try.prog 12 [ptr d, v] [refI d name false l0 lives] (fun _ : Unit => True) (fun _ => .int .i64 7) (fun _ => [refI d name false l0 lives]) := by
  refine does_of Try.func12 rfl rfl Try.ntmps12 rfl (by simp only [enum, Nat.reduceAdd, Nat.zero_add]; exact rfl) (fun c => ?_)
  refine wpC_unfold .head (fun dv _ => ?_)
  simp only [List.cons_append, List.nil_append]
  (refine go ?_; intros)
  refine q_ret1 rfl rfl () rfl trivial ?_
  exact Ent.fold dv trivial (by ((try simp only [List.cons_append, List.nil_append]); repeat (first | exact Ent.nil | (apply Ent.cons; repeat (first | exact Pick.head | apply Pick.tail)))))
theorem ref_dies (d : Nat) (name : ByteArray) (l0 : List Item) (lives : Int) :
    FnDoes Try.prog 14 [ptr d] [refI d name true l0 lives] (fun _ : Unit => True) (fun _ => .int .i64 0) (fun _ => [refI d name false l0 lives]) := by
  refine does_of Try.func14 rfl rfl Try.ntmps14 rfl (by simp only [enum, Nat.reduceAdd, Nat.zero_add]; exact rfl) (fun c => ?_)
  refine wpC_unfold .head (fun dv _ => ?_)
  simp only [List.cons_append, List.nil_append]
  (refine go ?_; intros)
  refine q_ret1 rfl rfl () rfl trivial ?_
  exact Ent.fold dv trivial (by ((try simp only [List.cons_append, List.nil_append]); repeat (first | exact Ent.nil | (apply Ent.cons; repeat (first | exact Pick.head | apply Pick.tail)))))
theorem ref_diesOff (d : Nat) (name : ByteArray) (l0 : List Item) (lives : Int) :
    FnDoes Try.prog 14 [ptr d] [refI d name false l0 lives] (fun _ : Unit => True) (fun _ => .int .i64 7) (fun _ => [refI d name false l0 lives]) := by
  refine does_of Try.func14 rfl rfl Try.ntmps14 rfl (by simp only [enum, Nat.reduceAdd, Nat.zero_add]; exact rfl) (fun c => ?_)
  refine wpC_unfold .head (fun dv _ => ?_)
  simp only [List.cons_append, List.nil_append]
  (refine go ?_; intros)
  refine q_ret1 rfl rfl () rfl trivial ?_
  exact Ent.fold dv trivial (by ((try simp only [List.cons_append, List.nil_append]); repeat (first | exact Ent.nil | (apply Ent.cons; repeat (first | exact Pick.head | apply Pick.tail)))))

def Item.val (m : Item) : Value := .agg #[.string m.name, .bool m.hasAlias, .int .u64 m.alias, .int .u32 m.type, .bool m.null, .int .i64 m.vk, .int .u64 m.vn, .string m.vs]
theorem eqV_item (m m' : Item) : eqV Try.prog 6 49 m.val m'.val = some (decide (m.name = m'.name) && ((m.hasAlias == m'.hasAlias) && ((m.alias == m'.alias) && ((m.type == m'.type) && ((m.null == m'.null) && (((m.vk == m'.vk) && ((m.vn == m'.vn) && (decide (m.vs = m'.vs) && true))) && true)))))) := by kernel_rfl
theorem eqV_item_self (m : Item) : eqV Try.prog 6 49 m.val m.val = some true := by rw [eqV_item]; simp

theorem same_items (X Y : HProp) (va vb : Value) (name : ByteArray) (on : Bool) (l : List Item) (hx : Rd X 8 va l.length (items l)) (hy : Rd Y 8 vb l.length (items l)) (hb : l.length * 72 ≤ 140737488355328) :
    FnDoes Try.prog 17 [.agg #[.string name, .bool on, va], .agg #[.string name, .bool on, vb]] [X, Y] (fun _ : Unit => True) (fun _ => .bool true) (fun _ => [X, Y]) := by
  refine does_of Try.func17 rfl rfl Try.ntmps17 rfl (by simp only [enum, Nat.reduceAdd, Nat.zero_add]; exact rfl) (fun c => ?_)
  refine wpC_fact (hx.isSlice (by repeat (first | exact Pick.head | apply Pick.tail))) (fun hk1 => ?_)
  refine wpC_fact (hy.isSlice (by repeat (first | exact Pick.head | apply Pick.tail))) (fun hk2 => ?_)
  obtain ⟨a1, cap1, rfl, hk1⟩ := hk1
  obtain ⟨a2, cap2, rfl, hk2⟩ := hk2
  (refine go ?_; intro ba bb)
  (refine go ?_; intros)
  refine wpC_loop (σ := Nat) (fun k => k ≤ l.length) (fun k => [(2, ptr ba), (3, ptr bb), (5, .int .i64 k)])
    (fun _ => [pts ba (.cells [.string name, .bool on, .slice a1 l.length cap1].toArray 31 (0, 0)), pts bb (.cells [.string name, .bool on, .slice a2 l.length cap2].toArray 31 (0, 0)), X, Y])
    (fun k => l.length - k) 0 (Nat.zero_le _) (by repeat (first | exact trivial | refine ⟨rfl, ?_⟩)) (by ((try simp only [List.cons_append, List.nil_append]); repeat (first | exact Ent.nil | (apply Ent.cons; repeat (first | exact Pick.head | apply Pick.tail))))) (fun k hk => ?_)
  by_cases h : k < l.length
  · obtain ⟨b1, off1, rfl, hc1⟩ := hk1 (by omega)
    obtain ⟨b2, off2, rfl, hc2⟩ := hk2 (by omega)
    (refine go ?_; intros)
    refine wpC_quietA ?_
    refine go ?_
    refine oq_evB (ev_load_rd_agg (vs := l[k].cells) rfl rfl rfl rfl hx (by repeat (first | exact Pick.head | apply Pick.tail)) rfl rfl (fm_get item_len l k h)) ?_
    refine go ?_
    refine oq_evB (ev_load_rd_agg (vs := l[k].cells) rfl rfl rfl rfl hy (by repeat (first | exact Pick.head | apply Pick.tail)) rfl rfl (fm_get item_len l k h)) ?_
    refine go ?_
    refine oq_evB (ev_eq_agg rfl rfl (by kernel_rfl) (eqV_item_self l[k]) rfl) ?_
    refine go ?_
    (refine go ?_; intros)
    refine q_round (k + 1) (by omega) (by omega) (by repeat (first | exact trivial | refine ⟨rfl, ?_⟩)) ?_
    ((try simp only [List.cons_append, List.nil_append]); repeat (first | exact Ent.nil | (apply Ent.cons; repeat (first | exact Pick.head | apply Pick.tail))))
  · (refine go ?_; intros)
    refine q_ret1 rfl rfl () rfl trivial ?_
    ((try simp only [List.cons_append, List.nil_append]); repeat (first | exact Ent.nil | (apply Ent.cons; repeat (first | exact Pick.head | apply Pick.tail))))

theorem law_awake : FnDoes Try.prog 8 [] [] (fun _ : Unit => True) (fun _ => .bool true) (fun _ => []) := by
  refine does_of Try.func8 rfl rfl Try.ntmps8 rfl (by simp only [enum, Nat.reduceAdd, Nat.zero_add]; exact rfl) (fun c => ?_)
  refine wpC_ent (N := [emp]) (Ent.emp Ent.nil) ?_
  (refine go ?_; intros)
  (show wpO _ _ ⟨_, .call _, _, _, _, _⟩ _ _ _ _ _ _; refine o_callA (dev_new ⟨#[100]⟩ (by decide)) (fun d _ => ?_); try simp only [List.cons_append, List.nil_append])
  (refine go ?_; intros)
  (show wpO _ _ ⟨_, .call _, _, _, _, _⟩ _ _ _ _ _ _; refine o_callA (dev_born d ⟨#[100]⟩ false [] 0 emp (.slice none 0 0) [] (by decide) (by omega) (by omega) Rd.nil (by decide)) (fun _ _ => ?_); try simp only [List.cons_append, List.nil_append])
  (refine go ?_; intros)
  (show wpO _ _ ⟨_, .call _, _, _, _, _⟩ _ _ _ _ _ _; refine o_callA (dev_online d ⟨#[100]⟩ true [] 1 (by decide)) (fun _ _ => ?_); try simp only [List.cons_append, List.nil_append])
  (refine go ?_; intros)
  (show wpO _ _ ⟨_, .call _, _, _, _, _⟩ _ _ _ _ _ _; refine o_callA (dev_dies d ⟨#[100]⟩ [] 1 (by decide)) (fun _ _ => ?_); try simp only [List.cons_append, List.nil_append])
  (refine go ?_; intros)
  (show wpO _ _ ⟨_, .call _, _, _, _, _⟩ _ _ _ _ _ _; refine o_callA (dev_toldOff d ⟨#[100]⟩ [] 1 none 0 0 (by decide)) (fun _ _ => ?_); try simp only [List.cons_append, List.nil_append])
  (refine go ?_; intros)
  (show wpO _ _ ⟨_, .call _, _, _, _, _⟩ _ _ _ _ _ _; refine o_callA (dev_lives d ⟨#[100]⟩ false [] 1 (by decide)) (fun _ _ => ?_); try simp only [List.cons_append, List.nil_append])
  (refine go ?_; intros)
  exact q_ret1 rfl rfl () rfl trivial Ent.nil
end Go.Proofs.Ytcejjoikioemhaa
