/-
  The other functions of the package device, and the document's.
-/
import Derived.Test.YtcejjoikioemhaaDevA
set_option linter.unusedSimpArgs false
set_option linter.unusedVariables false
namespace Go.Proofs.Ytcejjoikioemhaa
open Go Go.Sx
attribute [local irreducible] wpE wpO wpC qE wpQ wpQO wpH wpHO wpD wpDO Ev own emp exI sl ch PostS LoopQ Rd rowsAt

theorem happens_told (d : Nat) (name : ByteArray) (l0 : List Item) (lives : Int) (X : HProp) (v : Value) (l : List Item) (h : name ≠ noText) (hr : Rd X 8 v l.length (items l)) (hb : l.length * 72 ≤ 140737488355328) :
    FnDoes Try.prog 19 [ptr d, .iface 59 (.agg #[v])] [devI d name true l0 lives, X] (fun _ : Unit => True) (fun _ => .int .i64 0) (fun _ => [devI d name true l lives, X]) := by
  refine does_of Try.func19 rfl rfl Try.ntmps19 rfl (by simp only [enum, Nat.reduceAdd, Nat.zero_add]; exact rfl) (fun c => ?_)
  refine wpC_fact (hr.one1 (by repeat (first | exact Pick.head | apply Pick.tail))) (fun hvx => ?_)
  refine wpC_unfold .head (fun dv _ => ?_)
  simp only [List.cons_append, List.nil_append]
  (refine go ?_; intros)
  (show wpO _ _ ⟨_, .call _, _, _, _, _⟩ _ _ _ _ _ _; refine o_callA (dev_noneRaw d name true dv lives h) (fun _ _ => ?_); try simp only [List.cons_append, List.nil_append])
  (refine go ?_; intros)
  (show wpO _ _ ⟨_, .call _, _, _, _, _⟩ _ _ _ _ _ _; refine o_invokeA (told_needs v) (fun _ _ => ?_); try simp only [List.cons_append, List.nil_append])
  (refine go ?_; intros)
  (show wpO _ _ ⟨_, .call _, _, _, _, _⟩ _ _ _ _ _ _; refine o_callA (clone_items X v l hr hb) (fun v' _ => ?_); try simp only [List.cons_append, List.nil_append])
  refine wpE_fact (sl_one (v := v') (by repeat (first | exact Pick.head | apply Pick.tail))) (fun hv' => ?_)
  (refine go ?_; intros)
  refine q_ret1 rfl rfl () rfl trivial ?_
  exact Ent.fold v' trivial (by ((try simp only [List.cons_append, List.nil_append]); repeat (first | exact Ent.nil | (apply Ent.cons; repeat (first | exact Pick.head | apply Pick.tail)))))
theorem happens_toldOff (d : Nat) (name : ByteArray) (l0 : List Item) (lives : Int) (v : Value) (h : name ≠ noText) (hvx : v.oneCell' = true) :
    FnDoes Try.prog 19 [ptr d, .iface 59 (.agg #[v])] [devI d name false l0 lives] (fun _ : Unit => True) (fun _ => .int .i64 7) (fun _ => [devI d name false l0 lives]) := by
  refine does_of Try.func19 rfl rfl Try.ntmps19 rfl (by simp only [enum, Nat.reduceAdd, Nat.zero_add]; exact rfl) (fun c => ?_)
  refine wpC_unfold .head (fun dv _ => ?_)
  simp only [List.cons_append, List.nil_append]
  (refine go ?_; intros)
  (show wpO _ _ ⟨_, .call _, _, _, _, _⟩ _ _ _ _ _ _; refine o_callA (dev_noneRaw d name false dv lives h) (fun _ _ => ?_); try simp only [List.cons_append, List.nil_append])
  (refine go ?_; intros)
  (show wpO _ _ ⟨_, .call _, _, _, _, _⟩ _ _ _ _ _ _; refine o_invokeA (told_needs v) (fun _ _ => ?_); try simp only [List.cons_append, List.nil_append])
  (refine go ?_; intros)
  refine q_ret1 rfl rfl () rfl trivial ?_
  exact Ent.fold dv trivial (by ((try simp only [List.cons_append, List.nil_append]); repeat (first | exact Ent.nil | (apply Ent.cons; repeat (first | exact Pick.head | apply Pick.tail)))))
theorem happens_death (d : Nat) (name : ByteArray) (l0 : List Item) (lives : Int) (h : name ≠ noText) :
    FnDoes Try.prog 19 [ptr d, .iface 61 (.agg #[])] [devI d name true l0 lives] (fun _ : Unit => True) (fun _ => .int .i64 0) (fun _ => [devI d name false l0 lives]) := by
  refine does_of Try.func19 rfl rfl Try.ntmps19 rfl (by simp only [enum, Nat.reduceAdd, Nat.zero_add]; exact rfl) (fun c => ?_)
  refine wpC_unfold .head (fun dv _ => ?_)
  simp only [List.cons_append, List.nil_append]
  (refine go ?_; intros)
  (show wpO _ _ ⟨_, .call _, _, _, _, _⟩ _ _ _ _ _ _; refine o_callA (dev_noneRaw d name true dv lives h) (fun _ _ => ?_); try simp only [List.cons_append, List.nil_append])
  (refine go ?_; intros)
  (show wpO _ _ ⟨_, .call _, _, _, _, _⟩ _ _ _ _ _ _; refine o_invokeA (death_needs) (fun _ _ => ?_); try simp only [List.cons_append, List.nil_append])
  (refine go ?_; intros)
  refine q_ret1 rfl rfl () rfl trivial ?_
  exact Ent.fold dv trivial (by ((try simp only [List.cons_append, List.nil_append]); repeat (first | exact Ent.nil | (apply Ent.cons; repeat (first | exact Pick.head | apply Pick.tail)))))
theorem happens_deathOff (d : Nat) (name : ByteArray) (l0 : List Item) (lives : Int) (h : name ≠ noText) :
    FnDoes Try.prog 19 [ptr d, .iface 61 (.agg #[])] [devI d name false l0 lives] (fun _ : Unit => True) (fun _ => .int .i64 7) (fun _ => [devI d name false l0 lives]) := by
  refine does_of Try.func19 rfl rfl Try.ntmps19 rfl (by simp only [enum, Nat.reduceAdd, Nat.zero_add]; exact rfl) (fun c => ?_)
  refine wpC_unfold .head (fun dv _ => ?_)
  simp only [List.cons_append, List.nil_append]
  (refine go ?_; intros)
  (show wpO _ _ ⟨_, .call _, _, _, _, _⟩ _ _ _ _ _ _; refine o_callA (dev_noneRaw d name false dv lives h) (fun _ _ => ?_); try simp only [List.cons_append, List.nil_append])
  (refine go ?_; intros)
  (show wpO _ _ ⟨_, .call _, _, _, _, _⟩ _ _ _ _ _ _; refine o_invokeA (death_needs) (fun _ _ => ?_); try simp only [List.cons_append, List.nil_append])
  (refine go ?_; intros)
  refine q_ret1 rfl rfl () rfl trivial ?_
  exact Ent.fold dv trivial (by ((try simp only [List.cons_append, List.nil_append]); repeat (first | exact Ent.nil | (apply Ent.cons; repeat (first | exact Pick.head | apply Pick.tail)))))

theorem dev_born (d : Nat) (name : ByteArray) (on : Bool) (l0 : List Item) (lives : Int) (X : HProp) (v : Value) (l : List Item) (h : name ≠ noText) (h0 : 0 ≤ lives) (h1 : lives ≤ 1000000) (hr : Rd X 8 v l.length (items l)) (hb : l.length * 72 ≤ 140737488355328) :
    FnDoes Try.prog 9 [ptr d, v] [devI d name on l0 lives, X] (fun _ : Unit => True) (fun _ => .int .i64 0) (fun _ => [devI d name true l (lives + 1), X]) := by
  refine does_of Try.func9 rfl rfl Try.ntmps9 rfl (by simp only [enum, Nat.reduceAdd, Nat.zero_add]; exact rfl) (fun c => ?_)
  refine wpC_fact (hr.one1 (by repeat (first | exact Pick.head | apply Pick.tail))) (fun hvx => ?_)
  refine wpC_fact (hr.kind (by repeat (first | exact Pick.head | apply Pick.tail))) (fun hk => ?_)
  rcases hk with ⟨rfl, hm⟩ | ⟨a, cap, rfl, hcap, _⟩
  all_goals
    (refine go ?_; intros)
    (show wpO _ _ ⟨_, .call _, _, _, _, _⟩ _ _ _ _ _ _; refine o_callA (happens_birth d name on l0 lives X _ l h h0 h1 hr hb) (fun _ _ => ?_); try simp only [List.cons_append, List.nil_append])
    (refine go ?_; intros)
    refine q_ret1 rfl rfl () rfl trivial ?_
    ((try simp only [List.cons_append, List.nil_append]); repeat (first | exact Ent.nil | (apply Ent.cons; repeat (first | exact Pick.head | apply Pick.tail))))
theorem dev_told (d : Nat) (name : ByteArray) (l0 : List Item) (lives : Int) (X : HProp) (v : Value) (l : List Item) (h : name ≠ noText) (hr : Rd X 8 v l.length (items l)) (hb : l.length * 72 ≤ 140737488355328) :
    FnDoes Try.prog 11 [ptr d, v] [devI d name true l0 lives, X] (fun _ : Unit => True) (fun _ => .int .i64 0) (fun _ => [devI d name true l lives, X]) := by
  refine does_of Try.func11 rfl rfl Try.ntmps11 rfl (by simp only [enum, Nat.reduceAdd, Nat.zero_add]; exact rfl) (fun c => ?_)
  refine wpC_fact (hr.one1 (by repeat (first | exact Pick.head | apply Pick.tail))) (fun hvx => ?_)
  refine wpC_fact (hr.kind (by repeat (first | exact Pick.head | apply Pick.tail))) (fun hk => ?_)
  rcases hk with ⟨rfl, hm⟩ | ⟨a, cap, rfl, hcap, _⟩
  all_goals
    (refine go ?_; intros)
    (show wpO _ _ ⟨_, .call _, _, _, _, _⟩ _ _ _ _ _ _; refine o_callA (happens_told d name l0 lives X _ l h hr hb) (fun _ _ => ?_); try simp only [List.cons_append, List.nil_append])
    (refine go ?_; intros)
    refine q_ret1 rfl rfl () rfl trivial ?_
    ((try simp only [List.cons_append, List.nil_append]); repeat (first | exact Ent.nil | (apply Ent.cons; repeat (first | exact Pick.head | apply Pick.tail))))
theorem dev_toldOff (d : Nat) (name : ByteArray) (l0 : List Item) (lives : Int) (a : Option Addr) (m cap : Nat) (h : name ≠ noText) :
    FnDoes Try.prog 11 [ptr d, .slice a m cap] [devI d name false l0 lives] (fun _ : Unit => True) (fun _ => .int .i64 7) (fun _ => [devI d name false l0 lives]) := by
  refine does_of Try.func11 rfl rfl Try.ntmps11 rfl (by simp only [enum, Nat.reduceAdd, Nat.zero_add]; exact rfl) (fun c => ?_)
  (refine go ?_; intros)
  (show wpO _ _ ⟨_, .call _, _, _, _, _⟩ _ _ _ _ _ _; refine o_callA (happens_toldOff d name l0 lives _ h rfl) (fun _ _ => ?_); try simp only [List.cons_append, List.nil_append])
  (refine go ?_; intros)
  refine q_ret1 rfl rfl () rfl trivial ?_
  ((try simp only [List.cons_append, List.nil_append]); repeat (first | exact Ent.nil | (apply Ent.cons; repeat (first | exact Pick.head | apply Pick.tail))))
theorem dev_dies (d : Nat) (name : ByteArray) (l0 : List Item) (lives : Int) (h : name ≠ noText) :
    FnDoes Try.prog 13 [ptr d] [devI d name true l0 lives] (fun _ : Unit => True) (fun _ => .int .i64 0) (fun _ => [devI d name false l0 lives]) := by
  refine does_of Try.func13 rfl rfl Try.ntmps13 rfl (by simp only [enum, Nat.reduceAdd, Nat.zero_add]; exact rfl) (fun c => ?_)
  (refine go ?_; intros)
  (show wpO _ _ ⟨_, .call _, _, _, _, _⟩ _ _ _ _ _ _; refine o_callA (happens_death d name l0 lives h) (fun _ _ => ?_); try simp only [List.cons_append, List.nil_append])
  (refine go ?_; intros)
  refine q_ret1 rfl rfl () rfl trivial ?_
  ((try simp only [List.cons_append, List.nil_append]); repeat (first | exact Ent.nil | (apply Ent.cons; repeat (first | exact Pick.head | apply Pick.tail))))
theorem dev_diesOff (d : Nat) (name : ByteArray) (l0 : List Item) (lives : Int) (h : name ≠ noText) :
    FnDoes Try.prog 13 [ptr d] [devI d name false l0 lives] (fun _ : Unit => True) (fun _ => .int .i64 7) (fun _ => [devI d name false l0 lives]) := by
  refine does_of Try.func13 rfl rfl Try.ntmps13 rfl (by simp only [enum, Nat.reduceAdd, Nat.zero_add]; exact rfl) (fun c => ?_)
  (refine go ?_; intros)
  (show wpO _ _ ⟨_, .call _, _, _, _, _⟩ _ _ _ _ _ _; refine o_callA (happens_deathOff d name l0 lives h) (fun _ _ => ?_); try simp only [List.cons_append, List.nil_append])
  (refine go ?_; intros)
  refine q_ret1 rfl rfl () rfl trivial ?_
  ((try simp only [List.cons_append, List.nil_append]); repeat (first | exact Ent.nil | (apply Ent.cons; repeat (first | exact Pick.head | apply Pick.tail))))
theorem dev_online (d : Nat) (name : ByteArray) (on : Bool) (l0 : List Item) (lives : Int) (h : name ≠ noText) :
    FnDoes Try.prog 15 [ptr d] [devI d name on l0 lives] (fun _ : Unit => True) (fun _ => .bool on) (fun _ => [devI d name on l0 lives]) := by
  refine does_of Try.func15 rfl rfl Try.ntmps15 rfl (by simp only [enum, Nat.reduceAdd, Nat.zero_add]; exact rfl) (fun c => ?_)
  refine wpC_unfold .head (fun dv _ => ?_)
  simp only [List.cons_append, List.nil_append]
  (refine go ?_; intros)
  (show wpO _ _ ⟨_, .call _, _, _, _, _⟩ _ _ _ _ _ _; refine o_callA (dev_noneRaw d name on dv lives h) (fun _ _ => ?_); try simp only [List.cons_append, List.nil_append])
  (refine go ?_; intros)
  refine q_ret1 rfl rfl () rfl trivial ?_
  exact Ent.fold dv trivial (by ((try simp only [List.cons_append, List.nil_append]); repeat (first | exact Ent.nil | (apply Ent.cons; repeat (first | exact Pick.head | apply Pick.tail)))))
theorem dev_lives (d : Nat) (name : ByteArray) (on : Bool) (l0 : List Item) (lives : Int) (h : name ≠ noText) :
    FnDoes Try.prog 16 [ptr d] [devI d name on l0 lives] (fun _ : Unit => True) (fun _ => .int .i64 lives) (fun _ => [devI d name on l0 lives]) := by
  refine does_of Try.func16 rfl rfl Try.ntmps16 rfl (by simp only [enum, Nat.reduceAdd, Nat.zero_add]; exact rfl) (fun c => ?_)
  refine wpC_unfold .head (fun dv _ => ?_)
  simp only [List.cons_append, List.nil_append]
  (refine go ?_; intros)
  (show wpO _ _ ⟨_, .call _, _, _, _, _⟩ _ _ _ _ _ _; refine o_callA (dev_noneRaw d name on dv lives h) (fun _ _ => ?_); try simp only [List.cons_append, List.nil_append])
  (refine go ?_; intros)
  refine q_ret1 rfl rfl () rfl trivial ?_
  exact Ent.fold dv trivial (by ((try simp only [List.cons_append, List.nil_append]); repeat (first | exact Ent.nil | (apply Ent.cons; repeat (first | exact Pick.head | apply Pick.tail)))))
theorem dev_view (d : Nat) (name : ByteArray) (on : Bool) (l0 : List Item) (lives : Int) (h : name ≠ noText) (hb : l0.length * 72 ≤ 140737488355328) :
    FnDoes Try.prog 18 [ptr d] [devI d name on l0 lives] (fun _ : Value => True) (fun v => .agg #[.string name, .bool on, v]) (fun v => [devI d name on l0 lives, itemsI v l0]) := by
  refine does_of Try.func18 rfl rfl Try.ntmps18 rfl (by simp only [enum, Nat.reduceAdd, Nat.zero_add]; exact rfl) (fun c => ?_)
  refine wpC_unfold .head (fun dv _ => ?_)
  simp only [List.cons_append, List.nil_append]
  refine wpC_fact (sl_one (v := dv) (by repeat (first | exact Pick.head | apply Pick.tail))) (fun hdv => ?_)
  (refine go ?_; intros)
  (show wpO _ _ ⟨_, .call _, _, _, _, _⟩ _ _ _ _ _ _; refine o_callA (dev_noneRaw d name on dv lives h) (fun _ _ => ?_); try simp only [List.cons_append, List.nil_append])
  (refine go ?_; intros)
  (show wpO _ _ ⟨_, .call _, _, _, _, _⟩ _ _ _ _ _ _; refine o_callA (clone_items (itemsI dv l0) dv l0 Rd.ofSl hb) (fun v' _ => ?_); try simp only [List.cons_append, List.nil_append])
  refine wpE_fact (sl_one (v := v') (by repeat (first | exact Pick.head | apply Pick.tail))) (fun hv' => ?_)
  (refine go ?_; intros)
  refine q_ret1c (l := [.string name, .bool on, v']) rfl rfl ?_ rfl rfl rfl rfl v' rfl trivial ?_
  · exact ⟨_, _, _, (by repeat (first | exact Pick.head | apply Pick.tail))⟩
  exact Ent.fold dv trivial (by ((try simp only [List.cons_append, List.nil_append]); repeat (first | exact Ent.nil | (apply Ent.cons; repeat (first | exact Pick.head | apply Pick.tail)))))
end Go.Proofs.Ytcejjoikioemhaa
