/-
  A connection: what comes in.
  A connection: a packet is taken.
  A connection: what goes out, who came, the will that is left.
-/
import Derived.Test.YtnaabpfpldelmaaGreatDoorM31
set_option linter.unusedSimpArgs false
set_option linter.unusedVariables false
namespace Go.Sx
open Go Go.Conc
theorem ev_assert_n {P : Program} {c : Cx} {n : Nat} {L : Env} {M : List HProp} {dst : Option Nat} {ty : TypeId} {pos : String} {after : Array Edge} {g : Option (Nat × Bool)} {x : Operand} {xt t : TypeId} {z : Value} {d : TypeDesc} {i : TypeInfo} (hx : opnd L x = some .nilIface) (hu : P.underlying t = some d) (hd : ifaceD d = false) (hi : P.info? t = some i) (hz : i.zero = some z) : Ev P ⟨dst, .typeAssert x xt t true, ty, pos, after, g⟩ c n L M (.tuple #[z, .bool false]) := fun T w s => by
  have hzv : (zeroValue t).run P w = .ok z w := by simp [zeroValue, typeInfo, run_program, hi, hz]
  simp only [execOp, opnd_eval s.slots hx, Instr.typeAssert, Sem.run_bind, run_underlying hu, Result.andThen_ok]
  cases d <;> first | (cases hd; done) | simp [hzv]
end Go.Sx
set_option maxRecDepth 20000
namespace Go.Proofs.YtnaabpfpldelmaaGreatDoor
open Go Go.Sx
structure CnS where
  ba : Value
  bv : Value
  f : Nat
  fs : Bool
  cl : Bool
  bd : Nat
  who : CoS
  cm : Bool
  wl : Bool
abbrev tCnn : TypeId := 142
abbrev cnnT (S : CnS) : List Value := [pt0 S.f, .bool S.fs, .bool S.cl, nat64 S.bd, nat64 S.who.lv, .bool S.who.cl, nat64 S.who.kp, .string S.who.id, .bool S.who.hw, .string S.who.wt, .string S.who.wx, nat64 S.who.wq, .bool S.who.wr, .bool S.who.hu, .string S.who.us, .bool S.who.hp, .string S.who.ps, .bool S.cm, .bool S.wl]
abbrev cnnI (c : Nat) (S : CnS) : HProp := bldC c S.ba S.bv (cnnT S) tCnn
theorem bld_cnn : BldIn tCnn 21 := by unfold BldIn; kernel_rfl
abbrev tTopic : TypeId := 326
abbrev tTurn : TypeId := 324
abbrev topV (s : ByteArray) : Value := .iface tTopic (.agg [.string s].toArray)
abbrev trnV : Value := .iface tTurn (.agg [].toArray)
abbrev tkV (kd : Nat) (c : CoS) (e : Nat) : Value := if e = 0 then .tuple #[.agg (pkC kd c).toArray, .bool true, nat64 0] else .tuple #[.agg (pkC 0 co0).toArray, .bool false, nat64 e]
attribute [local irreducible] MidQ wpE wpO wpC qE wpQ wpQO wpH wpHO wpD wpDO wpZ Ev own emp exI sl ch PostS LoopQ Rd rowsAt
theorem cn_new : FnDoes Tryz.prog 45 [] [] (fun _ : Nat × Nat => True) (fun y => pt0 y.1) (fun y => [cnnI y.1 ⟨.pointer none, .slice none 0 0, y.2, true, false, 0, co0, false, false⟩, frmI y.2 (.slice none 0 0) 0]) := by
  refine does_of Tryz.func45 rfl rfl Tryz.ntmps45 rfl eNUM (fun c => ?_)
  (refine go ?_; intros)
  (show wpO _ _ ⟨_, .call _, _, _, _, _⟩ _ _ _ _ _ _; refine o_callA (fm_new) (fun f _ => ?_); try simp only [List.cons_append, List.nil_append])
  (refine go ?_; intro c)
  exact q_ret1 rfl rfl (c, f) rfl trivial eNT
theorem cn_none (c : Nat) (S : CnS) : FnDoes Tryz.prog 50 [pt0 c] [cnnI c S] (fun _ : Unit => True) (fun _ => .bool false) (fun _ => [cnnI c S]) := by
  refine does_of Tryz.func50 rfl rfl Tryz.ntmps50 rfl eNUM (fun c => ?_)
  (refine go ?_; intros)
  exact q_ret1 rfl rfl () rfl trivial eNT
theorem cn_feed (c k cap : Nat) (a : Option Addr) (S : CnS) (hc : S.cl = false) (s : ByteArray) (h0 : 0 < s.size) (hs : s.size ≤ 1000000) : FnDoes Tryz.prog 46 [pt0 c, .string s] [cnnI c S, frmI S.f (.slice a 0 cap) k] (fun _ : Value => True) (fun _ => nat64 0) (fun v => [cnnI c S, frmI S.f v k, bytI v s.data.toList]) := by
  have hn := cn_none c S
  have hf := fm_feed S.f k cap a s h0 hs
  obtain ⟨ba, bv, f, fs, cl, bd, who, cm, wl⟩ := S
  try dsimp only at hc hn hf ⊢
  subst hc
  refine does_of Tryz.func46 rfl rfl Tryz.ntmps46 rfl eNUM (fun c => ?_)
  (refine go ?_; intros)
  (show wpO _ _ ⟨_, .call _, _, _, _, _⟩ _ _ _ _ _ _; refine o_callA (hn) (fun _ _ => ?_); try simp only [List.cons_append, List.nil_append])
  (refine go ?_; intros)
  (show wpO _ _ ⟨_, .call _, _, _, _, _⟩ _ _ _ _ _ _; refine o_callA (hf) (fun v _ => ?_); try simp only [List.cons_append, List.nil_append])
  (refine go ?_; intros)
  exact q_ret1 rfl rfl v rfl trivial eNT
set_option maxHeartbeats 1000000 in
theorem cn_why1 (c : CoS) : FnDoes Tryz.prog 125 [.agg (pkC 1 c).toArray, .bool true] [] (fun _ : Unit => True) (fun _ => if c.hw then topV c.wt else .nilIface) (fun _ => []) := by
  obtain ⟨lv, cl, kp, id, hw, wt, wx, wq, wr, hu, us, hp, ps⟩ := c
  refine does_of Tryz.func125 rfl rfl Tryz.ntmps125 rfl eNUM (fun c => ?_)
  cases hw with
  | true =>
    (refine go ?_; intros)
    exact q_ret1 rfl rfl () rfl trivial eNT
  | false =>
    (refine go ?_; intros)
    exact q_ret1 rfl rfl () rfl trivial eNT
theorem cn_why2 (c : CoS) : FnDoes Tryz.prog 125 [.agg (pkC 1 c).toArray, .bool false] [] (fun _ : Unit => True) (fun _ => trnV) (fun _ => []) := by
  refine does_of Tryz.func125 rfl rfl Tryz.ntmps125 rfl eNUM (fun c => ?_)
  (refine go ?_; intros)
  exact q_ret1 rfl rfl () rfl trivial eNT
theorem cn_whyN (kd : Nat) (hk : kd = 12 ∨ kd = 14) (c : CoS) : FnDoes Tryz.prog 125 [.agg (pkC kd c).toArray, .bool false] [] (fun _ : Unit => True) (fun _ => .nilIface) (fun _ => []) := by
  refine does_of Tryz.func125 rfl rfl Tryz.ntmps125 rfl eNUM (fun c => ?_)
  rcases hk with rfl | rfl
  all_goals
    (refine go ?_; intros)
    exact q_ret1 rfl rfl () rfl trivial eNT
theorem cn_refusedT {G : Rg} (hG : okG G) (hV : vG G) (s : ByteArray) : FnDoes Tryz.prog 124 [topV s] [rgH G] (fun _ : Nat => True) (fun e => nat64 e) (fun _ => [rgH G]) := by
  have hl := lv_name hG hV s
  refine does_of Tryz.func124 rfl rfl Tryz.ntmps124 rfl eNUM (fun c => ?_)
  (refine go ?_; intros)
  (show wpO _ _ ⟨_, .call _, _, _, _, _⟩ _ _ _ _ _ _; refine o_callA (hl) (fun r _ => ?_); try simp only [List.cons_append, List.nil_append])
  cases r with
  | true =>
    (refine go ?_; intros)
    exact q_ret1 rfl rfl 0 rfl trivial eNT
  | false =>
    (refine go ?_; intros)
    exact q_ret1 rfl rfl 13 rfl trivial eNT
theorem cn_refused2 : FnDoes Tryz.prog 124 [trnV] [] (fun _ : Unit => True) (fun _ => nat64 15) (fun _ => []) := by
  refine does_of Tryz.func124 rfl rfl Tryz.ntmps124 rfl eNUM (fun c => ?_)
  (refine go ?_; intros)
  exact q_ret1 rfl rfl () rfl trivial eNT
theorem cn_refusedN : FnDoes Tryz.prog 124 [.nilIface] [] (fun _ : Unit => True) (fun _ => nat64 0) (fun _ => []) := by
  refine does_of Tryz.func124 rfl rfl Tryz.ntmps124 rfl eNUM (fun c => ?_)
  (refine go ?_; intros)
  refine o_evB (ev_assert_n rfl rfl rfl rfl rfl) ?_
  (refine go ?_; intros)
  refine o_evB (ev_assert_n rfl rfl rfl rfl rfl) ?_
  (refine go ?_; intros)
  refine o_evB (ev_assert_n rfl rfl rfl rfl rfl) ?_
  (refine go ?_; intros)
  exact q_ret1 rfl rfl () rfl trivial eNT
end Go.Proofs.YtnaabpfpldelmaaGreatDoor
set_option linter.unusedSimpArgs false
set_option linter.unusedVariables false
set_option maxRecDepth 20000
namespace Go.Proofs.YtnaabpfpldelmaaGreatDoor
open Go Go.Sx
abbrev aft (v : Option Addr × Nat × Nat) : Value := .slice v.1 0 v.2.1
theorem tkV_ok (kd : Nat) (c : CoS) : tkV kd c 0 = .tuple #[.agg (pkC kd c).toArray, .bool true, nat64 0] := rfl
theorem tkV_no (kd : Nat) (c : CoS) {e : Nat} (h : e ≠ 0) : tkV kd c e = .tuple #[.agg (pkC 0 co0).toArray, .bool false, nat64 e] := if_neg h
theorem txt_list (l : List UInt8) : (txt l).data.toList = l := by simp
attribute [local irreducible] MidQ wpE wpO wpC qE wpQ wpQO wpH wpHO wpD wpDO wpZ Ev own emp exI sl ch PostS LoopQ Rd rowsAt
set_option maxHeartbeats 2000000 in
theorem cn_take1 {G : Rg} (hG : okG G) (hM : mayG G) (hV : vG G) (cn k : Nat) (hk : k ≤ 1000) (S : CnS) (hS : S.fs = true) (v : Value) (l : List UInt8) (m kk : Nat) (body : List UInt8) (hp : PktAt l 1 m kk body) :
    FnDoes Tryz.prog 90 [pt0 cn] [cnnI cn S, frmI S.f v k, bytI v l, rgH G] (fun y : Option Addr × Nat × Nat => (y.2.2 = 0 → (ofZ body).e = 0) ∧ ((ofZ body).e = 0 → (coOf body).hw = false → y.2.2 = 0)) (fun y => tkV 1 (coOf body) y.2.2) (fun y => [cnnI cn { S with fs := decide (y.2.2 ≠ 0) }, frmI S.f (aft y) (k + 1), rgH G]) := by
  have hn := fm_next hM S.f k hk v l 1 m kk body hp
  have hbl : body.length = m := by rw [← hp.o6, List.length_take, List.length_drop]; have := hp.o5; omega
  have ho := pk_of1 hM hV (txt body) (by rw [txt_size]; have := hp.o7; omega)
  rw [txt_list, txt_size, hbl] at ho
  have hw := cn_why1 (coOf body)
  have hr := cn_refusedT hG hV (coOf body).wt
  generalize coOf body = cc at ho hw hr ⊢
  generalize hee : (ofZ body).e = e at ho ⊢
  obtain ⟨ba, bv, f, fs, cl, bd, who, cm, wl⟩ := S
  try dsimp only at hS hn ⊢
  subst hS
  refine does_of Tryz.func90 rfl rfl Tryz.ntmps90 rfl eNUM (fun c => ?_)
  (refine go ?_; intro c2)
  (show wpO _ _ ⟨_, .call _, _, _, _, _⟩ _ _ _ _ _ _; refine o_callA (hn) (fun ⟨a, cap⟩ _ => ?_); try simp only [List.cons_append, List.nil_append])
  try dsimp only
  (refine go ?_; intro c5)
  (show wpO _ _ ⟨_, .call _, _, _, _, _⟩ _ _ _ _ _ _; refine o_callA (ho) (fun _ _ => ?_); try simp only [List.cons_append, List.nil_append])
  by_cases he : e = 0
  · subst he
    rw [pkV_ok]
    cases hh : cc.hw with
    | true =>
      rw [hh, if_pos rfl] at hw
      (refine go ?_; intro c8)
      refine wpC_drawnA [cnnI cn ⟨ba, bv, f, true, cl, bd, who, cm, wl⟩, rgH G, pts c8 (.cells (pkC 1 cc).toArray 32 (0, 0))] 7 ?_
      ((first | refine dt 0 ?_ | refine dts 0 ?_); (first | refine df 1 ?_ | refine dfs 1 ?_); (first | refine df 2 ?_ | refine dfs 2 ?_); (first | refine df 3 ?_ | refine dfs 3 ?_); (first | refine df 4 ?_ | refine dfs 4 ?_))
      refine dcall 5 hw (fun _ _ => ?_)
      simp only [List.nil_append]
      refine dcall 6 hr (fun r _ => ?_)
      simp only [List.cons_append, List.nil_append]
      (refine dl ?_)
      by_cases h0 : r = 0
      · subst h0
        (refine go ?_; intros)
        exact q_retATT (l1 := pkC 1 cc) rfl rfl rfl rfl rfl rfl rfl rfl pK (a, cap, 0) rfl ⟨fun _ => by first | rfl | trivial, fun _ _ => rfl⟩ eNT
      · have h1 : (r : Int) ≠ 0 := by omega
        (refine go ?_; intros)
        refine q_retATT (l1 := pkC 0 co0) rfl rfl rfl rfl rfl rfl rfl rfl pK (a, cap, r) (tkV_no _ _ h0).symm ⟨fun h => absurd h h0, fun _ h => by first | (cases h; done) | (rw [hh] at h; cases h)⟩ ?_
        rw [show decide (r ≠ 0) = true from decide_eq_true h0]
        ((try simp only [List.cons_append, List.nil_append]); repeat (first | exact Ent.nil | (apply Ent.cons; repeat (first | exact Pick.head | apply Pick.tail))))
    | false =>
      rw [hh, if_neg (by decide)] at hw
      (refine go ?_; intro c8)
      refine wpC_drawnA [cnnI cn ⟨ba, bv, f, true, cl, bd, who, cm, wl⟩, rgH G, pts c8 (.cells (pkC 1 cc).toArray 32 (0, 0))] 7 ?_
      ((first | refine dt 0 ?_ | refine dts 0 ?_); (first | refine df 1 ?_ | refine dfs 1 ?_); (first | refine df 2 ?_ | refine dfs 2 ?_); (first | refine df 3 ?_ | refine dfs 3 ?_); (first | refine df 4 ?_ | refine dfs 4 ?_))
      refine dcall 5 hw (fun _ _ => ?_)
      simp only [List.nil_append]
      refine dcall 6 cn_refusedN (fun _ _ => ?_)
      simp only [List.nil_append]
      (refine dl ?_)
      (refine go ?_; intros)
      exact q_retATT (l1 := pkC 1 cc) rfl rfl rfl rfl rfl rfl rfl rfl pK (a, cap, 0) rfl ⟨fun _ => by first | rfl | trivial, fun _ _ => rfl⟩ eNT
  · have h1 : (e : Int) ≠ 0 := by omega
    rw [pkV_no _ _ he]
    (refine go ?_; intro c8)
    refine q_retATT (l1 := pkC 0 co0) rfl rfl rfl rfl rfl rfl rfl rfl pK (a, cap, e) (tkV_no _ _ he).symm ⟨fun h => absurd h he, fun h => absurd h he⟩ ?_
    rw [show decide (e ≠ 0) = true from decide_eq_true he]
    ((try simp only [List.cons_append, List.nil_append]); repeat (first | exact Ent.nil | (apply Ent.cons; repeat (first | exact Pick.head | apply Pick.tail))))
set_option maxHeartbeats 2000000 in
theorem cn_take2 {G : Rg} (hG : okG G) (hM : mayG G) (hV : vG G) (cn k : Nat) (hk : k ≤ 1000) (S : CnS) (hS : S.fs = false) (v : Value) (l : List UInt8) (m kk : Nat) (body : List UInt8) (hp : PktAt l 1 m kk body) :
    FnDoes Tryz.prog 90 [pt0 cn] [cnnI cn S, frmI S.f v k, bytI v l, rgH G] (fun y : Option Addr × Nat × Nat => y.2.2 ≠ 0) (fun y => tkV 1 co0 y.2.2) (fun y => [cnnI cn S, frmI S.f (aft y) (k + 1), rgH G]) := by
  have hn := fm_next hM S.f k hk v l 1 m kk body hp
  have hbl : body.length = m := by rw [← hp.o6, List.length_take, List.length_drop]; have := hp.o5; omega
  have ho := pk_of1 hM hV (txt body) (by rw [txt_size]; have := hp.o7; omega)
  rw [txt_list, txt_size, hbl] at ho
  have hw := cn_why2 (coOf body)
  generalize coOf body = cc at ho hw ⊢
  generalize hee : (ofZ body).e = e at ho ⊢
  obtain ⟨ba, bv, f, fs, cl, bd, who, cm, wl⟩ := S
  try dsimp only at hS hn ⊢
  subst hS
  refine does_of Tryz.func90 rfl rfl Tryz.ntmps90 rfl eNUM (fun c => ?_)
  (refine go ?_; intro c2)
  (show wpO _ _ ⟨_, .call _, _, _, _, _⟩ _ _ _ _ _ _; refine o_callA (hn) (fun ⟨a, cap⟩ _ => ?_); try simp only [List.cons_append, List.nil_append])
  try dsimp only
  (refine go ?_; intro c5)
  (show wpO _ _ ⟨_, .call _, _, _, _, _⟩ _ _ _ _ _ _; refine o_callA (ho) (fun _ _ => ?_); try simp only [List.cons_append, List.nil_append])
  by_cases he : e = 0
  · subst he
    rw [pkV_ok]
    (refine go ?_; intro c8)
    refine wpC_drawnA [cnnI cn ⟨ba, bv, f, false, cl, bd, who, cm, wl⟩, pts c8 (.cells (pkC 1 cc).toArray 32 (0, 0))] 7 ?_
    ((first | refine dt 0 ?_ | refine dts 0 ?_); (first | refine df 1 ?_ | refine dfs 1 ?_); (first | refine df 2 ?_ | refine dfs 2 ?_); (first | refine df 3 ?_ | refine dfs 3 ?_); (first | refine df 4 ?_ | refine dfs 4 ?_))
    refine dcall 5 hw (fun _ _ => ?_)
    simp only [List.nil_append]
    refine dcall 6 cn_refused2 (fun _ _ => ?_)
    simp only [List.nil_append]
    (refine dl ?_)
    (refine go ?_; intros)
    exact q_retATT (l1 := pkC 0 co0) rfl rfl rfl rfl rfl rfl rfl rfl pK (a, cap, 15) (tkV_no _ _ (by decide)).symm (show (15 : Nat) ≠ 0 by decide) eNT
  · have h1 : (e : Int) ≠ 0 := by omega
    rw [pkV_no _ _ he]
    (refine go ?_; intro c8)
    exact q_retATT (l1 := pkC 0 co0) rfl rfl rfl rfl rfl rfl rfl rfl pK (a, cap, e) (tkV_no _ _ he).symm he eNT
set_option maxHeartbeats 2000000 in
theorem cn_takeN {G : Rg} (hM : mayG G) (cn k : Nat) (hk : k ≤ 1000) (S : CnS) (hS : S.fs = false) (v : Value) (l : List UInt8) (kd : Nat) (hkd : kd = 12 ∨ kd = 14) (hp : PktAt l kd 0 1 []) :
    FnDoes Tryz.prog 90 [pt0 cn] [cnnI cn S, frmI S.f v k, bytI v l, rgH G] (fun y : Option Addr × Nat × Nat => y.2.2 = 0) (fun y => tkV kd co0 y.2.2) (fun y => [cnnI cn S, frmI S.f (aft y) (k + 1), rgH G]) := by
  have hn := fm_next hM S.f k hk v l kd 0 1 [] hp
  have ho := pk_ofN hM kd hkd
  have hw := cn_whyN kd hkd co0
  obtain ⟨ba, bv, f, fs, cl, bd, who, cm, wl⟩ := S
  try dsimp only at hS hn ⊢
  subst hS
  refine does_of Tryz.func90 rfl rfl Tryz.ntmps90 rfl eNUM (fun c => ?_)
  (refine go ?_; intro c2)
  (show wpO _ _ ⟨_, .call _, _, _, _, _⟩ _ _ _ _ _ _; refine o_callA (hn) (fun ⟨a, cap⟩ _ => ?_); try simp only [List.cons_append, List.nil_append])
  try dsimp only
  (refine go ?_; intro c5)
  (show wpO _ _ ⟨_, .call _, _, _, _, _⟩ _ _ _ _ _ _; refine o_callA (ho) (fun _ _ => ?_); try simp only [List.cons_append, List.nil_append])
  (refine go ?_; intro c8)
  refine wpC_drawnA [cnnI cn ⟨ba, bv, f, false, cl, bd, who, cm, wl⟩, pts c8 (.cells (pkC kd co0).toArray 32 (0, 0))] 7 ?_
  ((first | refine dt 0 ?_ | refine dts 0 ?_); (first | refine df 1 ?_ | refine dfs 1 ?_); (first | refine df 2 ?_ | refine dfs 2 ?_); (first | refine df 3 ?_ | refine dfs 3 ?_); (first | refine df 4 ?_ | refine dfs 4 ?_))
  refine dcall 5 hw (fun _ _ => ?_)
  simp only [List.nil_append]
  refine dcall 6 cn_refusedN (fun _ _ => ?_)
  simp only [List.nil_append]
  (refine dl ?_)
  (refine go ?_; intros)
  exact q_retATT (l1 := pkC kd co0) rfl rfl rfl rfl rfl rfl rfl rfl pK (a, cap, 0) (tkV_ok _ _).symm rfl eNT
set_option maxHeartbeats 2000000 in
theorem cn_take3 {G : Rg} (hM : mayG G) (hV : vG G) (cn k : Nat) (hk : k ≤ 1000) (S : CnS) (v : Value) (l : List UInt8) (hp : PktAt l 3 1 1 [0]) :
    FnDoes Tryz.prog 90 [pt0 cn] [cnnI cn S, frmI S.f v k, bytI v l, rgH G] (fun y : Option Addr × Nat × Nat => y.2.2 ≠ 0) (fun y => tkV 3 co0 y.2.2) (fun y => [cnnI cn S, frmI S.f (aft y) (k + 1), rgH G]) := by
  have hn := fm_next hM S.f k hk v l 3 1 1 [0] hp
  have ho := pk_of3 hM hV
  obtain ⟨ba, bv, f, fs, cl, bd, who, cm, wl⟩ := S
  try dsimp only at hn ⊢
  refine does_of Tryz.func90 rfl rfl Tryz.ntmps90 rfl eNUM (fun c => ?_)
  (refine go ?_; intro c2)
  (show wpO _ _ ⟨_, .call _, _, _, _, _⟩ _ _ _ _ _ _; refine o_callA (hn) (fun ⟨a, cap⟩ _ => ?_); try simp only [List.cons_append, List.nil_append])
  try dsimp only
  (refine go ?_; intro c5)
  (show wpO _ _ ⟨_, .call _, _, _, _, _⟩ _ _ _ _ _ _; refine o_callA (ho) (fun _ _ => ?_); try simp only [List.cons_append, List.nil_append])
  (refine go ?_; intro c8)
  exact q_retATT (l1 := pkC 0 co0) rfl rfl rfl rfl rfl rfl rfl rfl pK (a, cap, 2) (tkV_no _ _ (by decide)).symm (show (2 : Nat) ≠ 0 by decide) eNT
set_option maxHeartbeats 2000000 in
theorem cn_next {G : Rg} (cn k kd : Nat) (cc : CoS) (S : CnS) (hb : S.bd = 0) (hc : S.cl = false) (v : Value) (l : List UInt8) (F : Nat → Bool) (φ : Option Addr × Nat × Nat → Prop) (ht : FnDoes Tryz.prog 90 [pt0 cn] [cnnI cn S, frmI S.f v k, bytI v l, rgH G] φ (fun y => tkV kd cc y.2.2) (fun y => [cnnI cn { S with fs := F y.2.2 }, frmI S.f (aft y) (k + 1), rgH G])) :
    FnDoes Tryz.prog 71 [pt0 cn] [cnnI cn S, frmI S.f v k, bytI v l, rgH G] φ (fun y => tkV kd cc y.2.2) (fun y => [cnnI cn { S with fs := F y.2.2, bd := y.2.2 }, frmI S.f (aft y) (k + 1), rgH G]) := by
  have hn := cn_none cn S
  obtain ⟨ba, bv, f, fs, cl, bd, who, cm, wl⟩ := S
  try dsimp only at hb hc ht hn ⊢
  subst hb hc
  refine does_of Tryz.func71 rfl rfl Tryz.ntmps71 rfl eNUM (fun c => ?_)
  (refine go ?_; intro c2)
  (show wpO _ _ ⟨_, .call _, _, _, _, _⟩ _ _ _ _ _ _; refine o_callA (hn) (fun _ _ => ?_); try simp only [List.cons_append, List.nil_append])
  (refine go ?_; intros)
  (show wpO _ _ ⟨_, .call _, _, _, _, _⟩ _ _ _ _ _ _; refine o_callA (ht) (fun ⟨a, cap, e⟩ hy => ?_); try simp only [List.cons_append, List.nil_append])
  try dsimp only at hy ⊢
  by_cases he : e = 0
  · subst he
    rw [tkV_ok]
    (refine go ?_; intro c5)
    exact q_retATT (l1 := pkC kd cc) rfl rfl rfl rfl rfl rfl rfl rfl pK (a, cap, 0) rfl hy eNT
  · rw [tkV_no _ _ he]
    (refine go ?_; intro c5)
    exact q_retATT (l1 := pkC 0 co0) rfl rfl rfl rfl rfl rfl rfl rfl pK (a, cap, e) (tkV_no _ _ he).symm hy eNT
end Go.Proofs.YtnaabpfpldelmaaGreatDoor
set_option linter.unusedSimpArgs false
set_option linter.unusedVariables false
set_option maxRecDepth 20000
namespace Go.Proofs.YtnaabpfpldelmaaGreatDoor
open Go Go.Sx
abbrev wilC (c : CoS) : List Value := [.string c.wt, .string c.wx, nat64 c.wq, .bool c.wr]
def ansO (kd : Nat) : List UInt8 := if kd = 2 then [32, 2, 0, 0] else [208, 0]
attribute [local irreducible] MidQ wpE wpO wpC qE wpQ wpQO wpH wpHO wpD wpDO wpZ Ev own emp exI sl ch PostS LoopQ Rd rowsAt
theorem cn_who (cn : Nat) (S : CnS) : FnDoes Tryz.prog 62 [pt0 cn] [cnnI cn S] (fun _ : Unit => True) (fun _ => .tuple #[.agg (coC (if S.cm then S.who else co0)).toArray, .bool S.cm]) (fun _ => [cnnI cn S]) := by
  have hn := cn_none cn S
  obtain ⟨ba, bv, f, fs, cl, bd, who, cm, wl⟩ := S
  try dsimp only at hn ⊢
  refine does_of Tryz.func62 rfl rfl Tryz.ntmps62 rfl eNUM (fun c => ?_)
  (refine go ?_; intro c2)
  (show wpO _ _ ⟨_, .call _, _, _, _, _⟩ _ _ _ _ _ _; refine o_callA (hn) (fun _ _ => ?_); try simp only [List.cons_append, List.nil_append])
  cases cm with
  | true =>
    (refine go ?_; intros)
    exact q_retAT (l1 := coC who) rfl rfl rfl rfl rfl rfl rfl pK () rfl trivial eNT
  | false =>
    (refine go ?_; intros)
    exact q_retAT (l1 := coC co0) rfl rfl rfl rfl rfl rfl rfl pK () rfl trivial eNT
theorem cn_will (cn : Nat) (S : CnS) : FnDoes Tryz.prog 63 [pt0 cn] [cnnI cn S] (fun _ : Unit => True) (fun _ => .tuple #[.agg (wilC (if S.wl then S.who else co0)).toArray, .bool S.wl]) (fun _ => [cnnI cn S]) := by
  have hn := cn_none cn S
  obtain ⟨ba, bv, f, fs, cl, bd, who, cm, wl⟩ := S
  try dsimp only at hn ⊢
  refine does_of Tryz.func63 rfl rfl Tryz.ntmps63 rfl eNUM (fun c => ?_)
  (refine go ?_; intro c2)
  (show wpO _ _ ⟨_, .call _, _, _, _, _⟩ _ _ _ _ _ _; refine o_callA (hn) (fun _ _ => ?_); try simp only [List.cons_append, List.nil_append])
  cases wl with
  | true =>
    (refine go ?_; intros)
    exact q_retAT (l1 := wilC who) rfl rfl rfl rfl rfl rfl rfl pK () rfl trivial eNT
  | false =>
    (refine go ?_; intros)
    exact q_retAT (l1 := wilC co0) rfl rfl rfl rfl rfl rfl rfl pK () rfl trivial eNT
theorem cn_forget (cn : Nat) (S : CnS) : FnDoes Tryz.prog 141 [pt0 cn] [cnnI cn S] (fun _ : Unit => True) (fun _ => .bool S.wl) (fun _ => [cnnI cn { S with wl := false }]) := by
  have hn := cn_will cn S
  obtain ⟨ba, bv, f, fs, cl, bd, who, cm, wl⟩ := S
  try dsimp only at hn ⊢
  refine does_of Tryz.func141 rfl rfl Tryz.ntmps141 rfl eNUM (fun c => ?_)
  cases wl with
  | true =>
    try simp only [if_true] at hn
    (refine go ?_; intros)
    (show wpO _ _ ⟨_, .call _, _, _, _, _⟩ _ _ _ _ _ _; refine o_callA (hn) (fun _ _ => ?_); try simp only [List.cons_append, List.nil_append])
    (refine go ?_; intros)
    refine o_storeS rfl rfl rfl rfl rfl pK (by simp) ?_
    (refine go ?_; intros)
    exact q_ret1 rfl rfl () rfl trivial eNT
  | false =>
    (refine go ?_; intros)
    (show wpO _ _ ⟨_, .call _, _, _, _, _⟩ _ _ _ _ _ _; refine o_callA (hn) (fun _ _ => ?_); try simp only [List.cons_append, List.nil_append])
    (refine go ?_; intros)
    exact q_ret1 rfl rfl () rfl trivial eNT
theorem cn_closed (cn : Nat) (S : CnS) : FnDoes Tryz.prog 29 [pt0 cn] [cnnI cn S] (fun _ : Unit => True) (fun _ => .bool S.cl) (fun _ => [cnnI cn S]) := by
  have hn := cn_none cn S
  obtain ⟨ba, bv, f, fs, cl, bd, who, cm, wl⟩ := S
  try dsimp only at hn ⊢
  refine does_of Tryz.func29 rfl rfl Tryz.ntmps29 rfl eNUM (fun c => ?_)
  (refine go ?_; intros)
  (show wpO _ _ ⟨_, .call _, _, _, _, _⟩ _ _ _ _ _ _; refine o_callA (hn) (fun _ _ => ?_); try simp only [List.cons_append, List.nil_append])
  (refine go ?_; intros)
  exact q_ret1 rfl rfl () rfl trivial eNT
theorem cn_close (cn : Nat) (S : CnS) (hc : S.cl = false) : FnDoes Tryz.prog 66 [pt0 cn] [cnnI cn S] (fun _ : Unit => True) (fun _ => .bool true) (fun _ => [cnnI cn { S with cl := true }]) := by
  have hn := cn_closed cn S
  obtain ⟨ba, bv, f, fs, cl, bd, who, cm, wl⟩ := S
  try dsimp only at hc hn ⊢
  subst hc
  refine does_of Tryz.func66 rfl rfl Tryz.ntmps66 rfl eNUM (fun c => ?_)
  (refine go ?_; intros)
  (show wpO _ _ ⟨_, .call _, _, _, _, _⟩ _ _ _ _ _ _; refine o_callA (hn) (fun _ _ => ?_); try simp only [List.cons_append, List.nil_append])
  (refine go ?_; intros)
  exact q_ret1 rfl rfl () rfl trivial eNT
set_option maxHeartbeats 1000000 in
theorem cn_accept (cn : Nat) (S : CnS) (cc : CoS) : FnDoes Tryz.prog 185 [pt0 cn, .agg (coC cc).toArray] [cnnI cn S] (fun _ : Unit => True) (fun _ => nat64 0) (fun _ => [cnnI cn { S with who := cc, cm := true, wl := cc.hw }]) := by
  have hn := cn_none cn S
  obtain ⟨ba, bv, f, fs, cl, bd, who, cm, wl⟩ := S
  try dsimp only at hn ⊢
  refine does_of Tryz.func185 rfl rfl Tryz.ntmps185 rfl eNUM (fun c => ?_)
  (refine go ?_; intro c3)
  (show wpO _ _ ⟨_, .call _, _, _, _, _⟩ _ _ _ _ _ _; refine o_callA (hn) (fun _ _ => ?_); try simp only [List.cons_append, List.nil_append])
  (refine go ?_; intros)
  refine wpC_drawnA [pts c3 (.cells (coC cc).toArray 28 (0, 0))] 14 ?_
  ((first | refine dt 0 ?_ | refine dts 0 ?_); (first | refine dt 1 ?_ | refine dts 1 ?_); (first | refine dt 2 ?_ | refine dts 2 ?_); (first | refine dt 3 ?_ | refine dts 3 ?_); (first | refine dt 4 ?_ | refine dts 4 ?_); (first | refine dt 5 ?_ | refine dts 5 ?_); (first | refine df 6 ?_ | refine dfs 6 ?_); (first | refine df 7 ?_ | refine dfs 7 ?_))
  (refine wpD_effU 8 rfl rfl (by decide +kernel) rfl ?_; show OUL _ ⟨_, .store _ _ _, _, _, _, _⟩ _ _ _ _ _)
  refine x_storeP (vs := coC cc) (by rfl) (by rfl) (by rfl) (by rfl) (by rfl) (by rfl) pK (by simp) rfl ⟨eNT, ?_⟩
  ((first | refine df 9 ?_ | refine dfs 9 ?_); (first | refine df 10 ?_ | refine dfs 10 ?_))
  (refine wpD_effU 11 rfl rfl (by decide +kernel) rfl ?_; show OUL _ ⟨_, .store _ _ _, _, _, _, _⟩ _ _ _ _ _)
  refine x_store (by rfl) (by rfl) (by rfl) (by rfl) (by rfl) pK (Upd1.of (by simp)) ⟨eNT, ?_⟩
  ((first | refine df 12 ?_ | refine dfs 12 ?_); (first | refine df 13 ?_ | refine dfs 13 ?_))
  (refine wpD_lastU rfl rfl (by kernel_rfl) (by kernel_rfl) rfl ?_; show OUL _ ⟨_, .store _ _ _, _, _, _, _⟩ _ _ _ _ _)
  refine x_store (by rfl) (by rfl) (by rfl) (by rfl) (by rfl) pK (Upd1.of (by simp)) ?_
  (refine go ?_; intros)
  exact q_ret1 rfl rfl () rfl trivial eNT
set_option maxHeartbeats 1000000 in
theorem cn_emit {G : Rg} (hM : mayG G) (kd : Nat) (hk : kd = 2 ∨ kd = 13) (cn : Nat) (S : CnS) (hc : S.cl = false) (ha : atOk cn S.ba) (o : List UInt8) (ho : o.length ≤ 1000) : FnDoes Tryz.prog 187 [pt0 cn, .agg (pkC kd co0).toArray] [cnnI cn S, bytI S.bv o, rgH G] (fun _ : Value => True) (fun _ => nat64 0)
    (fun v => [cnnI cn { S with ba := pt0 cn, bv := v }, bytI v (o ++ ansO kd), rgH G]) := by
  have hn := cn_none cn S
  have hw := bl_write cn S.ba S.bv (cnnT S) tCnn ha (by exact bld_cnn) o (txt (ansO kd)) (by rw [txt_size]; unfold ansO; split <;> (simp; omega))
  rw [txt_list] at hw
  obtain ⟨ba, bv, f, fs, cl, bd, who, cm, wl⟩ := S
  try dsimp only at hc hn hw ⊢
  subst hc
  refine does_of Tryz.func187 rfl rfl Tryz.ntmps187 rfl eNUM (fun c => ?_)
  rcases hk with rfl | rfl
  focus
    have hp := pk_put2 hM
    (refine go ?_; intros)
    (show wpO _ _ ⟨_, .call _, _, _, _, _⟩ _ _ _ _ _ _; refine o_callA (hn) (fun _ _ => ?_); try simp only [List.cons_append, List.nil_append])
    (refine go ?_; intros)
    (show wpO _ _ ⟨_, .call _, _, _, _, _⟩ _ _ _ _ _ _; refine o_callA (hp) (fun v _ => ?_); try simp only [List.cons_append, List.nil_append])
    refine wpE_fact (sl_one (v := v) (.tail .head)) (fun o3 => ?_)
    (refine go ?_; intros)
    refine wpC_drawnA [bytI v [32, 2, 0, 0]] 6 ?_
    ((first | refine dt 0 ?_ | refine dts 0 ?_); (first | refine dt 1 ?_ | refine dts 1 ?_); (first | refine dt 2 ?_ | refine dts 2 ?_); (first | refine dt 3 ?_ | refine dts 3 ?_); (first | refine df 4 ?_ | refine dfs 4 ?_))
    refine dfB 5 rfl (ev_str (l := [32, 2, 0, 0]) rfl rfl rfl rfl (Rd.ofSl (e := tU8)) pK) ?_
    (refine dlcall (hw) (fun v2 _ => ?_); try simp only [List.cons_append, List.nil_append])
    (refine go ?_; intros)
    exact q_ret1 rfl rfl v2 rfl trivial eNT
  focus
    have hp := pk_put13 hM
    (refine go ?_; intros)
    (show wpO _ _ ⟨_, .call _, _, _, _, _⟩ _ _ _ _ _ _; refine o_callA (hn) (fun _ _ => ?_); try simp only [List.cons_append, List.nil_append])
    (refine go ?_; intros)
    (show wpO _ _ ⟨_, .call _, _, _, _, _⟩ _ _ _ _ _ _; refine o_callA (hp) (fun v _ => ?_); try simp only [List.cons_append, List.nil_append])
    refine wpE_fact (sl_one (v := v) (.tail .head)) (fun o3 => ?_)
    (refine go ?_; intros)
    refine wpC_drawnA [bytI v [208, 0]] 6 ?_
    ((first | refine dt 0 ?_ | refine dts 0 ?_); (first | refine dt 1 ?_ | refine dts 1 ?_); (first | refine dt 2 ?_ | refine dts 2 ?_); (first | refine dt 3 ?_ | refine dts 3 ?_); (first | refine df 4 ?_ | refine dfs 4 ?_))
    refine dfB 5 rfl (ev_str (l := [208, 0]) rfl rfl rfl rfl (Rd.ofSl (e := tU8)) pK) ?_
    (refine dlcall (hw) (fun v2 _ => ?_); try simp only [List.cons_append, List.nil_append])
    (refine go ?_; intros)
    exact q_ret1 rfl rfl v2 rfl trivial eNT
end Go.Proofs.YtnaabpfpldelmaaGreatDoor
