/-
  The broker: an event.
  The broker: what is seen of it.
  Runes of a text, byte by byte: the plain law of the document's step.
-/
import Derived.Test.YtnaabpfpldelmaaGreatDoorM37
import Derived.Lib.DecodeN
import Derived.Laws.Strings
import Derived.Test.YtnaabpfpldelmaaGreatDoorM08
set_option linter.unusedSimpArgs false
set_option linter.unusedVariables false
namespace Go.Sx
open Go Go.Conc
theorem FnDoes.toStar {P : Program} {σ : Type} {f : FuncId} {args : List Value} {X : HProp} {A : List HProp} {φ : σ → Prop} {val : σ → Value} {B : σ → List HProp} (h : FnDoes P f args (X :: A) φ val B) : FnDoes P f args [X, starI A] φ val B := h.turn (Ent.cons .head Ent.star1) (fun y hy => ⟨y, hy, rfl, Ent.refl _⟩)
theorem FnDoes.ofStar {P : Program} {σ : Type} {f : FuncId} {args : List Value} {X : HProp} {A : List HProp} {φ : σ → Prop} {val : σ → Value} {B : σ → List HProp} (h : FnDoes P f args [X, starI A] φ val B) : FnDoes P f args (X :: A) φ val B := h.turn (Ent.cons .head Ent.unstar1) (fun y hy => ⟨y, hy, rfl, Ent.refl _⟩)
end Go.Sx
set_option maxRecDepth 20000
namespace Go.Proofs.YtnaabpfpldelmaaGreatDoor
open Go Go.Sx
abbrev evC (k at_ n : Nat) (s : ByteArray) : List Value := [nat64 k, nat64 at_, nat64 n, .string s]
structure N6S where
  G : Rg
  a : AccS
  v : Value
  Z : NsS
  fa : Option Addr
  fc : Nat
attribute [local irreducible] MidQ wpE wpO wpC qE wpQ wpQO wpH wpHO wpD wpDO wpZ Ev own emp exI sl ch PostS LoopQ Rd rowsAt
set_option maxHeartbeats 2000000 in
theorem br_next6 {G : Rg} (E : EnvB G) (b cn0' cn : Nat) (S : BrS) (h0 : S.c0 = pt0 cn0') (hs0 : S.s0 = 0) (h1 : S.c1 = pt0 cn) (hk1 : S.k1 = 1) (hs1 : S.s1 = -1) (hl : S.lg = sn0) (hka : S.ak = sn0) (hrt : S.rt = 0) (C0 : CnS) (hc0 : C0.cl = false) (hcm : C0.cm = true) (hwt : C0.wl = true) (hid0 : C0.who.id = naA) (hx : C0.who.wx.size ≤ 1000000) (htt : C0.who.wt.size ≤ 65536) (o : DuS) (Z : NsS)
    (C : CnS) (hC : NewC C cn) (k : Nat) (hk : k ≤ 1000) (v : Value) (l : List UInt8) (m kk : Nat) (body : List UInt8) (hp : PktAt l 1 m kk body) (ob : List UInt8) (hob : ob.length ≤ 1000)
    (hz : (ofZ body).e = 0) (hlv : (coOf body).lv = 4) (hid : (coOf body).id = naA) (hcl : (coOf body).cl = true) (hw : (coOf body).hw = false) (hkp : (coOf body).kp = 0) :
    FnDoes Tryz.prog 47 [pt0 b, nat64 1] [brI b S, cnnI cn C, frmI C.f v k, bytI v l, bytI C.bv ob, cnnI cn0' C0, dueI S.du o, ssI S.ss (pt0 Z.s) true, nssI Z false true, trI S.tr, nvI S.ke S.sp, rgH G] (fun y : N6S => EnvB y.G ∧ grG G y.G) (fun _ => nat64 0)
      (fun y => [brI b (slS (accB (outS S) y.a) 1), cnnI cn0' { C0 with cl := true }, logI y.a.v 1 (entE S.ck C0.who.id true C0.who), cnnI cn (acC { C with fs := false } cn y.v (coOf body)), bytI y.v (ob ++ ansN), rgH y.G]) := by
  obtain ⟨c1, c2, c3, c4, c5, c6⟩ := hC
  have hnx := cn_next cn k 1 (coOf body) C c3 c2 v l (fun e => decide (e ≠ 0)) _ (cn_take1 E.ok E.m E.v cn k hk C c1 v l m kk body hp)
  have hco := br_conn1 E b cn0' cn S h0 hs0 h1 hs1 hl hka hrt C0 hc0 hcm hwt hid0 hx htt o Z { C with fs := false, bd := 0 } c2 c6 ob hob (coOf body) hlv hid hcl
  have hre := fun (a : AccS) vv => br_renC b cn (slS (accB (outS S) a) 1) h1 hk1 (acC { C with fs := false, bd := 0 } cn vv (coOf body)) rfl hkp
  dsimp only [tkO] at hco
  obtain ⟨ba, bv, f, fs, cl, bd, who, cm, wl⟩ := C
  obtain ⟨x0, k0, s0, x1, k1, s1, lk, ss, tr, ke, du, sp, ck, lg, ak, rt⟩ := S
  try dsimp only at h0 h1 hk1 hs0 hs1 c1 c2 c3 c4 c5 c6 hnx hco hre ⊢
  subst h0 h1 hk1 hs0 hs1 c1 c2 c3 c4 c5
  refine does_ofM Tryz.func47 rfl rfl Tryz.ntmps47 rfl eNUM (fun c hrnd hds => ?_)
  (refine go ?_; intros)
  (show wpO _ _ ⟨_, .call _, _, _, _, _⟩ _ _ _ _ _ _; refine o_callA (hnx) (fun ⟨a, cap, e⟩ hy => ?_); try simp only [List.cons_append, List.nil_append])
  obtain ⟨hy1, hy2⟩ := hy
  try dsimp only at hy1 hy2 ⊢
  obtain rfl : e = 0 := hy2 hz hw
  rw [tkV_ok]
  (refine go ?_; intro c6)
  refine o_defer hrnd rfl rfl ?_
  (refine go ?_; intros)
  (show wpO _ _ ⟨_, .call _, _, _, _, _⟩ _ _ _ _ _ _; refine o_callA (br_server1 b) (fun _ _ => ?_); try simp only [List.cons_append, List.nil_append])
  (refine go ?_; intros)
  refine o_callB (bd := [pt0 b]) (args := [nat64 1, .agg (pkC 1 (coOf body)).toArray]) (fr := []) hco (fun y hy => ?_)
  obtain ⟨G1, aa, vv, Y⟩ := y
  try dsimp only at hy ⊢
  simp only [List.cons_append, List.nil_append]
  (refine go ?_; intros)
  refine qm_defer (hre aa vv) (Picks.ent pKS) (.inl rfl) (fun _ _ => ?_)
  simp only [List.cons_append, List.nil_append]
  exact qm_ret0 hds (.inl rfl) (q_ret1 rfl rfl (⟨G1, aa, vv, Y, a, cap⟩ : N6S) rfl hy eNT)
set_option maxHeartbeats 1000000 in
theorem br_onS {σ : Type} (b at_ cn n : Nat) (s : ByteArray) (S : BrS) (hat : AtC S at_ cn) {A : List HProp} {φ : σ → Prop} {val : σ → Value} {B : σ → List HProp} (hn : FnDoes Tryz.prog 47 [pt0 b, nat64 at_] (brI b S :: A) φ val B) :
    FnDoes Tryz.prog 24 [pt0 b, .agg (evC 4 at_ n s).toArray] (brI b S :: A) φ val B := by
  refine FnDoes.ofStar ?_
  have hn' := hn.toStar
  obtain ⟨c0, k0, s0, c1, k1, s1, lk, ss, tr, ke, du, sp, ck, lg, ak, rt⟩ := S
  refine does_of Tryz.func24 rfl rfl Tryz.ntmps24 rfl eNUM (fun c => ?_)
  rcases hat with ⟨rfl, h⟩ | ⟨rfl, h⟩
  · try dsimp only at h
    subst h
    (refine go ?_; intro c3)
    refine wpC_drawnA [brI b ⟨pt0 cn, k0, s0, c1, k1, s1, lk, ss, tr, ke, du, sp, ck, lg, ak, rt⟩, pts c3 (.cells (evC 4 0 n s).toArray 39 (0, 0))] 8 ?_
    ((first | refine dt 0 ?_ | refine dts 0 ?_); (first | refine dt 1 ?_ | refine dts 1 ?_); (first | refine dt 2 ?_ | refine dts 2 ?_); (first | refine df 3 ?_ | refine dfs 3 ?_); (first | refine df 4 ?_ | refine dfs 4 ?_); (first | refine df 5 ?_ | refine dfs 5 ?_); (first | refine df 6 ?_ | refine dfs 6 ?_); (first | refine df 7 ?_ | refine dfs 7 ?_); refine dl ?_)
    (refine go ?_; intros)
    (show wpO _ _ ⟨_, .call _, _, _, _, _⟩ _ _ _ _ _ _; refine o_callA (hn') (fun y hy => ?_); try simp only [List.cons_append, List.nil_append])
    (refine go ?_; intros)
    exact q_ret1 rfl rfl y rfl hy (Ent.left _ _)
  · try dsimp only at h
    subst h
    (refine go ?_; intro c3)
    refine wpC_drawnA [brI b ⟨c0, k0, s0, pt0 cn, k1, s1, lk, ss, tr, ke, du, sp, ck, lg, ak, rt⟩, pts c3 (.cells (evC 4 1 n s).toArray 39 (0, 0))] 8 ?_
    ((first | refine dt 0 ?_ | refine dts 0 ?_); (first | refine dt 1 ?_ | refine dts 1 ?_); (first | refine dt 2 ?_ | refine dts 2 ?_); (first | refine df 3 ?_ | refine dfs 3 ?_); (first | refine df 4 ?_ | refine dfs 4 ?_); (first | refine df 5 ?_ | refine dfs 5 ?_); (first | refine df 6 ?_ | refine dfs 6 ?_); (first | refine df 7 ?_ | refine dfs 7 ?_); refine dl ?_)
    (refine go ?_; intros)
    (show wpO _ _ ⟨_, .call _, _, _, _, _⟩ _ _ _ _ _ _; refine o_callA (hn') (fun y hy => ?_); try simp only [List.cons_append, List.nil_append])
    (refine go ?_; intros)
    exact q_ret1 rfl rfl y rfl hy (Ent.left _ _)
set_option maxHeartbeats 1000000 in
theorem br_onC {σ : Type} (b cn n : Nat) (s : ByteArray) (S : BrS) (h : S.c0 = pt0 cn) {A : List HProp} {φ : σ → Prop} {B : σ → List HProp} (hn : FnDoes Tryz.prog 44 [pt0 b, nat64 0, .bool true] (brI b S :: A) φ (fun _ => .tuple #[]) B) :
    FnDoes Tryz.prog 24 [pt0 b, .agg (evC 2 0 n s).toArray] (brI b S :: A) φ (fun _ => nat64 0) B := by
  refine FnDoes.ofStar ?_
  have hn' := hn.toStar
  obtain ⟨c0, k0, s0, c1, k1, s1, lk, ss, tr, ke, du, sp, ck, lg, ak, rt⟩ := S
  refine does_of Tryz.func24 rfl rfl Tryz.ntmps24 rfl eNUM (fun c => ?_)
  try dsimp only at h
  subst h
  (refine go ?_; intro c3)
  refine wpC_drawnA [brI b ⟨pt0 cn, k0, s0, c1, k1, s1, lk, ss, tr, ke, du, sp, ck, lg, ak, rt⟩, pts c3 (.cells (evC 2 0 n s).toArray 39 (0, 0))] 8 ?_
  ((first | refine dt 0 ?_ | refine dts 0 ?_); (first | refine dt 1 ?_ | refine dts 1 ?_); (first | refine dt 2 ?_ | refine dts 2 ?_); (first | refine df 3 ?_ | refine dfs 3 ?_); (first | refine df 4 ?_ | refine dfs 4 ?_); (first | refine df 5 ?_ | refine dfs 5 ?_); (first | refine df 6 ?_ | refine dfs 6 ?_); (first | refine df 7 ?_ | refine dfs 7 ?_); refine dl ?_)
  (refine go ?_; intros)
  (show wpO _ _ ⟨_, .call _, _, _, _, _⟩ _ _ _ _ _ _; refine o_callA (hn') (fun y hy => ?_); try simp only [List.cons_append, List.nil_append])
  (refine go ?_; intros)
  exact q_ret1 rfl rfl y rfl hy (Ent.left _ _)
set_option maxHeartbeats 1000000 in
theorem br_onB (b at_ cn n k cap : Nat) (a : Option Addr) (s : ByteArray) (h0 : 0 < s.size) (hs : s.size ≤ 1000000) (S : BrS) (hat : AtC S at_ cn) (C : CnS) (hc : C.cl = false) :
    FnDoes Tryz.prog 24 [pt0 b, .agg (evC 1 at_ n s).toArray] [brI b S, cnnI cn C, frmI C.f (.slice a 0 cap) k] (fun _ : Value => True) (fun _ => nat64 0) (fun v => [brI b S, cnnI cn C, frmI C.f v k, bytI v s.data.toList]) := by
  have hf := cn_feed cn k cap a C hc s h0 hs
  obtain ⟨c0, k0, s0, c1, k1, s1, lk, ss, tr, ke, du, sp, ck, lg, ak, rt⟩ := S
  refine does_of Tryz.func24 rfl rfl Tryz.ntmps24 rfl eNUM (fun c => ?_)
  rcases hat with ⟨rfl, h⟩ | ⟨rfl, h⟩
  · try dsimp only at h
    subst h
    (refine go ?_; intro c3)
    refine wpC_drawnA [brI b ⟨pt0 cn, k0, s0, c1, k1, s1, lk, ss, tr, ke, du, sp, ck, lg, ak, rt⟩, pts c3 (.cells (evC 1 0 n s).toArray 39 (0, 0))] 8 ?_
    ((first | refine dt 0 ?_ | refine dts 0 ?_); (first | refine dt 1 ?_ | refine dts 1 ?_); (first | refine dt 2 ?_ | refine dts 2 ?_); (first | refine df 3 ?_ | refine dfs 3 ?_); (first | refine df 4 ?_ | refine dfs 4 ?_); (first | refine df 5 ?_ | refine dfs 5 ?_); (first | refine df 6 ?_ | refine dfs 6 ?_); (first | refine df 7 ?_ | refine dfs 7 ?_); refine dl ?_)
    (refine go ?_; intros)
    (show wpO _ _ ⟨_, .call _, _, _, _, _⟩ _ _ _ _ _ _; refine o_callA (hf) (fun v _ => ?_); try simp only [List.cons_append, List.nil_append])
    (refine go ?_; intros)
    exact q_ret1 rfl rfl v rfl trivial eNT
  · try dsimp only at h
    subst h
    (refine go ?_; intro c3)
    refine wpC_drawnA [brI b ⟨c0, k0, s0, pt0 cn, k1, s1, lk, ss, tr, ke, du, sp, ck, lg, ak, rt⟩, pts c3 (.cells (evC 1 1 n s).toArray 39 (0, 0))] 8 ?_
    ((first | refine dt 0 ?_ | refine dts 0 ?_); (first | refine dt 1 ?_ | refine dts 1 ?_); (first | refine dt 2 ?_ | refine dts 2 ?_); (first | refine df 3 ?_ | refine dfs 3 ?_); (first | refine df 4 ?_ | refine dfs 4 ?_); (first | refine df 5 ?_ | refine dfs 5 ?_); (first | refine df 6 ?_ | refine dfs 6 ?_); (first | refine df 7 ?_ | refine dfs 7 ?_); refine dl ?_)
    (refine go ?_; intros)
    (show wpO _ _ ⟨_, .call _, _, _, _, _⟩ _ _ _ _ _ _; refine o_callA (hf) (fun v _ => ?_); try simp only [List.cons_append, List.nil_append])
    (refine go ?_; intros)
    exact q_ret1 rfl rfl v rfl trivial eNT
set_option maxHeartbeats 1000000 in
theorem br_doOn {σ : Type} (b kd at_ n : Nat) (hk : kd = 1 ∨ kd = 2 ∨ kd = 4) (hat : at_ ≤ 1) (s : ByteArray) (S : BrS) {A : List HProp} {φ : σ → Prop} {val : σ → Value} {B : σ → List HProp} (hn : FnDoes Tryz.prog 24 [pt0 b, .agg (evC kd at_ n s).toArray] (brI b S :: A) φ val B) :
    FnDoes Tryz.prog 6 [pt0 b, .agg (evC kd at_ n s).toArray] (brI b S :: A) φ val B := by
  refine FnDoes.ofStar ?_
  have hn' := hn.toStar
  have h0 := br_none b S
  refine does_of Tryz.func6 rfl rfl Tryz.ntmps6 rfl eNUM (fun c => ?_)
  rcases hk with rfl | rfl | rfl
  all_goals
    (refine go ?_; intro c3)
    (show wpO _ _ ⟨_, .call _, _, _, _, _⟩ _ _ _ _ _ _; refine o_callA (h0) (fun _ _ => ?_); try simp only [List.cons_append, List.nil_append])
    (refine go ?_; intros)
    (show wpO _ _ ⟨_, .call _, _, _, _, _⟩ _ _ _ _ _ _; refine o_callA (hn') (fun y hy => ?_); try simp only [List.cons_append, List.nil_append])
    (refine go ?_; intros)
    exact q_ret1 rfl rfl y rfl hy (Ent.left _ _)
set_option maxHeartbeats 1000000 in
theorem br_doT {σ : Type} (b at_ n : Nat) (s : ByteArray) (S : BrS) {A : List HProp} {φ : σ → Prop} {val : σ → Value} {B : σ → List HProp} (hn : FnDoes Tryz.prog 22 [pt0 b, nat64 n] (brI b S :: A) φ val B) :
    FnDoes Tryz.prog 6 [pt0 b, .agg (evC 3 at_ n s).toArray] (brI b S :: A) φ val B := by
  refine FnDoes.ofStar ?_
  have hn' := hn.toStar
  have h0 := br_none b S
  refine does_of Tryz.func6 rfl rfl Tryz.ntmps6 rfl eNUM (fun c => ?_)
  (refine go ?_; intro c3)
  (show wpO _ _ ⟨_, .call _, _, _, _, _⟩ _ _ _ _ _ _; refine o_callA (h0) (fun _ _ => ?_); try simp only [List.cons_append, List.nil_append])
  (refine go ?_; intros)
  (show wpO _ _ ⟨_, .call _, _, _, _, _⟩ _ _ _ _ _ _; refine o_callA (hn') (fun y hy => ?_); try simp only [List.cons_append, List.nil_append])
  (refine go ?_; intros)
  exact q_ret1 rfl rfl y rfl hy (Ent.left _ _)
set_option maxHeartbeats 1000000 in
theorem br_doO {σ : Type} (b at_ n : Nat) (hat : at_ ≤ 1) (s : ByteArray) (S : BrS) {A : List HProp} {φ : σ → Prop} {val : σ → Value} {B : σ → List HProp} (hn : FnDoes Tryz.prog 23 [pt0 b, nat64 at_] (brI b S :: A) φ val B) :
    FnDoes Tryz.prog 6 [pt0 b, .agg (evC 0 at_ n s).toArray] (brI b S :: A) φ val B := by
  refine FnDoes.ofStar ?_
  have hn' := hn.toStar
  have h0 := br_none b S
  refine does_of Tryz.func6 rfl rfl Tryz.ntmps6 rfl eNUM (fun c => ?_)
  (refine go ?_; intro c3)
  (show wpO _ _ ⟨_, .call _, _, _, _, _⟩ _ _ _ _ _ _; refine o_callA (h0) (fun _ _ => ?_); try simp only [List.cons_append, List.nil_append])
  (refine go ?_; intros)
  (show wpO _ _ ⟨_, .call _, _, _, _, _⟩ _ _ _ _ _ _; refine o_callA (hn') (fun y hy => ?_); try simp only [List.cons_append, List.nil_append])
  (refine go ?_; intros)
  exact q_ret1 rfl rfl y rfl hy (Ent.left _ _)
end Go.Proofs.YtnaabpfpldelmaaGreatDoor
set_option linter.unusedSimpArgs false
set_option linter.unusedVariables false
set_option maxRecDepth 20000
namespace Go.Proofs.YtnaabpfpldelmaaGreatDoor
open Go Go.Sx
abbrev tAl : TypeId := 45
abbrev alI (v : Value) (n : Nat) (xs : List Value) : HProp := sl tAl 3 v n xs
abbrev outI (v : Value) (o : List UInt8) : HProp := frI tU8 v o
attribute [local irreducible] MidQ wpE wpO wpC qE wpQ wpQO wpH wpHO wpD wpDO wpZ Ev own emp exI sl ch PostS LoopQ Rd rowsAt
theorem cn_out (cn : Nat) (C : CnS) (o : List UInt8) (ho : o.length ≤ 100000) : FnDoes Tryz.prog 28 [pt0 cn] [cnnI cn C, outI C.bv o] (fun _ : Unit => True) (fun _ => .string (txt o)) (fun _ => [cnnI cn C, outI C.bv o]) := by
  have hn := cn_none cn C
  have hs := bl_string cn C.ba C.bv (cnnT C) tCnn o (by omega)
  refine does_of Tryz.func28 rfl rfl Tryz.ntmps28 rfl eNUM (fun c => ?_)
  (refine go ?_; intros)
  (show wpO _ _ ⟨_, .call _, _, _, _, _⟩ _ _ _ _ _ _; refine o_callA (hn) (fun _ _ => ?_); try simp only [List.cons_append, List.nil_append])
  (refine go ?_; intros)
  (show wpO _ _ ⟨_, .call _, _, _, _, _⟩ _ _ _ _ _ _; refine o_callA (hs) (fun _ _ => ?_); try simp only [List.cons_append, List.nil_append])
  (refine go ?_; intros)
  exact q_ret1 rfl rfl () rfl trivial eNT
set_option maxHeartbeats 2000000 in
theorem br_links1 (b cn : Nat) (S : BrS) (C : CnS) (o : List UInt8) (ho : o.length ≤ 100000) : FnDoes Tryz.prog 9 [pt0 b] [brI b S, lnkI S.lk 1 [nat64 0, pt0 cn], cnnI cn C, outI C.bv o] (fun _ : Value => True) (fun v => v) (fun v => [brI b S, lnkI S.lk 1 [nat64 0, pt0 cn], cnnI cn C, outI C.bv o, alI v 1 [nat64 0, .string (txt o), .bool C.cl]]) := by
  have hn := br_none b S
  have hou := cn_out cn C o ho
  have hcl := cn_closed cn C
  refine does_of Tryz.func9 rfl rfl Tryz.ntmps9 rfl eNUM (fun c => ?_)
  refine wpC_sl (v := S.lk) pK (fun _ h _ => by omega) (fun bl cap junk e q1 q2 q3 => ?_)
  (refine go ?_; intros)
  (show wpO _ _ ⟨_, .call _, _, _, _, _⟩ _ _ _ _ _ _; refine o_callA (hn) (fun _ _ => ?_); try simp only [List.cons_append, List.nil_append])
  (refine go ?_; intros)
  rw [e]
  (refine go ?_; intros)
  refine wpC_loop (σ := Nat × Value) (fun s => s.1 ≤ 1 ∧ (s.1 = 0 → s.2 = sn0)) (fun s => [(3, s.2), (11, .slice (some ⟨bl, 0, none⟩) 1 cap), (12, nat64 1), (13, nat64 s.1)]) (fun s => [brI b S, pts bl (.cells ([nat64 0, pt0 cn] ++ junk).toArray tLnk (0, 0)), cnnI cn C, outI C.bv o, alI s.2 s.1 (match s.1 with | 0 => [] | _ => [nat64 0, .string (txt o), .bool C.cl])]) (fun s => 1 - s.1) (0, sn0) ⟨Nat.zero_le _, fun _ => rfl⟩ sUB (Ent.cons pK (Ent.cons pK (Ent.cons pK (Ent.cons pK (Ent.slNil Ent.nil))))) (fun s hs => ?_)
  obtain ⟨i, w⟩ := s
  obtain ⟨hi, hw0⟩ := hs
  try dsimp only at hi hw0
  rcases (show i = 0 ∨ i = 1 by omega) with rfl | rfl
  · obtain rfl := hw0 rfl
    dsimp only
    (refine go ?_; intro c5)
    refine wpC_drawnA [pts c5 (.cells [nat64 0, pt0 cn].toArray tLnk (0, 0))] 12 ?_
    ((first | refine dt 0 ?_ | refine dts 0 ?_); (first | refine dt 1 ?_ | refine dts 1 ?_); (first | refine dt 2 ?_ | refine dts 2 ?_); (first | refine dt 3 ?_ | refine dts 3 ?_); (first | refine dt 4 ?_ | refine dts 4 ?_); (first | refine dt 6 ?_ | refine dts 6 ?_); (first | refine dt 7 ?_ | refine dts 7 ?_))
    refine dcall 5 hou (fun _ _ => ?_)
    simp only [List.cons_append, List.nil_append]
    refine dcall 8 hcl (fun _ _ => ?_)
    simp only [List.cons_append, List.nil_append]
    ((first | refine df 9 ?_ | refine dfs 9 ?_))
    (refine wpD_eff 10 rfl rfl (by kernel_rfl) rfl rfl ?_; show OVL _ ⟨_, .buildSlice _ _ _, _, _, _, _⟩ _ _ _ _ _ _)
    refine x_buildSlice1 (by rfl) (by rfl) (by rfl) (by rfl) (by rfl) (by rfl) (by rfl) (by rfl) (fun bb => ⟨eNT, ?_⟩)
    (refine wpD_eff 11 rfl rfl (by kernel_rfl) rfl rfl ?_; show OVL _ ⟨_, .call { callee := .builtin .append, args := _, argTypes := _ }, _, _, _, _⟩ _ _ _ _ _ _)
    refine x_append (m := 1) (news := [nat64 0, .string (txt o), .bool C.cl]) (sz := 3) (by rfl) (by rfl) (by rfl) (by rfl) (by rfl) (by rfl) (by rfl) (by rfl) pK (src_pts rfl pK rfl rfl rfl) (by decide +kernel) (fun v' => ⟨eNT, ?_⟩)
    (refine dl ?_)
    (refine go ?_; intros)
    exact q_round (1, v') ⟨show (1 : Nat) ≤ 1 by decide, fun h => by cases h⟩ (show (0 : Nat) < 1 by decide) sUB (by dsimp only; ((try simp only [List.cons_append, List.nil_append]); repeat (first | exact Ent.nil | (apply Ent.cons; repeat (first | exact Pick.head | apply Pick.tail)))))
  · dsimp only
    (refine go ?_; intros)
    refine q_ret1 rfl rfl w rfl trivial ?_
    exact Ent.cons pK (Ent.slClose (xs := [nat64 0, pt0 cn]) (junk := junk) pK rfl rfl q1 q2 q3 eNT)
set_option maxHeartbeats 4000000 in
theorem br_links2 (b cn cn' : Nat) (S : BrS) (C C' : CnS) (o o' : List UInt8) (ho : o.length ≤ 100000) (ho' : o'.length ≤ 100000) : FnDoes Tryz.prog 9 [pt0 b] [brI b S, lnkI S.lk 2 [nat64 0, pt0 cn, nat64 1, pt0 cn'], cnnI cn C, outI C.bv o, cnnI cn' C', outI C'.bv o'] (fun _ : Value => True) (fun v => v) (fun v => [brI b S, alI v 2 [nat64 0, .string (txt o), .bool C.cl, nat64 1, .string (txt o'), .bool C'.cl]]) := by
  have hn := br_none b S
  have hou := cn_out cn C o ho
  have hcl := cn_closed cn C
  have hou' := cn_out cn' C' o' ho'
  have hcl' := cn_closed cn' C'
  refine does_of Tryz.func9 rfl rfl Tryz.ntmps9 rfl eNUM (fun c => ?_)
  refine wpC_sl (v := S.lk) pK (fun _ h _ => by omega) (fun bl cap junk e q1 q2 q3 => ?_)
  (refine go ?_; intros)
  (show wpO _ _ ⟨_, .call _, _, _, _, _⟩ _ _ _ _ _ _; refine o_callA (hn) (fun _ _ => ?_); try simp only [List.cons_append, List.nil_append])
  (refine go ?_; intros)
  rw [e]
  (refine go ?_; intros)
  refine wpC_loop (σ := Nat × Value) (fun s => s.1 ≤ 2 ∧ (s.1 = 0 → s.2 = sn0)) (fun s => [(3, s.2), (11, .slice (some ⟨bl, 0, none⟩) 2 cap), (12, nat64 2), (13, nat64 s.1)]) (fun s => [brI b S, pts bl (.cells ([nat64 0, pt0 cn, nat64 1, pt0 cn'] ++ junk).toArray tLnk (0, 0)), cnnI cn C, outI C.bv o, cnnI cn' C', outI C'.bv o', alI s.2 s.1 (match s.1 with | 0 => [] | 1 => [nat64 0, .string (txt o), .bool C.cl] | _ => [nat64 0, .string (txt o), .bool C.cl, nat64 1, .string (txt o'), .bool C'.cl])]) (fun s => 2 - s.1) (0, sn0) ⟨Nat.zero_le _, fun _ => rfl⟩ sUB (Ent.cons pK (Ent.cons pK (Ent.cons pK (Ent.cons pK (Ent.cons pK (Ent.cons pK (Ent.slNil Ent.nil))))))) (fun s hs => ?_)
  obtain ⟨i, w⟩ := s
  obtain ⟨hi, hw0⟩ := hs
  try dsimp only at hi hw0
  rcases (show i = 0 ∨ i = 1 ∨ i = 2 by omega) with rfl | rfl | rfl
  · obtain rfl := hw0 rfl
    dsimp only
    (refine go ?_; intro c5)
    refine wpC_drawnA [pts c5 (.cells [nat64 0, pt0 cn].toArray tLnk (0, 0))] 12 ?_
    ((first | refine dt 0 ?_ | refine dts 0 ?_); (first | refine dt 1 ?_ | refine dts 1 ?_); (first | refine dt 2 ?_ | refine dts 2 ?_); (first | refine dt 3 ?_ | refine dts 3 ?_); (first | refine dt 4 ?_ | refine dts 4 ?_); (first | refine dt 6 ?_ | refine dts 6 ?_); (first | refine dt 7 ?_ | refine dts 7 ?_))
    refine dcall 5 hou (fun _ _ => ?_)
    simp only [List.cons_append, List.nil_append]
    refine dcall 8 hcl (fun _ _ => ?_)
    simp only [List.cons_append, List.nil_append]
    ((first | refine df 9 ?_ | refine dfs 9 ?_))
    (refine wpD_eff 10 rfl rfl (by kernel_rfl) rfl rfl ?_; show OVL _ ⟨_, .buildSlice _ _ _, _, _, _, _⟩ _ _ _ _ _ _)
    refine x_buildSlice1 (by rfl) (by rfl) (by rfl) (by rfl) (by rfl) (by rfl) (by rfl) (by rfl) (fun bb => ⟨eNT, ?_⟩)
    (refine wpD_eff 11 rfl rfl (by kernel_rfl) rfl rfl ?_; show OVL _ ⟨_, .call { callee := .builtin .append, args := _, argTypes := _ }, _, _, _, _⟩ _ _ _ _ _ _)
    refine x_append (m := 1) (news := [nat64 0, .string (txt o), .bool C.cl]) (sz := 3) (by rfl) (by rfl) (by rfl) (by rfl) (by rfl) (by rfl) (by rfl) (by rfl) pK (src_pts rfl pK rfl rfl rfl) (by decide +kernel) (fun v' => ⟨eNT, ?_⟩)
    (refine dl ?_)
    (refine go ?_; intros)
    exact q_round (1, v') ⟨show (1 : Nat) ≤ 2 by decide, fun h => by cases h⟩ (show (1 : Nat) < 2 by decide) sUB (by dsimp only; ((try simp only [List.cons_append, List.nil_append]); repeat (first | exact Ent.nil | (apply Ent.cons; repeat (first | exact Pick.head | apply Pick.tail)))))
  · dsimp only
    (refine go ?_; intro c5)
    refine wpC_drawnA [pts c5 (.cells [nat64 1, pt0 cn'].toArray tLnk (0, 0))] 12 ?_
    ((first | refine dt 0 ?_ | refine dts 0 ?_); (first | refine dt 1 ?_ | refine dts 1 ?_); (first | refine dt 2 ?_ | refine dts 2 ?_); (first | refine dt 3 ?_ | refine dts 3 ?_); (first | refine dt 4 ?_ | refine dts 4 ?_); (first | refine dt 6 ?_ | refine dts 6 ?_); (first | refine dt 7 ?_ | refine dts 7 ?_))
    refine dcall 5 hou' (fun _ _ => ?_)
    simp only [List.cons_append, List.nil_append]
    refine dcall 8 hcl' (fun _ _ => ?_)
    simp only [List.cons_append, List.nil_append]
    ((first | refine df 9 ?_ | refine dfs 9 ?_))
    (refine wpD_eff 10 rfl rfl (by kernel_rfl) rfl rfl ?_; show OVL _ ⟨_, .buildSlice _ _ _, _, _, _, _⟩ _ _ _ _ _ _)
    refine x_buildSlice1 (by rfl) (by rfl) (by rfl) (by rfl) (by rfl) (by rfl) (by rfl) (by rfl) (fun bb => ⟨eNT, ?_⟩)
    (refine wpD_eff 11 rfl rfl (by kernel_rfl) rfl rfl ?_; show OVL _ ⟨_, .call { callee := .builtin .append, args := _, argTypes := _ }, _, _, _, _⟩ _ _ _ _ _ _)
    refine x_append (m := 1) (news := [nat64 1, .string (txt o'), .bool C'.cl]) (sz := 3) (by rfl) (by rfl) (by rfl) (by rfl) (by rfl) (by rfl) (by rfl) (by rfl) pK (src_pts rfl pK rfl rfl rfl) (by decide +kernel) (fun v' => ⟨eNT, ?_⟩)
    (refine dl ?_)
    (refine go ?_; intros)
    exact q_round (2, v') ⟨show (2 : Nat) ≤ 2 by decide, fun h => by cases h⟩ (show (0 : Nat) < 1 by decide) sUB (by dsimp only; ((try simp only [List.cons_append, List.nil_append]); repeat (first | exact Ent.nil | (apply Ent.cons; repeat (first | exact Pick.head | apply Pick.tail)))))
  · dsimp only
    (refine go ?_; intros)
    exact q_ret1 rfl rfl w rfl trivial eNT
theorem ce_nil : FnDoes Tryz.prog 30 [sn0] [] (fun _ : Unit => True) (fun _ => sn0) (fun _ => []) := by
  refine does_of Tryz.func30 rfl rfl Tryz.ntmps30 rfl eNUM (fun c => ?_)
  (refine go ?_; intros)
  exact q_ret1 rfl rfl () rfl trivial eNT
theorem ce_one (v : Value) (xs : List Value) (h1 : xs.length = 1 * 7) (h2 : xs.all (·.oneCell') = true) : FnDoes Tryz.prog 30 [v] [logI v 1 xs] (fun _ : Value => True) (fun w => w) (fun w => [logI v 1 xs, logI w 1 xs]) := by
  refine does_of Tryz.func30 rfl rfl Tryz.ntmps30 rfl eNUM (fun c => ?_)
  refine wpC_sl .head (fun _ h _ => by omega) (fun bl cap junk e q1 q2 q3 => ?_)
  subst e
  (refine go ?_; intros)
  refine o_ofX rfl rfl ?_
  refine x_appendZ (m := 1) (news := xs) (sz := 7) (by rfl) (by rfl) (by rfl) (by rfl) (by rfl) (by rfl) (by rfl) (by rfl) (fun w s => src_sl (e := tEnt) rfl .head w (HSt.ent (Ent.slClose (xs := xs) (junk := junk) pK h1 h2 q1 q2 q3 (Ent.refl _)) s)) (by decide) (by decide +kernel) (fun w => ?_)
  refine wpE_fact (sl_one (v := w) .head) (fun o3 => ?_)
  (refine go ?_; intros)
  exact q_ret1 rfl rfl w rfl trivial (Ent.slClose (xs := xs) (junk := junk) pK h1 h2 q1 q2 q3 eNT)
theorem br_log0 (b : Nat) (S : BrS) (hl : S.lg = sn0) : FnDoes Tryz.prog 12 [pt0 b] [brI b S] (fun _ : Unit => True) (fun _ => sn0) (fun _ => [brI b S]) := by
  have hn := br_none b S
  refine does_of Tryz.func12 rfl rfl Tryz.ntmps12 rfl eNUM (fun c => ?_)
  (refine go ?_; intros)
  (show wpO _ _ ⟨_, .call _, _, _, _, _⟩ _ _ _ _ _ _; refine o_callA (hn) (fun _ _ => ?_); try simp only [List.cons_append, List.nil_append])
  (refine go ?_; intros)
  rw [hl]
  (show wpO _ _ ⟨_, .call _, _, _, _, _⟩ _ _ _ _ _ _; refine o_callA (ce_nil) (fun _ _ => ?_); try simp only [List.cons_append, List.nil_append])
  (refine go ?_; intros)
  exact q_ret1 rfl rfl () rfl trivial eNT
theorem br_log1 (b : Nat) (S : BrS) (xs : List Value) (h1 : xs.length = 1 * 7) (h2 : xs.all (·.oneCell') = true) : FnDoes Tryz.prog 12 [pt0 b] [brI b S, logI S.lg 1 xs] (fun _ : Value => True) (fun w => w) (fun w => [brI b S, logI S.lg 1 xs, logI w 1 xs]) := by
  have hn := br_none b S
  have hc := ce_one S.lg xs h1 h2
  refine does_of Tryz.func12 rfl rfl Tryz.ntmps12 rfl eNUM (fun c => ?_)
  (refine go ?_; intros)
  (show wpO _ _ ⟨_, .call _, _, _, _, _⟩ _ _ _ _ _ _; refine o_callA (hn) (fun _ _ => ?_); try simp only [List.cons_append, List.nil_append])
  (refine go ?_; intros)
  (show wpO _ _ ⟨_, .call _, _, _, _, _⟩ _ _ _ _ _ _; refine o_callA (hc) (fun w _ => ?_); try simp only [List.cons_append, List.nil_append])
  (refine go ?_; intros)
  exact q_ret1 rfl rfl w rfl trivial eNT
theorem br_sess (b s : Nat) (S : BrS) : FnDoes Tryz.prog 27 [pt0 b] [brI b S, ssI S.ss (pt0 s) true] (fun _ : Unit => True) (fun _ => nat64 1) (fun _ => [brI b S, ssI S.ss (pt0 s) true]) := by
  have hn := br_none b S
  have hl := sn_len S.ss s
  refine does_of Tryz.func27 rfl rfl Tryz.ntmps27 rfl eNUM (fun c => ?_)
  (refine go ?_; intros)
  (show wpO _ _ ⟨_, .call _, _, _, _, _⟩ _ _ _ _ _ _; refine o_callA (hn) (fun _ _ => ?_); try simp only [List.cons_append, List.nil_append])
  (refine go ?_; intros)
  (show wpO _ _ ⟨_, .call _, _, _, _, _⟩ _ _ _ _ _ _; refine o_callA (hl) (fun _ _ => ?_); try simp only [List.cons_append, List.nil_append])
  (refine go ?_; intros)
  exact q_ret1 rfl rfl () rfl trivial eNT
end Go.Proofs.YtnaabpfpldelmaaGreatDoor
set_option linter.unusedSimpArgs false
set_option linter.unusedVariables false
namespace Go.Sx
open Go Go.Conc
def byteN (s : ByteArray) (i : Nat) : Nat := (s.get! i).toNat
theorem byteN_lt (s : ByteArray) (i : Nat) : byteN s i < 256 := UInt8.toNat_lt _
theorem byteN_get {s : ByteArray} {i : Nat} (h : i < s.size) : (s[i]'h).toNat = byteN s i := by
  unfold byteN
  have e : s.get! i = s[i]'h := by
    cases s with
    | mk d => exact getElem!_pos d i h
  rw [e]
def tailB (s : ByteArray) (i : Nat) : Bool := decide (i < s.size) && decide (128 ≤ byteN s i ∧ byteN s i ≤ 191)
theorem tailB_t {s : ByteArray} {i : Nat} (h : tailB s i = true) : i < s.size ∧ 128 ≤ byteN s i ∧ byteN s i ≤ 191 := by
  unfold tailB at h
  simpa using h
theorem tailB_f {s : ByteArray} {i : Nat} (h : tailB s i = false) : i < s.size → ¬ (128 ≤ byteN s i ∧ byteN s i ≤ 191) := by
  unfold tailB at h
  intro hi hc
  rw [decide_eq_true hi, decide_eq_true hc] at h
  cases h
structure StepR where
  n : Nat
  c : Nat
def stepR (s : ByteArray) (i : Nat) : StepR := if (Utf8.decode s i).1 = 65533 ∧ (Utf8.decode s i).2 = 1 then ⟨0, 0⟩ else ⟨(Utf8.decode s i).2, (Utf8.decode s i).1⟩
theorem decode_bytes (s : ByteArray) (i : Nat) : Utf8.decode s i = Lib.decodeN (s.size - i) (byteN s i) (byteN s (i + 1)) (byteN s (i + 2)) (byteN s (i + 3)) := Lib.decode_at s i
theorem stepR_of {s : ByteArray} {i : Nat} {d : Nat × Nat} (h : Utf8.decode s i = d) : stepR s i = if d.1 = 65533 ∧ d.2 = 1 then ⟨0, 0⟩ else ⟨d.2, d.1⟩ := by unfold stepR; rw [h]
theorem step_1 {s : ByteArray} {i : Nat} (h : byteN s i < 128) : stepR s i = ⟨1, byteN s i⟩ := by
  have e : Utf8.decode s i = (byteN s i, 1) := by rw [decode_bytes]; unfold Lib.decodeN; rw [if_pos h]
  rw [stepR_of e, if_neg (by simp only; omega)]
theorem step_bad {s : ByteArray} {i : Nat} (e : Utf8.decode s i = (65533, 1)) : stepR s i = ⟨0, 0⟩ := by
  rw [stepR_of e, if_pos ⟨rfl, rfl⟩]
theorem step_2 {s : ByteArray} {i : Nat} (h1 : 194 ≤ byteN s i) (h2 : byteN s i ≤ 223) (t : tailB s (i + 1) = true) : stepR s i = ⟨2, (byteN s i - 192) * 64 + (byteN s (i + 1) - 128)⟩ := by
  obtain ⟨t1, t2, t3⟩ := tailB_t t
  have e : Utf8.decode s i = ((byteN s i - 192) * 64 + (byteN s (i + 1) - 128), 2) := by
    rw [decode_bytes]; unfold Lib.decodeN
    rw [if_neg (by omega), if_pos ⟨by omega, by omega, by omega⟩, if_pos (by omega)]
    exact Prod.ext (by simp only; omega) rfl
  rw [stepR_of e, if_neg (by simp only; omega)]
theorem step_2f {s : ByteArray} {i : Nat} (h1 : 128 ≤ byteN s i) (h2 : byteN s i ≤ 223) (t : byteN s i < 194 ∨ tailB s (i + 1) = false) : stepR s i = ⟨0, 0⟩ := by
  apply step_bad
  rw [decode_bytes]; unfold Lib.decodeN
  have b1 := byteN_lt s (i + 1)
  rw [if_neg (by omega)]
  split
  · rename_i c
    obtain ⟨c1, c2, c3⟩ := c
    rw [if_neg]
    rcases t with t | t
    · omega
    · exact absurd ⟨by omega, by omega⟩ (tailB_f t (by omega))
  · rw [if_neg (by omega), if_neg (by omega)]
theorem step_3 {s : ByteArray} {i : Nat} (h1 : 224 ≤ byteN s i) (h2 : byteN s i ≤ 239) (t : tailB s (i + 1) = true) (u : tailB s (i + 2) = true) :
    stepR s i = if (byteN s i - 224) * 4096 + (byteN s (i + 1) - 128) * 64 + (byteN s (i + 2) - 128) < 2048 ∨ (55296 ≤ (byteN s i - 224) * 4096 + (byteN s (i + 1) - 128) * 64 + (byteN s (i + 2) - 128) ∧ (byteN s i - 224) * 4096 + (byteN s (i + 1) - 128) * 64 + (byteN s (i + 2) - 128) ≤ 57343) then ⟨0, 0⟩
      else ⟨3, (byteN s i - 224) * 4096 + (byteN s (i + 1) - 128) * 64 + (byteN s (i + 2) - 128)⟩ := by
  obtain ⟨t1, t2, t3⟩ := tailB_t t
  obtain ⟨u1, u2, u3⟩ := tailB_t u
  have e0 := decode_bytes s i
  unfold Lib.decodeN at e0
  rw [if_neg (by omega), if_neg (by omega), if_pos ⟨by omega, ⟨by omega, by omega⟩, by omega, by omega⟩] at e0
  have ev : byteN s i % 16 * 4096 + byteN s (i + 1) % 64 * 64 + byteN s (i + 2) % 64 = (byteN s i - 224) * 4096 + (byteN s (i + 1) - 128) * 64 + (byteN s (i + 2) - 128) := by omega
  rw [ev] at e0
  split
  · rename_i c
    rw [if_neg (by omega)] at e0
    exact step_bad e0
  · rename_i c
    rw [if_pos (by omega)] at e0
    rw [stepR_of e0, if_neg (by simp only; omega)]
theorem step_3f {s : ByteArray} {i : Nat} (h1 : 224 ≤ byteN s i) (h2 : byteN s i ≤ 239) (t : tailB s (i + 1) = false ∨ tailB s (i + 2) = false) : stepR s i = ⟨0, 0⟩ := by
  apply step_bad
  rw [decode_bytes]; unfold Lib.decodeN
  rw [if_neg (by omega), if_neg (by omega), if_neg, if_neg (by omega)]
  rintro ⟨c1, ⟨c2, c3⟩, c4, c5⟩
  rcases t with t | t
  · exact tailB_f t (by omega) ⟨by omega, by omega⟩
  · exact tailB_f t (by omega) ⟨by omega, by omega⟩
theorem step_4 {s : ByteArray} {i : Nat} (h1 : 240 ≤ byteN s i) (h2 : byteN s i ≤ 244) (t : tailB s (i + 1) = true) (u : tailB s (i + 2) = true) (v : tailB s (i + 3) = true) :
    stepR s i = if (byteN s i - 240) * 262144 + (byteN s (i + 1) - 128) * 4096 + (byteN s (i + 2) - 128) * 64 + (byteN s (i + 3) - 128) < 65536 ∨ 1114111 < (byteN s i - 240) * 262144 + (byteN s (i + 1) - 128) * 4096 + (byteN s (i + 2) - 128) * 64 + (byteN s (i + 3) - 128) then ⟨0, 0⟩
      else ⟨4, (byteN s i - 240) * 262144 + (byteN s (i + 1) - 128) * 4096 + (byteN s (i + 2) - 128) * 64 + (byteN s (i + 3) - 128)⟩ := by
  obtain ⟨t1, t2, t3⟩ := tailB_t t
  obtain ⟨u1, u2, u3⟩ := tailB_t u
  obtain ⟨v1, v2, v3⟩ := tailB_t v
  have e0 := decode_bytes s i
  unfold Lib.decodeN at e0
  rw [if_neg (by omega), if_neg (by omega), if_neg (by omega), if_pos ⟨by omega, ⟨by omega, by omega⟩, ⟨by omega, by omega⟩, by omega, by omega⟩] at e0
  have ev : byteN s i % 8 * 262144 + byteN s (i + 1) % 64 * 4096 + byteN s (i + 2) % 64 * 64 + byteN s (i + 3) % 64 = (byteN s i - 240) * 262144 + (byteN s (i + 1) - 128) * 4096 + (byteN s (i + 2) - 128) * 64 + (byteN s (i + 3) - 128) := by omega
  rw [ev] at e0
  split
  · rename_i c
    rw [if_neg (by omega)] at e0
    exact step_bad e0
  · rename_i c
    rw [if_pos (by omega)] at e0
    rw [stepR_of e0, if_neg (by simp only; omega)]
theorem step_4f {s : ByteArray} {i : Nat} (h1 : 240 ≤ byteN s i) (t : 244 < byteN s i ∨ tailB s (i + 1) = false ∨ tailB s (i + 2) = false ∨ tailB s (i + 3) = false) : stepR s i = ⟨0, 0⟩ := by
  apply step_bad
  rw [decode_bytes]; unfold Lib.decodeN
  have b0 := byteN_lt s i
  rw [if_neg (by omega), if_neg (by omega), if_neg (by omega)]
  split
  · rename_i c
    obtain ⟨c1, ⟨c2, c3⟩, ⟨c4, c5⟩, c6, c7⟩ := c
    rcases t with t | t | t | t
    · rw [if_neg (by omega)]
    · exact absurd ⟨by omega, by omega⟩ (tailB_f t (by omega))
    · exact absurd ⟨by omega, by omega⟩ (tailB_f t (by omega))
    · exact absurd ⟨by omega, by omega⟩ (tailB_f t (by omega))
  · rfl
variable {P : Program} {c : Cx} {n : Nat} {L : Env} {M : List HProp}
variable {dst : Option Nat} {ty : TypeId} {pos : String} {after : Array Edge} {g : Option (Nat × Bool)}
theorem ev_indexStr {t : TypeId} {x y : Operand} {s : ByteArray} {k : IntKind} {j : Int} (i : Nat) (hx : opnd L x = some (.string s)) (hy : opnd L y = some (.int k j)) (hu : P.underlying t = some .string) (hj : j = (i : Int)) (h : i < s.size) : Ev P ⟨dst, .index t x y, ty, pos, after, g⟩ c n L M (.int .u8 (byteN s i)) := fun T w st => by
  subst hj
  have e : s[i]? = some (s[i]'h) := by simp [h]
  simp [execOp, opnd_eval st.slots hx, opnd_eval st.slots hy, Instr.index, asIntOf, run_underlying hu, e, byteN_get h]
end Go.Sx
