/-
  The whole program: how a connection ends.
  The whole program: how a connection ends: by time, by another one.
-/
import Derived.Test.YtnaabpfpldelmaaGreatDoorM41
set_option linter.unusedSimpArgs false
set_option linter.unusedVariables false
set_option maxRecDepth 20000
namespace Go.Proofs.YtnaabpfpldelmaaGreatDoor
open Go Go.Sx
structure RdS where
  b : Nat
  cn : Nat
  S : BrS
  C : CnS
  k : Nat
  cap : Nat
  a : Option Addr
  ob : List UInt8
  o : DuS
  Z : NsS
structure Rdy (R : RdS) (kp : Nat) (w : WiS) : Prop where
  h0 : R.S.c0 = pt0 R.cn
  k0 : R.S.k0 = 0
  s0 : R.S.s0 = 0
  c1 : R.S.c1 = pn
  s1 : R.S.s1 = -1
  lg : R.S.lg = sn0
  ak : R.S.ak = sn0
  rt : R.S.rt = 0
  fs : R.C.fs = false
  cl : R.C.cl = false
  bd : R.C.bd = 0
  cm : R.C.cm = true
  wl : R.C.wl = true
  who : R.C.who = coR false kp true w
  k : R.k ≤ 100
  ck : R.S.ck ≤ 1000
  fi : ∀ t, firB R.o (R.S.ck + t) = decide (0 < kp ∧ 3 * kp < 2 * t)
structure WiOk (kp : Nat) (w : WiS) : Prop where
  o1 : kp ≤ 65535
  o2 : 0 ≤ w.q
  o3 : w.q ≤ 2
  o4 : rightD w.t = true
  o5 : w.x.size ≤ 65535
  o6 : (bodB false kp true w).length ≤ 4096
abbrev rdyL (R : RdS) (G : Rg) : List HProp := [brI R.b R.S, cnnI R.cn R.C, frmI R.C.f (.slice R.a 0 R.cap) R.k, lnkI R.S.lk 1 [nat64 0, pt0 R.cn], outI R.C.bv R.ob, dueI R.S.du R.o, ssI R.S.ss (pt0 R.Z.s) true, nssI R.Z false true, trI R.S.tr, nvI R.S.ke R.S.sp, rgH G]
structure FinS where
  S : BrS
  C : CnS
  at_ : Nat
  two : Bool
  acc : Bool
  ov : Bool
  cn1 : Nat
  C1 : CnS
  G : Rg
def lgX (kp : Nat) (w : WiS) (y : FinS) : HProp := match y.acc with
  | false => emp
  | true => logI y.S.lg 1 (entE y.at_ naA true (coR false kp true w))
def finL (R : RdS) (kp : Nat) (w : WiS) (y : FinS) : List HProp := match y.two with
  | false => [brI R.b y.S, lnkI y.S.lk 1 [nat64 0, pt0 R.cn], cnnI R.cn y.C, outI y.C.bv R.ob, lgX kp w y, rgH y.G]
  | true => [brI R.b y.S, lnkI y.S.lk 2 [nat64 0, pt0 R.cn, nat64 1, pt0 y.cn1], cnnI R.cn y.C, outI y.C.bv R.ob, cnnI y.cn1 y.C1, outI y.C1.bv ansN, lgX kp w y, rgH y.G]
structure FinP (G : Rg) (j : Nat) (y : FinS) : Prop where
  g : EnvB y.G
  gr : grG G y.G
  lg : y.acc = false → y.S.lg = sn0
  cl : y.C.cl = y.ov
  ac : y.acc = (y.ov && j != 4)
def endsA (R : RdS) (h kp t : Nat) (w : WiS) : List Value := [pt0 R.b, .int .u8 (h : Int), nat64 kp, nat64 t, .agg (pkW false kp true w).toArray]
attribute [local irreducible] MidQ wpE wpO wpC qE wpQ wpQO wpH wpHO wpD wpDO wpZ Ev own emp exI sl ch PostS LoopQ Rd rowsAt
set_option maxHeartbeats 1000000 in
theorem tp_ends5 {G : Rg} (E : EnvB G) (R : RdS) (kp : Nat) (w : WiS) (hR : Rdy R kp w) (hW : WiOk kp w) (h t : Nat) (hh : h % 6 = 5) : FnDoes Tryz.prog 11 (endsA R h kp t w) (rdyL R G) (FinP G 5) (fun y => .bool y.ov) (finL R kp w) := by
  have hts := right_size hW.o4
  have hd := br_doOn R.b 2 0 0 (.inr (.inl rfl)) (by decide) mt0 R.S (br_onC R.b R.cn 0 mt0 R.S hR.h0 (br_dropB E R.b R.cn R.S hR.h0 hR.s0 hR.lg hR.ak hR.rt R.C hR.cl hR.cm hR.wl (by rw [hR.who]; show w.x.size ≤ _; have := hW.o5; omega) (by rw [hR.who]; show w.t.size ≤ _; omega) R.o R.Z))
  rw [hR.who] at hd
  obtain ⟨b, cn, S, C, k, cap, a, ob, o, Z⟩ := R
  try dsimp only at hd
  unfold endsA
  dsimp only
  refine does_of Tryz.func11 rfl rfl Tryz.ntmps11 rfl eNUM (fun c => ?_)
  (refine go ?_; intro c9)
  (show wpO _ _ ⟨_, .call _, _, _, _, _⟩ _ _ _ _ _ _; refine o_callA (hd) (fun ⟨G1, aa⟩ hy => ?_); try simp only [List.cons_append, List.nil_append])
  try dsimp only at hy ⊢
  (refine go ?_; intros)
  refine q_ret1 rfl rfl (⟨accB (outS S) aa, { C with cl := true, who := coR false kp true w }, S.ck, false, true, true, 0, C, G1⟩ : FinS) rfl ⟨hy.1, hy.2, fun h => (by cases h), rfl, rfl⟩ ?_
  dsimp only [finL, lgX]
  ((try simp only [List.cons_append, List.nil_append]); repeat (first | exact Ent.nil | (apply Ent.cons; repeat (first | exact Pick.head | apply Pick.tail))))
set_option maxHeartbeats 1000000 in
theorem tp_ends4 {G : Rg} (E : EnvB G) (R : RdS) (kp : Nat) (w : WiS) (hR : Rdy R kp w) (hW : WiOk kp w) (h t : Nat) (hh : h % 6 = 4) : FnDoes Tryz.prog 11 (endsA R h kp t w) (rdyL R G) (FinP G 4) (fun y => .bool y.ov) (finL R kp w) := by
  have hn := fun vf => (br_nextD E R.b R.cn R.S hR.h0 hR.k0 hR.s0 R.C hR.fs hR.cl hR.bd hR.cm R.k (Nat.le_trans hR.k (by decide)) vf [224, 0] ⟨.inr (.inr (.inr (.inr (.inr rfl)))), by decide, rfl, ⟨by decide, .inl ⟨rfl, rfl, by decide⟩⟩, rfl, rfl, by decide, by decide⟩ R.o R.Z)
  have hs := tp_sendN R.b 0 R.cn (by decide) R.S (.inl ⟨rfl, hR.h0⟩) R.C hR.cl R.k R.cap R.a 14 [224, 0] ⟨by decide, by decide⟩ (rf_PutN 14 (.inr rfl)) (e := fun _ => 0) hn
  have hlg := hR.lg
  obtain ⟨b, cn, S, C, k, cap, a, ob, o, Z⟩ := R
  try dsimp only at hs hlg
  unfold endsA
  dsimp only
  refine does_of Tryz.func11 rfl rfl Tryz.ntmps11 rfl eNUM (fun c => ?_)
  (refine go ?_; intro c9)
  (show wpO _ _ ⟨_, .call _, _, _, _, _⟩ _ _ _ _ _ _; refine o_callA (hs) (fun _ _ => ?_); try simp only [List.cons_append, List.nil_append])
  (refine go ?_; intros)
  refine q_ret1 rfl rfl (⟨outS S, { C with wl := false, cl := true }, 0, false, false, true, 0, C, G⟩ : FinS) rfl ⟨E, Gr.refl _ _, fun _ => hlg, rfl, rfl⟩ ?_
  dsimp only [finL, lgX]
  exact Ent.cons pK (Ent.cons pK (Ent.cons pK (Ent.cons pK (Ent.emp eNT))))
set_option maxHeartbeats 1000000 in
theorem tp_ends2 {G : Rg} (E : EnvB G) (R : RdS) (kp : Nat) (w : WiS) (hR : Rdy R kp w) (hW : WiOk kp w) (h t : Nat) (hh : h % 6 = 2) : FnDoes Tryz.prog 11 (endsA R h kp t w) (rdyL R G) (FinP G 2) (fun y => .bool y.ov) (finL R kp w) := by
  have hts := right_size hW.o4
  have hpa : PktAt [48, 1, 0] 3 1 1 [0] := ⟨.inr (.inr (.inl rfl)), by decide, rfl, ⟨by decide, .inl ⟨rfl, rfl, by decide⟩⟩, rfl, rfl, by decide, by decide⟩
  have hn := fun vf => br_nextE E R.b R.cn 3 R.S hR.h0 hR.s0 hR.lg hR.ak hR.rt R.C hR.fs hR.cl hR.bd hR.cm hR.wl (by rw [hR.who]; show w.x.size ≤ _; have := hW.o5; omega) (by rw [hR.who]; show w.t.size ≤ _; omega) R.k vf [48, 1, 0] R.o R.Z (cn_take3 E.m E.v R.cn R.k (Nat.le_trans hR.k (by decide)) R.C vf [48, 1, 0] hpa)
  have hfe := br_doOn R.b 1 0 0 (.inl rfl) (by decide) _ R.S (br_onB R.b 0 R.cn 0 R.k R.cap R.a (txt [48, 1, 0]) (by decide) (by decide) R.S (.inl ⟨rfl, hR.h0⟩) R.C hR.cl)
  rw [txt_list] at hfe
  have hse := fun vf => br_doOn R.b 4 0 0 (.inr (.inr rfl)) (by decide) mt0 R.S (br_onS R.b 0 R.cn 0 mt0 R.S (.inl ⟨rfl, hR.h0⟩) (hn vf))
  rw [hR.who] at hse
  obtain ⟨b, cn, S, C, k, cap, a, ob, o, Z⟩ := R
  try dsimp only at hfe hse
  unfold endsA
  dsimp only
  refine does_of Tryz.func11 rfl rfl Tryz.ntmps11 rfl eNUM (fun c => ?_)
  (refine go ?_; intro c9)
  (show wpO _ _ ⟨_, .call _, _, _, _, _⟩ _ _ _ _ _ _; refine o_callA (hfe) (fun vf _ => ?_); try simp only [List.cons_append, List.nil_append])
  (refine go ?_; intros)
  have hse2 := hse vf
  (show wpO _ _ ⟨_, .call _, _, _, _, _⟩ _ _ _ _ _ _; refine o_callA (hse2) (fun ⟨e, G1, aa⟩ hy => ?_); try simp only [List.cons_append, List.nil_append])
  try dsimp only at hy ⊢
  (refine go ?_; intros)
  refine q_ret1 rfl rfl (⟨accB (outS S) aa, { C with bd := e, cl := true, who := coR false kp true w }, S.ck, false, true, true, 0, C, G1⟩ : FinS) rfl ⟨hy.2.1, hy.2.2, fun h => (by cases h), rfl, rfl⟩ ?_
  dsimp only [finL, lgX]
  ((try simp only [List.cons_append, List.nil_append]); repeat (first | exact Ent.nil | (apply Ent.cons; repeat (first | exact Pick.head | apply Pick.tail))))
set_option maxHeartbeats 1000000 in
theorem tp_ends1 {G : Rg} (E : EnvB G) (R : RdS) (kp : Nat) (w : WiS) (hR : Rdy R kp w) (hW : WiOk kp w) (h t : Nat) (hh : h % 6 = 1) : FnDoes Tryz.prog 11 (endsA R h kp t w) (rdyL R G) (FinP G 1) (fun y => .bool y.ov) (finL R kp w) := by
  have hts := right_size hW.o4
  have hpa := pktB_at 1 (.inl rfl) _ hW.o6
  have hpl := pktB_len 1 _ hW.o6
  have hpu := (rf_Put1 false kp hW.o1 true w (fun h => by cases h) (by omega) (by have := hW.o5; omega)).turn (Ent.refl _) (φ' := fun _ : Value => True) (val' := fun v => .tuple #[v, nat64 0]) (B' := fun v => [bytI v (pktB 1 (bodB false kp true w))]) (fun y hy => by
    have he : y.2 = 0 := hy.2 ⟨hW.o2, hW.o3, hW.o4, hW.o5, hW.o6⟩
    exact ⟨y.1, trivial, by rw [he], by rw [he]; exact Ent.refl _⟩)
  have hn := fun vf => br_nextE E R.b R.cn 1 R.S hR.h0 hR.s0 hR.lg hR.ak hR.rt R.C hR.fs hR.cl hR.bd hR.cm hR.wl (by rw [hR.who]; show w.x.size ≤ _; have := hW.o5; omega) (by rw [hR.who]; show w.t.size ≤ _; omega) R.k vf _ R.o R.Z (cn_take2 E.ok E.m E.v R.cn R.k (Nat.le_trans hR.k (by decide)) R.C hR.fs vf _ _ _ _ hpa)
  have hs := tp_sendW R.b 0 R.cn (by decide) R.S (.inl ⟨rfl, hR.h0⟩) R.C hR.cl R.k R.cap R.a false kp true w _ hpl hpu (e := fun y : Nat × Rg × AccS => y.1) hn
  rw [hR.who] at hs
  obtain ⟨b, cn, S, C, k, cap, a, ob, o, Z⟩ := R
  try dsimp only at hs
  unfold endsA
  dsimp only
  refine does_of Tryz.func11 rfl rfl Tryz.ntmps11 rfl eNUM (fun c => ?_)
  (refine go ?_; intro c9)
  (show wpO _ _ ⟨_, .call _, _, _, _, _⟩ _ _ _ _ _ _; refine o_callA (hs) (fun ⟨e, G1, aa⟩ hy => ?_); try simp only [List.cons_append, List.nil_append])
  try dsimp only at hy ⊢
  (refine go ?_; intros)
  refine q_ret1 rfl rfl (⟨accB (outS S) aa, { C with bd := e, cl := true, who := coR false kp true w }, S.ck, false, true, true, 0, C, G1⟩ : FinS) rfl ⟨hy.2.1, hy.2.2, fun h => (by cases h), rfl, rfl⟩ ?_
  dsimp only [finL, lgX]
  ((try simp only [List.cons_append, List.nil_append]); repeat (first | exact Ent.nil | (apply Ent.cons; repeat (first | exact Pick.head | apply Pick.tail))))
end Go.Proofs.YtnaabpfpldelmaaGreatDoor
set_option linter.unusedSimpArgs false
set_option linter.unusedVariables false
set_option maxRecDepth 20000
namespace Go.Proofs.YtnaabpfpldelmaaGreatDoor
open Go Go.Sx
structure C6S where
  cn1 : Nat
  f : Nat
  lk : Value
  n : N6S
attribute [local irreducible] MidQ wpE wpO wpC qE wpQ wpQO wpH wpHO wpD wpDO wpZ Ev own emp exI sl ch PostS LoopQ Rd rowsAt
set_option maxHeartbeats 1000000 in
theorem tp_ends0 {G : Rg} (E : EnvB G) (R : RdS) (kp : Nat) (w : WiS) (hR : Rdy R kp w) (hW : WiOk kp w) (h t : Nat) (hh : h % 6 = 0) (ht : t ≤ 1000) : FnDoes Tryz.prog 11 (endsA R h kp t w) (rdyL R G) (FinP G 0) (fun y => .bool y.ov) (finL R kp w) := by
  have hts := right_size hW.o4
  have hk6 := hW.o1
  have hfi := hR.fi t
  have hlg := hR.lg
  have hcl := hR.cl
  by_cases hf : 0 < kp ∧ 3 * kp < 2 * t
  · rw [decide_eq_true hf] at hfi
    have hd := br_doT R.b 0 t mt0 R.S (br_tickF E R.b R.cn t ht R.S hR.ck hR.h0 hR.s0 hR.lg hR.ak hR.rt R.C hR.cl hR.cm hR.wl (by rw [hR.who]; show w.x.size ≤ _; have := hW.o5; omega) (by rw [hR.who]; show w.t.size ≤ _; omega) R.o hfi R.Z)
    dsimp only [tkO] at hd
    rw [hR.who] at hd
    obtain ⟨hf1, hf2⟩ := hf
    obtain ⟨b, cn, S, C, k, cap, a, ob, o, Z⟩ := R
    try dsimp only at hd
    unfold endsA
    dsimp only
    refine does_of Tryz.func11 rfl rfl Tryz.ntmps11 rfl eNUM (fun c => ?_)
    (refine go ?_; intro c9)
    (show wpO _ _ ⟨_, .call _, _, _, _, _⟩ _ _ _ _ _ _; refine o_callA (hd) (fun ⟨G1, aa⟩ hy => ?_); try simp only [List.cons_append, List.nil_append])
    try dsimp only at hy ⊢
    (refine go ?_; intros)
    refine q_ret1 rfl rfl (⟨accB (outS { S with ck := S.ck + t }) aa, { C with cl := true, who := coR false kp true w }, S.ck + t, false, true, true, 0, C, G1⟩ : FinS) rfl ⟨hy.1, hy.2, fun h => (by cases h), rfl, rfl⟩ ?_
    dsimp only [finL, lgX]
    ((try simp only [List.cons_append, List.nil_append]); repeat (first | exact Ent.nil | (apply Ent.cons; repeat (first | exact Pick.head | apply Pick.tail))))
  · rw [decide_eq_false hf] at hfi
    have hd := br_doT R.b 0 t mt0 R.S (br_tickQ R.b t ht R.S hR.ck R.o hfi)
    obtain ⟨b, cn, S, C, k, cap, a, ob, o, Z⟩ := R
    try dsimp only at hd hlg hcl
    unfold endsA
    dsimp only
    refine does_of Tryz.func11 rfl rfl Tryz.ntmps11 rfl eNUM (fun c => ?_)
    (refine go ?_; intro c9)
    (show wpO _ _ ⟨_, .call _, _, _, _, _⟩ _ _ _ _ _ _; refine o_callA (hd) (fun _ _ => ?_); try simp only [List.cons_append, List.nil_append])
    by_cases hk0 : 0 < kp
    · have hlt : 2 * t ≤ 3 * kp := by omega
      (refine go ?_; intros)
      refine q_ret1 rfl rfl (⟨{ S with ck := S.ck + t }, C, 0, false, false, false, 0, C, G⟩ : FinS) rfl ⟨E, Gr.refl _ _, fun _ => hlg, hcl, rfl⟩ ?_
      dsimp only [finL, lgX]
      exact Ent.cons pK (Ent.cons pK (Ent.cons pK (Ent.cons pK (Ent.emp eNT))))
    · (refine go ?_; intros)
      refine q_ret1 rfl rfl (⟨{ S with ck := S.ck + t }, C, 0, false, false, false, 0, C, G⟩ : FinS) rfl ⟨E, Gr.refl _ _, fun _ => hlg, hcl, rfl⟩ ?_
      dsimp only [finL, lgX]
      exact Ent.cons pK (Ent.cons pK (Ent.cons pK (Ent.cons pK (Ent.emp eNT))))
abbrev come6 : List UInt8 := bodB true 0 false wi0
set_option maxHeartbeats 1000000 in
theorem tp_come1 {G : Rg} (E : EnvB G) (R : RdS) (kp : Nat) (w : WiS) (hR : Rdy R kp w) (hW : WiOk kp w) : FnDoes Tryz.prog 25 [pt0 R.b, nat64 1, .string naA, .bool true] (rdyL R G) (fun y : C6S => EnvB y.n.G ∧ grG G y.n.G) (fun _ => .bool true)
    (fun y => [brI R.b (slS (accB (outS { R.S with c1 := pt0 y.cn1, k1 := 1, s1 := -1, lk := y.lk }) y.n.a) 1), cnnI R.cn { R.C with cl := true, who := coR false kp true w }, logI y.n.a.v 1 (entE R.S.ck naA true (coR false kp true w)), cnnI y.cn1 (acC { cn0 y.f with fs := false } y.cn1 y.n.v (coR true 0 false wi0)), bytI y.n.v ansN, rgH y.n.G, lnkI y.lk 2 [nat64 0, pt0 R.cn, nat64 1, pt0 y.cn1], outI R.C.bv R.ob]) := by
  have hts := right_size hW.o4
  have hpz := bod_parse true 0 false wi0 (by decide) (by decide) (by decide) (fun _ => rfl) (by decide +kernel) (by decide)
  have hbl : come6.length ≤ 4096 := by show (13 : Nat) ≤ 4096; decide
  have hpa := pktB_at 1 (.inl rfl) _ hbl
  have hpl := pktB_len 1 _ hbl
  have hpu := (rf_Put1 true 0 (by decide) false wi0 (fun _ => rfl) (by decide) (by decide)).turn (Ent.refl _) (φ' := fun _ : Value => True) (val' := fun v => .tuple #[v, nat64 0]) (B' := fun v => [bytI v (pktB 1 come6)]) (fun y hy => by
    have he : y.2 = 0 := hy.2 ⟨by decide, by decide, by decide +kernel, by decide, hbl⟩
    exact ⟨y.1, trivial, by rw [he], by rw [he]; exact Ent.refl _⟩)
  have ho := br_doO R.b 1 0 (by decide) mt0 R.S (br_open1 R.b R.S hR.c1 (pt0 R.cn))
  have hn := fun cn1 f lk vf => br_next6 E R.b R.cn cn1 { R.S with c1 := pt0 cn1, k1 := 1, s1 := -1, lk := lk } hR.h0 hR.s0 rfl rfl rfl hR.lg hR.ak hR.rt R.C hR.cl hR.cm hR.wl (by rw [hR.who]) (by rw [hR.who]; show w.x.size ≤ _; have := hW.o5; omega) (by rw [hR.who]; show w.t.size ≤ _; omega) R.o R.Z (cn0 f) (cn0_new cn1 f) 0 (by decide) vf _ _ _ _ hpa [] (by decide) hpz.1 (by rw [hpz.2]) (by rw [hpz.2]) (by rw [hpz.2]) (by rw [hpz.2]) (by rw [hpz.2])
  have hs := fun cn1 f lk => tp_sendW R.b 1 cn1 (by decide) { R.S with c1 := pt0 cn1, k1 := 1, s1 := -1, lk := lk } (.inr ⟨rfl, rfl⟩) (cn0 f) rfl 0 0 none true 0 false wi0 _ hpl hpu (e := fun _ => 0) (hn cn1 f lk)
  rw [hpz.2] at hs
  rw [hR.who] at hs
  obtain ⟨b, cn, S, C, k, cap, a, ob, o, Z⟩ := R
  try dsimp only at hs ho
  refine does_of Tryz.func25 rfl rfl Tryz.ntmps25 rfl eNUM (fun c => ?_)
  (refine go ?_; intros)
  (show wpO _ _ ⟨_, .call _, _, _, _, _⟩ _ _ _ _ _ _; refine o_callA (ho) (fun ⟨cn1, f, lk⟩ _ => ?_); try simp only [List.cons_append, List.nil_append])
  try dsimp only
  (refine go ?_; intros)
  have hs2 := hs cn1 f lk
  refine wpO_ent (Ent.slNil (e := tU8) (size := 1) (Ent.refl _)) ?_
  (show wpO _ _ ⟨_, .call _, _, _, _, _⟩ _ _ _ _ _ _; refine o_callA (hs2) (fun y hy => ?_); try simp only [List.cons_append, List.nil_append])
  try dsimp only at hy ⊢
  (refine go ?_; intros)
  exact q_ret1 rfl rfl (⟨cn1, f, lk, y⟩ : C6S) rfl hy eNT
set_option maxHeartbeats 1000000 in
theorem tp_ends3 {G : Rg} (E : EnvB G) (R : RdS) (kp : Nat) (w : WiS) (hR : Rdy R kp w) (hW : WiOk kp w) (h t : Nat) (hh : h % 6 = 3) : FnDoes Tryz.prog 11 (endsA R h kp t w) (rdyL R G) (FinP G 3) (fun y => .bool y.ov) (finL R kp w) := by
  have hd := tp_come1 E R kp w hR hW
  unfold endsA
  refine does_of Tryz.func11 rfl rfl Tryz.ntmps11 rfl eNUM (fun c => ?_)
  (refine go ?_; intro c9)
  (show wpO _ _ ⟨_, .call _, _, _, _, _⟩ _ _ _ _ _ _; refine o_callA (hd) (fun ⟨cn1, f, lk, G6, aa, v6, Z6, fa, fc⟩ hy => ?_); try simp only [List.cons_append, List.nil_append])
  try dsimp only at hy ⊢
  (refine go ?_; intros)
  refine q_ret1 rfl rfl (⟨slS (accB (outS { R.S with c1 := pt0 cn1, k1 := 1, s1 := -1, lk := lk }) aa) 1, { R.C with cl := true, who := coR false kp true w }, R.S.ck, true, true, true, cn1, acC { cn0 f with fs := false } cn1 v6 (coR true 0 false wi0), G6⟩ : FinS) rfl ⟨hy.1, hy.2, fun h => (by cases h), rfl, rfl⟩ ?_
  dsimp only [finL, lgX]
  exact Ent.cons pK (Ent.cons pK (Ent.cons pK (Ent.cons pK (Ent.cons pK (Ent.frOfSl (l := ansN) rfl (.inr (by decide)) pK eNT)))))
end Go.Proofs.YtnaabpfpldelmaaGreatDoor
