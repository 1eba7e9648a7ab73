/-
  Metrics, read: the whole of it.
  Templates, read; metrics within them.
  Metrics, read: templates, as deep as may be.
-/
import Derived.Test.YtnaabpfpldelmaaGreatDoorM19
import Derived.Test.YtnaabpfpldelmaaGreatDoorM18
set_option linter.unusedSimpArgs false
set_option linter.unusedVariables false
set_option maxRecDepth 20000
namespace Go.Proofs.YtnaabpfpldelmaaGreatDoor
open Go Go.Sx
theorem shp_templ : shp 743 = [.one, .one, .one, .one, .one] := by kernel_rfl
theorem ones3 {S : Shp} {ρ : Rho} {vs : List Value} (h : okR S ρ [.one, .one, .one] vs) : ∃ a b c : Value, vs = [a, b, c] ∧ a.oneCell' = true ∧ b.oneCell' = true ∧ c.oneCell' = true := by
  obtain ⟨a, _, rfl, h0, h1⟩ := okR_cons h
  obtain ⟨b, _, rfl, k1, h2⟩ := okR_cons h1
  obtain ⟨c, _, rfl, k2, h3⟩ := okR_cons h2
  obtain rfl := okR_nil h3
  exact ⟨a, b, c, rfl, h0, k1, k2⟩
theorem ones5 {S : Shp} {ρ : Rho} {vs : List Value} (h : okR S ρ [.one, .one, .one, .one, .one] vs) : ∃ a b c d e : Value, vs = [a, b, c, d, e] ∧ a.oneCell' = true ∧ b.oneCell' = true ∧ c.oneCell' = true ∧ d.oneCell' = true ∧ e.oneCell' = true := by
  obtain ⟨a, _, rfl, h0, h1⟩ := okR_cons h
  obtain ⟨b, _, rfl, k1, h2⟩ := okR_cons h1
  obtain ⟨c, d, e, rfl, k2, k3, k4⟩ := ones3 h2
  exact ⟨a, b, c, d, e, rfl, h0, k1, k2, k3, k4⟩
theorem ones8 {S : Shp} {ρ : Rho} {vs : List Value} (h : okR S ρ [.one, .one, .one, .one, .one, .one, .one, .one] vs) : ∃ a b c d e f g i : Value, vs = [a, b, c, d, e, f, g, i] ∧ a.oneCell' = true ∧ b.oneCell' = true ∧ c.oneCell' = true ∧ d.oneCell' = true ∧ e.oneCell' = true ∧ f.oneCell' = true ∧ g.oneCell' = true ∧ i.oneCell' = true := by
  obtain ⟨a, _, rfl, h0, h1⟩ := okR_cons h
  obtain ⟨b, _, rfl, k1, h2⟩ := okR_cons h1
  obtain ⟨c, _, rfl, k2, h3⟩ := okR_cons h2
  obtain ⟨d, e, f, g, i, rfl, k3, k4, k5, k6, k7⟩ := ones5 h3
  exact ⟨a, b, c, d, e, f, g, i, rfl, h0, k1, k2, k3, k4, k5, k6, k7⟩
def OfM (deep : Nat) : Prop := ∀ (G : Rg) (s : ByteArray), okG G → knG G → s.size ≤ 65536 → FnDoes Tryz.prog 366 [.string s, nat64 deep] [rgH G]
  (fun y : Rg × MtkS × Nat => okG y.1 ∧ grG G y.1 ∧ MtkOk y.2.1) (fun y => .tuple #[.agg (mtrC y.2.1).toArray, nat64 y.2.2]) (fun y => [rgH y.1])
def TmplOf (deep : Nat) : Prop := ∀ (G : Rg) (s : ByteArray), okG G → knG G → s.size ≤ 65536 → FnDoes Tryz.prog 673 [.string s, nat64 deep] [rgH G]
  (fun y : Rg × List Value × Nat => okG y.1 ∧ grG G y.1 ∧ okRows shp ρ0 743 y.2.1 1) (fun y => .tuple #[.agg y.2.1.toArray, nat64 y.2.2]) (fun y => [rgH y.1])
def MOk (G : Rg) (a : MtkS × Rg) : Prop := MtkOk a.1 ∧ okG a.2 ∧ grG G a.2
attribute [local irreducible] MidQ wpE wpO wpC qE wpQ wpQO wpH wpHO wpD wpDO wpZ Ev own emp exI sl ch PostS LoopQ Rd rowsAt
set_option maxHeartbeats 1000000 in
theorem mt_value {G0 : Rg} (hK : knG G0) (deep : Nat) (hd : deep ≤ 100) (IH : TmplOf (deep + 1)) (r : Nat) (a : MtkS × Rg) (ha : MOk G0 a) : FnDoes Tryz.prog 665 [pt0 r, nat64 deep] [mtkI r a.1, rgH a.2]
    (fun q : (MtkS × Rg) × Nat => MOk G0 q.1) (fun q => nat64 q.2) (fun q => [mtkI r q.1.1, rgH q.1.2]) := by
  obtain ⟨w, G⟩ := a
  obtain ⟨hw, hG, hgr⟩ := ha
  try dsimp only at hw hG hgr ⊢
  have hb := hw.big
  have hk := hw.vk
  have hw' := hw
  obtain ⟨n0, h1, a2, c3, c4, c5, c6, u7, c8, c9, k10, n11, c12, c13, c14, t15, d16, t17, t18⟩ := w
  obtain ⟨o0, o2, o3, o4, o5, o6, o8, o9, o10, o11, o12, o13, o14, o15, o17, o18⟩ := hw'
  try dsimp only at o0 o2 o3 o4 o5 o6 o8 o9 o10 o11 o12 o13 o14 o15 o17 o18 hb hk ⊢
  refine does_of Tryz.func665 rfl rfl Tryz.ntmps665 rfl eNUM (fun c => ?_)
  by_cases e8 : k10 = 8
  · (refine go ?_; intros)
    refine o_bytesOf rfl rfl rfl rfl rfl (fun bv => ?_)
    have hb2 := da_of (X := bsI bv t18.data.toList) Bs.ofBsI (by rw [show t18.data.toList.length = t18.size from Array.length_toList]; omega) hG (hK.up hgr)
    (refine go ?_; intros)
    (show wpO _ _ ⟨_, .call _, _, _, _, _⟩ _ _ _ _ _ _; refine o_callA (hb2) (fun ⟨G2, P, e⟩ hy => ?_); try simp only [List.cons_append, List.nil_append])
    obtain ⟨z1, z2, z3⟩ := hy
    try dsimp only at z1 z2 z3 ⊢
    obtain ⟨p0, p1, p2, rfl, u0, u1, u2⟩ := ones3 (rows1 z3 shp_set)
    (refine go ?_; intro q5 bb)
    exact q_ret1 rfl rfl ((⟨n0, h1, a2, c3, c4, c5, c6, u7, c8, c9, k10, n11, c12, .slice (some ⟨bb, 0, none⟩) 1 1, c14, t15, d16, t17, t18⟩, G2), e) rfl ⟨⟨o0, o2, o3, o4, o5, o6, o8, o9, o10, o11, o12, rfl, o14, o15, o17, o18⟩, z1, hgr.trans z2⟩ eNT
  by_cases e9 : k10 = 9
  · have hb2 := IH G t18 hG (hK.up hgr) hb
    (refine go ?_; intros)
    (show wpO _ _ ⟨_, .call _, _, _, _, _⟩ _ _ _ _ _ _; refine o_callA (hb2) (fun ⟨G2, P, e⟩ hy => ?_); try simp only [List.cons_append, List.nil_append])
    obtain ⟨z1, z2, z3⟩ := hy
    try dsimp only at z1 z2 z3 ⊢
    obtain ⟨p0, p1, p2, p3, p4, rfl, u0, u1, u2, u3, u4⟩ := ones5 (rows1 z3 shp_templ)
    (refine go ?_; intro c7_ bb)
    refine o_storeS rfl rfl rfl rfl rfl pK (by simp) ?_
    (refine go ?_; intros)
    exact q_ret1 rfl rfl ((⟨n0, h1, a2, c3, c4, c5, c6, u7, c8, c9, k10, n11, c12, c13, .slice (some ⟨bb, 0, none⟩) 1 1, t15, d16, t17, t18⟩, G2), e) rfl ⟨⟨o0, o2, o3, o4, o5, o6, o8, o9, o10, o11, o12, o13, rfl, o15, o17, o18⟩, z1, hgr.trans z2⟩ eNT
  · (refine go ?_; intros)
    exact q_ret1 rfl rfl ((⟨n0, h1, a2, c3, c4, c5, c6, u7, c8, c9, k10, n11, c12, c13, c14, t15, d16, t17, t18⟩, G), 0) rfl ⟨hw, hG, hgr⟩ eNT
set_option maxHeartbeats 1000000 in
theorem mt_done {G0 : Rg} (hK : knG G0) (deep : Nat) (hd : deep ≤ 100) (IH : TmplOf (deep + 1)) (r : Nat) (a : MtkS × Rg) (ha : MOk G0 a) : FnDoes Tryz.prog 661 [pt0 r, nat64 deep] [mtkI r a.1, rgH a.2]
    (fun q : (MtkS × Rg) × Nat => MOk G0 q.1) (fun q => nat64 q.2) (fun q => [mtkI r q.1.1, rgH q.1.2]) := by
  obtain ⟨w, G⟩ := a
  obtain ⟨hw, hG, hgr⟩ := ha
  try dsimp only at hw hG hgr ⊢
  have hw' := hw
  obtain ⟨n0, h1, a2, c3, c4, c5, c6, u7, c8, c9, k10, n11, c12, c13, c14, t15, d16, t17, t18⟩ := w
  obtain ⟨o0, o2, o3, o4, o5, o6, o8, o9, o10, o11, o12, o13, o14, o15, o17, o18⟩ := hw'
  try dsimp only at o0 o2 o3 o4 o5 o6 o8 o9 o10 o11 o12 o13 o14 o15 o17 o18 ⊢
  refine does_of Tryz.func661 rfl rfl Tryz.ntmps661 rfl eNUM (fun c => ?_)
  (refine go ?_; intros)
  refine wpC_meet (σ := Value) (fun v => v.oneCell' = true) (fun _ => [(0, pt0 r), (1, nat64 deep)]) (fun v => [mtkI r ⟨n0, h1, a2, c3, c4, c5, c6, u7, v, c9, k10, n11, c12, c13, c14, t15, d16, t17, t18⟩, rgH G]) ?_ (fun v hv => ?_)
  · cases d16 with
    | false =>
      (refine go ?_; intros)
      exact q_mid c8 o8 sUB eNT
    | true =>
      (refine go ?_; intros)
      refine o_bytesOf rfl rfl rfl rfl rfl (fun bv => ?_)
      have hb2 := me_of (X := bsI bv t15.data.toList) Bs.ofBsI (by rw [show t15.data.toList.length = t15.size from Array.length_toList]; omega)
      (refine go ?_; intros)
      (show wpO _ _ ⟨_, .call _, _, _, _, _⟩ _ _ _ _ _ _; refine o_callA (hb2) (fun ⟨P, e⟩ z3 => ?_); try simp only [List.cons_append, List.nil_append])
      try dsimp only at z3 ⊢
      obtain ⟨p0, p1, p2, p3, p4, p5, p6, p7, rfl, u0, u1, u2, u3, u4, u5, u6, u7_⟩ := ones8 (rows1 z3 shp_meta)
      by_cases he : e = 0
      · subst he
        (refine go ?_; intro q5 bb)
        exact q_mid (.slice (some ⟨bb, 0, none⟩) 1 1) rfl sUB eNT
      · have he' : (e : Int) ≠ 0 := by omega
        (refine go ?_; intro q5)
        exact q_ret1 rfl rfl ((⟨n0, h1, a2, c3, c4, c5, c6, u7, c8, c9, k10, n11, c12, c13, c14, t15, true, t17, t18⟩, G), e) rfl ⟨hw, hG, hgr⟩ eNT
  · (refine go ?_; intros)
    refine o_bytesOf rfl rfl rfl rfl rfl (fun bv => ?_)
    have hb2 := pr_Of (X := bsI bv t17.data.toList) Bs.ofBsI (by rw [show t17.data.toList.length = t17.size from Array.length_toList]; omega) hG (hK.up hgr)
    (refine go ?_; intros)
    (show wpO _ _ ⟨_, .call _, _, _, _, _⟩ _ _ _ _ _ _; refine o_callA (hb2) (fun ⟨G2, sv, e⟩ hy => ?_); try simp only [List.cons_append, List.nil_append])
    obtain ⟨z1, z2, z3⟩ := hy
    try dsimp only at z1 z2 z3 ⊢
    by_cases he : e = 0
    · subst he
      have hv2 := mt_value hK deep hd IH r (⟨n0, h1, a2, c3, c4, c5, c6, u7, v, sv, k10, n11, c12, c13, c14, t15, d16, t17, t18⟩, G2) ⟨⟨o0, o2, o3, o4, o5, o6, hv, z3, o10, o11, o12, o13, o14, o15, o17, o18⟩, z1, hgr.trans z2⟩
      (refine go ?_; intros)
      (show wpO _ _ ⟨_, .call _, _, _, _, _⟩ _ _ _ _ _ _; refine o_callA (hv2) (fun q hq => ?_); try simp only [List.cons_append, List.nil_append])
      (refine go ?_; intros)
      exact q_ret1 rfl rfl q rfl hq eNT
    · have he' : (e : Int) ≠ 0 := by omega
      (refine go ?_; intros)
      exact q_ret1 rfl rfl ((⟨n0, h1, a2, c3, c4, c5, c6, u7, v, sv, k10, n11, c12, c13, c14, t15, d16, t17, t18⟩, G2), e) rfl ⟨⟨o0, o2, o3, o4, o5, o6, hv, z3, o10, o11, o12, o13, o14, o15, o17, o18⟩, z1, hgr.trans z2⟩ eNT
theorem mt_taker {G0 : Rg} (hK : knG G0) (deep : Nat) (hd : deep ≤ 100) (IH : TmplOf (deep + 1)) (r : Nat) : Taker 596 (pt0 r) deep (fun a : MtkS × Rg => mtkI r a.1) (fun a => a.2) (fun _ a => MOk G0 a) (MOk G0) where
  weak := fun _ _ h => h
  take := fun i a x y z s _ ha hf => InvDoes.direct ((mt_take (hK.up ha.2.2) r a.1 ha.1 x y z s hf).turn (φ' := fun q : (MtkS × Rg) × Nat => MOk G0 q.1) (val' := fun q => nat64 q.2) (B' := fun q => [mtkI r q.1.1, rgH q.1.2]) (Ent.refl _) (fun q hq => ⟨((q.1, a.2), q.2), ⟨hq, ha.2.1, ha.2.2⟩, rfl, Ent.refl _⟩)) (by kernel_rfl)
  done := fun i a _ ha => InvDoes.direct (mt_done hK deep hd IH r a ha) (by kernel_rfl)
theorem mt_of (deep : Nat) (IH : deep ≤ 8 → TmplOf (deep + 1)) (hd : deep ≤ 100) : OfM deep := by
  intro G s hG hK hs
  refine does_of Tryz.func366 rfl rfl Tryz.ntmps366 rfl eNUM (fun c => ?_)
  by_cases h8 : deep > 8
  · (refine go ?_; intros)
    exact q_retAT rfl rfl rfl rfl rfl rfl rfl pK (G, mtk0, 12) rfl ⟨hG, Gr.refl _ _, mtk0_ok⟩ eNT
  · (refine go ?_; intro c4 r)
    have hr := mt_read (mt_taker hK deep hd (IH (by omega)) r) (mtk0, G) ⟨mtk0_ok, hG, Gr.refl _ _⟩ s hs
    (show wpO _ _ ⟨_, .call _, _, _, _, _⟩ _ _ _ _ _ _; refine o_callA (hr) (fun ⟨⟨w, G2⟩, e⟩ hy => ?_); try simp only [List.cons_append, List.nil_append])
    obtain ⟨z1, z2, z3⟩ := hy
    try dsimp only at z1 z2 z3 ⊢
    by_cases he : e = 0
    · subst he
      have o3 := z1.c3
      have o4 := z1.c4
      have o5 := z1.c5
      have o6 := z1.c6
      have o8 := z1.c8
      have o9 := z1.c9
      have o12 := z1.c12
      have o13 := z1.c13
      have o14 := z1.c14
      (refine go ?_; intros)
      exact q_retAT rfl rfl rfl rfl rfl rfl rfl pK (G2, w, 0) rfl ⟨z2, z3, z1⟩ eNT
    · have he' : (e : Int) ≠ 0 := by omega
      (refine go ?_; intros)
      exact q_retAT rfl rfl rfl rfl rfl rfl rfl pK (G2, mtk0, e) rfl ⟨z2, z3, mtk0_ok⟩ eNT
end Go.Proofs.YtnaabpfpldelmaaGreatDoor
set_option linter.unusedSimpArgs false
set_option linter.unusedVariables false
set_option maxRecDepth 20000
namespace Go.Proofs.YtnaabpfpldelmaaGreatDoor
open Go Go.Sx
abbrev tStr : TypeId := 9
abbrev tPrm : TypeId := 827
abbrev tMet : TypeId := 302
theorem wt_get {S : Shp} {ρ : Rho} {H : PHeap} {e : TypeId} {a : Option Addr} {len cap m i : Nat} {cts : List CT} (h : WT S ρ H) (hs : okSl S ρ e (.slice a len cap) m) (hi : i < len) (he : S e = cts) :
    ∃ b o vs, a = some ⟨b, o, none⟩ ∧ okR S ρ cts vs ∧ ∀ j u, vs[j]? = some u → H.cell? ⟨b, o + i * cts.length + j, none⟩ = some u := by subst he; exact h.get hs hi
theorem str_get {G : Rg} {a : Option Addr} {len cap m i : Nat} (h : okG G) (hs : slG G tStr (.slice a len cap) m) (hi : i < len) : ∃ b o s, a = some ⟨b, o, none⟩ ∧ s.size ≤ 65536 ∧ G.2.cell? ⟨b, o + i * 1, none⟩ = some (.string s) := by
  obtain ⟨b, o, vs, h1, h2, h3⟩ := wt_get h hs hi shp_str
  obtain ⟨_, _, rfl, ⟨s, rfl, hs⟩, h4⟩ := okR_cons h2
  exact ⟨b, o, s, h1, hs, h3 0 _ rfl⟩
structure TmkS where
  c0 : Value
  c1 : Value
  c2 : Value
  pv : Value
  mv : Value
  ms : Value
  nm : Nat
  ps : Value
  np : Nat
  G : Rg
structure TmkR (G : Rg) (s : TmkS) : Prop where
  c0 : s.c0.oneCell' = true
  c1 : s.c1.oneCell' = true
  c2 : s.c2.oneCell' = true
  pv : s.pv.oneCell' = true
  mv : s.mv.oneCell' = true
  ok : okG s.G
  gr : grG G s.G
structure TmkOk (G : Rg) (i : Nat) (s : TmkS) : Prop where
  c0 : s.c0.oneCell' = true
  c1 : s.c1.oneCell' = true
  c2 : s.c2.oneCell' = true
  pv : s.pv = .slice none 0 0
  mv : s.mv = .slice none 0 0
  ok : okG s.G
  gr : grG G s.G
  ms : slG s.G tStr s.ms s.nm
  nm : s.nm ≤ i
  ps : slG s.G tStr s.ps s.np
  np : s.np ≤ i
theorem TmkOk.weak {G : Rg} {i : Nat} {s : TmkS} (h : TmkOk G i s) : TmkR G s := ⟨h.c0, h.c1, h.c2, by rw [h.pv]; rfl, by rw [h.mv]; rfl, h.ok, h.gr⟩
abbrev tmkI (r : Nat) (s : TmkS) : HProp := pts r (.cells [s.c0, s.c1, s.c2, s.pv, s.mv, s.ms, s.ps].toArray 817 (0, 0))
attribute [local irreducible] MidQ wpE wpO wpC qE wpQ wpQO wpH wpHO wpD wpDO wpZ Ev own emp exI sl ch PostS LoopQ Rd rowsAt
set_option maxHeartbeats 2000000 in
theorem tm_take {G : Rg} (r i : Nat) (a : TmkS) (x y z : Int) (s : ByteArray) (hi : i < 256) (ha : TmkOk G i a) (hf : FldP x y z s) : FnDoes Tryz.prog 696 [pt0 r, .agg (fldC x y z s).toArray] [tmkI r a, rgH a.G] (fun q : TmkS × Nat => TmkOk G (i + 1) q.1) (fun q => nat64 q.2) (fun q => [tmkI r q.1, rgH q.1.G]) := by
  obtain ⟨c0, c1, c2, pv, mv, ms, nm, ps, np, G1⟩ := a
  have ha' := ha
  obtain ⟨h0, h1, h2, rfl, rfl, hG, hgr, hms, hnm, hps, hnp⟩ := ha'
  try dsimp only at h0 h1 h2 hG hgr hms hnm hps hnp ⊢
  have hup : ∀ e : Nat, TmkOk G (i + 1) ⟨c0, c1, c2, .slice none 0 0, .slice none 0 0, ms, nm, ps, np, G1⟩ := fun _ => ⟨h0, h1, h2, rfl, rfl, hG, hgr, hms, by dsimp only; omega, hps, by dsimp only; omega⟩
  have hm1 := hms.one
  have hp1 := hps.one
  have hs := hf.2.2.2
  refine does_of Tryz.func696 rfl rfl Tryz.ntmps696 rfl eNUM (fun c => ?_)
  by_cases e1 : x = 1
  · (refine go ?_; intro b b5)
    refine wpC_drawnA [pts b (.cells (fldC x y z s).toArray 363 (0, 0))] 6 ?_
    ((first | refine dt 0 ?_ | refine dts 0 ?_); (first | refine df 1 ?_ | refine dfs 1 ?_); (first | refine df 2 ?_ | refine dfs 2 ?_); (first | refine df 3 ?_ | refine dfs 3 ?_); (first | refine df 4 ?_ | refine dfs 4 ?_))
    refine dcall 5 (mt_text r 0 [c0, c1, c2, .slice none 0 0, .slice none 0 0, ms, ps] 817 (by simp) x y z s) (fun q hq => ?_)
    obtain ⟨w, e⟩ := q
    try dsimp only at hq ⊢
    simp only [List.cons_append, List.nil_append]
    (refine dl ?_)
    rcases hq with rfl | hq
    · (refine go ?_; intros)
      exact q_ret1 rfl rfl (⟨.string s, c1, c2, .slice none 0 0, .slice none 0 0, ms, nm, ps, np, G1⟩, e) rfl ⟨rfl, h1, h2, rfl, rfl, hG, hgr, hms, by dsimp only; omega, hps, by dsimp only; omega⟩ eNT
    · cases hq
      (refine go ?_; intros)
      exact q_ret1 rfl rfl (⟨c0, c1, c2, .slice none 0 0, .slice none 0 0, ms, nm, ps, np, G1⟩, e) rfl (hup 0) eNT
  by_cases e4 : x = 4
  · (refine go ?_; intro b b5)
    refine wpC_drawnA [pts b (.cells (fldC x y z s).toArray 363 (0, 0))] 6 ?_
    ((first | refine dt 0 ?_ | refine dts 0 ?_); (first | refine df 1 ?_ | refine dfs 1 ?_); (first | refine df 2 ?_ | refine dfs 2 ?_); (first | refine df 3 ?_ | refine dfs 3 ?_); (first | refine df 4 ?_ | refine dfs 4 ?_))
    refine dcall 5 (mt_text r 1 [c0, c1, c2, .slice none 0 0, .slice none 0 0, ms, ps] 817 (by simp) x y z s) (fun q hq => ?_)
    obtain ⟨w, e⟩ := q
    try dsimp only at hq ⊢
    simp only [List.cons_append, List.nil_append]
    (refine dl ?_)
    rcases hq with rfl | hq
    · (refine go ?_; intros)
      exact q_ret1 rfl rfl (⟨c0, .string s, c2, .slice none 0 0, .slice none 0 0, ms, nm, ps, np, G1⟩, e) rfl ⟨h0, rfl, h2, rfl, rfl, hG, hgr, hms, by dsimp only; omega, hps, by dsimp only; omega⟩ eNT
    · cases hq
      (refine go ?_; intros)
      exact q_ret1 rfl rfl (⟨c0, c1, c2, .slice none 0 0, .slice none 0 0, ms, nm, ps, np, G1⟩, e) rfl (hup 0) eNT
  by_cases e5 : x = 5
  · (refine go ?_; intro b b5)
    refine wpC_drawnA [pts b (.cells (fldC x y z s).toArray 363 (0, 0))] 6 ?_
    ((first | refine dt 0 ?_ | refine dts 0 ?_); (first | refine df 1 ?_ | refine dfs 1 ?_); (first | refine df 2 ?_ | refine dfs 2 ?_); (first | refine df 3 ?_ | refine dfs 3 ?_); (first | refine df 4 ?_ | refine dfs 4 ?_))
    refine dcall 5 (mt_flag r 2 [c0, c1, c2, .slice none 0 0, .slice none 0 0, ms, ps] 817 (by simp) x y z s) (fun q hq => ?_)
    obtain ⟨w, e⟩ := q
    try dsimp only at hq ⊢
    simp only [List.cons_append, List.nil_append]
    (refine dl ?_)
    rcases hq with ⟨nb, rfl⟩ | hq
    · (refine go ?_; intros)
      exact q_ret1 rfl rfl (⟨c0, c1, .bool nb, .slice none 0 0, .slice none 0 0, ms, nm, ps, np, G1⟩, e) rfl ⟨h0, h1, rfl, rfl, rfl, hG, hgr, hms, by dsimp only; omega, hps, by dsimp only; omega⟩ eNT
    · cases hq
      (refine go ?_; intros)
      exact q_ret1 rfl rfl (⟨c0, c1, c2, .slice none 0 0, .slice none 0 0, ms, nm, ps, np, G1⟩, e) rfl (hup 0) eNT
  by_cases e2 : x = 2
  · (refine go ?_; intro b b5)
    have ht := mt_text b5 0 [.string ⟨#[]⟩] 9 (by simp) x y z s
    (show wpO _ _ ⟨_, .call _, _, _, _, _⟩ _ _ _ _ _ _; refine o_callA (ht) (fun ⟨w, e⟩ hq => ?_); try simp only [List.cons_append, List.nil_append])
    try dsimp only at hq ⊢
    have hw : w = .string s ∨ w = .string ⟨#[]⟩ := by
      rcases hq with h | h
      · exact .inl h
      · cases h; exact .inr rfl
    by_cases he : e = 0
    · subst he
      obtain ⟨t, rfl, ht2⟩ : ∃ t : ByteArray, w = .string t ∧ t.size ≤ 65536 := by
        rcases hw with rfl | rfl
        · exact ⟨_, rfl, hs⟩
        · exact ⟨_, rfl, Nat.zero_le _⟩
      (refine go ?_; intros)
      refine wpC_drawnA [tmkI r ⟨c0, c1, c2, .slice none 0 0, .slice none 0 0, ms, nm, ps, np, G1⟩, pts b5 (.cells [.string t].toArray 9 (0, 0))] 10 ?_
      ((first | refine dt 0 ?_ | refine dts 0 ?_); (first | refine dt 1 ?_ | refine dts 1 ?_); (first | refine dt 2 ?_ | refine dts 2 ?_); (first | refine dt 3 ?_ | refine dts 3 ?_); (first | refine dt 4 ?_ | refine dts 4 ?_); (first | refine df 5 ?_ | refine dfs 5 ?_))
      (refine wpD_eff 6 rfl rfl (by kernel_rfl) rfl rfl ?_; show OVL _ ⟨_, .buildSlice _ _ _, _, _, _, _⟩ _ _ _ _ _ _)
      refine x_buildSlice1 (by rfl) (by rfl) (by rfl) (by rfl) (by rfl) (by rfl) (by rfl) (by rfl) (fun bb => ⟨eNT, ?_⟩)
      (refine wpD_eff 7 rfl rfl (by kernel_rfl) rfl rfl ?_; show OVL _ ⟨_, .call { callee := .builtin .append, args := _, argTypes := _ }, _, _, _, _⟩ _ _ _ _ _ _)
      refine x_appendR (S := shp) (m := 1) (news := [.string t]) pK hG hms (str_row ht2) ?_ (fun v' ρ' H' w1 w2 w3 => ⟨eNT, ?_⟩) (src_pts rfl pK rfl rfl rfl)
      · show (nm + 1) * 16 ≤ 140737488355328
        omega
      have hv1 := w3.one
      ((first | refine df 8 ?_ | refine dfs 8 ?_); (first | refine df 9 ?_ | refine dfs 9 ?_))
      (refine wpD_lastU rfl rfl (by kernel_rfl) (by kernel_rfl) rfl ?_; show OUL _ ⟨_, .store _ _ _, _, _, _, _⟩ _ _ _ _ _)
      refine x_store (by rfl) (by rfl) (by rfl) (by rfl) hv1 pK (Upd1.of (by simp)) ?_
      (refine go ?_; intros)
      exact q_ret1 rfl rfl (⟨c0, c1, c2, .slice none 0 0, .slice none 0 0, v', nm + 1, ps, np, (ρ', H')⟩, 0) rfl ⟨h0, h1, h2, rfl, rfl, w1, hgr.trans w2, w3, by dsimp only; omega, hps.mono w2.le, by dsimp only; omega⟩ eNT
    · have he' : (e : Int) ≠ 0 := by omega
      (refine go ?_; intros)
      exact q_ret1 rfl rfl (⟨c0, c1, c2, .slice none 0 0, .slice none 0 0, ms, nm, ps, np, G1⟩, e) rfl (hup 0) eNT
  by_cases e3 : x = 3
  · (refine go ?_; intro b b5)
    have ht := mt_text b5 0 [.string ⟨#[]⟩] 9 (by simp) x y z s
    (show wpO _ _ ⟨_, .call _, _, _, _, _⟩ _ _ _ _ _ _; refine o_callA (ht) (fun ⟨w, e⟩ hq => ?_); try simp only [List.cons_append, List.nil_append])
    try dsimp only at hq ⊢
    have hw : w = .string s ∨ w = .string ⟨#[]⟩ := by
      rcases hq with h | h
      · exact .inl h
      · cases h; exact .inr rfl
    by_cases he : e = 0
    · subst he
      obtain ⟨t, rfl, ht2⟩ : ∃ t : ByteArray, w = .string t ∧ t.size ≤ 65536 := by
        rcases hw with rfl | rfl
        · exact ⟨_, rfl, hs⟩
        · exact ⟨_, rfl, Nat.zero_le _⟩
      (refine go ?_; intros)
      refine wpC_drawnA [tmkI r ⟨c0, c1, c2, .slice none 0 0, .slice none 0 0, ms, nm, ps, np, G1⟩, pts b5 (.cells [.string t].toArray 9 (0, 0))] 10 ?_
      ((first | refine dt 0 ?_ | refine dts 0 ?_); (first | refine dt 1 ?_ | refine dts 1 ?_); (first | refine dt 2 ?_ | refine dts 2 ?_); (first | refine dt 3 ?_ | refine dts 3 ?_); (first | refine dt 4 ?_ | refine dts 4 ?_); (first | refine df 5 ?_ | refine dfs 5 ?_))
      (refine wpD_eff 6 rfl rfl (by kernel_rfl) rfl rfl ?_; show OVL _ ⟨_, .buildSlice _ _ _, _, _, _, _⟩ _ _ _ _ _ _)
      refine x_buildSlice1 (by rfl) (by rfl) (by rfl) (by rfl) (by rfl) (by rfl) (by rfl) (by rfl) (fun bb => ⟨eNT, ?_⟩)
      (refine wpD_eff 7 rfl rfl (by kernel_rfl) rfl rfl ?_; show OVL _ ⟨_, .call { callee := .builtin .append, args := _, argTypes := _ }, _, _, _, _⟩ _ _ _ _ _ _)
      refine x_appendR (S := shp) (m := 1) (news := [.string t]) pK hG hps (str_row ht2) ?_ (fun v' ρ' H' w1 w2 w3 => ⟨eNT, ?_⟩) (src_pts rfl pK rfl rfl rfl)
      · show (np + 1) * 16 ≤ 140737488355328
        omega
      have hv1 := w3.one
      ((first | refine df 8 ?_ | refine dfs 8 ?_); (first | refine df 9 ?_ | refine dfs 9 ?_))
      (refine wpD_lastU rfl rfl (by kernel_rfl) (by kernel_rfl) rfl ?_; show OUL _ ⟨_, .store _ _ _, _, _, _, _⟩ _ _ _ _ _)
      refine x_store (by rfl) (by rfl) (by rfl) (by rfl) hv1 pK (Upd1.of (by simp)) ?_
      (refine go ?_; intros)
      exact q_ret1 rfl rfl (⟨c0, c1, c2, .slice none 0 0, .slice none 0 0, ms, nm, v', np + 1, (ρ', H')⟩, 0) rfl ⟨h0, h1, h2, rfl, rfl, w1, hgr.trans w2, hms.mono w2.le, by dsimp only; omega, w3, by dsimp only; omega⟩ eNT
    · have he' : (e : Int) ≠ 0 := by omega
      (refine go ?_; intros)
      exact q_ret1 rfl rfl (⟨c0, c1, c2, .slice none 0 0, .slice none 0 0, ms, nm, ps, np, G1⟩, e) rfl (hup 0) eNT
  · (refine go ?_; intros)
    exact q_ret1 rfl rfl (⟨c0, c1, c2, .slice none 0 0, .slice none 0 0, ms, nm, ps, np, G1⟩, 0) rfl (hup 0) eNT
end Go.Proofs.YtnaabpfpldelmaaGreatDoor
set_option linter.unusedSimpArgs false
set_option linter.unusedVariables false
set_option maxRecDepth 20000
namespace Go.Proofs.YtnaabpfpldelmaaGreatDoor
open Go Go.Sx
theorem wpO_ent {P : Program} {ops : Array Oper} {Q : Exit → Act → World → Prop} {c : Cx} {n : Nat} {L : Env} {M N : List HProp} {rest : List Oper} {o : Oper} (e : Ent M N) (h : wpO P ops o rest Q c n L N) : wpO P ops o rest Q c n L M := fun i hi T w s hw => h i hi T w ⟨s.size, s.slots, s.heap.ent e⟩ hw
def prm0 (G : Rg) : PrmS := ⟨.string ⟨#[]⟩, .int .u32 0, .int .i64 0, .int .u64 0, .string ⟨#[]⟩, .slice none 0 0, 0, [], G⟩
theorem prm0_ok {G : Rg} : PrmOk G 0 (prm0 G) := ⟨rfl, rfl, rfl, rfl, rfl, fld_nil, Nat.le_refl _, by decide, rfl⟩
theorem prm_rows {G : Rg} {i : Nat} {a : PrmS} (h : PrmOk G i a) : okRows shp ρ0 tPrm [a.c0, a.c1, a.c2, a.c3, a.c4] 1 := okRows.one (by rw [shp_param]; exact ⟨h.c0, h.c1, h.c2, h.c3, h.c4, trivial⟩)
theorem pm_taker {G : Rg} (hK : knG G) (deep : Nat) (r : Nat) : Taker 832 (pt0 r) deep (prmI r) (fun a => a.G) (PrmOk G) (fun a => ∃ i, PrmOk G i a) where
  weak := fun i _ h => ⟨i, h⟩
  take := fun i a x y z s hi ha hf => InvDoes.direct (pm_take r i a x y z s hi ha hf) (by kernel_rfl)
  done := fun i a hi ha => InvDoes.direct ((pm_done hK r i deep a hi ha).turn (φ' := fun q : PrmS × Nat => ∃ i, PrmOk G i q.1) (val' := fun q => nat64 q.2) (B' := fun q => [prmI r q.1, rgH q.1.G]) (Ent.refl _) (fun q hq => ⟨q, ⟨i, hq⟩, rfl, Ent.refl _⟩)) (by kernel_rfl)
attribute [local irreducible] MidQ wpE wpO wpC qE wpQ wpQO wpH wpHO wpD wpDO wpZ Ev own emp exI sl ch PostS LoopQ Rd rowsAt
set_option maxHeartbeats 4000000 in
theorem tm_done {G : Rg} (hK : knG G) (deep : Nat) (IH : OfM deep) (r i : Nat) (a : TmkS) (hi : i ≤ 256) (ha : TmkOk G i a) : FnDoes Tryz.prog 695 [pt0 r, nat64 deep] [tmkI r a, rgH a.G] (fun q : TmkS × Nat => TmkR G q.1) (fun q => nat64 q.2) (fun q => [tmkI r q.1, rgH q.1.G]) := by
  have hR := ha.weak
  obtain ⟨c0, c1, c2, pv, mv, ms, nm, ps, np, G1⟩ := a
  obtain ⟨h0, h1, h2, rfl, rfl, hG, hgr, hms, hnm, hps, hnp⟩ := ha
  try dsimp only at h0 h1 h2 hG hgr hms hnm hps hnp ⊢
  obtain ⟨ma, mcap, rfl, hmc⟩ := hms.isSlice
  obtain ⟨pa, pcap, rfl, hpc⟩ := hps.isSlice
  refine does_of Tryz.func695 rfl rfl Tryz.ntmps695 rfl eNUM (fun c => ?_)
  by_cases b1 : nm > 64
  · (refine go ?_; intros)
    exact q_ret1 rfl rfl (⟨c0, c1, c2, .slice none 0 0, .slice none 0 0, .slice ma nm mcap, nm, .slice pa np pcap, np, G1⟩, 6) rfl hR eNT
  by_cases b2 : np > 32
  · (refine go ?_; intros)
    exact q_ret1 rfl rfl (⟨c0, c1, c2, .slice none 0 0, .slice none 0 0, .slice ma nm mcap, nm, .slice pa np pcap, np, G1⟩, 6) rfl hR eNT
  · (refine go ?_; intros)
    refine wpC_loop (σ := Nat × Value × Nat × Rg) (fun s => s.1 ≤ nm ∧ okG s.2.2.2 ∧ grG G1 s.2.2.2 ∧ slG s.2.2.2 tMet s.2.1 s.2.2.1 ∧ s.2.2.1 ≤ s.1) (fun s => [(0, pt0 r), (1, nat64 deep), (30, .slice ma nm mcap), (31, nat64 nm), (32, nat64 s.1)])
      (fun s => [tmkI r ⟨c0, c1, c2, .slice none 0 0, s.2.1, .slice ma nm mcap, nm, .slice pa np pcap, np, s.2.2.2⟩, rgH s.2.2.2]) (fun s => nm - s.1) (0, .slice none 0 0, 0, G1) ⟨Nat.zero_le _, hG, Gr.refl _ _, okSl.nil, Nat.le_refl _⟩ sUB eNT (fun s hs => ?_)
    obtain ⟨j, mv, mn, G2⟩ := s
    obtain ⟨hj, hG2, hgr2, hmv, hmn⟩ := hs
    try dsimp only at hj hG2 hgr2 hmv hmn ⊢
    have hmv1 := hmv.one
    by_cases hlt : j < nm
    · obtain ⟨b, o, s, rfl, hss, hcell⟩ := str_get hG2 (hms.mono hgr2.le) hlt
      have hof := IH G2 s hG2 (hK.up (hgr.trans hgr2)) hss
      (refine go ?_; intros)
      (show wpO _ _ ⟨_, .call _, _, _, _, _⟩ _ _ _ _ _ _; refine o_callA (hof) (fun ⟨G3, w, e⟩ hy => ?_); try simp only [List.cons_append, List.nil_append])
      obtain ⟨z1, z2, z3⟩ := hy
      try dsimp only at z1 z2 z3 ⊢
      have o3 := z3.c3
      have o4 := z3.c4
      have o5 := z3.c5
      have o6 := z3.c6
      have o8 := z3.c8
      have o9 := z3.c9
      have o12 := z3.c12
      have o13 := z3.c13
      have o14 := z3.c14
      by_cases he : e = 0
      · subst he
        (refine go ?_; intro c7)
        refine wpC_drawnA [tmkI r ⟨c0, c1, c2, .slice none 0 0, mv, .slice (some ⟨b, o, none⟩) nm mcap, nm, .slice pa np pcap, np, G2⟩, pts c7 (.cells (mtrC w).toArray 302 (0, 0))] 12 ?_
        ((first | refine dt 0 ?_ | refine dts 0 ?_); (first | refine dt 1 ?_ | refine dts 1 ?_); (first | refine dt 2 ?_ | refine dts 2 ?_); (first | refine dt 3 ?_ | refine dts 3 ?_); (first | refine dt 4 ?_ | refine dts 4 ?_); (first | refine dt 5 ?_ | refine dts 5 ?_); (first | refine df 6 ?_ | refine dfs 6 ?_))
        (refine wpD_eff 7 rfl rfl (by kernel_rfl) rfl rfl ?_; show OVL _ ⟨_, .buildSlice _ _ _, _, _, _, _⟩ _ _ _ _ _ _)
        refine x_buildSlice1 (l := mtrC w) (by rfl) (by rfl) (by rfl) (by rfl) (by rfl) (by rfl) (by rfl) (by rfl) (fun bb => ⟨eNT, ?_⟩)
        (refine wpD_eff 8 rfl rfl (by kernel_rfl) rfl rfl ?_; show OVL _ ⟨_, .call { callee := .builtin .append, args := _, argTypes := _ }, _, _, _, _⟩ _ _ _ _ _ _)
        refine x_appendR (S := shp) (m := 1) (news := mtrC w) pK z1 (hmv.mono z2.le) ((mtr_rows z3).mono le0) ?_ (fun v' ρ' H' w1 w2 w3 => ⟨eNT, ?_⟩) (src_pts rfl pK rfl rfl (mtr_rows z3).allOne)
        · show (mn + 1) * 176 ≤ 140737488355328
          omega
        have hv1 := w3.one
        ((first | refine df 9 ?_ | refine dfs 9 ?_); (first | refine df 10 ?_ | refine dfs 10 ?_); (first | refine df 11 ?_ | refine dfs 11 ?_))
        (refine wpD_lastU rfl rfl (by kernel_rfl) (by kernel_rfl) rfl ?_; show OUL _ ⟨_, .store _ _ _, _, _, _, _⟩ _ _ _ _ _)
        refine x_store (by rfl) (by rfl) (by rfl) (by rfl) hv1 pK (Upd1.of (by simp)) ?_
        (refine go ?_; intros)
        exact q_round (j + 1, v', mn + 1, (ρ', H')) ⟨hlt, w1, hgr2.trans (z2.trans w2), w3, by dsimp only; omega⟩ (by show nm - (j + 1) < nm - j; omega) sUB eNT
      · have he' : (e : Int) ≠ 0 := by omega
        (refine go ?_; intros)
        exact q_ret1 rfl rfl (⟨c0, c1, c2, .slice none 0 0, mv, .slice (some ⟨b, o, none⟩) nm mcap, nm, .slice pa np pcap, np, G3⟩, e) rfl ⟨h0, h1, h2, rfl, hmv1, z1, hgr.trans (hgr2.trans z2)⟩ eNT
    · (refine go ?_; intros)
      refine wpC_loop (σ := Nat × Value × Nat × Rg) (fun s => s.1 ≤ np ∧ okG s.2.2.2 ∧ grG G2 s.2.2.2 ∧ slG s.2.2.2 tPrm s.2.1 s.2.2.1 ∧ s.2.2.1 ≤ s.1) (fun s => [(0, pt0 r), (1, nat64 deep), (61, .slice pa np pcap), (62, nat64 np), (63, nat64 s.1)])
        (fun s => [tmkI r ⟨c0, c1, c2, s.2.1, mv, .slice ma nm mcap, nm, .slice pa np pcap, np, s.2.2.2⟩, rgH s.2.2.2]) (fun s => np - s.1) (0, .slice none 0 0, 0, G2) ⟨Nat.zero_le _, hG2, Gr.refl _ _, okSl.nil, Nat.le_refl _⟩ sUB eNT (fun s hs => ?_)
      obtain ⟨l, pv, pn, G4⟩ := s
      obtain ⟨hl, hG4, hgr4, hpv, hpn⟩ := hs
      try dsimp only at hl hG4 hgr4 hpv hpn ⊢
      have hpv1 := hpv.one
      by_cases hltp : l < np
      · obtain ⟨b, o, s, rfl, hss, hcell⟩ := str_get hG4 (hps.mono (hgr2.trans hgr4).le) hltp
        (refine go ?_; intro p)
        refine wpO_ent (N := [prmI p (prm0 G4), rgH G4, tmkI r ⟨c0, c1, c2, pv, mv, .slice ma nm mcap, nm, .slice (some ⟨b, o, none⟩) np pcap, np, G4⟩]) (Ent.fold () trivial (Ent.cons pK (Ent.slNil eNT))) ?_
        have hrd := mt_read (pm_taker (hK.up (hgr.trans (hgr2.trans hgr4))) deep p) (prm0 G4) prm0_ok s hss
        (show wpO _ _ ⟨_, .call _, _, _, _, _⟩ _ _ _ _ _ _; refine o_callA (hrd) (fun ⟨a', e⟩ hy => ?_); try simp only [List.cons_append, List.nil_append])
        obtain ⟨i', hp⟩ := hy
        try dsimp only at hp ⊢
        have hpG := hp.G
        refine wpE_unfold (p := pK) (fun _ _ => ?_)
        simp only [List.cons_append, List.nil_append]
        have u0 := hp.c0
        have u1 := hp.c1
        have u2 := hp.c2
        have u3 := hp.c3
        have u4 := hp.c4
        obtain ⟨p0, p1, p2, p3, p4, pq, pk', px, pG⟩ := a'
        try dsimp only at u0 u1 u2 u3 u4 hpG ⊢
        subst hpG
        by_cases he : e = 0
        · subst he
          (refine go ?_; intros)
          refine wpC_drawnA [tmkI r ⟨c0, c1, c2, pv, mv, .slice ma nm mcap, nm, .slice (some ⟨b, o, none⟩) np pcap, np, pG⟩, prmC p ⟨p0, p1, p2, p3, p4, pq, pk', px, pG⟩] 15 ?_
          ((first | refine dt 0 ?_ | refine dts 0 ?_); (first | refine dt 1 ?_ | refine dts 1 ?_); (first | refine dt 2 ?_ | refine dts 2 ?_); (first | refine dt 3 ?_ | refine dts 3 ?_); (first | refine dt 4 ?_ | refine dts 4 ?_); (first | refine dt 5 ?_ | refine dts 5 ?_); (first | refine df 6 ?_ | refine dfs 6 ?_); (first | refine df 7 ?_ | refine dfs 7 ?_); (first | refine df 8 ?_ | refine dfs 8 ?_); (first | refine df 9 ?_ | refine dfs 9 ?_))
          (refine wpD_eff 10 rfl rfl (by kernel_rfl) rfl rfl ?_; show OVL _ ⟨_, .buildSlice _ _ _, _, _, _, _⟩ _ _ _ _ _ _)
          refine x_buildSlice1 (l := [p0, p1, p2, p3, p4]) (by rfl) (by rfl) (by rfl) (by rfl) (by rfl) (by rfl) (by rfl) (by rfl) (fun bb => ⟨eNT, ?_⟩)
          (refine wpD_eff 11 rfl rfl (by kernel_rfl) rfl rfl ?_; show OVL _ ⟨_, .call { callee := .builtin .append, args := _, argTypes := _ }, _, _, _, _⟩ _ _ _ _ _ _)
          refine x_appendR (S := shp) (m := 1) (news := [p0, p1, p2, p3, p4]) pK hG4 hpv ((prm_rows hp).mono le0) ?_ (fun v' ρ' H' w1 w2 w3 => ⟨eNT, ?_⟩) (src_pts rfl pK rfl rfl (prm_rows hp).allOne)
          · show (pn + 1) * 56 ≤ 140737488355328
            omega
          have hv1 := w3.one
          ((first | refine df 12 ?_ | refine dfs 12 ?_); (first | refine df 13 ?_ | refine dfs 13 ?_); (first | refine df 14 ?_ | refine dfs 14 ?_))
          (refine wpD_lastU rfl rfl (by kernel_rfl) (by kernel_rfl) rfl ?_; show OUL _ ⟨_, .store _ _ _, _, _, _, _⟩ _ _ _ _ _)
          refine x_store (by rfl) (by rfl) (by rfl) (by rfl) hv1 pK (Upd1.of (by simp)) ?_
          (refine go ?_; intros)
          exact q_round (l + 1, v', pn + 1, (ρ', H')) ⟨hltp, w1, hgr4.trans w2, w3, by dsimp only; omega⟩ (by show np - (l + 1) < np - l; omega) sUB eNT
        · have he' : (e : Int) ≠ 0 := by omega
          (refine go ?_; intros)
          exact q_ret1 rfl rfl (⟨c0, c1, c2, pv, mv, .slice ma nm mcap, nm, .slice (some ⟨b, o, none⟩) np pcap, np, pG⟩, e) rfl ⟨h0, h1, h2, hpv1, hmv1, hG4, hgr.trans (hgr2.trans hgr4)⟩ eNT
      · (refine go ?_; intros)
        exact q_ret1 rfl rfl (⟨c0, c1, c2, pv, mv, .slice ma nm mcap, nm, .slice pa np pcap, np, G4⟩, 0) rfl ⟨h0, h1, h2, hpv1, hmv1, hG4, hgr.trans (hgr2.trans hgr4)⟩ eNT
theorem tm_taker {G : Rg} (hK : knG G) (deep : Nat) (IH : OfM deep) (r : Nat) : Taker 815 (pt0 r) deep (tmkI r) (fun a => a.G) (TmkOk G) (TmkR G) where
  weak := fun i _ h => h.weak
  take := fun i a x y z s hi ha hf => InvDoes.direct (tm_take r i a x y z s hi ha hf) (by kernel_rfl)
  done := fun i a hi ha => InvDoes.direct (tm_done hK deep IH r i a hi ha) (by kernel_rfl)
def tmk0 (G : Rg) : TmkS := ⟨.string ⟨#[]⟩, .string ⟨#[]⟩, .bool false, .slice none 0 0, .slice none 0 0, .slice none 0 0, 0, .slice none 0 0, 0, G⟩
def temZ : List Value := [.string ⟨#[]⟩, .string ⟨#[]⟩, .bool false, .slice none 0 0, .slice none 0 0]
theorem temZ_ok : okRows shp ρ0 743 temZ 1 := okRows.one (by rw [shp_templ]; exact okZ rfl)
set_option maxHeartbeats 1000000 in
theorem tm_of (deep : Nat) (IH : OfM deep) : TmplOf deep := by
  intro G s hG hK hs
  refine does_of Tryz.func673 rfl rfl Tryz.ntmps673 rfl eNUM (fun c => ?_)
  (refine go ?_; intro c4 r)
  have hr := mt_read (tm_taker hK deep IH r) (tmk0 G) ⟨rfl, rfl, rfl, rfl, rfl, hG, Gr.refl _ _, okSl.nil, Nat.le_refl _, okSl.nil, Nat.le_refl _⟩ s hs
  (show wpO _ _ ⟨_, .call _, _, _, _, _⟩ _ _ _ _ _ _; refine o_callA (hr) (fun ⟨a, e⟩ hy => ?_); try simp only [List.cons_append, List.nil_append])
  obtain ⟨u0, u1, u2, u3, u4, z1, z2⟩ := hy
  obtain ⟨p0, p1, p2, p3, p4, ms, nm, ps, np, G2⟩ := a
  try dsimp only at u0 u1 u2 u3 u4 z1 z2 ⊢
  by_cases he : e = 0
  · subst he
    (refine go ?_; intros)
    exact q_retAT rfl rfl rfl rfl rfl rfl rfl pK (G2, [p0, p1, p2, p3, p4], 0) rfl ⟨z1, z2, okRows.one (by rw [shp_templ]; exact ⟨u0, u1, u2, u3, u4, trivial⟩)⟩ eNT
  · have he' : (e : Int) ≠ 0 := by omega
    (refine go ?_; intros)
    exact q_retAT rfl rfl rfl rfl rfl rfl rfl pK (G2, temZ, e) rfl ⟨z1, z2, temZ_ok⟩ eNT
theorem mt_all : ∀ j deep, deep + j = 9 → OfM deep
  | 0, deep, hd => mt_of deep (fun h => by omega) (by omega)
  | j + 1, deep, hd => mt_of deep (fun _ => tm_of (deep + 1) (mt_all j (deep + 1) (by omega))) (by omega)
theorem mt_Of {X : HProp} {v : Value} {l : List UInt8} {G : Rg} (hX : Bs X v l) (hl : l.length ≤ 65536) (hG : okG G) (hK : knG G) : FnDoes Tryz.prog 289 [v] [rgH G, X]
    (fun y : Rg × MtkS × Nat => okG y.1 ∧ grG G y.1 ∧ MtkOk y.2.1) (fun y => .tuple #[.agg (mtrC y.2.1).toArray, nat64 y.2.2]) (fun y => [rgH y.1, X]) := by
  have h := mt_all 8 1 rfl G (txt l) hG hK (by rw [txt_size]; exact hl)
  refine does_of Tryz.func289 rfl rfl Tryz.ntmps289 rfl eNUM (fun c => ?_)
  (refine go ?_; intro c2)
  refine o_evB (ev_str rfl rfl rfl rfl hX pK) ?_
  (refine go ?_; intros)
  (show wpO _ _ ⟨_, .call _, _, _, _, _⟩ _ _ _ _ _ _; refine o_callA (h) (fun ⟨G2, w, e⟩ hy => ?_); try simp only [List.cons_append, List.nil_append])
  obtain ⟨z1, z2, z3⟩ := hy
  try dsimp only at z1 z2 z3 ⊢
  have o3 := z3.c3
  have o4 := z3.c4
  have o5 := z3.c5
  have o6 := z3.c6
  have o8 := z3.c8
  have o9 := z3.c9
  have o12 := z3.c12
  have o13 := z3.c13
  have o14 := z3.c14
  (refine go ?_; intros)
  exact q_retAT rfl rfl rfl rfl rfl rfl rfl pK (G2, w, e) rfl ⟨z1, z2, z3⟩ eNT
end Go.Proofs.YtnaabpfpldelmaaGreatDoor
