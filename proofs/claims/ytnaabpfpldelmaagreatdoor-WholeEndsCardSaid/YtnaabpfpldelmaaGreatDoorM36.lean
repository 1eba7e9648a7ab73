/-
  The broker: a message is accepted; a session is let go.
  The broker: a connection is dropped.
  The broker: somebody comes.
-/
import Derived.Test.YtnaabpfpldelmaaGreatDoorM35
set_option linter.unusedSimpArgs false
set_option linter.unusedVariables false
set_option maxRecDepth 20000
namespace Go.Proofs.YtnaabpfpldelmaaGreatDoor
open Go Go.Sx
structure AccS where
  v : Value
  w : Value
  rt : Nat
abbrev accB (S : BrS) (a : AccS) : BrS := { S with lg := a.v, ak := a.w, rt := a.rt }
attribute [local irreducible] MidQ wpE wpO wpC qE wpQ wpQO wpH wpHO wpD wpDO wpZ Ev own emp exI sl ch PostS LoopQ Rd rowsAt
theorem br_leave (b : Nat) (S : BrS) (Z : NsS) : FnDoes Tryz.prog 68 [pt0 b, nat64 0] [brI b S, ssI S.ss (pt0 Z.s) true, nssI Z false true] (fun _ : Unit => True) (fun _ => .tuple #[]) (fun _ => [brI b S, ssI S.ss (pt0 Z.s) true, nssI Z false false]) := by
  have ha := sn_at S.ss Z.s
  have hd := ns_detach Z false
  have hc := ns_clean Z false false
  refine does_of Tryz.func68 rfl rfl Tryz.ntmps68 rfl eNUM (fun c => ?_)
  (refine go ?_; intros)
  (show wpO _ _ ⟨_, .call _, _, _, _, _⟩ _ _ _ _ _ _; refine o_callA (ha) (fun _ _ => ?_); try simp only [List.cons_append, List.nil_append])
  (refine go ?_; intros)
  (show wpO _ _ ⟨_, .call _, _, _, _, _⟩ _ _ _ _ _ _; refine o_callA (hd) (fun _ _ => ?_); try simp only [List.cons_append, List.nil_append])
  (refine go ?_; intros)
  (show wpO _ _ ⟨_, .call _, _, _, _, _⟩ _ _ _ _ _ _; refine o_callA (hc) (fun _ _ => ?_); try simp only [List.cons_append, List.nil_append])
  (refine go ?_; intros)
  exact q_ret0 rfl () rfl trivial eNT _ (.inr rfl)
set_option maxHeartbeats 4000000 in
theorem br_accept {G : Rg} (E : EnvB G) (b : Nat) (S : BrS) (hl : S.lg = sn0) (hk : S.ak = sn0) (hrt : S.rt = 0) (from_ : ByteArray) (wl : Bool) (cc : CoS) (hx : cc.wx.size ≤ 1000000) (htt : cc.wt.size ≤ 65536) : FnDoes Tryz.prog 65 [pt0 b, .string from_, .bool wl, .agg (msgC cc.wt cc.wx cc.wq cc.wr).toArray] [brI b S, trI S.tr, nvI S.ke S.sp, rgH G]
    (fun y : Rg × AccS => EnvB y.1 ∧ grG G y.1) (fun _ => .tuple #[]) (fun y => [brI b (accB S y.2), trI S.tr, logI y.2.v 1 (entE S.ck from_ wl cc), rgH y.1]) := by
  obtain ⟨c0, k0, s0, c1, k1, s1, lk, ss, tr, ke, du, sp, ck, lg, ak, rt⟩ := S
  try dsimp only at hl hk hrt ⊢
  subst hl hk hrt
  obtain ⟨lv, cl, kp, id, hw, wt, wx, wq, wr, hu, us, hp, ps⟩ := cc
  try dsimp only at hx htt ⊢
  refine does_of Tryz.func65 rfl rfl Tryz.ntmps65 rfl eNUM (fun c => ?_)
  refine wpC_unfold (.tail (.tail .head)) (fun y hy => ?_)
  obtain ⟨km, P⟩ := y
  obtain rfl : P.s = sp := hy
  dsimp only [spkL, List.cons_append, List.nil_append]
  (refine go ?_; intro c7)
  refine wpC_ent (Ent.slNil (e := tEnt) (size := 7) (Ent.refl _)) ?_
  refine wpC_drawnA [brI b ⟨c0, k0, s0, c1, k1, s1, lk, ss, tr, ke, du, P.s, ck, sn0, sn0, 0⟩, pts c7 (.cells (msgC wt wx wq wr).toArray 24 (0, 0))] 17 ?_
  ((first | refine dt 0 ?_ | refine dts 0 ?_); (first | refine dt 1 ?_ | refine dts 1 ?_); (first | refine dt 2 ?_ | refine dts 2 ?_); (first | refine dt 3 ?_ | refine dts 3 ?_); (first | refine dt 4 ?_ | refine dts 4 ?_); (first | refine dt 5 ?_ | refine dts 5 ?_); (first | refine dt 6 ?_ | refine dts 6 ?_); (first | refine dt 7 ?_ | refine dts 7 ?_); (first | refine dt 8 ?_ | refine dts 8 ?_); (first | refine dt 9 ?_ | refine dts 9 ?_); (first | refine dt 10 ?_ | refine dts 10 ?_); (first | refine df 11 ?_ | refine dfs 11 ?_); (first | refine df 12 ?_ | refine dfs 12 ?_))
  (refine wpD_eff 13 rfl rfl (by kernel_rfl) rfl rfl ?_; show OVL _ ⟨_, .buildSlice _ _ _, _, _, _, _⟩ _ _ _ _ _ _)
  refine x_buildSlice1 (by rfl) (by rfl) (by rfl) (by rfl) (by rfl) (by rfl) (by rfl) (by rfl) (fun bb => ⟨eNT, ?_⟩)
  (refine wpD_eff 14 rfl rfl (by kernel_rfl) rfl rfl ?_; show OVL _ ⟨_, .call { callee := .builtin .append, args := _, argTypes := _ }, _, _, _, _⟩ _ _ _ _ _ _)
  refine x_append (m := 1) (news := [nat64 ck, .string from_, .bool wl, .string wt, .string wx, nat64 wq, .bool wr]) (sz := 7) (by rfl) (by rfl) (by rfl) (by rfl) (by rfl) (by rfl) (by rfl) (by rfl) pK (src_pts rfl pK rfl rfl rfl) (by decide +kernel) (fun v' => ⟨eNT, ?_⟩)
  refine wpD_fact (sl_one (v := v') .head) (fun o3 => ?_)
  refine wpD_fact (sl_slice (v := v') .head) (fun hv => ?_)
  ((first | refine df 15 ?_ | refine dfs 15 ?_); (first | refine df 16 ?_ | refine dfs 16 ?_))
  (refine wpD_lastU rfl rfl (by kernel_rfl) (by kernel_rfl) rfl ?_; show OUL _ ⟨_, .store _ _ _, _, _, _, _⟩ _ _ _ _ _)
  refine x_store (by rfl) (by rfl) (by rfl) (by rfl) o3 pK (Upd1.of (by simp)) ?_
  obtain ⟨av, cap, rfl⟩ := hv
  (refine go ?_; intros)
  refine wpC_meet (σ := Nat × Nat) (fun r => r.1 ≤ 1) (fun _ => [(0, pt0 b), (1, .string from_), (2, .bool wl), (7, pt0 c7)]) (fun r => [brI b ⟨c0, k0, s0, c1, k1, s1, lk, ss, tr, ke, du, P.s, ck, .slice av 1 cap, sn0, r.1⟩, pts c7 (.cells (msgC wt wx wq wr).toArray 24 (0, 0)), trI tr, logI (.slice av 1 cap) 1 (entE ck from_ wl ⟨lv, cl, kp, id, hw, wt, wx, wq, wr, hu, us, hp, ps⟩), rgH G, spkI P, mapR P.m [] 0, hstI P.h P.hm, mapR P.hm [] 0, birI P.b, ratI P.r (.slice none 0 0)]) ?_ (fun r hr => ?_)
  · cases wr with
    | false =>
      (refine go ?_; intros)
      exact q_mid (0, 0) (Nat.zero_le _) sUB eNT
    | true =>
      have hkp := rt_keep E.ok E.v ke km wt wx wq true
      (refine go ?_; intros)
      refine wpC_drawnA [brI b ⟨c0, k0, s0, c1, k1, s1, lk, ss, tr, ke, du, P.s, ck, .slice av 1 cap, sn0, 0⟩, pts c7 (.cells (msgC wt wx wq true).toArray 24 (0, 0))] 10 ?_
      ((first | refine dt 0 ?_ | refine dts 0 ?_); (first | refine dt 1 ?_ | refine dts 1 ?_); (first | refine dt 2 ?_ | refine dts 2 ?_); (first | refine dt 3 ?_ | refine dts 3 ?_); (first | refine df 4 ?_ | refine dfs 4 ?_))
      refine dcall 5 hkp (fun yy _ => ?_)
      obtain ⟨kb, ke'⟩ := yy
      simp only [List.cons_append, List.nil_append]
      ((first | refine df 6 ?_ | refine dfs 6 ?_); (first | refine dt 7 ?_ | refine dts 7 ?_); (first | refine dt 8 ?_ | refine dts 8 ?_); (first | refine df 9 ?_ | refine dfs 9 ?_); refine dl ?_)
      by_cases h6 : ke' = 6
      · subst h6
        (refine go ?_; intros)
        try dsimp only
        (refine go ?_; intros)
        refine o_storeS rfl rfl rfl rfl rfl pK (by simp) ?_
        (refine go ?_; intros)
        exact q_mid (1, 0) (Nat.le_refl _) sUB eNT
      · have h1 : ¬ (ke' : Int) = 6 := by omega
        (refine go ?_; intros)
        exact q_mid (0, 0) (Nat.zero_le _) sUB eNT
  obtain ⟨rr, _⟩ := r
  try dsimp only at hr ⊢
  have hro := br_route E b ⟨c0, k0, s0, c1, k1, s1, lk, ss, tr, ke, du, P.s, ck, .slice av 1 cap, sn0, rr⟩ wt wx wq wr
  (refine go ?_; intros)
  (show wpO _ _ ⟨_, .call _, _, _, _, _⟩ _ _ _ _ _ _; refine o_callA (hro) (fun G1 ⟨E1, g1⟩ => ?_); try simp only [List.cons_append, List.nil_append])
  have hta := sk_take E1.f P ck wt wx wq wr htt hx
  (refine go ?_; intros)
  refine wpC_drawnA [brI b ⟨c0, k0, s0, c1, k1, s1, lk, ss, tr, ke, du, P.s, ck, .slice av 1 cap, sn0, rr⟩, pts c7 (.cells (msgC wt wx wq wr).toArray 24 (0, 0))] 11 ?_
  ((first | refine dt 0 ?_ | refine dts 0 ?_); (first | refine dt 1 ?_ | refine dts 1 ?_); (first | refine dt 2 ?_ | refine dts 2 ?_); (first | refine dt 3 ?_ | refine dts 3 ?_); (first | refine dt 4 ?_ | refine dts 4 ?_); (first | refine dt 5 ?_ | refine dts 5 ?_); (first | refine dt 6 ?_ | refine dts 6 ?_); (first | refine dt 7 ?_ | refine dts 7 ?_); (first | refine dt 8 ?_ | refine dts 8 ?_))
  refine wpD_two 9 10 ?_ ?_
  · refine d1_call hta (fun yy hy => ?_)
    obtain ⟨G2, ver⟩ := yy
    obtain ⟨E2, g2, h1, h2⟩ := hy
    try dsimp only at E2 g2 h1 h2
    simp only [List.cons_append, List.nil_append]
    (refine wpD_eff 10 rfl rfl (by kernel_rfl) rfl rfl ?_; show OVL _ ⟨_, .alloc _, _, _, _, _⟩ _ _ _ _ _ _)
    refine x_alloc (by rfl) (by rfl) (by rfl) (fun c10 => ⟨eNT, ?_⟩)
    (refine wpD_lastU rfl rfl (by kernel_rfl) (by kernel_rfl) rfl ?_; show OUL _ ⟨_, .store _ _ _, _, _, _, _⟩ _ _ _ _ _)
    refine x_storeP (vs := verC ver.c ver.g ver.n ver.a) (by rfl) (by rfl) (by rfl) (by rfl) (by rfl) (by rfl) pK (by simp) rfl ?_
    obtain ⟨vc, vg, vn, va⟩ := ver
    try dsimp only at h1 h2 ⊢
    cases va with
    | false =>
      (refine go ?_; intros)
      exact q_ret0 rfl (G2, ⟨.slice av 1 cap, sn0, rr⟩) rfl ⟨⟨E2, E1.m.up g2⟩, g1.trans g2⟩ eNT _ (.inr rfl)
    | true =>
      have hak := br_ask (G := G2) ⟨E2, E1.m.up g2⟩ b ⟨c0, k0, s0, c1, k1, s1, lk, ss, tr, ke, du, P.s, ck, .slice av 1 cap, sn0, rr⟩ rfl av 1 cap rfl (by decide) vc vg vn h1 h2
      (refine go ?_; intros)
      (show wpO _ _ ⟨_, .call _, _, _, _, _⟩ _ _ _ _ _ _; refine o_callA (hak) (fun ⟨G3, w3⟩ ⟨E3, g3⟩ => ?_); try simp only [List.cons_append, List.nil_append])
      try dsimp only at E3 g3 ⊢
      (refine go ?_; intros)
      exact q_ret0 rfl (G3, ⟨.slice av 1 cap, w3, rr⟩) rfl ⟨E3, (g1.trans g2).trans g3⟩ eNT _ (.inr rfl)
  · refine d1_val (i := 10) ?_
    refine x_alloc (by rfl) (by rfl) (by rfl) (fun c10 => ⟨eNT, ?_⟩)
    refine dcall 9 hta (fun yy hy => ?_)
    obtain ⟨G2, ver⟩ := yy
    obtain ⟨E2, g2, h1, h2⟩ := hy
    try dsimp only at E2 g2 h1 h2
    simp only [List.cons_append, List.nil_append]
    (refine wpD_lastU rfl rfl (by kernel_rfl) (by kernel_rfl) rfl ?_; show OUL _ ⟨_, .store _ _ _, _, _, _, _⟩ _ _ _ _ _)
    refine x_storeP (vs := verC ver.c ver.g ver.n ver.a) (by rfl) (by rfl) (by rfl) (by rfl) (by rfl) (by rfl) pK (by simp) rfl ?_
    obtain ⟨vc, vg, vn, va⟩ := ver
    try dsimp only at h1 h2 ⊢
    cases va with
    | false =>
      (refine go ?_; intros)
      exact q_ret0 rfl (G2, ⟨.slice av 1 cap, sn0, rr⟩) rfl ⟨⟨E2, E1.m.up g2⟩, g1.trans g2⟩ eNT _ (.inr rfl)
    | true =>
      have hak := br_ask (G := G2) ⟨E2, E1.m.up g2⟩ b ⟨c0, k0, s0, c1, k1, s1, lk, ss, tr, ke, du, P.s, ck, .slice av 1 cap, sn0, rr⟩ rfl av 1 cap rfl (by decide) vc vg vn h1 h2
      (refine go ?_; intros)
      (show wpO _ _ ⟨_, .call _, _, _, _, _⟩ _ _ _ _ _ _; refine o_callA (hak) (fun ⟨G3, w3⟩ ⟨E3, g3⟩ => ?_); try simp only [List.cons_append, List.nil_append])
      try dsimp only at E3 g3 ⊢
      (refine go ?_; intros)
      exact q_ret0 rfl (G3, ⟨.slice av 1 cap, w3, rr⟩) rfl ⟨E3, (g1.trans g2).trans g3⟩ eNT _ (.inr rfl)
end Go.Proofs.YtnaabpfpldelmaaGreatDoor
set_option linter.unusedSimpArgs false
set_option linter.unusedVariables false
set_option maxRecDepth 20000
namespace Go.Proofs.YtnaabpfpldelmaaGreatDoor
open Go Go.Sx
abbrev celI (c : Nat) (v : Value) (t : TypeId) : HProp := pts c (.cells [v].toArray t (0, 0))
abbrev tBo : TypeId := 4
abbrev outS (S : BrS) : BrS := { S with c0 := pn, k0 := 0, s0 := -1 }
attribute [local irreducible] MidQ wpE wpO wpC qE wpQ wpQO wpH wpHO wpD wpDO wpZ Ev own emp exI sl ch PostS LoopQ Rd rowsAt
set_option maxHeartbeats 2000000 in
theorem dp_fire {G : Rg} (E : EnvB G) (c5 c10 c3 c7 c9 b : Nat) (S : BrS) (hl : S.lg = sn0) (hk : S.ak = sn0) (hrt : S.rt = 0) (cc : CoS) (hx : cc.wx.size ≤ 1000000) (htt : cc.wt.size ≤ 65536) :
    DefDoes Tryz.prog 64 [pt0 c5, pt0 c10, pt0 c3, pt0 c7, pt0 c9] [celI c5 (.bool true) tBo, celI c10 (.bool true) tBo, celI c3 (pt0 b) 25, pts c7 (.cells (coC cc).toArray 28 (0, 0)), pts c9 (.cells (wilC cc).toArray 24 (0, 0)), brI b S, trI S.tr, nvI S.ke S.sp, rgH G]
      (fun y : Rg × AccS => EnvB y.1 ∧ grG G y.1) (fun y => [brI b (accB S y.2), trI S.tr, logI y.2.v 1 (entE S.ck cc.id true cc), rgH y.1]) := by
  refine defers_of (val := fun _ => .tuple #[]) Tryz.func64 rfl rfl Tryz.ntmps64 rfl eNUM (fun c hrnd hds => ?_)
  have ha := br_accept E b S hl hk hrt cc.id true cc hx htt
  (refine go ?_; intros)
  (show wpO _ _ ⟨_, .call _, _, _, _, _⟩ _ _ _ _ _ _; refine o_callA (ha) (fun y hy => ?_); try simp only [List.cons_append, List.nil_append])
  (refine go ?_; intros)
  exact qm_ret0 hds (.inr rfl) (q_ret0 rfl y rfl hy eNT _ (.inr rfl))
theorem dp_no (c5 c10 c3 c7 c9 : Nat) (fire left : Bool) (h : (fire && left) = false) :
    DefDoes Tryz.prog 64 [pt0 c5, pt0 c10, pt0 c3, pt0 c7, pt0 c9] [celI c5 (.bool fire) tBo, celI c10 (.bool left) tBo] (fun _ : Unit => True) (fun _ => []) := by
  refine defers_of (val := fun _ => .tuple #[]) Tryz.func64 rfl rfl Tryz.ntmps64 rfl eNUM (fun c hrnd hds => ?_)
  cases fire with
  | false =>
    (refine go ?_; intros)
    exact qm_ret0 hds (.inr rfl) (q_ret0 rfl () rfl trivial eNT _ (.inr rfl))
  | true =>
    cases left with
    | false =>
      (refine go ?_; intros)
      exact qm_ret0 hds (.inr rfl) (q_ret0 rfl () rfl trivial eNT _ (.inr rfl))
    | true => cases h
set_option maxHeartbeats 4000000 in
theorem br_dropA (b cn : Nat) (S : BrS) (h0 : S.c0 = pt0 cn) (hs0 : S.s0 = -1) (C : CnS) (hc : C.cl = false) (hwf : C.wl = false) (hcm : C.cm = false) (o : DuS) (fire : Bool) : FnDoes Tryz.prog 44 [pt0 b, nat64 0, .bool fire] [brI b S, cnnI cn C, dueI S.du o] (fun _ : Unit => True) (fun _ => .tuple #[]) (fun _ => [brI b (outS S), cnnI cn { C with cl := true }, dueI S.du .e]) := by
  have hw := cn_who cn C
  have hwl := cn_will cn C
  have hcl := cn_close cn C hc
  have hdu := du_drop S.du o
  simp only [hcm, hwf, if_false, Bool.false_eq_true] at hw hwl
  obtain ⟨c0, k0, s0, c1, k1, s1, lk, ss, tr, ke, du, sp, ck, lg, ak, rt⟩ := S
  try dsimp only at *
  subst h0 hs0
  refine does_ofM Tryz.func44 rfl rfl Tryz.ntmps44 rfl eNUM (fun c hrnd hds => ?_)
  (refine go ?_; intro c3 c5 c6)
  (show wpO _ _ ⟨_, .call _, _, _, _, _⟩ _ _ _ _ _ _; refine o_callA (hw) (fun _ _ => ?_); try simp only [List.cons_append, List.nil_append])
  (refine go ?_; intro c7)
  (show wpO _ _ ⟨_, .call _, _, _, _, _⟩ _ _ _ _ _ _; refine o_callA (hwl) (fun _ _ => ?_); try simp only [List.cons_append, List.nil_append])
  (refine go ?_; intro c9 c10)
  refine o_evB (ev_makeFunc (vb := []) (vf := [pt0 c5, pt0 c10, pt0 c3, pt0 c7, pt0 c9]) rfl rfl) ?_
  (refine go ?_; intros)
  refine o_defer hrnd rfl rfl ?_
  (refine go ?_; intros)
  (show wpO _ _ ⟨_, .call _, _, _, _, _⟩ _ _ _ _ _ _; refine o_callA (hcl) (fun _ _ => ?_); try simp only [List.cons_append, List.nil_append])
  (refine go ?_; intros)
  refine o_store_part (vs := [pn, nat64 0, .int .i64 (-1)]) rfl rfl rfl rfl rfl rfl pK (by simp) rfl ?_
  (refine go ?_; intros)
  (show wpO _ _ ⟨_, .call _, _, _, _, _⟩ _ _ _ _ _ _; refine o_callA (hdu) (fun rr _ => ?_); try simp only [List.cons_append, List.nil_append])
  (refine go ?_; intros)
  refine qm_defer (dp_no c5 c10 c3 c7 c9 fire false (by cases fire <;> rfl)) (Picks.ent pKS) (.inr rfl) (fun _ _ => ?_)
  simp only [List.cons_append, List.nil_append]
  exact qm_ret0 hds (.inr rfl) (q_ret0 rfl () rfl trivial eNT _ (.inr rfl))
set_option maxHeartbeats 4000000 in
theorem br_dropC (b cn : Nat) (S : BrS) (h0 : S.c0 = pt0 cn) (hs0 : S.s0 = 0) (C : CnS) (hc : C.cl = false) (hcm : C.cm = true) (fire : Bool) (hf : (fire && C.wl) = false) (o : DuS) (Z : NsS) : FnDoes Tryz.prog 44 [pt0 b, nat64 0, .bool fire] [brI b S, cnnI cn C, dueI S.du o, ssI S.ss (pt0 Z.s) true, nssI Z false true] (fun _ : Unit => True) (fun _ => .tuple #[])
    (fun _ => [brI b (outS S), cnnI cn { C with cl := true }, dueI S.du .e, ssI S.ss (pt0 Z.s) true, nssI Z false false]) := by
  have hw := cn_who cn C
  have hwl := cn_will cn C
  have hcl := cn_close cn C hc
  have hdu := du_drop S.du o
  have hle := br_leave b (outS S) Z
  simp only [hcm, if_true] at hw
  generalize (if C.wl = true then C.who else co0) = wc at hwl
  obtain ⟨c0, k0, s0, c1, k1, s1, lk, ss, tr, ke, du, sp, ck, lg, ak, rt⟩ := S
  try dsimp only at *
  subst h0 hs0
  refine does_ofM Tryz.func44 rfl rfl Tryz.ntmps44 rfl eNUM (fun c hrnd hds => ?_)
  (refine go ?_; intro c3 c5 c6)
  (show wpO _ _ ⟨_, .call _, _, _, _, _⟩ _ _ _ _ _ _; refine o_callA (hw) (fun _ _ => ?_); try simp only [List.cons_append, List.nil_append])
  (refine go ?_; intro c7)
  (show wpO _ _ ⟨_, .call _, _, _, _, _⟩ _ _ _ _ _ _; refine o_callA (hwl) (fun _ _ => ?_); try simp only [List.cons_append, List.nil_append])
  (refine go ?_; intro c9 c10)
  refine o_evB (ev_makeFunc (vb := []) (vf := [pt0 c5, pt0 c10, pt0 c3, pt0 c7, pt0 c9]) rfl rfl) ?_
  (refine go ?_; intros)
  refine o_defer hrnd rfl rfl ?_
  (refine go ?_; intros)
  (show wpO _ _ ⟨_, .call _, _, _, _, _⟩ _ _ _ _ _ _; refine o_callA (hcl) (fun _ _ => ?_); try simp only [List.cons_append, List.nil_append])
  (refine go ?_; intros)
  refine o_store_part (vs := [pn, nat64 0, .int .i64 (-1)]) rfl rfl rfl rfl rfl rfl pK (by simp) rfl ?_
  (refine go ?_; intros)
  (show wpO _ _ ⟨_, .call _, _, _, _, _⟩ _ _ _ _ _ _; refine o_callA (hdu) (fun rr _ => ?_); try simp only [List.cons_append, List.nil_append])
  (refine go ?_; intros)
  (show wpO _ _ ⟨_, .call _, _, _, _, _⟩ _ _ _ _ _ _; refine o_callA (hle) (fun _ _ => ?_); try simp only [List.cons_append, List.nil_append])
  (refine go ?_; intros)
  refine qm_defer (dp_no c5 c10 c3 c7 c9 fire C.wl hf) (Picks.ent pKS) (.inr rfl) (fun _ _ => ?_)
  simp only [List.cons_append, List.nil_append]
  exact qm_ret0 hds (.inr rfl) (q_ret0 rfl () rfl trivial eNT _ (.inr rfl))
set_option maxHeartbeats 4000000 in
theorem br_dropB {G : Rg} (E : EnvB G) (b cn : Nat) (S : BrS) (h0 : S.c0 = pt0 cn) (hs0 : S.s0 = 0) (hl : S.lg = sn0) (hk : S.ak = sn0) (hrt : S.rt = 0) (C : CnS) (hc : C.cl = false) (hcm : C.cm = true) (hwt : C.wl = true) (hx : C.who.wx.size ≤ 1000000) (htt : C.who.wt.size ≤ 65536) (o : DuS) (Z : NsS) :
    FnDoes Tryz.prog 44 [pt0 b, nat64 0, .bool true] [brI b S, cnnI cn C, dueI S.du o, ssI S.ss (pt0 Z.s) true, nssI Z false true, trI S.tr, nvI S.ke S.sp, rgH G] (fun y : Rg × AccS => EnvB y.1 ∧ grG G y.1) (fun _ => .tuple #[])
      (fun y => [brI b (accB (outS S) y.2), cnnI cn { C with cl := true }, dueI S.du .e, ssI S.ss (pt0 Z.s) true, nssI Z false false, trI S.tr, logI y.2.v 1 (entE S.ck C.who.id true C.who), rgH y.1]) := by
  have hw := cn_who cn C
  have hwl := cn_will cn C
  have hcl := cn_close cn C hc
  have hdu := du_drop S.du o
  have hle := br_leave b (outS S) Z
  simp only [hcm, hwt, if_true] at hw hwl
  have hfi := fun c5 c10 c3 c7 c9 => dp_fire E c5 c10 c3 c7 c9 b (outS S) hl hk hrt C.who hx htt
  obtain ⟨c0, k0, s0, c1, k1, s1, lk, ss, tr, ke, du, sp, ck, lg, ak, rt⟩ := S
  try dsimp only at *
  subst h0 hs0
  refine does_ofM Tryz.func44 rfl rfl Tryz.ntmps44 rfl eNUM (fun c hrnd hds => ?_)
  (refine go ?_; intro c3 c5 c6)
  (show wpO _ _ ⟨_, .call _, _, _, _, _⟩ _ _ _ _ _ _; refine o_callA (hw) (fun _ _ => ?_); try simp only [List.cons_append, List.nil_append])
  (refine go ?_; intro c7)
  (show wpO _ _ ⟨_, .call _, _, _, _, _⟩ _ _ _ _ _ _; refine o_callA (hwl) (fun _ _ => ?_); try simp only [List.cons_append, List.nil_append])
  (refine go ?_; intro c9 c10)
  refine o_evB (ev_makeFunc (vb := []) (vf := [pt0 c5, pt0 c10, pt0 c3, pt0 c7, pt0 c9]) rfl rfl) ?_
  (refine go ?_; intros)
  refine o_defer hrnd rfl rfl ?_
  (refine go ?_; intros)
  (show wpO _ _ ⟨_, .call _, _, _, _, _⟩ _ _ _ _ _ _; refine o_callA (hcl) (fun _ _ => ?_); try simp only [List.cons_append, List.nil_append])
  (refine go ?_; intros)
  refine o_store_part (vs := [pn, nat64 0, .int .i64 (-1)]) rfl rfl rfl rfl rfl rfl pK (by simp) rfl ?_
  (refine go ?_; intros)
  (show wpO _ _ ⟨_, .call _, _, _, _, _⟩ _ _ _ _ _ _; refine o_callA (hdu) (fun rr _ => ?_); try simp only [List.cons_append, List.nil_append])
  (refine go ?_; intros)
  (show wpO _ _ ⟨_, .call _, _, _, _, _⟩ _ _ _ _ _ _; refine o_callA (hle) (fun _ _ => ?_); try simp only [List.cons_append, List.nil_append])
  (refine go ?_; intros)
  refine qm_defer (hfi c5 c10 c3 c7 c9) (Picks.ent pKS) (.inr rfl) (fun y hy => ?_)
  simp only [List.cons_append, List.nil_append]
  exact qm_ret0 hds (.inr rfl) (q_ret0 rfl y rfl hy eNT _ (.inr rfl))
end Go.Proofs.YtnaabpfpldelmaaGreatDoor
set_option linter.unusedSimpArgs false
set_option linter.unusedVariables false
set_option maxRecDepth 20000
namespace Go.Proofs.YtnaabpfpldelmaaGreatDoor
open Go Go.Sx
abbrev brM (f : FuncId) (b : Nat) : Value := .func (.func f) [pt0 b].toArray [].toArray
abbrev slS (S : BrS) : Nat → BrS
  | 0 => { S with s0 := 0 }
  | _ => { S with s1 := 0 }
abbrev acC (C : CnS) (cn : Nat) (v : Value) (cc : CoS) : CnS := { C with who := cc, cm := true, wl := cc.hw, ba := pt0 cn, bv := v }
attribute [local irreducible] MidQ wpE wpO wpC qE wpQ wpQO wpH wpHO wpD wpDO wpZ Ev own emp exI sl ch PostS LoopQ Rd rowsAt
theorem br_server1 (b : Nat) : FnDoes Tryz.prog 73 [pt0 b, nat64 1] [] (fun _ : Unit => True) (fun _ => brM 93 b) (fun _ => []) := by
  refine does_of Tryz.func73 rfl rfl Tryz.ntmps73 rfl eNUM (fun c => ?_)
  (refine go ?_; intros)
  refine o_evB (ev_makeFunc (vb := [pt0 b]) (vf := []) rfl rfl) ?_
  (refine go ?_; intros)
  exact q_ret1 rfl rfl () rfl trivial eNT
theorem br_server12 (b : Nat) : FnDoes Tryz.prog 73 [pt0 b, nat64 12] [] (fun _ : Unit => True) (fun _ => brM 99 b) (fun _ => []) := by
  refine does_of Tryz.func73 rfl rfl Tryz.ntmps73 rfl eNUM (fun c => ?_)
  (refine go ?_; intros)
  refine o_evB (ev_makeFunc (vb := [pt0 b]) (vf := []) rfl rfl) ?_
  (refine go ?_; intros)
  exact q_ret1 rfl rfl () rfl trivial eNT
theorem br_server14 (b : Nat) : FnDoes Tryz.prog 73 [pt0 b, nat64 14] [] (fun _ : Unit => True) (fun _ => brM 100 b) (fun _ => []) := by
  refine does_of Tryz.func73 rfl rfl Tryz.ntmps73 rfl eNUM (fun c => ?_)
  (refine go ?_; intros)
  refine o_evB (ev_makeFunc (vb := [pt0 b]) (vf := []) rfl rfl) ?_
  (refine go ?_; intros)
  exact q_ret1 rfl rfl () rfl trivial eNT
set_option maxHeartbeats 1000000 in
theorem br_name (b : Nat) (S : BrS) (cc : CoS) (hc : cc.id = naA) : FnDoes Tryz.prog 129 [pt0 b, .agg (coC cc).toArray] [brI b S] (fun _ : Unit => True) (fun _ => .tuple #[.agg (coC cc).toArray, .bool true]) (fun _ => [brI b S]) := by
  have hz : cc.id.size = 1 := by rw [hc]; rfl
  have hne : cc.id ≠ (⟨#[]⟩ : ByteArray) := by rw [hc]; decide
  refine does_of Tryz.func129 rfl rfl Tryz.ntmps129 rfl eNUM (fun c => ?_)
  (refine go ?_; intro c3 c4)
  refine wpC_drawnA [pts c3 (.cells (coC cc).toArray 28 (0, 0))] 6 ?_
  ((first | refine dt 0 ?_ | refine dts 0 ?_); (first | refine dt 1 ?_ | refine dts 1 ?_); (first | refine dt 2 ?_ | refine dts 2 ?_); (first | refine dt 3 ?_ | refine dts 3 ?_); (first | refine dt 4 ?_ | refine dts 4 ?_))
  (refine wpD_effU 5 rfl rfl (by decide +kernel) rfl ?_; show OUL _ ⟨_, .store _ _ _, _, _, _, _⟩ _ _ _ _ _)
  refine x_storeP (vs := coC cc) (by rfl) (by rfl) (by rfl) (by rfl) (by rfl) (by rfl) pK (by simp) rfl ⟨eNT, ?_⟩
  (refine dl ?_)
  (refine go ?_; intros)
  exact q_retAT (l1 := coC cc) rfl rfl rfl rfl rfl rfl rfl pK () rfl trivial eNT
set_option maxHeartbeats 2000000 in
theorem br_take0 (b : Nat) (S : BrS) (h0 : S.s0 = -1) (h1 : S.s1 = -1) (cl : ByteArray) : FnDoes Tryz.prog 130 [pt0 b, .string cl] [brI b S] (fun _ : Unit => True) (fun _ => .tuple #[]) (fun _ => [brI b S]) := by
  obtain ⟨c0, k0, s0, c1, k1, s1, lk, ss, tr, ke, du, sp, ck, lg, ak, rt⟩ := S
  try dsimp only at h0 h1 ⊢
  subst h0 h1
  refine does_of Tryz.func130 rfl rfl Tryz.ntmps130 rfl eNUM (fun c => ?_)
  (refine go ?_; intros)
  refine wpC_loop (σ := Nat) (fun i => i ≤ 8) (fun i => [(0, pt0 b), (1, .string cl), (7, nat64 i)]) (fun _ => [brI b ⟨c0, k0, -1, c1, k1, -1, lk, ss, tr, ke, du, sp, ck, lg, ak, rt⟩]) (fun i => 8 - i) 0 (Nat.zero_le _) sUB eNT (fun i hi => ?_)
  rcases (show i = 0 ∨ i = 1 ∨ i = 2 ∨ i = 3 ∨ i = 4 ∨ i = 5 ∨ i = 6 ∨ i = 7 ∨ i = 8 by omega) with rfl | rfl | rfl | rfl | rfl | rfl | rfl | rfl | rfl
  · (refine go ?_; intros)
    exact q_round 1 (by decide) (by decide) sUB eNT
  · (refine go ?_; intros)
    exact q_round 2 (by decide) (by decide) sUB eNT
  · (refine go ?_; intros)
    exact q_round 3 (by decide) (by decide) sUB eNT
  · (refine go ?_; intros)
    exact q_round 4 (by decide) (by decide) sUB eNT
  · (refine go ?_; intros)
    exact q_round 5 (by decide) (by decide) sUB eNT
  · (refine go ?_; intros)
    exact q_round 6 (by decide) (by decide) sUB eNT
  · (refine go ?_; intros)
    exact q_round 7 (by decide) (by decide) sUB eNT
  · (refine go ?_; intros)
    exact q_round 8 (by decide) (by decide) sUB eNT
  · (refine go ?_; intros)
    exact q_ret0 rfl () rfl trivial eNT _ (.inr rfl)
abbrev tkO (b cn : Nat) (S : BrS) (C : CnS) (o : DuS) (Z : NsS) (G : Rg) : Nat → Rg × AccS → List HProp
  | 0, _ => [brI b S, cnnI cn C, dueI S.du o, ssI S.ss (pt0 Z.s) true, nssI Z false true, trI S.tr, nvI S.ke S.sp, rgH G]
  | _, y => [brI b (accB (outS S) y.2), cnnI cn { C with cl := true }, dueI S.du .e, ssI S.ss (pt0 Z.s) true, nssI Z false false, trI S.tr, logI y.2.v 1 (entE S.ck C.who.id true C.who), rgH y.1]
set_option maxHeartbeats 4000000 in
theorem br_take1 {G : Rg} (E : EnvB G) (b cn : Nat) (S : BrS) (h0 : S.c0 = pt0 cn) (hs0 : S.s0 = 0) (hs1 : S.s1 = -1) (hl : S.lg = sn0) (hk : S.ak = sn0) (hrt : S.rt = 0) (C : CnS) (hc : C.cl = false) (hcm : C.cm = true) (hwt : C.wl = true) (hid : C.who.id = naA) (hx : C.who.wx.size ≤ 1000000) (htt : C.who.wt.size ≤ 65536) (o : DuS) (Z : NsS) :
    FnDoes Tryz.prog 130 [pt0 b, .string naA] (tkO b cn S C o Z G 0 (G, ⟨pn, pn, 0⟩)) (fun y : Rg × AccS => EnvB y.1 ∧ grG G y.1) (fun _ => .tuple #[]) (fun y => tkO b cn S C o Z G 1 y) := by
  have hd := br_dropB E b cn S h0 hs0 hl hk hrt C hc hcm hwt hx htt o Z
  have hw := cn_who cn C
  simp only [hcm, if_true] at hw
  obtain ⟨c0, k0, s0, c1, k1, s1, lk, ss, tr, ke, du, sp, ck, lg, ak, rt⟩ := S
  obtain ⟨ba, bv, f, fs, cls, bd, who, cm, wl⟩ := C
  obtain ⟨lv, cl, kp, id, hw', wt, wx, wq, wr, hu, us, hp, ps⟩ := who
  try dsimp only at *
  subst h0 hs0 hs1 hid
  refine does_of Tryz.func130 rfl rfl Tryz.ntmps130 rfl eNUM (fun c => ?_)
  (refine go ?_; intros)
  refine wpC_loop (σ := Nat × Rg × AccS) (fun s => s.1 ≤ 8 ∧ (s.1 ≠ 0 → EnvB s.2.1 ∧ grG G s.2.1)) (fun s => [(0, pt0 b), (1, .string naA), (7, nat64 s.1)]) (fun s => tkO b cn ⟨pt0 cn, k0, 0, c1, k1, -1, lk, ss, tr, ke, du, sp, ck, lg, ak, rt⟩ ⟨ba, bv, f, fs, cls, bd, ⟨lv, cl, kp, naA, hw', wt, wx, wq, wr, hu, us, hp, ps⟩, cm, wl⟩ o Z G s.1 s.2) (fun s => 8 - s.1) (0, G, ⟨pn, pn, 0⟩) ⟨Nat.zero_le _, fun h => absurd rfl h⟩ sUB (by first | (dsimp only [tkO]; ((try simp only [List.cons_append, List.nil_append]); repeat (first | exact Ent.nil | (apply Ent.cons; repeat (first | exact Pick.head | apply Pick.tail))))) | ((try simp only [List.cons_append, List.nil_append]); repeat (first | exact Ent.nil | (apply Ent.cons; repeat (first | exact Pick.head | apply Pick.tail))))) (fun s hs => ?_)
  obtain ⟨i, G1, a⟩ := s
  obtain ⟨hi, he⟩ := hs
  try dsimp only at hi he
  rcases (show i = 0 ∨ i = 1 ∨ i = 2 ∨ i = 3 ∨ i = 4 ∨ i = 5 ∨ i = 6 ∨ i = 7 ∨ i = 8 by omega) with rfl | rfl | rfl | rfl | rfl | rfl | rfl | rfl | rfl
  · dsimp only [tkO]
    (refine go ?_; intros)
    (show wpO _ _ ⟨_, .call _, _, _, _, _⟩ _ _ _ _ _ _; refine o_callA (hw) (fun _ _ => ?_); try simp only [List.cons_append, List.nil_append])
    (refine go ?_; intros)
    (show wpO _ _ ⟨_, .call _, _, _, _, _⟩ _ _ _ _ _ _; refine o_callA (hd) (fun y hy => ?_); try simp only [List.cons_append, List.nil_append])
    (refine go ?_; intros)
    exact q_round (1, y) ⟨show (1 : Nat) ≤ 8 by decide, fun _ => hy⟩ (show (7 : Nat) < 8 by decide) sUB (by first | (dsimp only [tkO]; ((try simp only [List.cons_append, List.nil_append]); repeat (first | exact Ent.nil | (apply Ent.cons; repeat (first | exact Pick.head | apply Pick.tail))))) | ((try simp only [List.cons_append, List.nil_append]); repeat (first | exact Ent.nil | (apply Ent.cons; repeat (first | exact Pick.head | apply Pick.tail)))))
  · dsimp only [tkO]
    (refine go ?_; intros)
    exact q_round (2, G1, a) ⟨show (2 : Nat) ≤ 8 by decide, fun _ => he (by decide)⟩ (show (6 : Nat) < 7 by decide) sUB (by first | (dsimp only [tkO]; ((try simp only [List.cons_append, List.nil_append]); repeat (first | exact Ent.nil | (apply Ent.cons; repeat (first | exact Pick.head | apply Pick.tail))))) | ((try simp only [List.cons_append, List.nil_append]); repeat (first | exact Ent.nil | (apply Ent.cons; repeat (first | exact Pick.head | apply Pick.tail)))))
  · dsimp only [tkO]
    (refine go ?_; intros)
    exact q_round (3, G1, a) ⟨show (3 : Nat) ≤ 8 by decide, fun _ => he (by decide)⟩ (show (5 : Nat) < 6 by decide) sUB (by first | (dsimp only [tkO]; ((try simp only [List.cons_append, List.nil_append]); repeat (first | exact Ent.nil | (apply Ent.cons; repeat (first | exact Pick.head | apply Pick.tail))))) | ((try simp only [List.cons_append, List.nil_append]); repeat (first | exact Ent.nil | (apply Ent.cons; repeat (first | exact Pick.head | apply Pick.tail)))))
  · dsimp only [tkO]
    (refine go ?_; intros)
    exact q_round (4, G1, a) ⟨show (4 : Nat) ≤ 8 by decide, fun _ => he (by decide)⟩ (show (4 : Nat) < 5 by decide) sUB (by first | (dsimp only [tkO]; ((try simp only [List.cons_append, List.nil_append]); repeat (first | exact Ent.nil | (apply Ent.cons; repeat (first | exact Pick.head | apply Pick.tail))))) | ((try simp only [List.cons_append, List.nil_append]); repeat (first | exact Ent.nil | (apply Ent.cons; repeat (first | exact Pick.head | apply Pick.tail)))))
  · dsimp only [tkO]
    (refine go ?_; intros)
    exact q_round (5, G1, a) ⟨show (5 : Nat) ≤ 8 by decide, fun _ => he (by decide)⟩ (show (3 : Nat) < 4 by decide) sUB (by first | (dsimp only [tkO]; ((try simp only [List.cons_append, List.nil_append]); repeat (first | exact Ent.nil | (apply Ent.cons; repeat (first | exact Pick.head | apply Pick.tail))))) | ((try simp only [List.cons_append, List.nil_append]); repeat (first | exact Ent.nil | (apply Ent.cons; repeat (first | exact Pick.head | apply Pick.tail)))))
  · dsimp only [tkO]
    (refine go ?_; intros)
    exact q_round (6, G1, a) ⟨show (6 : Nat) ≤ 8 by decide, fun _ => he (by decide)⟩ (show (2 : Nat) < 3 by decide) sUB (by first | (dsimp only [tkO]; ((try simp only [List.cons_append, List.nil_append]); repeat (first | exact Ent.nil | (apply Ent.cons; repeat (first | exact Pick.head | apply Pick.tail))))) | ((try simp only [List.cons_append, List.nil_append]); repeat (first | exact Ent.nil | (apply Ent.cons; repeat (first | exact Pick.head | apply Pick.tail)))))
  · dsimp only [tkO]
    (refine go ?_; intros)
    exact q_round (7, G1, a) ⟨show (7 : Nat) ≤ 8 by decide, fun _ => he (by decide)⟩ (show (1 : Nat) < 2 by decide) sUB (by first | (dsimp only [tkO]; ((try simp only [List.cons_append, List.nil_append]); repeat (first | exact Ent.nil | (apply Ent.cons; repeat (first | exact Pick.head | apply Pick.tail))))) | ((try simp only [List.cons_append, List.nil_append]); repeat (first | exact Ent.nil | (apply Ent.cons; repeat (first | exact Pick.head | apply Pick.tail)))))
  · dsimp only [tkO]
    (refine go ?_; intros)
    exact q_round (8, G1, a) ⟨show (8 : Nat) ≤ 8 by decide, fun _ => he (by decide)⟩ (show (0 : Nat) < 1 by decide) sUB (by first | (dsimp only [tkO]; ((try simp only [List.cons_append, List.nil_append]); repeat (first | exact Ent.nil | (apply Ent.cons; repeat (first | exact Pick.head | apply Pick.tail))))) | ((try simp only [List.cons_append, List.nil_append]); repeat (first | exact Ent.nil | (apply Ent.cons; repeat (first | exact Pick.head | apply Pick.tail)))))
  · dsimp only [tkO]
    (refine go ?_; intros)
    exact q_ret0 rfl (G1, a) rfl (he (by decide)) (by first | (dsimp only [tkO]; ((try simp only [List.cons_append, List.nil_append]); repeat (first | exact Ent.nil | (apply Ent.cons; repeat (first | exact Pick.head | apply Pick.tail))))) | ((try simp only [List.cons_append, List.nil_append]); repeat (first | exact Ent.nil | (apply Ent.cons; repeat (first | exact Pick.head | apply Pick.tail))))) _ (.inr rfl)
set_option maxHeartbeats 4000000 in
theorem br_settle0 {G : Rg} (hM : mayG G) (b cn : Nat) (S : BrS) (h0 : S.c0 = pt0 cn) (C : CnS) (hc : C.cl = false) (ha : atOk cn C.ba) (ob : List UInt8) (hob : ob.length ≤ 1000) (cc : CoS) (Z : NsS) (cl : Bool) :
    FnDoes Tryz.prog 132 [pt0 b, nat64 0, nat64 0, .bool false, .agg (coC cc).toArray] (brI b S :: trI S.tr :: cnnI cn C :: bytI C.bv ob :: ssI S.ss (pt0 Z.s) true :: rgH G :: nsL Z cl false) (fun _ : Value => True) (fun _ => .tuple #[])
      (fun v => brI b (slS S 0) :: trI S.tr :: cnnI cn (acC C cn v cc) :: bytI v (ob ++ [32, 2, 0, 0]) :: ssI S.ss (pt0 Z.s) true :: rgH G :: nsL Z cl true) := by
  have ht := tr_clearI S.tr 0 (by decide)
  have hac := cn_accept cn C cc
  have hat := sn_at S.ss Z.s
  have hat2 := ns_attach Z cl
  have he := fun bb => br_emit1 hM 2 (.inl rfl) b 0 cn bb (slS S 0) (.inl ⟨rfl, h0⟩) { C with who := cc, cm := true, wl := cc.hw } hc ha ob hob
  have hen := br_emitN b 0 (slS S 0) (.inl rfl) cn cn (fun h => by first | exact h0 | cases h) (fun h => by first | exact h0 | cases h)
  obtain ⟨c0, k0, s0, c1, k1, s1, lk, ss, tr, ke, du, sp, ck, lg, ak, rt⟩ := S
  try dsimp only [slS] at *
  subst h0
  refine does_of Tryz.func132 rfl rfl Tryz.ntmps132 rfl eNUM (fun c => ?_)
  (refine go ?_; intro c9)
  (show wpO _ _ ⟨_, .call _, _, _, _, _⟩ _ _ _ _ _ _; refine o_callA (ht) (fun _ _ => ?_); try simp only [List.cons_append, List.nil_append])
  (refine go ?_; intros)
  refine wpC_drawnA [brI b ⟨pt0 cn, k0, 0, c1, k1, s1, lk, ss, tr, ke, du, sp, ck, lg, ak, rt⟩, pts c9 (.cells (coC cc).toArray 28 (0, 0))] 8 ?_
  ((first | refine dt 0 ?_ | refine dts 0 ?_); (first | refine dt 1 ?_ | refine dts 1 ?_); (first | refine dt 2 ?_ | refine dts 2 ?_); (first | refine dt 3 ?_ | refine dts 3 ?_); (first | refine dt 4 ?_ | refine dts 4 ?_); (first | refine dt 5 ?_ | refine dts 5 ?_); (first | refine dt 6 ?_ | refine dts 6 ?_); (first | refine df 7 ?_ | refine dfs 7 ?_))
  (refine dlcall (hac) (fun _ _ => ?_); try simp only [List.cons_append, List.nil_append])
  (refine go ?_; intro bb)
  have he2 := he bb
  (show wpO _ _ ⟨_, .call _, _, _, _, _⟩ _ _ _ _ _ _; refine o_callA (he2) (fun v _ => ?_); try simp only [List.cons_append, List.nil_append])
  (refine go ?_; intros)
  (show wpO _ _ ⟨_, .call _, _, _, _, _⟩ _ _ _ _ _ _; refine o_callA (hat) (fun _ _ => ?_); try simp only [List.cons_append, List.nil_append])
  (refine go ?_; intros)
  (show wpO _ _ ⟨_, .call _, _, _, _, _⟩ _ _ _ _ _ _; refine o_callA (hat2) (fun _ _ => ?_); try simp only [List.cons_append, List.nil_append])
  (refine go ?_; intros)
  (show wpO _ _ ⟨_, .call _, _, _, _, _⟩ _ _ _ _ _ _; refine o_callA (hen) (fun _ _ => ?_); try simp only [List.cons_append, List.nil_append])
  (refine go ?_; intros)
  exact q_ret0 rfl v rfl trivial eNT _ (.inr rfl)
set_option maxHeartbeats 4000000 in
theorem br_settle1 {G : Rg} (hM : mayG G) (b cn : Nat) (S : BrS) (h0 : S.c1 = pt0 cn) (C : CnS) (hc : C.cl = false) (ha : atOk cn C.ba) (ob : List UInt8) (hob : ob.length ≤ 1000) (cc : CoS) (Z : NsS) (cl : Bool) :
    FnDoes Tryz.prog 132 [pt0 b, nat64 1, nat64 0, .bool false, .agg (coC cc).toArray] (brI b S :: trI S.tr :: cnnI cn C :: bytI C.bv ob :: ssI S.ss (pt0 Z.s) true :: rgH G :: nsL Z cl false) (fun _ : Value => True) (fun _ => .tuple #[])
      (fun v => brI b (slS S 1) :: trI S.tr :: cnnI cn (acC C cn v cc) :: bytI v (ob ++ [32, 2, 0, 0]) :: ssI S.ss (pt0 Z.s) true :: rgH G :: nsL Z cl true) := by
  have ht := tr_clearI S.tr 0 (by decide)
  have hac := cn_accept cn C cc
  have hat := sn_at S.ss Z.s
  have hat2 := ns_attach Z cl
  have he := fun bb => br_emit1 hM 2 (.inl rfl) b 1 cn bb (slS S 1) (.inr ⟨rfl, h0⟩) { C with who := cc, cm := true, wl := cc.hw } hc ha ob hob
  have hen := br_emitN b 1 (slS S 1) (.inr rfl) cn cn (fun h => by first | exact h0 | cases h) (fun h => by first | exact h0 | cases h)
  obtain ⟨c0, k0, s0, c1, k1, s1, lk, ss, tr, ke, du, sp, ck, lg, ak, rt⟩ := S
  try dsimp only [slS] at *
  subst h0
  refine does_of Tryz.func132 rfl rfl Tryz.ntmps132 rfl eNUM (fun c => ?_)
  (refine go ?_; intro c9)
  (show wpO _ _ ⟨_, .call _, _, _, _, _⟩ _ _ _ _ _ _; refine o_callA (ht) (fun _ _ => ?_); try simp only [List.cons_append, List.nil_append])
  (refine go ?_; intros)
  refine wpC_drawnA [brI b ⟨c0, k0, s0, pt0 cn, k1, 0, lk, ss, tr, ke, du, sp, ck, lg, ak, rt⟩, pts c9 (.cells (coC cc).toArray 28 (0, 0))] 8 ?_
  ((first | refine dt 0 ?_ | refine dts 0 ?_); (first | refine dt 1 ?_ | refine dts 1 ?_); (first | refine dt 2 ?_ | refine dts 2 ?_); (first | refine dt 3 ?_ | refine dts 3 ?_); (first | refine dt 4 ?_ | refine dts 4 ?_); (first | refine dt 5 ?_ | refine dts 5 ?_); (first | refine dt 6 ?_ | refine dts 6 ?_); (first | refine df 7 ?_ | refine dfs 7 ?_))
  (refine dlcall (hac) (fun _ _ => ?_); try simp only [List.cons_append, List.nil_append])
  (refine go ?_; intro bb)
  have he2 := he bb
  (show wpO _ _ ⟨_, .call _, _, _, _, _⟩ _ _ _ _ _ _; refine o_callA (he2) (fun v _ => ?_); try simp only [List.cons_append, List.nil_append])
  (refine go ?_; intros)
  (show wpO _ _ ⟨_, .call _, _, _, _, _⟩ _ _ _ _ _ _; refine o_callA (hat) (fun _ _ => ?_); try simp only [List.cons_append, List.nil_append])
  (refine go ?_; intros)
  (show wpO _ _ ⟨_, .call _, _, _, _, _⟩ _ _ _ _ _ _; refine o_callA (hat2) (fun _ _ => ?_); try simp only [List.cons_append, List.nil_append])
  (refine go ?_; intros)
  (show wpO _ _ ⟨_, .call _, _, _, _, _⟩ _ _ _ _ _ _; refine o_callA (hen) (fun _ _ => ?_); try simp only [List.cons_append, List.nil_append])
  (refine go ?_; intros)
  exact q_ret0 rfl v rfl trivial eNT _ (.inr rfl)
end Go.Proofs.YtnaabpfpldelmaaGreatDoor
