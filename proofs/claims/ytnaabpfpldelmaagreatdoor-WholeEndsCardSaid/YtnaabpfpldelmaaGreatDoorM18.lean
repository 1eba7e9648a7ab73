/-
  Tables of values, read: the whole of it.
-/
import Derived.Test.YtnaabpfpldelmaaGreatDoorM17
set_option linter.unusedSimpArgs false
set_option linter.unusedVariables false
set_option maxRecDepth 20000
namespace Go.Proofs.YtnaabpfpldelmaaGreatDoor
open Go Go.Sx
structure SrtS where
  e : Nat
  q1 : Value
  k1 : Nat
  x1 : List Value
  q2 : Value
  k2 : Nat
  x2 : List Value
  q3 : Value
  k3 : Nat
  x3 : List Value
def SrtOk (s : SrtS) : Prop := fldOk s.x1 s.k1 ∧ fldOk s.x2 s.k2 ∧ fldOk s.x3 s.k3 ∧ s.k1 = s.k2 ∧ s.k1 ≤ 16 ∧ s.k3 ≤ 32
abbrev srtI (s : SrtS) : List HProp := [flI s.q1 s.k1 s.x1, flI s.q2 s.k2 s.x2, flI s.q3 s.k3 s.x3]
abbrev nl : Value := .slice none 0 0
theorem srt0 (e : Nat) : SrtOk ⟨e, nl, 0, [], nl, 0, [], nl, 0, []⟩ := ⟨fld_nil, fld_nil, fld_nil, rfl, Nat.zero_le _, Nat.zero_le _⟩
attribute [local irreducible] MidQ wpE wpO wpC qE wpQ wpQO wpH wpHO wpD wpDO wpZ Ev own emp exI sl ch PostS LoopQ Rd rowsAt
set_option maxHeartbeats 1000000 in
theorem da_sort {X : HProp} {v : Value} {k : Nat} {xs : List Value} (hX : Rd X 4 v k xs) (hx : fldOk xs k) (hk : k ≤ 256) : FnDoes Tryz.prog 678 [v] [X] SrtOk (fun y => .tuple #[.agg [y.q1, y.q2, y.q3].toArray, nat64 y.e]) (fun y => [X] ++ srtI y) := by
  refine does_of Tryz.func678 rfl rfl Tryz.ntmps678 rfl eNUM (fun c => ?_)
  refine wpC_fact (hX.isSlice .head) (fun hs => ?_)
  obtain ⟨a, cap, rfl, ha⟩ := hs
  (refine go ?_; intro c2)
  refine wpC_loop (σ := Nat) (fun i => i ≤ k) (fun i => [(0, .slice a k cap), (2, pt0 c2), (10, .slice a k cap), (11, nat64 k), (12, nat64 i)]) (fun _ => [X, pts c2 (.cells [nl, nl, nl].toArray 810 (0, 0))]) (fun i => k - i) 0 (Nat.zero_le _) sUB eNT (fun i hi => ?_)
  by_cases hlt : i < k
  · obtain ⟨b, o, rfl, hcap⟩ := ha (by omega)
    obtain ⟨x, y, z, t, hf, hrow⟩ := fld_row hx hlt
    (refine go ?_; intros)
    refine o_evB (ev_load_rd_agg (vs := fldC x y z t) rfl rfl rfl rfl hX pK rfl rfl hrow) ?_
    (refine go ?_; intro c5)
    (show wpO _ _ ⟨_, .call _, _, _, _, _⟩ _ _ _ _ _ _; refine o_callA (da_wrong x y z t) (fun e _ => ?_); try simp only [List.cons_append, List.nil_append])
    by_cases he : e = 0
    · subst he
      (refine go ?_; intros)
      exact q_round (i + 1) hlt (by show k - (i + 1) < k - i; omega) sUB eNT
    · have he' : (e : Int) ≠ 0 := by omega
      (refine go ?_; intros)
      exact q_retAT rfl rfl rfl rfl rfl rfl rfl pK _ rfl (srt0 e) (Ent.cons pK (Ent.slNil (Ent.slNil (Ent.slNil Ent.nil))))
  · have h1 := wire_all hX hx hk 2
    have h2 := wire_all hX hx hk 3
    have h3 := wire_all hX hx hk 4
    have h4 := wire_last hX hx hk 1
    (refine go ?_; intros)
    (show wpO _ _ ⟨_, .call _, _, _, _, _⟩ _ _ _ _ _ _; refine o_callA (h1) (fun ⟨_, q1, k1, x1⟩ hy1 => ?_); try simp only [List.cons_append, List.nil_append])
    (refine go ?_; intros)
    (show wpO _ _ ⟨_, .call _, _, _, _, _⟩ _ _ _ _ _ _; refine o_callA (h2) (fun ⟨_, q2, k2, x2⟩ hy2 => ?_); try simp only [List.cons_append, List.nil_append])
    (refine go ?_; intros)
    (show wpO _ _ ⟨_, .call _, _, _, _, _⟩ _ _ _ _ _ _; refine o_callA (h3) (fun ⟨_, q3, k3, x3⟩ hy3 => ?_); try simp only [List.cons_append, List.nil_append])
    obtain ⟨hy1, hk1⟩ := hy1
    obtain ⟨hy2, hk2⟩ := hy2
    obtain ⟨hy3, hk3⟩ := hy3
    try dsimp only at hy1 hk1 hy2 hk2 hy3 hk3 ⊢
    refine wpE_fact ((Rd.ofSl : Rd (flI q1 k1 x1) 4 q1 k1 x1).isSlice pK) (fun hs => ?_)
    obtain ⟨a1, cp1, rfl, _⟩ := hs
    refine wpE_fact ((Rd.ofSl : Rd (flI q2 k2 x2) 4 q2 k2 x2).isSlice pK) (fun hs => ?_)
    obtain ⟨a2, cp2, rfl, _⟩ := hs
    refine wpE_fact ((Rd.ofSl : Rd (flI q3 k3 x3) 4 q3 k3 x3).isSlice pK) (fun hs => ?_)
    obtain ⟨a3, cp3, rfl, _⟩ := hs
    (refine go ?_; intro c7)
    (show wpO _ _ ⟨_, .call _, _, _, _, _⟩ _ _ _ _ _ _; refine o_callA (h4) (fun ⟨nx, ny, nz, nt, nb⟩ hn => ?_); try simp only [List.cons_append, List.nil_append])
    have hn' := inK_u64.1 hn
    try dsimp only at hn' ⊢
    (refine go ?_; intro c8)
    refine o_evB (ev_max (r := ((max k1 k2 : Nat) : Int)) rfl rfl (by omega)) ?_
    by_cases m1 : ((max k1 k2 : Nat) : Int) > 16
    · (refine go ?_; intros)
      exact q_retAT rfl rfl rfl rfl rfl rfl rfl pK _ rfl (srt0 6) (Ent.cons pK (Ent.slNil (Ent.slNil (Ent.slNil Ent.nil))))
    by_cases m2 : k3 > 32
    · (refine go ?_; intros)
      exact q_retAT rfl rfl rfl rfl rfl rfl rfl pK _ rfl (srt0 6) (Ent.cons pK (Ent.slNil (Ent.slNil (Ent.slNil Ent.nil))))
    by_cases m3 : k1 = k2
    · by_cases m4 : nz = (k1 : Int)
      · (refine go ?_; intros)
        exact q_retAT rfl rfl rfl rfl rfl rfl rfl pK ⟨0, .slice a1 k1 cp1, k1, x1, .slice a2 k2 cp2, k2, x2, .slice a3 k3 cp3, k3, x3⟩ rfl ⟨hy1, hy2, hy3, m3, by dsimp only; omega, by dsimp only; omega⟩ eNT
      · (refine go ?_; intros)
        exact q_retAT rfl rfl rfl rfl rfl rfl rfl pK _ rfl (srt0 4) (Ent.cons pK (Ent.slNil (Ent.slNil (Ent.slNil Ent.nil))))
    · (refine go ?_; intros)
      exact q_retAT rfl rfl rfl rfl rfl rfl rfl pK _ rfl (srt0 4) (Ent.cons pK (Ent.slNil (Ent.slNil (Ent.slNil Ent.nil))))
theorem str_row {ρ : Rho} {s : ByteArray} (h : s.size ≤ 65536) : okRows shp ρ 9 [.string s] 1 := okRows.one (by rw [shp_str]; exact ⟨⟨_, rfl, h⟩, trivial⟩)
theorem u32_row {ρ : Rho} {x : Int} : okRows shp ρ 293 [.int .u32 x] 1 := okRows.one (by rw [shp_u32]; exact ⟨rfl, trivial⟩)
theorem vals_row {ρ : Rho} {v : Value} (h : v.oneCell' = true) : okRows shp ρ 762 [v] 1 := okRows.one (by rw [shp_values]; exact ⟨h, trivial⟩)
theorem set_rows {a b c : Value} (h1 : a.oneCell' = true) (h2 : b.oneCell' = true) (h3 : c.oneCell' = true) : okRows shp ρ0 740 [a, b, c] 1 := okRows.one (by rw [shp_set]; exact ⟨h1, h2, h3, trivial⟩)
abbrev dsC (c : Nat) (a b d : Value) : HProp := pts c (.cells [a, b, d].toArray 740 (0, 0))
set_option maxHeartbeats 2000000 in
theorem da_of {X : HProp} {v : Value} {l : List UInt8} {G : Rg} (hX : Bs X v l) (hl : l.length ≤ 1000000) (hG : okG G) (hK : knG G) : FnDoes Tryz.prog 672 [v] [rgH G, X]
    (fun y : Rg × List Value × Nat => okG y.1 ∧ grG G y.1 ∧ okRows shp ρ0 740 y.2.1 1) (fun y => .tuple #[.agg y.2.1.toArray, nat64 y.2.2]) (fun y => [rgH y.1, X]) := by
  have hz : okRows shp ρ0 740 [nl, nl, nl] 1 := set_rows rfl rfl rfl
  refine does_of Tryz.func672 rfl rfl Tryz.ntmps672 rfl eNUM (fun c => ?_)
  have hw := wire_of hX hl
  (refine go ?_; intro c2)
  (show wpO _ _ ⟨_, .call _, _, _, _, _⟩ _ _ _ _ _ _; refine o_callA (hw) (fun ⟨e, q, k, xs⟩ hq => ?_); try simp only [List.cons_append, List.nil_append])
  obtain ⟨hq, hk⟩ := hq
  try dsimp only at hq hk ⊢
  by_cases he : e = 0
  · subst he
    have hs := da_sort (X := flI q k xs) (v := q) Rd.ofSl hq hk
    (refine go ?_; intros)
    (show wpO _ _ ⟨_, .call _, _, _, _, _⟩ _ _ _ _ _ _; refine o_callA (hs) (fun ⟨e, q1, k1, x1, q2, k2, x2, q3, k3, x3⟩ hy => ?_); try simp only [List.cons_append, List.nil_append])
    obtain ⟨y1, y2, y3, y4, y5, y6⟩ := hy
    try dsimp only at y1 y2 y3 y4 y5 y6 ⊢
    subst y4
    try simp only [List.cons_append, List.nil_append]
    refine wpE_fact (sl_one (v := q1) pK) (fun ho1 => ?_)
    refine wpE_fact (sl_one (v := q2) pK) (fun ho2 => ?_)
    refine wpE_fact (sl_one (v := q3) pK) (fun ho3 => ?_)
    by_cases he : e = 0
    · subst he
      have hr1 : Rd (flI q1 k1 x1) 4 q1 k1 x1 := Rd.ofSl
      have hr2 : Rd (flI q2 k1 x2) 4 q2 k1 x2 := Rd.ofSl
      have hr3 : Rd (flI q3 k3 x3) 4 q3 k3 x3 := Rd.ofSl
      (refine go ?_; intro c6 c7)
      refine wpC_loop (σ := Nat × Rg × Value × Nat × Value × Nat) (fun s => s.1 ≤ k1 ∧ okG s.2.1 ∧ grG G s.2.1 ∧ slG s.2.1 9 s.2.2.1 s.2.2.2.1 ∧ s.2.2.2.1 ≤ s.1 ∧ slG s.2.1 293 s.2.2.2.2.1 s.2.2.2.2.2 ∧ s.2.2.2.2.2 ≤ s.1)
        (fun s => [(2, pt0 c2), (6, pt0 c6), (7, pt0 c7), (32, nat64 k1), (33, nat64 s.1)])
        (fun s => [rgH s.2.1, X, flI q1 k1 x1, flI q2 k1 x2, flI q3 k3 x3, dsC c2 nl nl nl, pts c6 (.cells [q1, q2, q3].toArray 810 (0, 0)), dsC c7 s.2.2.1 s.2.2.2.2.1 nl]) (fun s => k1 - s.1) (0, G, nl, 0, nl, 0)
        ⟨Nat.zero_le _, hG, Gr.refl _ _, okSl.nil, Nat.le_refl _, okSl.nil, Nat.le_refl _⟩ sUB eNT (fun s hs => ?_)
      obtain ⟨i, G1, cv, cn, tv, tn⟩ := s
      obtain ⟨hi, hG1, hgr, hcv, hcn, htv, htn⟩ := hs
      try dsimp only at hi hG1 hgr hcv hcn htv htn ⊢
      have hcv1 := hcv.one
      have htv1 := htv.one
      by_cases hlt : i < k1
      · refine wpC_fact (hr1.isSlice pK) (fun hs => ?_)
        obtain ⟨a1, cap1, rfl, ha1⟩ := hs
        refine wpC_fact (hr2.isSlice pK) (fun hs => ?_)
        obtain ⟨a2, cap2, rfl, ha2⟩ := hs
        obtain ⟨b1, o1, rfl, hcap1⟩ := ha1 (by omega)
        obtain ⟨b2, o2, rfl, hcap2⟩ := ha2 (by omega)
        obtain ⟨fx, fy, fz, fs, ⟨_, _, _, hfs⟩, hrow1⟩ := fld_row y1 hlt
        obtain ⟨gx, gy, gz, gs, ⟨_, _, hgz, _⟩, hrow2⟩ := fld_row y2 hlt
        (refine go ?_; intros)
        refine wpC_drawnA [dsC c7 cv tv nl, pts c6 (.cells [.slice (some ⟨b1, o1, none⟩) k1 cap1, .slice (some ⟨b2, o2, none⟩) k1 cap2, q3].toArray 810 (0, 0)), flI (.slice (some ⟨b1, o1, none⟩) k1 cap1) k1 x1] 11 ?_
        ((first | refine dt 0 ?_ | refine dts 0 ?_); (first | refine dt 1 ?_ | refine dts 1 ?_); (first | refine dt 2 ?_ | refine dts 2 ?_); (first | refine dt 3 ?_ | refine dts 3 ?_); (first | refine df 4 ?_ | refine dfs 4 ?_); (first | refine df 5 ?_ | refine dfs 5 ?_); (first | refine df 6 ?_ | refine dfs 6 ?_))
        refine dfB 7 rfl (ev_load_rd rfl rfl rfl hr1 pK (by omega) (hrow1 3 _ rfl)) ?_
        (refine wpD_eff 8 rfl rfl (by kernel_rfl) rfl rfl ?_; show OVL _ ⟨_, .buildSlice _ _ _, _, _, _, _⟩ _ _ _ _ _ _)
        refine x_buildSlice1 (by rfl) (by rfl) (by rfl) (by rfl) (by rfl) (by rfl) (by rfl) (by rfl) (fun bb => ⟨eNT, ?_⟩)
        (refine wpD_eff 9 rfl rfl (by kernel_rfl) rfl rfl ?_; show OVL _ ⟨_, .call { callee := .builtin .append, args := _, argTypes := _ }, _, _, _, _⟩ _ _ _ _ _ _)
        refine x_appendR (S := shp) (m := 1) (news := [.string fs]) pK hG1 hcv (str_row hfs) ?_ (fun v' ρ' H' w1 w2 w3 => ⟨eNT, ?_⟩) (src_pts rfl pK rfl rfl rfl)
        · show (cn + 1) * 16 ≤ 140737488355328
          omega
        have hv1 := w3.one
        ((first | refine df 10 ?_ | refine dfs 10 ?_))
        (refine wpD_lastU rfl rfl (by kernel_rfl) (by kernel_rfl) rfl ?_; show OUL _ ⟨_, .store _ _ _, _, _, _, _⟩ _ _ _ _ _)
        refine x_store (by rfl) (by rfl) (by rfl) (by rfl) hv1 pK (Upd1.of (by simp)) ?_
        (refine go ?_; intros)
        refine wpC_drawnA [dsC c7 v' tv nl, pts c6 (.cells [.slice (some ⟨b1, o1, none⟩) k1 cap1, .slice (some ⟨b2, o2, none⟩) k1 cap2, q3].toArray 810 (0, 0)), flI (.slice (some ⟨b2, o2, none⟩) k1 cap2) k1 x2] 12 ?_
        ((first | refine dt 0 ?_ | refine dts 0 ?_); (first | refine dt 1 ?_ | refine dts 1 ?_); (first | refine dt 2 ?_ | refine dts 2 ?_); (first | refine dt 3 ?_ | refine dts 3 ?_); (first | refine df 4 ?_ | refine dfs 4 ?_); (first | refine df 5 ?_ | refine dfs 5 ?_); (first | refine df 6 ?_ | refine dfs 6 ?_))
        refine dfB 7 rfl (ev_load_rd rfl rfl rfl hr2 pK (by omega) (hrow2 2 _ rfl)) ?_
        refine dfB 8 rfl (ev_conv_int rfl rfl rfl rfl) ?_
        (refine wpD_eff 9 rfl rfl (by kernel_rfl) rfl rfl ?_; show OVL _ ⟨_, .buildSlice _ _ _, _, _, _, _⟩ _ _ _ _ _ _)
        refine x_buildSlice1 (by rfl) (by rfl) (by rfl) (by rfl) (by rfl) (by rfl) (by rfl) (by rfl) (fun bb => ⟨eNT, ?_⟩)
        (refine wpD_eff 10 rfl rfl (by kernel_rfl) rfl rfl ?_; show OVL _ ⟨_, .call { callee := .builtin .append, args := _, argTypes := _ }, _, _, _, _⟩ _ _ _ _ _ _)
        refine x_appendR (S := shp) (m := 1) (news := [.int .u32 (IntKind.u32.wrap gz)]) pK w1 (htv.mono w2.le) u32_row ?_ (fun v2 ρ2 H2 w4 w5 w6 => ⟨eNT, ?_⟩) (src_pts rfl pK rfl rfl rfl)
        · show (tn + 1) * 4 ≤ 140737488355328
          omega
        have hv2 := w6.one
        ((first | refine df 11 ?_ | refine dfs 11 ?_))
        (refine wpD_lastU rfl rfl (by kernel_rfl) (by kernel_rfl) rfl ?_; show OUL _ ⟨_, .store _ _ _, _, _, _, _⟩ _ _ _ _ _)
        refine x_store (by rfl) (by rfl) (by rfl) (by rfl) hv2 pK (Upd1.of (by simp)) ?_
        (refine go ?_; intros)
        exact q_round (i + 1, (ρ2, H2), v', cn + 1, v2, tn + 1) ⟨hlt, w4, hgr.trans (w2.trans w5), w3.mono w5.le, by dsimp only; omega, w6, by dsimp only; omega⟩ (by show k1 - (i + 1) < k1 - i; omega) sUB eNT
      · (refine go ?_; intros)
        refine wpC_loop (σ := Nat × Rg × Value × Nat) (fun s => s.1 ≤ k3 ∧ okG s.2.1 ∧ grG G1 s.2.1 ∧ slG s.2.1 762 s.2.2.1 s.2.2.2 ∧ s.2.2.2 ≤ s.1)
          (fun s => [(2, pt0 c2), (6, pt0 c6), (7, pt0 c7), (62, nat64 k3), (63, nat64 s.1)])
          (fun s => [rgH s.2.1, X, flI q1 k1 x1, flI q2 k1 x2, flI q3 k3 x3, dsC c2 nl nl nl, pts c6 (.cells [q1, q2, q3].toArray 810 (0, 0)), dsC c7 cv tv s.2.2.1]) (fun s => k3 - s.1) (0, G1, nl, 0)
          ⟨Nat.zero_le _, hG1, Gr.refl _ _, okSl.nil, Nat.le_refl _⟩ sUB eNT (fun s hs => ?_)
        obtain ⟨j, G2, rv, rn⟩ := s
        obtain ⟨hj, hG2, hgr2, hrv, hrn⟩ := hs
        try dsimp only at hj hG2 hgr2 hrv hrn ⊢
        have hrv1 := hrv.one
        by_cases hlt3 : j < k3
        · refine wpC_fact (hr3.isSlice pK) (fun hs => ?_)
          obtain ⟨a3, cap3, rfl, ha3⟩ := hs
          obtain ⟨b3, o3, rfl, hcap3⟩ := ha3 (by omega)
          obtain ⟨hx', hy', hz', hs', ⟨_, _, _, hfs'⟩, hrow3⟩ := fld_row y3 hlt3
          have hread := da_read hG2 (hK.up (hgr.trans hgr2)) hs' hfs' k1 (by omega)
          (refine go ?_; intros)
          refine wpC_drawnA [pts c6 (.cells [q1, q2, .slice (some ⟨b3, o3, none⟩) k3 cap3].toArray 810 (0, 0)), flI q1 k1 x1, flI (.slice (some ⟨b3, o3, none⟩) k3 cap3) k3 x3] 14 ?_
          ((first | refine dt 0 ?_ | refine dts 0 ?_); (first | refine dt 1 ?_ | refine dts 1 ?_); (first | refine dt 2 ?_ | refine dts 2 ?_); (first | refine dt 3 ?_ | refine dts 3 ?_); (first | refine dt 4 ?_ | refine dts 4 ?_))
          refine dtB 5 rfl (ev_load_rd rfl rfl rfl hr3 pK (by omega) (hrow3 3 _ rfl)) ?_
          ((first | refine df 6 ?_ | refine dfs 6 ?_); (first | refine df 7 ?_ | refine dfs 7 ?_); (first | refine df 8 ?_ | refine dfs 8 ?_))
          refine dcall 9 hread (fun y hy => ?_)
          obtain ⟨G3, wv, e⟩ := y
          obtain ⟨z1, z2, z3⟩ := hy
          try dsimp only at z1 z2 z3 ⊢
          simp only [List.cons_append, List.nil_append]
          ((first | refine df 10 ?_ | refine dfs 10 ?_); (first | refine dt 11 ?_ | refine dts 11 ?_); (first | refine dt 12 ?_ | refine dts 12 ?_); (first | refine df 13 ?_ | refine dfs 13 ?_); refine dl ?_)
          by_cases he : e = 0
          · subst he
            have hwc : wv.cells = [wv].toArray := by cases wv <;> first | rfl | cases z3
            (refine go ?_; intros)
            refine o_buildSlice1 (l := [wv]) rfl hwc rfl rfl rfl rfl rfl rfl rfl (fun bb => ?_)
            (refine go ?_; intros)
            refine o_appendR (S := shp) (m := 1) (news := [wv]) z1 (hrv.mono z2.le) (vals_row z3) ?_ (fun v' ρ' H' w1 w2 w3 => ?_) (src_pts rfl pK rfl rfl (by simp [z3]))
            · show (rn + 1) * 24 ≤ 140737488355328
              omega
            have hv1 := w3.one
            (refine go ?_; intros)
            exact q_round (j + 1, (ρ', H'), v', rn + 1) ⟨hlt3, w1, hgr2.trans (z2.trans w2), w3, by dsimp only; omega⟩ (by show k3 - (j + 1) < k3 - j; omega) sUB eNT
          · have he' : (e : Int) ≠ 0 := by omega
            (refine go ?_; intros)
            exact q_retAT rfl rfl rfl rfl rfl rfl rfl pK (G3, [nl, nl, nl], e) rfl ⟨z1, hgr.trans (hgr2.trans z2), hz⟩ eNT
        · (refine go ?_; intros)
          exact q_retAT rfl rfl rfl rfl rfl rfl rfl pK (G2, [cv, tv, rv], 0) rfl ⟨hG2, hgr.trans hgr2, set_rows hcv1 htv1 hrv1⟩ eNT
    · have he' : (e : Int) ≠ 0 := by omega
      (refine go ?_; intros)
      exact q_retAT rfl rfl rfl rfl rfl rfl rfl pK (G, [nl, nl, nl], e) rfl ⟨hG, Gr.refl _ _, hz⟩ eNT
  · have he' : (e : Int) ≠ 0 := by omega
    (refine go ?_; intros)
    exact q_retAT rfl rfl rfl rfl rfl rfl rfl pK (G, [nl, nl, nl], e) rfl ⟨hG, Gr.refl _ _, hz⟩ eNT
end Go.Proofs.YtnaabpfpldelmaaGreatDoor
