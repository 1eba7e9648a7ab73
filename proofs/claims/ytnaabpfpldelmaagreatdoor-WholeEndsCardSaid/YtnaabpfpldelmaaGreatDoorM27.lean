/-
  The steps that are taken at an entry: told, remembered, asked.
  All nodes and hosts, where nothing is known yet: an entry comes.
  All nodes and hosts, where nothing is known yet: an entry comes.
-/
import Derived.Test.YtnaabpfpldelmaaGreatDoorM26
set_option linter.unusedSimpArgs false
set_option linter.unusedVariables false
set_option maxRecDepth 20000
namespace Go.Proofs.YtnaabpfpldelmaaGreatDoor
open Go Go.Sx
structure EnvF (G : Rg) : Prop where
  env : EnvG G
  er : erG G
  kn : knG G
theorem EnvF.up {G G' : Rg} (h : EnvF G) (k : okG G') (g : grG G G') : EnvF G' := ⟨h.env.up k g, h.er.up g, h.kn.up g⟩
attribute [local irreducible] MidQ wpE wpO wpC qE wpQ wpQO wpH wpHO wpD wpDO wpZ Ev own emp exI sl ch PostS LoopQ Rd rowsAt
set_option maxHeartbeats 1000000 in
theorem sk_tell {G : Rg} (F : EnvF G) (s x : Nat) (e : EntS) (he : EntOk e) (E : EdN) (hnd : e.nd = some ⟨E.e, 0, none⟩) : FnDoes Tryz.prog 161 [pt0 s, pt0 x] (entI x e :: rgH G :: ednL e.g e.n E) (fun y : Rg × Int => EnvF y.1 ∧ grG G y.1 ∧ (y.2 = 1 → e.k = 1)) (fun _ => .bool true)
    (fun y => [entI x { e with cd := y.2 }, rgH y.1]) := by
  obtain ⟨a0, a1, a2, a3, a4, k, g, n, d, nd, cd, gr, nn, ak⟩ := e
  obtain ⟨o1, o2, o3, o4, o5, o6, o7, o8⟩ := he
  try dsimp only at o1 o2 o3 o4 o5 o6 o7 o8 hnd ⊢
  subst hnd
  have hrf := ed_refuse g n E
  unfold ednL edg0 at hrf ⊢
  refine does_of Tryz.func161 rfl rfl Tryz.ntmps161 rfl eNUM (fun c => ?_)
  (refine go ?_; intros)
  refine o_bytesOf rfl rfl rfl rfl rfl (fun v => ?_)
  have hof := py_of (X := bsI v a2.data.toList) (v := v) Bs.ofBsI (by rw [size_list]; omega) F.env.ok F.kn
  refine wpE_fact (Bs.ofBsI.isSlice .head) (fun hv => ?_)
  obtain ⟨va, vc, rfl, _⟩ := hv
  (refine go ?_; intros)
  (show wpO _ _ ⟨_, .call _, _, _, _, _⟩ _ _ _ _ _ _; refine o_callA (hof) (fun ⟨G1, p, er⟩ ⟨x1, x2, x3⟩ => ?_); try simp only [List.cons_append, List.nil_append])
  try dsimp only at x1 x2 x3 ⊢
  have F1 := F.up x1 x2
  have hm := x3.mv.one
  by_cases h0 : er = 0
  · subst h0
    have htk := ed_take x1 F1.er g n E k d p x3
    (refine go ?_; intro c5)
    refine wpC_drawnA [entI x ⟨a0, a1, a2, a3, a4, k, g, n, d, some ⟨E.e, 0, none⟩, cd, gr, nn, ak⟩, payI c5 p] 20 ?_
    ((first | refine dt 0 ?_ | refine dts 0 ?_); (first | refine dt 1 ?_ | refine dts 1 ?_); (first | refine dt 2 ?_ | refine dts 2 ?_); (first | refine dt 3 ?_ | refine dts 3 ?_); (first | refine dt 4 ?_ | refine dts 4 ?_); (first | refine dt 5 ?_ | refine dts 5 ?_); (first | refine dt 6 ?_ | refine dts 6 ?_); (first | refine dt 7 ?_ | refine dts 7 ?_); (first | refine dt 8 ?_ | refine dts 8 ?_); (first | refine dt 9 ?_ | refine dts 9 ?_); (first | refine dt 10 ?_ | refine dts 10 ?_); (first | refine dt 11 ?_ | refine dts 11 ?_); (first | refine dt 12 ?_ | refine dts 12 ?_); (first | refine dt 13 ?_ | refine dts 13 ?_); (first | refine dt 14 ?_ | refine dts 14 ?_); (first | refine df 15 ?_ | refine dfs 15 ?_))
    refine dcall 16 htk (fun y hy => ?_)
    obtain ⟨G2, c2⟩ := y
    obtain ⟨x4, x5, x6⟩ := hy
    try dsimp only at x4 x5 x6 ⊢
    simp only [List.cons_append, List.nil_append]
    ((first | refine df 17 ?_ | refine dfs 17 ?_); (first | refine df 18 ?_ | refine dfs 18 ?_); (first | refine df 19 ?_ | refine dfs 19 ?_))
    (refine wpD_lastU rfl rfl (by kernel_rfl) (by kernel_rfl) rfl ?_; show OUL _ ⟨_, .store _ _ _, _, _, _, _⟩ _ _ _ _ _)
    refine x_store (by rfl) (by rfl) (by rfl) (by rfl) (by rfl) pK (Upd1.of (by simp)) ?_
    (refine go ?_; intros)
    exact q_ret1 rfl rfl (G2, c2) rfl ⟨F1.up x4 x5, x2.trans x5, x6⟩ eNT
  · have h1 : (er : Int) ≠ 0 := by omega
    (refine go ?_; intros)
    (show wpO _ _ ⟨_, .call _, _, _, _, _⟩ _ _ _ _ _ _; refine o_callA (hrf) (fun _ _ => ?_); try simp only [List.cons_append, List.nil_append])
    (refine go ?_; intros)
    exact q_ret1 rfl rfl (G1, 3) rfl ⟨F1, x2, fun h => by cases h⟩ eNT
set_option maxHeartbeats 1000000 in
theorem sk_remember {G : Rg} (F : EnvF G) (P : SpkS) (x : Nat) (e : EntS) (he : EntOk e) (hc : e.cd = 1 → e.k = 1) : FnDoes Tryz.prog 162 [pt0 P.s, pt0 x] [entI x e, spkI P, birI P.b, rgH G] (fun y : Rg × Bool => EnvF y.1 ∧ grG G y.1) (fun y => .bool y.2)
    (fun y => [entI x e, spkI P, rgH y.1]) := by
  obtain ⟨a0, a1, a2, a3, a4, k, g, n, d, nd, cd, gr, nn, ak⟩ := e
  obtain ⟨o1, o2, o3, o4, o5, o6, o7, o8⟩ := he
  try dsimp only at o1 o2 o3 o4 o5 o6 o7 o8 hc ⊢
  refine does_of Tryz.func162 rfl rfl Tryz.ntmps162 rfl eNUM (fun c => ?_)
  by_cases h1 : cd = 1
  · subst h1
    obtain rfl := hc rfl
    have hb := sp_births F.env ⟨1, g, n, d⟩ ⟨o3, o4, o5, o6⟩
    (refine go ?_; intros)
    (show wpO _ _ ⟨_, .call _, _, _, _, _⟩ _ _ _ _ _ _; refine o_callA (hb) (fun ⟨G1, r1, r2⟩ ⟨E1, x1⟩ => ?_); try simp only [List.cons_append, List.nil_append])
    try dsimp only at E1 x1 ⊢
    have F1 : EnvF G1 := ⟨E1, F.er.up x1, F.kn.up x1⟩
    have hp := bi_put E1 P.b a1 a2 o1
    (refine go ?_; intros)
    refine wpC_drawnA [entI x ⟨a0, a1, a2, a3, a4, 1, g, n, d, nd, 1, gr, nn, ak⟩, spkI P] 14 ?_
    ((first | refine dt 0 ?_ | refine dts 0 ?_); (first | refine dt 1 ?_ | refine dts 1 ?_); (first | refine dt 2 ?_ | refine dts 2 ?_); (first | refine dt 3 ?_ | refine dts 3 ?_); (first | refine dt 4 ?_ | refine dts 4 ?_); (first | refine dt 5 ?_ | refine dts 5 ?_); (first | refine dt 6 ?_ | refine dts 6 ?_); (first | refine dt 7 ?_ | refine dts 7 ?_); (first | refine dt 8 ?_ | refine dts 8 ?_); (first | refine df 9 ?_ | refine dfs 9 ?_); (first | refine df 10 ?_ | refine dfs 10 ?_); (first | refine df 11 ?_ | refine dfs 11 ?_); (first | refine df 12 ?_ | refine dfs 12 ?_); (first | refine df 13 ?_ | refine dfs 13 ?_))
    (refine dlcall (hp) (fun y hy => ?_); try simp only [List.cons_append, List.nil_append])
    obtain ⟨G2, q⟩ := y
    obtain ⟨E2, x2⟩ := hy
    try dsimp only at E2 x2 ⊢
    try simp only [List.cons_append, List.nil_append]
    (refine go ?_; intros)
    exact q_ret1 rfl rfl (G2, false) rfl ⟨⟨E2, F1.er.up x2, F1.kn.up x2⟩, x1.trans x2⟩ eNT
  · (refine go ?_; intros)
    exact q_ret1 rfl rfl (G, true) rfl ⟨F, Gr.refl _ _⟩ eNT
theorem sk_text (a b : ByteArray) (ha : a.size ≤ 65536) (hb : b.size ≤ 65536) : FnDoes Tryz.prog 229 [.agg [.string a, .string b].toArray] [] (fun _ : ByteArray => True) (fun s => .string s) (fun _ => []) := by
  have hz : slash1.size = 1 := rfl
  refine does_of Tryz.func229 rfl rfl Tryz.ntmps229 rfl eNUM (fun c => ?_)
  (refine go ?_; intros)
  refine o_evB (ev_concat rfl rfl (by show a.size + slash1.size ≤ _; omega)) ?_
  (refine go ?_; intros)
  refine o_evB (ev_concat rfl rfl (by show (a ++ slash1).size + b.size ≤ _; rw [ByteArray.size_append]; omega)) ?_
  (refine go ?_; intros)
  exact q_ret1 rfl rfl _ rfl trivial eNT
set_option maxHeartbeats 1000000 in
theorem sk_ask (P : SpkS) (x : Nat) (e : EntS) (he : EntOk e) : FnDoes Tryz.prog 163 [pt0 P.s, pt0 x] [entI x e, spkI P, ratI P.r (.slice none 0 0)] (fun _ : Bool => True) (fun _ => .bool false) (fun y => [entI x { e with ak := y }]) := by
  obtain ⟨a0, a1, a2, a3, a4, k, g, n, d, nd, cd, gr, nn, ak⟩ := e
  obtain ⟨o1, o2, o3, o4, o5, o6, o7, o8⟩ := he
  try dsimp only at o1 o2 o3 o4 o5 o6 o7 o8 ⊢
  have ht := sk_text g n o4 o5
  have hk := fun t => ra_ask P.r t a0
  refine does_of Tryz.func163 rfl rfl Tryz.ntmps163 rfl eNUM (fun c => ?_)
  by_cases h3 : cd ≥ 3
  · (refine go ?_; intros)
    refine wpC_drawnA [entI x ⟨a0, a1, a2, a3, a4, k, g, n, d, nd, cd, gr, nn, ak⟩, spkI P] 28 ?_
    ((first | refine df 0 ?_ | refine dfs 0 ?_); (first | refine df 1 ?_ | refine dfs 1 ?_); (first | refine df 2 ?_ | refine dfs 2 ?_); (first | refine df 3 ?_ | refine dfs 3 ?_); (first | refine df 4 ?_ | refine dfs 4 ?_); (first | refine df 5 ?_ | refine dfs 5 ?_); (first | refine df 6 ?_ | refine dfs 6 ?_); (first | refine dt 7 ?_ | refine dts 7 ?_); (first | refine dt 8 ?_ | refine dts 8 ?_); (first | refine dt 9 ?_ | refine dts 9 ?_); (first | refine dt 10 ?_ | refine dts 10 ?_); (first | refine dt 11 ?_ | refine dts 11 ?_); (first | refine dt 12 ?_ | refine dts 12 ?_); (first | refine dt 13 ?_ | refine dts 13 ?_); (first | refine dt 14 ?_ | refine dts 14 ?_); (first | refine dt 15 ?_ | refine dts 15 ?_); (first | refine dt 16 ?_ | refine dts 16 ?_); (first | refine dt 17 ?_ | refine dts 17 ?_); (first | refine dt 18 ?_ | refine dts 18 ?_); (first | refine dt 19 ?_ | refine dts 19 ?_); (first | refine dt 20 ?_ | refine dts 20 ?_); (first | refine dt 21 ?_ | refine dts 21 ?_); (first | refine dt 23 ?_ | refine dts 23 ?_); (first | refine dt 24 ?_ | refine dts 24 ?_); (first | refine dt 25 ?_ | refine dts 25 ?_); (first | refine dt 26 ?_ | refine dts 26 ?_))
    refine dcall 22 ht (fun t _ => ?_)
    simp only [List.cons_append, List.nil_append]
    refine dcall 27 (hk t) (fun r _ => ?_)
    simp only [List.cons_append, List.nil_append]
    (refine dl ?_)
    cases r with
    | true =>
      (refine go ?_; intros)
      exact q_ret1 rfl rfl true rfl trivial eNT
    | false =>
      (refine go ?_; intros)
      exact q_ret1 rfl rfl ak rfl trivial eNT
  · (refine go ?_; intros)
    refine wpC_drawnA [entI x ⟨a0, a1, a2, a3, a4, k, g, n, d, nd, cd, gr, nn, ak⟩, spkI P] 28 ?_
    ((first | refine df 0 ?_ | refine dfs 0 ?_); (first | refine df 1 ?_ | refine dfs 1 ?_); (first | refine df 2 ?_ | refine dfs 2 ?_); (first | refine df 3 ?_ | refine dfs 3 ?_); (first | refine df 4 ?_ | refine dfs 4 ?_); (first | refine df 5 ?_ | refine dfs 5 ?_); (first | refine df 6 ?_ | refine dfs 6 ?_); (first | refine dt 7 ?_ | refine dts 7 ?_); (first | refine dt 8 ?_ | refine dts 8 ?_); (first | refine dt 9 ?_ | refine dts 9 ?_); (first | refine dt 10 ?_ | refine dts 10 ?_); (first | refine dt 11 ?_ | refine dts 11 ?_); (first | refine dt 12 ?_ | refine dts 12 ?_); (first | refine dt 13 ?_ | refine dts 13 ?_); (first | refine dt 14 ?_ | refine dts 14 ?_); (first | refine dt 15 ?_ | refine dts 15 ?_); (first | refine dt 16 ?_ | refine dts 16 ?_); (first | refine dt 17 ?_ | refine dts 17 ?_); (first | refine dt 18 ?_ | refine dts 18 ?_); (first | refine dt 19 ?_ | refine dts 19 ?_); (first | refine dt 20 ?_ | refine dts 20 ?_); (first | refine dt 21 ?_ | refine dts 21 ?_); (first | refine dt 23 ?_ | refine dts 23 ?_); (first | refine dt 24 ?_ | refine dts 24 ?_); (first | refine dt 25 ?_ | refine dts 25 ?_); (first | refine dt 26 ?_ | refine dts 26 ?_); (first | refine df 22 ?_ | refine dfs 22 ?_); (first | refine df 27 ?_ | refine dfs 27 ?_); refine dl ?_)
    (refine go ?_; intros)
    exact q_ret1 rfl rfl ak rfl trivial eNT
end Go.Proofs.YtnaabpfpldelmaaGreatDoor
set_option linter.unusedSimpArgs false
set_option linter.unusedVariables false
set_option maxRecDepth 20000
namespace Go.Proofs.YtnaabpfpldelmaaGreatDoor
open Go Go.Sx
abbrev msgC (t x : ByteArray) (q : Int) (r : Bool) : List Value := [.string t, .string x, .int .i64 q, .bool r]
abbrev verC (c : Int) (g n : ByteArray) (a : Bool) : List Value := [.int .i64 c, .string g, .string n, .bool a]
abbrev stpV (f : FuncId) (s : Nat) : Value := .func (.func f) [pt0 s].toArray #[]
abbrev stpC (s : Nat) : List Value := [stpV 158 s, stpV 159 s, stpV 160 s, stpV 161 s, stpV 162 s, stpV 163 s]
attribute [local irreducible] MidQ wpE wpO wpC qE wpQ wpQO wpH wpHO wpD wpDO wpZ Ev own emp exI sl ch PostS LoopQ Rd rowsAt
set_option maxHeartbeats 1000000 in
theorem sk_steps (s : Nat) : FnDoes Tryz.prog 113 [pt0 s] [] (fun _ : Nat => True) (fun b => .slice (some ⟨b, 0, none⟩) 6 6) (fun b => [pts b (.cells (stpC s).toArray 230 (0, 0))]) := by
  refine does_of Tryz.func113 rfl rfl Tryz.ntmps113 rfl eNUM (fun c => ?_)
  (refine go ?_; intros)
  refine o_evB (ev_makeFunc (vb := [pt0 s]) (vf := []) rfl rfl) ?_
  (refine go ?_; intros)
  refine o_evB (ev_makeFunc (vb := [pt0 s]) (vf := []) rfl rfl) ?_
  (refine go ?_; intros)
  refine o_evB (ev_makeFunc (vb := [pt0 s]) (vf := []) rfl rfl) ?_
  (refine go ?_; intros)
  refine o_evB (ev_makeFunc (vb := [pt0 s]) (vf := []) rfl rfl) ?_
  (refine go ?_; intros)
  refine o_evB (ev_makeFunc (vb := [pt0 s]) (vf := []) rfl rfl) ?_
  (refine go ?_; intros)
  refine o_evB (ev_makeFunc (vb := [pt0 s]) (vf := []) rfl rfl) ?_
  (refine go ?_; intros)
  refine o_buildSliceN (l := stpC s) rfl rfl rfl rfl rfl rfl rfl rfl rfl (fun b => ?_)
  (refine go ?_; intros)
  exact q_ret1 rfl rfl b rfl trivial eNT
end Go.Proofs.YtnaabpfpldelmaaGreatDoor
set_option linter.unusedSimpArgs false
set_option linter.unusedVariables false
set_option maxRecDepth 20000
namespace Go.Proofs.YtnaabpfpldelmaaGreatDoor
open Go Go.Sx
def stgL (P : SpkS) (e : EntS) (E : EdN) : Nat → List HProp
  | 0 => [mapR P.m [] 0, hstI P.h P.hm, mapR P.hm [] 0, birI P.b, ratI P.r (.slice none 0 0)]
  | 1 => [mapR P.m [] 0, hstI P.h P.hm, mapR P.hm [] 0, birI P.b, ratI P.r (.slice none 0 0)]
  | 2 => [mapR P.m [] 0, birI P.b, ratI P.r (.slice none 0 0)]
  | 3 => [edgI E.e (edg0 e.g e.n E.r E.t), rowI E.r 0 false, tabI E.t E.m, mapR E.m [] 0, birI P.b, ratI P.r (.slice none 0 0)]
  | 4 => [birI P.b, ratI P.r (.slice none 0 0)]
  | _ => [ratI P.r (.slice none 0 0)]
structure VerS where
  c : Int
  g : ByteArray
  n : ByteArray
  a : Bool
structure StOk (G0 G : Rg) (e : EntS) (E : EdN) (i : Nat) : Prop where
  hi : i ≤ 5
  hF : EnvF G
  hg : grG G0 G
  he : EntOk e
  hnd : i = 3 → e.nd = some ⟨E.e, 0, none⟩
  hc : i = 4 → e.cd = 1 → e.k = 1
attribute [local irreducible] MidQ wpE wpO wpC qE wpQ wpQO wpH wpHO wpD wpDO wpZ Ev own emp exI sl ch PostS LoopQ Rd rowsAt
set_option maxHeartbeats 4000000 in
theorem sk_take {G : Rg} (F : EnvF G) (P : SpkS) (at_ : Int) (t tx : ByteArray) (q : Int) (r : Bool) (ht : t.size ≤ 65536) (htx : tx.size ≤ 1000000) : FnDoes Tryz.prog 81 [pt0 P.s, .int .i64 at_, .agg (msgC t tx q r).toArray] (rgH G :: spkL P)
    (fun y : Rg × VerS => EnvF y.1 ∧ grG G y.1 ∧ y.2.g.size ≤ 65536 ∧ y.2.n.size ≤ 65536) (fun y => .agg (verC y.2.c y.2.g y.2.n y.2.a).toArray) (fun y => [rgH y.1]) := by
  have hn := sk_none P
  have ho := sp_of F.env t ht
  refine does_of Tryz.func81 rfl rfl Tryz.ntmps81 rfl eNUM (fun c => ?_)
  (refine go ?_; intro c5 c6)
  (show wpO _ _ ⟨_, .call _, _, _, _, _⟩ _ _ _ _ _ _; refine o_callA (hn) (fun _ _ => ?_); try simp only [List.cons_append, List.nil_append])
  (refine go ?_; intros)
  refine wpC_drawnA [pts c5 (.cells (msgC t tx q r).toArray 24 (0, 0))] 7 ?_
  ((first | refine dt 0 ?_ | refine dts 0 ?_); (first | refine dt 1 ?_ | refine dts 1 ?_); (first | refine df 2 ?_ | refine dfs 2 ?_); (first | refine df 3 ?_ | refine dfs 3 ?_))
  refine dcall 4 ho (fun y hy => ?_)
  obtain ⟨G1, w⟩ := y
  obtain ⟨E1, x1, hw⟩ := hy
  obtain ⟨k, g, nn, d⟩ := w
  obtain ⟨o1, o2, o3, o4⟩ := hw
  try dsimp only at E1 x1 o1 o2 o3 o4 ⊢
  simp only [List.cons_append, List.nil_append]
  ((first | refine df 5 ?_ | refine dfs 5 ?_))
  (refine wpD_eff 6 rfl rfl (by kernel_rfl) rfl rfl ?_; show OVL _ ⟨_, .box _ _, _, _, _, _⟩ _ _ _ _ _ _)
  refine x_box (l := entyC ⟨at_, t, tx, q, r, k, g, nn, d, none, 0, mt0, mt0, false⟩) (by rfl) (by rfl) (fun x => ⟨eNT, ?_⟩)
  (refine dl ?_)
  have F1 : EnvF G1 := ⟨E1, F.er.up x1, F.kn.up x1⟩
  (refine go ?_; intros)
  (show wpO _ _ ⟨_, .call _, _, _, _, _⟩ _ _ _ _ _ _; refine o_callA (sk_steps P.s) (fun bs _ => ?_); try simp only [List.cons_append, List.nil_append])
  (refine go ?_; intros)
  refine wpC_loop (σ := Nat × Rg × EntS × EdN) (fun s => StOk G s.2.1 s.2.2.1 s.2.2.2 s.1) (fun s => [(0, pt0 P.s), (6, pt0 c6), (7, pt0 x), (21, .slice (some ⟨bs, 0, none⟩) 6 6), (22, nat64 6), (23, nat64 s.1)]) (fun s => entI x s.2.2.1 :: rgH s.2.1 :: spkI P :: pts bs (.cells (stpC P.s).toArray 230 (0, 0)) :: pts c6 (.cells (verC 0 mt0 mt0 false).toArray 193 (0, 0)) :: stgL P s.2.2.1 s.2.2.2 s.1) (fun s => 6 - s.1)
    (0, G1, ⟨at_, t, tx, q, r, k, g, nn, d, none, 0, mt0, mt0, false⟩, ⟨0, 0, 0, 0⟩) ⟨Nat.zero_le _, F1, x1, ⟨ht, htx, o1, o2, o3, o4, size_mt _ rfl, size_mt _ rfl⟩, (fun h => by cases h), (fun h => by cases h)⟩ sUB (by dsimp only [stgL]; ((try simp only [List.cons_append, List.nil_append]); repeat (first | exact Ent.nil | (apply Ent.cons; repeat (first | exact Pick.head | apply Pick.tail))))) (fun s hs => ?_)
  obtain ⟨i, G2, e, E⟩ := s
  obtain ⟨hi, F2, gr2, he, hnd, hc⟩ := hs
  have he' := he
  obtain ⟨b0, b1, b2, b3, b4, k2, g2, n2, d2, nd2, cd2, gr', nn', ak2⟩ := e
  obtain ⟨p1, p2, p3, p4, p5, p6, p7, p8⟩ := he'
  try dsimp only at hi F2 gr2 hnd hc p1 p2 p3 p4 p5 p6 p7 p8 ⊢
  rcases i with _ | _ | _ | _ | _ | _ | i
  · -- 0
    unfold stgL
    (refine go ?_; intros)
    refine o_callB (bd := [pt0 P.s]) (args := [pt0 x]) (fr := []) (sk_pass P.s x ⟨b0, b1, b2, b3, b4, k2, g2, n2, d2, nd2, cd2, gr', nn', ak2⟩) (fun y hy => ?_)
    simp only [List.cons_append, List.nil_append]
    cases y with
    | true =>
      (refine go ?_; intros)
      exact q_round (1, G2, ⟨b0, b1, b2, b3, b4, k2, g2, n2, d2, nd2, cd2, gr', nn', ak2⟩, E) ⟨by dsimp only; omega, F2, gr2, he, (fun h => by cases h), (fun h => by cases h)⟩ (by dsimp only; omega) sUB (by dsimp only [stgL]; ((try simp only [List.cons_append, List.nil_append]); repeat (first | exact Ent.nil | (apply Ent.cons; repeat (first | exact Pick.head | apply Pick.tail)))))
    | false =>
      (refine go ?_; intros)
      exact q_retCell (l := verC cd2 gr' nn' ak2) rfl rfl rfl rfl rfl pK rfl (G2, ⟨cd2, gr', nn', ak2⟩) rfl ⟨F2, gr2, p7, p8⟩ eNT
  · -- 1
    unfold stgL
    (refine go ?_; intros)
    refine o_callB (bd := [pt0 P.s]) (args := [pt0 x]) (fr := []) (sk_state P x ⟨b0, b1, b2, b3, b4, k2, g2, n2, d2, nd2, cd2, gr', nn', ak2⟩ he) (fun y hy => ?_)
    obtain ⟨yb, yc⟩ := y
    try dsimp only at hy ⊢
    cases yb with
    | true =>
      obtain rfl := hy rfl
      simp only [List.cons_append, List.nil_append]
      (refine go ?_; intros)
      exact q_round (2, G2, ⟨b0, b1, b2, b3, b4, k2, g2, n2, d2, nd2, yc, gr', n2, ak2⟩, E) ⟨by dsimp only; omega, F2, gr2, ⟨p1, p2, p3, p4, p5, p6, p7, p5⟩, (fun h => by cases h), (fun h => by cases h)⟩ (by dsimp only; omega) sUB (by dsimp only [stgL]; ((try simp only [List.cons_append, List.nil_append]); repeat (first | exact Ent.nil | (apply Ent.cons; repeat (first | exact Pick.head | apply Pick.tail)))))
    | false =>
      simp only [List.cons_append, List.nil_append]
      (refine go ?_; intros)
      exact q_retCell (l := verC yc gr' n2 ak2) rfl rfl rfl rfl rfl pK rfl (G2, ⟨yc, gr', n2, ak2⟩) rfl ⟨F2, gr2, p7, p5⟩ eNT
  · -- 2
    unfold stgL
    (refine go ?_; intros)
    refine o_callB (bd := [pt0 P.s]) (args := [pt0 x]) (fr := []) (sk_know P x ⟨b0, b1, b2, b3, b4, k2, g2, n2, d2, nd2, cd2, gr', nn', ak2⟩) (fun y hy => ?_)
    cases y with
    | some E3 =>
      unfold knL ednL
      simp only [List.cons_append, List.nil_append]
      (refine go ?_; intros)
      exact q_round (3, G2, ⟨b0, b1, b2, b3, b4, k2, g2, n2, d2, some ⟨E3.e, 0, none⟩, cd2, g2, nn', ak2⟩, E3) ⟨by dsimp only; omega, F2, gr2, ⟨p1, p2, p3, p4, p5, p6, p4, p8⟩, fun _ => rfl, (fun h => by cases h)⟩ (by dsimp only; omega) sUB (by dsimp only [stgL]; ((try simp only [List.cons_append, List.nil_append]); repeat (first | exact Ent.nil | (apply Ent.cons; repeat (first | exact Pick.head | apply Pick.tail)))))
    | none =>
      unfold knL
      simp only [List.cons_append, List.nil_append]
      (refine go ?_; intros)
      exact q_retCell (l := verC 8 g2 nn' ak2) rfl rfl rfl rfl rfl pK rfl (G2, ⟨8, g2, nn', ak2⟩) rfl ⟨F2, gr2, p4, p8⟩ eNT
  · -- 3
    unfold stgL
    (refine go ?_; intros)
    refine o_callB (bd := [pt0 P.s]) (args := [pt0 x]) (fr := []) (sk_tell F2 P.s x ⟨b0, b1, b2, b3, b4, k2, g2, n2, d2, nd2, cd2, gr', nn', ak2⟩ he E (hnd rfl)) (fun y hy => ?_)
    obtain ⟨G3, c3⟩ := y
    obtain ⟨F3, gr3, hc3⟩ := hy
    try dsimp only at F3 gr3 hc3 ⊢
    simp only [List.cons_append, List.nil_append]
    (refine go ?_; intros)
    exact q_round (4, G3, ⟨b0, b1, b2, b3, b4, k2, g2, n2, d2, nd2, c3, gr', nn', ak2⟩, E) ⟨by dsimp only; omega, F3, gr2.trans gr3, ⟨p1, p2, p3, p4, p5, p6, p7, p8⟩, (fun h => by cases h), fun _ => hc3⟩ (by dsimp only; omega) sUB (by dsimp only [stgL]; ((try simp only [List.cons_append, List.nil_append]); repeat (first | exact Ent.nil | (apply Ent.cons; repeat (first | exact Pick.head | apply Pick.tail)))))
  · -- 4
    unfold stgL
    (refine go ?_; intros)
    refine o_callB (bd := [pt0 P.s]) (args := [pt0 x]) (fr := []) (sk_remember F2 P x ⟨b0, b1, b2, b3, b4, k2, g2, n2, d2, nd2, cd2, gr', nn', ak2⟩ he (hc rfl)) (fun y hy => ?_)
    obtain ⟨G3, yb⟩ := y
    obtain ⟨F3, gr3⟩ := hy
    try dsimp only at F3 gr3 ⊢
    simp only [List.cons_append, List.nil_append]
    cases yb with
    | true =>
      (refine go ?_; intros)
      exact q_round (5, G3, ⟨b0, b1, b2, b3, b4, k2, g2, n2, d2, nd2, cd2, gr', nn', ak2⟩, E) ⟨by dsimp only; omega, F3, gr2.trans gr3, he, (fun h => by cases h), (fun h => by cases h)⟩ (by dsimp only; omega) sUB (by dsimp only [stgL]; ((try simp only [List.cons_append, List.nil_append]); repeat (first | exact Ent.nil | (apply Ent.cons; repeat (first | exact Pick.head | apply Pick.tail)))))
    | false =>
      (refine go ?_; intros)
      exact q_retCell (l := verC cd2 gr' nn' ak2) rfl rfl rfl rfl rfl pK rfl (G3, ⟨cd2, gr', nn', ak2⟩) rfl ⟨F3, gr2.trans gr3, p7, p8⟩ eNT
  · -- 5
    unfold stgL
    (refine go ?_; intros)
    refine o_callB (bd := [pt0 P.s]) (args := [pt0 x]) (fr := []) (sk_ask P x ⟨b0, b1, b2, b3, b4, k2, g2, n2, d2, nd2, cd2, gr', nn', ak2⟩ he) (fun y hy => ?_)
    simp only [List.cons_append, List.nil_append]
    (refine go ?_; intros)
    exact q_retCell (l := verC cd2 gr' nn' y) rfl rfl rfl rfl rfl pK rfl (G2, ⟨cd2, gr', nn', y⟩) rfl ⟨F2, gr2, p7, p8⟩ eNT
  · omega
end Go.Proofs.YtnaabpfpldelmaaGreatDoor
