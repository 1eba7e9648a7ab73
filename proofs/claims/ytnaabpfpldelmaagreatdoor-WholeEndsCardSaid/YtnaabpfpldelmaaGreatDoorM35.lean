/-
  The broker: its parts as it holds them; nobody is there.
  The broker: a connection is opened; answers go out; a message is routed; a node is asked.
  The broker: an answer goes out; a message is routed; a node is asked; a message is accepted.
-/
import Derived.Test.YtnaabpfpldelmaaGreatDoorM34
import Derived.Test.YtnaabpfpldelmaaGreatDoorM33
import Derived.Test.YtnaabpfpldelmaaGreatDoorM32
import Derived.Test.YtnaabpfpldelmaaGreatDoorM30
import Derived.Test.YtnaabpfpldelmaaGreatDoorM29
set_option linter.unusedSimpArgs false
set_option linter.unusedVariables false
set_option maxRecDepth 20000
namespace Go.Proofs.YtnaabpfpldelmaaGreatDoor
open Go Go.Sx
inductive DuS
  | z
  | f (d : Nat)
  | e
def dueI (u : Nat) : DuS → HProp
  | .z => exI (σ := Nat × Nat) (fun _ => True) fun y => [ckI u y.1, plI y.1 y.2 (.slice none 0 0), mapI y.2 []]
  | .f d => exI (σ := Nat × Nat × Value) (fun _ => True) fun y => ckI u y.1 :: plL y.1 y.2.1 y.2.2 d
  | .e => exI (σ := Nat × Nat × Option Addr × Nat) (fun _ => True) fun y => [ckI u y.1, plI y.1 y.2.1 (.slice y.2.2.1 0 y.2.2.2), mapI y.2.1 []]
def trI (t : Nat) : HProp := exI (σ := TriS) (fun T => T.t = t) triL
def nvI (ke sp : Nat) : HProp := exI (σ := Nat × SpkS) (fun y => y.2.s = sp) fun y => retI ke y.1 :: mapR y.1 [] 0 :: spkL y.2
structure EnvB (G : Rg) : Prop where
  f : EnvF G
  m : mayG G
theorem EnvB.v {G : Rg} (h : EnvB G) : vG G := h.f.env.v
theorem EnvB.ok {G : Rg} (h : EnvB G) : okG G := h.f.env.ok
theorem EnvB.up {G G' : Rg} (h : EnvB G) (k : okG G') (g : grG G G') : EnvB G' := ⟨h.f.up k g, h.m.up g⟩
structure BrS where
  c0 : Value
  k0 : Nat
  s0 : Int
  c1 : Value
  k1 : Nat
  s1 : Int
  lk : Value
  ss : Nat
  tr : Nat
  ke : Nat
  du : Nat
  sp : Nat
  ck : Nat
  lg : Value
  ak : Value
  rt : Nat
abbrev tBrk : TypeId := 72
abbrev pn : Value := .pointer none
abbrev brC (S : BrS) : List Value := [S.c0, nat64 S.k0, .int .i64 S.s0, S.c1, nat64 S.k1, .int .i64 S.s1, pn, nat64 0, .int .i64 (-1), pn, nat64 0, .int .i64 (-1), pn, nat64 0, .int .i64 (-1), pn, nat64 0, .int .i64 (-1), pn, nat64 0, .int .i64 (-1), pn, nat64 0, .int .i64 (-1), S.lk, pt0 S.ss, pt0 S.tr, pt0 S.ke, pt0 S.du, pt0 S.sp, nat64 S.ck, S.lg, S.ak, nat64 0, nat64 0, nat64 S.rt, nat64 0, nat64 0]
abbrev brI (b : Nat) (S : BrS) : HProp := pts b (.cells (brC S).toArray tBrk (0, 0))
abbrev sn0 : Value := .slice none 0 0
def br0 (ss tr ke du sp : Nat) : BrS := ⟨pn, 0, -1, pn, 0, -1, sn0, ss, tr, ke, du, sp, 0, sn0, sn0, 0⟩
def pfS (i j : Nat) : Int := bif Nat.blt j i then -1 else 0
structure BrP where
  b : Nat
  ss : Nat
  tr : Nat
  ke : Nat
  du : Nat
  sp : Nat
attribute [local irreducible] MidQ wpE wpO wpC qE wpQ wpQO wpH wpHO wpD wpDO wpZ Ev own emp exI sl ch PostS LoopQ Rd rowsAt
theorem lv_sizedB (s : ByteArray) (hs : 96 < s.size) : FnDoes Tryz.prog 147 [.string s] [] (fun _ : Unit => True) (fun _ => .bool false) (fun _ => []) := by
  have hne : s ≠ (⟨#[]⟩ : ByteArray) := fun e => by subst e; exact absurd hs (by decide)
  refine does_of Tryz.func147 rfl rfl Tryz.ntmps147 rfl eNUM (fun c => ?_)
  (refine go ?_; intros)
  exact q_ret1 rfl rfl () rfl trivial eNT
theorem lv_nameB (s : ByteArray) (hs : 96 < s.size) : FnDoes Tryz.prog 108 [.string s] [] (fun _ : Unit => True) (fun _ => .bool false) (fun _ => []) := by
  have h := lv_sizedB s hs
  refine does_of Tryz.func108 rfl rfl Tryz.ntmps108 rfl eNUM (fun c => ?_)
  (refine go ?_; intros)
  (show wpO _ _ ⟨_, .call _, _, _, _, _⟩ _ _ _ _ _ _; refine o_callA (h) (fun _ _ => ?_); try simp only [List.cons_append, List.nil_append])
  (refine go ?_; intros)
  exact q_ret1 rfl rfl () rfl trivial eNT
theorem tr_hitsB (T : TriS) (s : ByteArray) (hs : 96 < s.size) : FnDoes Tryz.prog 109 [pt0 T.t, .string s] [triI T] (fun _ : Unit => True) (fun _ => sn0) (fun _ => [triI T]) := by
  have hn := tr_none T
  have hnm := lv_nameB s hs
  refine does_of Tryz.func109 rfl rfl Tryz.ntmps109 rfl eNUM (fun c => ?_)
  (refine go ?_; intros)
  (show wpO _ _ ⟨_, .call _, _, _, _, _⟩ _ _ _ _ _ _; refine o_callA (hn) (fun _ _ => ?_); try simp only [List.cons_append, List.nil_append])
  (refine go ?_; intros)
  (show wpO _ _ ⟨_, .call _, _, _, _, _⟩ _ _ _ _ _ _; refine o_callA (hnm) (fun _ _ => ?_); try simp only [List.cons_append, List.nil_append])
  (refine go ?_; intros)
  exact q_ret1 rfl rfl () rfl trivial eNT
theorem tr_hitsI {G : Rg} (E : EnvB G) (t : Nat) (s : ByteArray) : FnDoes Tryz.prog 109 [pt0 t, .string s] [trI t, rgH G] (fun y : Rg => EnvB y ∧ grG G y) (fun _ => sn0) (fun y => [trI t, rgH y]) := by
  by_cases hs : 96 < s.size
  · refine FnDoes.unfold (tr_hitsB ⟨0, 0, 0, 0⟩ s hs).may (fun T hT => ?_)
    subst hT
    refine (tr_hitsB T s hs).frame1' (R := [nodI T, mapR T.b [] 0, mapR T.w [] 0, rgH G]) (val' := fun _ : Unit => sn0) eNT (fun _ _ => rfl) (B' := fun _ => [trI T.t, rgH G]) (fun y hy => ?_) |>.turn (Ent.refl _) (fun y hy => ⟨G, ⟨E, Gr.refl _ _⟩, rfl, Ent.refl _⟩)
    exact Ent.trans (N := triL T ++ [rgH G]) eNT (Ent.fold T rfl (Ent.refl _))
  have hs' : s.size ≤ 65536 := by omega
  refine FnDoes.unfold (tr_hits E.ok E.v ⟨0, 0, 0, 0⟩ s hs').may (fun T hT => ?_)
  subst hT
  refine (tr_hits E.ok E.v T s hs').turn eNT (fun y hy => ⟨y, ⟨E.up hy.1 hy.2, hy.2⟩, rfl, ?_⟩)
  exact Ent.trans (N := triL T ++ [rgH y]) eNT (Ent.fold T rfl (Ent.refl _))
theorem tr_clearI (t k : Nat) (hk : k < 8) : FnDoes Tryz.prog 87 [pt0 t, nat64 k] [trI t] (fun _ : Unit => True) (fun _ => nat64 0) (fun _ => [trI t]) := by
  refine FnDoes.unfold (tr_clear ⟨0, 0, 0, 0⟩ k hk).may (fun T hT => ?_)
  subst hT
  refine (tr_clear T k hk).turn eNT (fun y hy => ⟨y, trivial, rfl, ?_⟩)
  exact Ent.trans (N := triL T ++ []) eNT (Ent.fold T rfl (Ent.refl _))
theorem du_set (u d : Nat) (o : DuS) (ho : o ≠ .e) : FnDoes Tryz.prog 91 [pt0 u, nat64 0, nat64 d] [dueI u o] (fun _ : Unit => True) (fun _ => nat64 0) (fun _ => [dueI u (.f d)]) := by
  cases o with
  | z =>
    unfold dueI
    refine FnDoes.unfold (cl_set0 u 0 0 d).may (fun y _ => ?_)
    refine (cl_set0 u y.1 y.2 d).turn eNT (fun v _ => ⟨(), trivial, rfl, ?_⟩)
    exact Ent.fold (σ := Nat × Nat × Value) (y.1, y.2, v) trivial eNT
  | f d0 =>
    unfold dueI
    refine FnDoes.unfold (cl_set0 u 0 0 d).may (fun y _ => ?_)
    refine (cl_set1 u y.1 y.2.1 d0 d y.2.2).turn eNT (fun v _ => ⟨(), trivial, rfl, ?_⟩)
    exact Ent.fold (σ := Nat × Nat × Value) (y.1, y.2.1, y.2.2) trivial eNT
  | e => exact absurd rfl ho
theorem du_drop (u : Nat) (o : DuS) : FnDoes Tryz.prog 67 [pt0 u, nat64 0] [dueI u o] (fun _ : Bool => True) (fun r => .bool r) (fun _ => [dueI u .e]) := by
  cases o with
  | z =>
    unfold dueI
    refine FnDoes.unfold (cl_drop0 u 0 0 sn0 rfl).may (fun y _ => ?_)
    refine (cl_drop0 u y.1 y.2 sn0 rfl).turn eNT (fun v _ => ⟨false, trivial, rfl, ?_⟩)
    exact Ent.fold (σ := Nat × Nat × Option Addr × Nat) (y.1, y.2, none, 0) trivial eNT
  | f d0 =>
    unfold dueI
    refine FnDoes.unfold (cl_drop0 u 0 0 sn0 rfl).may (fun y _ => ?_)
    refine (cl_drop1 u y.1 y.2.1 d0 y.2.2).turn eNT (fun v _ => ⟨true, trivial, rfl, ?_⟩)
    exact Ent.fold (σ := Nat × Nat × Option Addr × Nat) (y.1, y.2.1, v.1, v.2) trivial eNT
  | e =>
    unfold dueI
    refine FnDoes.unfold (cl_drop0 u 0 0 sn0 rfl).may (fun y _ => ?_)
    refine (cl_drop0 u y.1 y.2.1 (.slice y.2.2.1 0 y.2.2.2) rfl).turn eNT (fun v _ => ⟨false, trivial, rfl, ?_⟩)
    exact Ent.fold (σ := Nat × Nat × Option Addr × Nat) y trivial eNT
def firB (o : DuS) (now : Nat) : Bool := match o with
  | .f d => decide (d ≤ now)
  | _ => false
theorem du_fireN (u now : Nat) (o : DuS) (h : firB o now = false) : FnDoes Tryz.prog 43 [pt0 u, nat64 now] [dueI u o] (fun _ : Unit => True) (fun _ => sn0) (fun _ => [dueI u o]) := by
  cases o with
  | z =>
    unfold dueI
    refine FnDoes.unfold (cl_fire0 u 0 0 0 now none).may (fun y _ => ?_)
    refine (cl_fire0 u y.1 y.2 0 now none).turn eNT (fun v _ => ⟨(), trivial, rfl, ?_⟩)
    exact Ent.fold (σ := Nat × Nat) y trivial eNT
  | f d0 =>
    unfold dueI
    have hd : now < d0 := by simpa [firB] using h
    refine FnDoes.unfold (cl_fire0 u 0 0 0 now none).may (fun y _ => ?_)
    refine (cl_fire1 u y.1 y.2.1 d0 now y.2.2 hd).turn eNT (fun v _ => ⟨(), trivial, rfl, ?_⟩)
    exact Ent.fold (σ := Nat × Nat × Value) y trivial eNT
  | e =>
    unfold dueI
    refine FnDoes.unfold (cl_fire0 u 0 0 0 now none).may (fun y _ => ?_)
    refine (cl_fire0 u y.1 y.2.1 y.2.2.2 now y.2.2.1).turn eNT (fun v _ => ⟨(), trivial, rfl, ?_⟩)
    exact Ent.fold (σ := Nat × Nat × Option Addr × Nat) y trivial eNT
theorem du_fireY (u now : Nat) (o : DuS) (h : firB o now = true) : FnDoes Tryz.prog 43 [pt0 u, nat64 now] [dueI u o] (fun _ : Value => True) (fun v => v) (fun v => [dueI u .e, sl tInt 1 v 1 [nat64 0]]) := by
  cases o with
  | z => cases h
  | f d0 =>
    unfold dueI
    have hd : d0 ≤ now := by simpa [firB] using h
    refine FnDoes.unfold (cl_fire0 u 0 0 0 now none).may (fun y _ => ?_)
    refine (cl_fire2 u y.1 y.2.1 d0 now y.2.2 hd).turn eNT (fun v _ => ⟨v.1, trivial, rfl, ?_⟩)
    exact Ent.fold (σ := Nat × Nat × Option Addr × Nat) (y.1, y.2.1, v.2.1, v.2.2) trivial eNT
  | e => cases h
set_option maxHeartbeats 2000000 in
theorem br_new : FnDoes Tryz.prog 4 [] [] (fun _ : BrP => True) (fun y => pt0 y.b) (fun y => [brI y.b (br0 y.ss y.tr y.ke y.du y.sp), ssI y.ss pn false, trI y.tr, dueI y.du .z, nvI y.ke y.sp]) := by
  refine does_of Tryz.func4 rfl rfl Tryz.ntmps4 rfl eNUM (fun c => ?_)
  (refine go ?_; intros)
  (show wpO _ _ ⟨_, .call _, _, _, _, _⟩ _ _ _ _ _ _; refine o_callA (sn_new) (fun ss _ => ?_); try simp only [List.cons_append, List.nil_append])
  (refine go ?_; intros)
  (show wpO _ _ ⟨_, .call _, _, _, _, _⟩ _ _ _ _ _ _; refine o_callA (tr_new) (fun T _ => ?_); try simp only [List.cons_append, List.nil_append])
  (refine go ?_; intros)
  (show wpO _ _ ⟨_, .call _, _, _, _, _⟩ _ _ _ _ _ _; refine o_callA (rt_new) (fun ⟨ke, km⟩ _ => ?_); try simp only [List.cons_append, List.nil_append])
  (refine go ?_; intros)
  (show wpO _ _ ⟨_, .call _, _, _, _, _⟩ _ _ _ _ _ _; refine o_callA (cl_new) (fun ⟨u, p, q⟩ _ => ?_); try simp only [List.cons_append, List.nil_append])
  (refine go ?_; intros)
  (show wpO _ _ ⟨_, .call _, _, _, _, _⟩ _ _ _ _ _ _; refine o_callA (sk_new) (fun P _ => ?_); try simp only [List.cons_append, List.nil_append])
  try dsimp only
  (refine go ?_; intro b)
  refine wpC_loop (σ := Nat) (fun i => i ≤ 8) (fun i => [(1, pt0 b), (10, nat64 i)]) (fun i => [pts b (.cells [pn, nat64 0, .int .i64 (pfS i 0), pn, nat64 0, .int .i64 (pfS i 1), pn, nat64 0, .int .i64 (pfS i 2), pn, nat64 0, .int .i64 (pfS i 3), pn, nat64 0, .int .i64 (pfS i 4), pn, nat64 0, .int .i64 (pfS i 5), pn, nat64 0, .int .i64 (pfS i 6), pn, nat64 0, .int .i64 (pfS i 7), sn0, pt0 ss, pt0 T.t, pt0 ke, pt0 u, pt0 P.s, nat64 0, sn0, sn0, nat64 0, nat64 0, nat64 0, nat64 0, nat64 0].toArray tBrk (0, 0)), ssI ss pn false] ++ triL T ++ [ckI u p, plI p q sn0, mapI q []] ++ (retI ke km :: mapR km [] 0 :: spkL P)) (fun i => 8 - i) 0 (Nat.zero_le _) sUB eNT (fun i hi => ?_)
  dsimp only [spkL, List.cons_append, List.nil_append]
  rcases (show i = 0 ∨ i = 1 ∨ i = 2 ∨ i = 3 ∨ i = 4 ∨ i = 5 ∨ i = 6 ∨ i = 7 ∨ i = 8 by omega) with rfl | rfl | rfl | rfl | rfl | rfl | rfl | rfl | rfl
  · (refine go ?_; intros)
    exact q_round 1 (by decide) (by decide) sUB eNT
  · (refine go ?_; intros)
    exact q_round 2 (by decide) (by decide) sUB eNT
  · (refine go ?_; intros)
    exact q_round 3 (by decide) (by decide) sUB eNT
  · (refine go ?_; intros)
    exact q_round 4 (by decide) (by decide) sUB eNT
  · (refine go ?_; intros)
    refine o_storeS rfl rfl rfl rfl rfl pK (by simp) ?_
    (refine go ?_; intros)
    exact q_round 5 (by decide) (by decide) sUB eNT
  · (refine go ?_; intros)
    refine o_storeS rfl rfl rfl rfl rfl pK (by simp) ?_
    (refine go ?_; intros)
    exact q_round 6 (by decide) (by decide) sUB eNT
  · (refine go ?_; intros)
    refine o_storeS rfl rfl rfl rfl rfl pK (by simp) ?_
    (refine go ?_; intros)
    exact q_round 7 (by decide) (by decide) sUB eNT
  · (refine go ?_; intros)
    refine o_storeS rfl rfl rfl rfl rfl pK (by simp) ?_
    (refine go ?_; intros)
    exact q_round 8 (by decide) (by decide) sUB eNT
  · (refine go ?_; intros)
    refine q_ret1 rfl rfl (⟨b, ss, T.t, ke, u, P.s⟩ : BrP) rfl trivial ?_
    refine Ent.cons pK (Ent.cons pK (Ent.fold (σ := TriS) T rfl ?_))
    dsimp only [triL, List.cons_append, List.nil_append]
    refine Ent.cons pK (Ent.cons pK (Ent.cons pK (Ent.cons pK ?_)))
    refine Ent.fold (σ := Nat × Nat) (p, q) trivial ?_
    dsimp only [List.cons_append, List.nil_append]
    refine Ent.cons pK (Ent.cons pK (Ent.cons pK ?_))
    refine Ent.fold (σ := Nat × SpkS) (km, P) rfl ?_
    ((try simp only [List.cons_append, List.nil_append]); repeat (first | exact Ent.nil | (apply Ent.cons; repeat (first | exact Pick.head | apply Pick.tail))))
end Go.Proofs.YtnaabpfpldelmaaGreatDoor
set_option linter.unusedSimpArgs false
set_option linter.unusedVariables false
set_option maxRecDepth 20000
namespace Go.Proofs.YtnaabpfpldelmaaGreatDoor
open Go Go.Sx
abbrev tLnk : TypeId := 85
abbrev tPkt : TypeId := 32
abbrev lnkI (v : Value) (n : Nat) (xs : List Value) : HProp := sl tLnk 2 v n xs
abbrev cn0 (f : Nat) : CnS := ⟨pn, sn0, f, true, false, 0, co0, false, false⟩
attribute [local irreducible] MidQ wpE wpO wpC qE wpQ wpQO wpH wpHO wpD wpDO wpZ Ev own emp exI sl ch PostS LoopQ Rd rowsAt
theorem br_none (b : Nat) (S : BrS) : FnDoes Tryz.prog 21 [pt0 b] [brI b S] (fun _ : Unit => True) (fun _ => .bool false) (fun _ => [brI b S]) := by
  refine does_of Tryz.func21 rfl rfl Tryz.ntmps21 rfl eNUM (fun c => ?_)
  (refine go ?_; intros)
  exact q_ret1 rfl rfl () rfl trivial eNT
set_option maxHeartbeats 2000000 in
theorem br_open0 (b : Nat) (S : BrS) (h0 : S.c0 = pn) (hl : S.lk = sn0) : FnDoes Tryz.prog 23 [pt0 b, nat64 0] [brI b S] (fun _ : Nat × Nat × Value => True) (fun _ => nat64 0)
    (fun y => [brI b { S with c0 := pt0 y.1, k0 := 0, s0 := -1, lk := y.2.2 }, cnnI y.1 (cn0 y.2.1), frmI y.2.1 sn0 0, lnkI y.2.2 1 [nat64 0, pt0 y.1]]) := by
  obtain ⟨c0, k0, s0, c1, k1, s1, lk, ss, tr, ke, du, sp, ck, lg, ak, rt⟩ := S
  try dsimp only at h0 hl ⊢
  subst h0 hl
  refine does_of Tryz.func23 rfl rfl Tryz.ntmps23 rfl eNUM (fun c => ?_)
  (refine go ?_; intros)
  (show wpO _ _ ⟨_, .call _, _, _, _, _⟩ _ _ _ _ _ _; refine o_callA (cn_new) (fun ⟨cn, f⟩ _ => ?_); try simp only [List.cons_append, List.nil_append])
  try dsimp only
  (refine go ?_; intros)
  refine wpC_drawnA [brI b ⟨pn, k0, s0, c1, k1, s1, sn0, ss, tr, ke, du, sp, ck, lg, ak, rt⟩] 12 ?_
  ((first | refine dt 0 ?_ | refine dts 0 ?_); (first | refine dt 1 ?_ | refine dts 1 ?_); (first | refine dt 2 ?_ | refine dts 2 ?_); (first | refine dt 3 ?_ | refine dts 3 ?_); (first | refine dt 4 ?_ | refine dts 4 ?_); (first | refine dt 5 ?_ | refine dts 5 ?_); (first | refine dt 6 ?_ | refine dts 6 ?_); (first | refine dt 7 ?_ | refine dts 7 ?_); (first | refine dt 8 ?_ | refine dts 8 ?_); (first | refine df 9 ?_ | refine dfs 9 ?_); (first | refine df 10 ?_ | refine dfs 10 ?_); (first | refine df 11 ?_ | refine dfs 11 ?_))
  (refine wpD_lastU rfl rfl (by kernel_rfl) (by kernel_rfl) rfl ?_; show OUL _ ⟨_, .store _ _ _, _, _, _, _⟩ _ _ _ _ _)
  refine x_storeP (vs := [pt0 cn, nat64 0, .int .i64 (-1)]) (by rfl) (by rfl) (by rfl) (by rfl) (by rfl) (by rfl) pK (by simp) rfl ?_
  (refine go ?_; intro bb)
  refine wpO_ent (Ent.slNil (e := tLnk) (size := 2) (Ent.refl _)) ?_
  refine o_append (m := 1) (news := [nat64 0, pt0 cn]) (sz := 2) rfl rfl rfl rfl rfl rfl rfl rfl pK (src_pts rfl pK rfl rfl rfl) (by decide +kernel) rfl (fun v' => ?_)
  refine wpE_fact (sl_one (v := v') pK) (fun o3 => ?_)
  (refine go ?_; intros)
  refine o_storeS rfl rfl rfl rfl o3 pK (by simp) ?_
  (refine go ?_; intros)
  exact q_ret1 rfl rfl (cn, f, v') rfl trivial eNT
set_option maxHeartbeats 2000000 in
theorem br_open1 (b : Nat) (S : BrS) (h0 : S.c1 = pn) (a0 : Value) : FnDoes Tryz.prog 23 [pt0 b, nat64 1] [brI b S, lnkI S.lk 1 [nat64 0, a0]] (fun _ : Nat × Nat × Value => True) (fun _ => nat64 0)
    (fun y => [brI b { S with c1 := pt0 y.1, k1 := 1, s1 := -1, lk := y.2.2 }, cnnI y.1 (cn0 y.2.1), frmI y.2.1 sn0 0, lnkI y.2.2 2 [nat64 0, a0, nat64 1, pt0 y.1]]) := by
  obtain ⟨c0, k0, s0, c1, k1, s1, lk, ss, tr, ke, du, sp, ck, lg, ak, rt⟩ := S
  try dsimp only at h0 ⊢
  subst h0
  refine does_of Tryz.func23 rfl rfl Tryz.ntmps23 rfl eNUM (fun c => ?_)
  refine wpC_fact (sl_slice (v := lk) pK) (fun hv => ?_)
  refine wpC_fact (sl_one (v := lk) pK) (fun o1 => ?_)
  (refine go ?_; intros)
  (show wpO _ _ ⟨_, .call _, _, _, _, _⟩ _ _ _ _ _ _; refine o_callA (cn_new) (fun ⟨cn, f⟩ _ => ?_); try simp only [List.cons_append, List.nil_append])
  try dsimp only
  (refine go ?_; intros)
  refine wpC_drawnA [brI b ⟨c0, k0, s0, pn, k1, s1, lk, ss, tr, ke, du, sp, ck, lg, ak, rt⟩, lnkI lk 1 [nat64 0, a0]] 12 ?_
  ((first | refine dt 0 ?_ | refine dts 0 ?_); (first | refine dt 1 ?_ | refine dts 1 ?_); (first | refine dt 2 ?_ | refine dts 2 ?_); (first | refine dt 3 ?_ | refine dts 3 ?_); (first | refine dt 4 ?_ | refine dts 4 ?_); (first | refine dt 5 ?_ | refine dts 5 ?_); (first | refine dt 6 ?_ | refine dts 6 ?_); (first | refine dt 7 ?_ | refine dts 7 ?_); (first | refine dt 8 ?_ | refine dts 8 ?_); (first | refine df 9 ?_ | refine dfs 9 ?_); (first | refine df 10 ?_ | refine dfs 10 ?_); (first | refine df 11 ?_ | refine dfs 11 ?_))
  (refine wpD_lastU rfl rfl (by kernel_rfl) (by kernel_rfl) rfl ?_; show OUL _ ⟨_, .store _ _ _, _, _, _, _⟩ _ _ _ _ _)
  refine x_storeP (vs := [pt0 cn, nat64 1, .int .i64 (-1)]) (by rfl) (by rfl) (by rfl) (by rfl) (by rfl) (by rfl) pK (by simp) rfl ?_
  (refine go ?_; intro bb)
  refine o_append (m := 1) (news := [nat64 1, pt0 cn]) (sz := 2) rfl rfl rfl rfl rfl rfl rfl rfl pK (src_pts rfl pK rfl rfl rfl) (by decide +kernel) rfl (fun v' => ?_)
  refine wpE_fact (sl_one (v := v') pK) (fun o3 => ?_)
  (refine go ?_; intros)
  refine o_storeS rfl rfl rfl rfl o3 pK (by simp) ?_
  (refine go ?_; intros)
  exact q_ret1 rfl rfl (cn, f, v') rfl trivial eNT
theorem br_emitN (b at_ : Nat) (S : BrS) (hat : at_ = 0 ∨ at_ = 1) (cn0' cn1' : Nat) (h0 : at_ = 0 → S.c0 = pt0 cn0') (h1 : at_ = 1 → S.c1 = pt0 cn1') : FnDoes Tryz.prog 134 [pt0 b, nat64 at_, sn0] [brI b S] (fun _ : Unit => True) (fun _ => .tuple #[]) (fun _ => [brI b S]) := by
  obtain ⟨c0, k0, s0, c1, k1, s1, lk, ss, tr, ke, du, sp, ck, lg, ak, rt⟩ := S
  try dsimp only at h0 h1 ⊢
  refine does_of Tryz.func134 rfl rfl Tryz.ntmps134 rfl eNUM (fun c => ?_)
  rcases hat with rfl | rfl
  · obtain rfl := h0 rfl
    (refine go ?_; intros)
    refine wpC_loop (σ := Unit) (fun _ => True) (fun _ => [(19, nat64 0), (20, nat64 0)]) (fun _ => [brI b ⟨pt0 cn0', k0, s0, c1, k1, s1, lk, ss, tr, ke, du, sp, ck, lg, ak, rt⟩]) (fun _ => 0) () trivial sUB eNT (fun _ _ => ?_)
    (refine go ?_; intros)
    exact q_ret0 rfl () rfl trivial eNT _ (.inr rfl)
  · obtain rfl := h1 rfl
    (refine go ?_; intros)
    refine wpC_loop (σ := Unit) (fun _ => True) (fun _ => [(19, nat64 0), (20, nat64 0)]) (fun _ => [brI b ⟨c0, k0, s0, pt0 cn1', k1, s1, lk, ss, tr, ke, du, sp, ck, lg, ak, rt⟩]) (fun _ => 0) () trivial sUB eNT (fun _ _ => ?_)
    (refine go ?_; intros)
    exact q_ret0 rfl () rfl trivial eNT _ (.inr rfl)
end Go.Proofs.YtnaabpfpldelmaaGreatDoor
set_option linter.unusedSimpArgs false
set_option linter.unusedVariables false
set_option maxRecDepth 20000
namespace Go.Proofs.YtnaabpfpldelmaaGreatDoor
open Go Go.Sx
abbrev tEnt : TypeId := 51
abbrev entE (at_ : Nat) (from_ : ByteArray) (wl : Bool) (c : CoS) : List Value := [nat64 at_, .string from_, .bool wl, .string c.wt, .string c.wx, nat64 c.wq, .bool c.wr]
abbrev logI (v : Value) (n : Nat) (xs : List Value) : HProp := sl tEnt 7 v n xs
def AtC (S : BrS) (at_ cn : Nat) : Prop := (at_ = 0 ∧ S.c0 = pt0 cn) ∨ (at_ = 1 ∧ S.c1 = pt0 cn)
attribute [local irreducible] MidQ wpE wpO wpC qE wpQ wpQO wpH wpHO wpD wpDO wpZ Ev own emp exI sl ch PostS LoopQ Rd rowsAt
set_option maxHeartbeats 2000000 in
theorem br_emit1 {G : Rg} (hM : mayG G) (kd : Nat) (hk : kd = 2 ∨ kd = 13) (b at_ cn bb : Nat) (S : BrS) (hat : AtC S at_ cn) (C : CnS) (hc : C.cl = false) (ha : atOk cn C.ba) (o : List UInt8) (ho : o.length ≤ 1000) :
    FnDoes Tryz.prog 134 [pt0 b, nat64 at_, .slice (some ⟨bb, 0, none⟩) 1 1] [brI b S, pts bb (.cells (pkC kd co0).toArray tPkt (0, 0)), cnnI cn C, bytI C.bv o, rgH G] (fun _ : Value => True) (fun _ => .tuple #[])
      (fun v => [brI b S, cnnI cn { C with ba := pt0 cn, bv := v }, bytI v (o ++ ansO kd), rgH G]) := by
  have he := cn_emit hM kd hk cn C hc ha o ho
  obtain ⟨c0, k0, s0, c1, k1, s1, lk, ss, tr, ke, du, sp, ck, lg, ak, rt⟩ := S
  refine does_of Tryz.func134 rfl rfl Tryz.ntmps134 rfl eNUM (fun c => ?_)
  rcases hat with ⟨rfl, h⟩ | ⟨rfl, h⟩
  · try dsimp only at h
    subst h
    (refine go ?_; intros)
    refine wpC_loop (σ := Nat × Value) (fun s => s.1 ≤ 1) (fun s => [(6, pt0 cn), (18, .slice (some ⟨bb, 0, none⟩) 1 1), (19, nat64 1), (20, nat64 s.1)]) (fun s => match s.1 with | 0 => [brI b ⟨pt0 cn, k0, s0, c1, k1, s1, lk, ss, tr, ke, du, sp, ck, lg, ak, rt⟩, pts bb (.cells (pkC kd co0).toArray tPkt (0, 0)), cnnI cn C, bytI C.bv o, rgH G] | _ => [brI b ⟨pt0 cn, k0, s0, c1, k1, s1, lk, ss, tr, ke, du, sp, ck, lg, ak, rt⟩, cnnI cn { C with ba := pt0 cn, bv := s.2 }, bytI s.2 (o ++ ansO kd), rgH G]) (fun s => 1 - s.1) (0, pn) (Nat.zero_le _) sUB eNT (fun s hs => ?_)
    obtain ⟨i, v⟩ := s
    rcases i with _ | _ | i
    · dsimp only
      (refine go ?_; intros)
      refine o_evB (ev_indexS 24 (i := 0) rfl rfl rfl rfl rfl rfl (by decide)) ?_
      (refine go ?_; intros)
      (show wpO _ _ ⟨_, .call _, _, _, _, _⟩ _ _ _ _ _ _; refine o_callA (he) (fun v2 _ => ?_); try simp only [List.cons_append, List.nil_append])
      (refine go ?_; intros)
      exact q_round (1, v2) (Nat.le_refl _) (show (0 : Nat) < 1 by decide) sUB (by dsimp only; ((try simp only [List.cons_append, List.nil_append]); repeat (first | exact Ent.nil | (apply Ent.cons; repeat (first | exact Pick.head | apply Pick.tail)))))
    · dsimp only
      (refine go ?_; intros)
      exact q_ret0 rfl v rfl trivial eNT _ (.inr rfl)
    · exact absurd hs (by dsimp only; omega)
  · try dsimp only at h
    subst h
    (refine go ?_; intros)
    refine wpC_loop (σ := Nat × Value) (fun s => s.1 ≤ 1) (fun s => [(6, pt0 cn), (18, .slice (some ⟨bb, 0, none⟩) 1 1), (19, nat64 1), (20, nat64 s.1)]) (fun s => match s.1 with | 0 => [brI b ⟨c0, k0, s0, pt0 cn, k1, s1, lk, ss, tr, ke, du, sp, ck, lg, ak, rt⟩, pts bb (.cells (pkC kd co0).toArray tPkt (0, 0)), cnnI cn C, bytI C.bv o, rgH G] | _ => [brI b ⟨c0, k0, s0, pt0 cn, k1, s1, lk, ss, tr, ke, du, sp, ck, lg, ak, rt⟩, cnnI cn { C with ba := pt0 cn, bv := s.2 }, bytI s.2 (o ++ ansO kd), rgH G]) (fun s => 1 - s.1) (0, pn) (Nat.zero_le _) sUB eNT (fun s hs => ?_)
    obtain ⟨i, v⟩ := s
    rcases i with _ | _ | i
    · dsimp only
      (refine go ?_; intros)
      refine o_evB (ev_indexS 24 (i := 0) rfl rfl rfl rfl rfl rfl (by decide)) ?_
      (refine go ?_; intros)
      (show wpO _ _ ⟨_, .call _, _, _, _, _⟩ _ _ _ _ _ _; refine o_callA (he) (fun v2 _ => ?_); try simp only [List.cons_append, List.nil_append])
      (refine go ?_; intros)
      exact q_round (1, v2) (Nat.le_refl _) (show (0 : Nat) < 1 by decide) sUB (by dsimp only; ((try simp only [List.cons_append, List.nil_append]); repeat (first | exact Ent.nil | (apply Ent.cons; repeat (first | exact Pick.head | apply Pick.tail)))))
    · dsimp only
      (refine go ?_; intros)
      exact q_ret0 rfl v rfl trivial eNT _ (.inr rfl)
    · exact absurd hs (by dsimp only; omega)
set_option maxHeartbeats 2000000 in
theorem br_route {G : Rg} (E : EnvB G) (b : Nat) (S : BrS) (t x : ByteArray) (q : Int) (r : Bool) : FnDoes Tryz.prog 80 [pt0 b, .agg (msgC t x q r).toArray] [brI b S, trI S.tr, rgH G] (fun y : Rg => EnvB y ∧ grG G y) (fun _ => .tuple #[]) (fun y => [brI b S, trI S.tr, rgH y]) := by
  have hh := tr_hitsI E S.tr t
  obtain ⟨c0, k0, s0, c1, k1, s1, lk, ss, tr, ke, du, sp, ck, lg, ak, rt⟩ := S
  try dsimp only at hh ⊢
  refine does_of Tryz.func80 rfl rfl Tryz.ntmps80 rfl eNUM (fun c => ?_)
  (refine go ?_; intro c3)
  refine wpC_drawnT ?_
  (refine zt 8 ?_)
  refine wpZ_D [brI b ⟨c0, k0, s0, c1, k1, s1, lk, ss, tr, ke, du, sp, ck, lg, ak, rt⟩, pts c3 (.cells (msgC t x q false).toArray 24 (0, 0))] 7 1 7 ?_
  ((first | refine dt 0 ?_ | refine dts 0 ?_); (first | refine dt 1 ?_ | refine dts 1 ?_); (first | refine dt 2 ?_ | refine dts 2 ?_); (first | refine dt 3 ?_ | refine dts 3 ?_); (first | refine dt 4 ?_ | refine dts 4 ?_); (first | refine dt 5 ?_ | refine dts 5 ?_))
  refine dcall 6 hh (fun G1 hy => ?_)
  simp only [List.cons_append, List.nil_append]
  (refine dl ?_)
  (refine go ?_; intros)
  refine wpC_loop (σ := Unit) (fun _ => True) (fun _ => [(14, nat64 0), (15, nat64 0)]) (fun _ => [brI b ⟨c0, k0, s0, c1, k1, s1, lk, ss, tr, ke, du, sp, ck, lg, ak, rt⟩, trI tr, rgH G1]) (fun _ => 0) () trivial sUB eNT (fun _ _ => ?_)
  (refine go ?_; intros)
  exact q_ret0 rfl G1 rfl hy eNT _ (.inr rfl)
set_option maxHeartbeats 4000000 in
theorem br_ask {G : Rg} (E : EnvB G) (b : Nat) (S : BrS) (hk : S.ak = sn0) (a : Option Addr) (l cap : Nat) (hl : S.lg = .slice a l cap) (hl2 : l ≤ 100) (cd : Int) (g n : ByteArray) (hg : g.size ≤ 65536) (hn : n.size ≤ 65536) : FnDoes Tryz.prog 82 [pt0 b, .agg (verC cd g n true).toArray] [brI b S, trI S.tr, rgH G] (fun y : Rg × Value => EnvB y.1 ∧ grG G y.1) (fun _ => .tuple #[]) (fun y => [brI b { S with ak := y.2 }, trI S.tr, rgH y.1]) := by
  have hp := sp_put E.f.env ⟨4, g, n, mt0⟩ ⟨by show (4 : Nat) ≤ 9; decide, hg, hn, by show mt0.size ≤ 65536; decide⟩
  have hr := fun (G1 : Rg) (E1 : EnvB G1) (w : Value) (t x : ByteArray) => br_route E1 b { S with ak := w } t x 0 false
  obtain ⟨c0, k0, s0, c1, k1, s1, lk, ss, tr, ke, du, sp, ck, lg, ak, rt⟩ := S
  try dsimp only at hk hl hr ⊢
  subst hk hl
  refine does_of Tryz.func82 rfl rfl Tryz.ntmps82 rfl eNUM (fun c => ?_)
  (refine go ?_; intro c3)
  refine wpC_ent (Ent.slNil (e := 232) (size := 4) (Ent.refl _)) ?_
  refine wpC_drawnA [brI b ⟨c0, k0, s0, c1, k1, s1, lk, ss, tr, ke, du, sp, ck, .slice a l cap, sn0, rt⟩, pts c3 (.cells (verC cd g n true).toArray 193 (0, 0))] 23 ?_
  ((first | refine dt 0 ?_ | refine dts 0 ?_); (first | refine dt 1 ?_ | refine dts 1 ?_); (first | refine dt 2 ?_ | refine dts 2 ?_); (first | refine dt 3 ?_ | refine dts 3 ?_); (first | refine dt 4 ?_ | refine dts 4 ?_); (first | refine dt 5 ?_ | refine dts 5 ?_); (first | refine dt 6 ?_ | refine dts 6 ?_); (first | refine dt 7 ?_ | refine dts 7 ?_); (first | refine dt 8 ?_ | refine dts 8 ?_); (first | refine dt 9 ?_ | refine dts 9 ?_); (first | refine dt 10 ?_ | refine dts 10 ?_); (first | refine dt 11 ?_ | refine dts 11 ?_); (first | refine dt 12 ?_ | refine dts 12 ?_); (first | refine dt 13 ?_ | refine dts 13 ?_); (first | refine dt 14 ?_ | refine dts 14 ?_); (first | refine dt 15 ?_ | refine dts 15 ?_); (first | refine df 16 ?_ | refine dfs 16 ?_); (first | refine df 17 ?_ | refine dfs 17 ?_); (first | refine df 18 ?_ | refine dfs 18 ?_))
  (refine wpD_eff 19 rfl rfl (by kernel_rfl) rfl rfl ?_; show OVL _ ⟨_, .buildSlice _ _ _, _, _, _, _⟩ _ _ _ _ _ _)
  refine x_buildSlice1 (by rfl) (by rfl) (by rfl) (by rfl) (by rfl) (by rfl) (by rfl) (by rfl) (fun bb => ⟨eNT, ?_⟩)
  (refine wpD_eff 20 rfl rfl (by kernel_rfl) rfl rfl ?_; show OVL _ ⟨_, .call { callee := .builtin .append, args := _, argTypes := _ }, _, _, _, _⟩ _ _ _ _ _ _)
  refine x_append (m := 1) (news := [nat64 ck, nat64 l, .string g, .string n]) (sz := 4) (by rfl) (by rfl) (by rfl) (by rfl) (by rfl) (by rfl) (by rfl) (by rfl) pK (src_pts rfl pK rfl rfl rfl) (by decide +kernel) (fun v' => ⟨eNT, ?_⟩)
  refine wpD_fact (sl_one (v := v') .head) (fun o3 => ?_)
  ((first | refine df 21 ?_ | refine dfs 21 ?_); (first | refine df 22 ?_ | refine dfs 22 ?_))
  (refine wpD_lastU rfl rfl (by kernel_rfl) (by kernel_rfl) rfl ?_; show OUL _ ⟨_, .store _ _ _, _, _, _, _⟩ _ _ _ _ _)
  refine x_store (by rfl) (by rfl) (by rfl) (by rfl) o3 pK (Upd1.of (by simp)) ?_
  (refine go ?_; intros)
  (show wpO _ _ ⟨_, .call _, _, _, _, _⟩ _ _ _ _ _ _; refine o_callA (hp) (fun ⟨G1, tp, e⟩ ⟨E1, g1⟩ => ?_); try simp only [List.cons_append, List.nil_append])
  try dsimp only at E1 g1 ⊢
  have F1 := E.up E1.ok g1
  by_cases h0 : e = 0
  · subst h0
    have hb := py_rebirth F1.f.kn
    (refine go ?_; intros)
    (show wpO _ _ ⟨_, .call _, _, _, _, _⟩ _ _ _ _ _ _; refine o_callA (hb) (fun ⟨w2, bs⟩ hy => ?_); try simp only [List.cons_append, List.nil_append])
    try dsimp only at hy ⊢
    refine wpE_fact (sl_one (v := w2) (.tail .head)) (fun o4 => ?_)
    (refine go ?_; intros)
    refine o_evB (ev_str (l := bs) rfl rfl rfl rfl (Rd.ofSl (e := tU8)) pK) ?_
    (refine go ?_; intros)
    (show wpO _ _ ⟨_, .call _, _, _, _, _⟩ _ _ _ _ _ _; refine o_callA (hr G1 F1 v' tp (txt bs)) (fun G2 hg2 => ?_); try simp only [List.cons_append, List.nil_append])
    (refine go ?_; intros)
    exact q_ret0 rfl (G2, v') rfl ⟨hg2.1, g1.trans hg2.2⟩ eNT _ (.inr rfl)
  · have h1 : ¬ (e : Int) = 0 := by omega
    (refine go ?_; intros)
    exact q_ret0 rfl (G1, v') rfl ⟨F1, g1⟩ eNT _ (.inr rfl)
end Go.Proofs.YtnaabpfpldelmaaGreatDoor
