/-
  The broker: what is served.
  The broker: pings, leaves, time.
  The broker: the next packet.
-/
import Derived.Test.YtnaabpfpldelmaaGreatDoorM36
set_option linter.unusedSimpArgs false
set_option linter.unusedVariables false
set_option maxRecDepth 20000
namespace Go.Proofs.YtnaabpfpldelmaaGreatDoor
open Go Go.Sx
abbrev ansN : List UInt8 := [32, 2, 0, 0]
attribute [local irreducible] MidQ wpE wpO wpC qE wpQ wpQO wpH wpHO wpD wpDO wpZ Ev own emp exI sl ch PostS LoopQ Rd rowsAt
theorem sn_open1' {G : Rg} (hV : vG G) (t : Nat) (Y : NsS) (on cl : Bool) (hc : cl = true) (id : ByteArray) (hi : id = naA) : FnDoes Tryz.prog 131 [pt0 t, .string id, .bool cl] [rgH G, ssI t (pt0 Y.s) true, nssI Y false on] (fun _ : NsS => True) (fun _ => .tuple #[nat64 0, .bool false, nat64 0]) (fun Z => rgH G :: ssI t (pt0 Z.s) true :: nsL Z cl false) := by
  subst hc hi
  exact sn_open1 hV t Y on
set_option maxHeartbeats 1000000 in
theorem br_conn0 {G : Rg} (E : EnvB G) (b cn : Nat) (S : BrS) (h0 : S.c0 = pt0 cn) (hs0 : S.s0 = -1) (hs1 : S.s1 = -1) (C : CnS) (hc : C.cl = false) (ha : atOk cn C.ba) (ob : List UInt8) (hob : ob.length ≤ 1000) (cc : CoS) (hlv : cc.lv = 4) (hid : cc.id = naA) :
    FnDoes Tryz.prog 93 [pt0 b, nat64 0, .agg (pkC 1 cc).toArray] [brI b S, trI S.tr, cnnI cn C, bytI C.bv ob, ssI S.ss pn false, rgH G] (fun _ : Value × NsS => True) (fun _ => .tuple #[])
      (fun y => brI b (slS S 0) :: trI S.tr :: cnnI cn (acC C cn y.1 cc) :: bytI y.1 (ob ++ ansN) :: ssI S.ss (pt0 y.2.s) true :: rgH G :: nsL y.2 cc.cl true) := by
  have hn := br_name b S cc hid
  have ht := br_take0 b S hs0 hs1 naA
  have hop := sn_open0 E.v S.ss pn rfl cc.cl
  have hse := fun Z => br_settle0 E.m b cn S h0 C hc ha ob hob cc Z cc.cl
  have h4 : ((cc.lv : Nat) : Int) = 4 := by rw [hlv]; rfl
  rw [← hid] at ht hop
  refine does_of Tryz.func93 rfl rfl Tryz.ntmps93 rfl eNUM (fun c => ?_)
  (refine go ?_; intro c5)
  (show wpO _ _ ⟨_, .call _, _, _, _, _⟩ _ _ _ _ _ _; refine o_callA (hn) (fun _ _ => ?_); try simp only [List.cons_append, List.nil_append])
  (refine go ?_; intro c6)
  (show wpO _ _ ⟨_, .call _, _, _, _, _⟩ _ _ _ _ _ _; refine o_callA (ht) (fun _ _ => ?_); try simp only [List.cons_append, List.nil_append])
  (refine go ?_; intros)
  refine wpC_drawnA [brI b S, pts c6 (.cells (coC cc).toArray 28 (0, 0))] 15 ?_
  ((first | refine dt 0 ?_ | refine dts 0 ?_); (first | refine dt 1 ?_ | refine dts 1 ?_); (first | refine dt 2 ?_ | refine dts 2 ?_); (first | refine dt 3 ?_ | refine dts 3 ?_); (first | refine dt 4 ?_ | refine dts 4 ?_); (first | refine dt 5 ?_ | refine dts 5 ?_); (first | refine df 6 ?_ | refine dfs 6 ?_); (first | refine df 7 ?_ | refine dfs 7 ?_))
  refine dcall 8 hop (fun Z _ => ?_)
  simp only [List.cons_append, List.nil_append]
  ((first | refine df 9 ?_ | refine dfs 9 ?_); (first | refine dt 10 ?_ | refine dts 10 ?_); (first | refine dt 11 ?_ | refine dts 11 ?_); (first | refine dt 12 ?_ | refine dts 12 ?_); (first | refine df 13 ?_ | refine dfs 13 ?_); (first | refine df 14 ?_ | refine dfs 14 ?_); refine dl ?_)
  (refine go ?_; intros)
  have hse2 := hse Z
  (show wpO _ _ ⟨_, .call _, _, _, _, _⟩ _ _ _ _ _ _; refine o_callA (hse2) (fun v _ => ?_); try simp only [List.cons_append, List.nil_append])
  (refine go ?_; intros)
  exact q_ret0 rfl (v, Z) rfl trivial eNT _ (.inr rfl)
set_option maxHeartbeats 1000000 in
theorem br_conn1 {G : Rg} (E : EnvB G) (b cn0' cn : Nat) (S : BrS) (h0 : S.c0 = pt0 cn0') (hs0 : S.s0 = 0) (h1 : S.c1 = pt0 cn) (hs1 : S.s1 = -1) (hl : S.lg = sn0) (hk : S.ak = sn0) (hrt : S.rt = 0) (C0 : CnS) (hc0 : C0.cl = false) (hcm : C0.cm = true) (hwt : C0.wl = true) (hid0 : C0.who.id = naA) (hx : C0.who.wx.size ≤ 1000000) (htt : C0.who.wt.size ≤ 65536) (o : DuS) (Z : NsS)
    (C : CnS) (hc : C.cl = false) (ha : atOk cn C.ba) (ob : List UInt8) (hob : ob.length ≤ 1000) (cc : CoS) (hlv : cc.lv = 4) (hid : cc.id = naA) (hcl : cc.cl = true) :
    FnDoes Tryz.prog 93 [pt0 b, nat64 1, .agg (pkC 1 cc).toArray] (cnnI cn C :: bytI C.bv ob :: tkO b cn0' S C0 o Z G 0 (G, ⟨pn, pn, 0⟩)) (fun y : Rg × AccS × Value × NsS => EnvB y.1 ∧ grG G y.1) (fun _ => .tuple #[])
      (fun y => [brI b (slS (accB (outS S) y.2.1) 1), cnnI cn0' { C0 with cl := true }, dueI S.du .e, trI S.tr, logI y.2.1.v 1 (entE S.ck C0.who.id true C0.who), cnnI cn (acC C cn y.2.2.1 cc), bytI y.2.2.1 (ob ++ ansN), rgH y.1]) := by
  have hn := br_name b S cc hid
  have ht := br_take1 E b cn0' S h0 hs0 hs1 hl hk hrt C0 hc0 hcm hwt hid0 hx htt o Z
  have hop := fun (G1 : Rg) (E1 : EnvB G1) => sn_open1' E1.v S.ss Z false cc.cl hcl cc.id hid
  have hse := fun (G1 : Rg) (E1 : EnvB G1) (a : AccS) Y => br_settle1 E1.m b cn (accB (outS S) a) h1 C hc ha ob hob cc Y cc.cl
  have h4 : ((cc.lv : Nat) : Int) = 4 := by rw [hlv]; rfl
  rw [← hid] at ht
  dsimp only [tkO] at ht ⊢
  refine does_of Tryz.func93 rfl rfl Tryz.ntmps93 rfl eNUM (fun c => ?_)
  (refine go ?_; intro c5)
  (show wpO _ _ ⟨_, .call _, _, _, _, _⟩ _ _ _ _ _ _; refine o_callA (hn) (fun _ _ => ?_); try simp only [List.cons_append, List.nil_append])
  (refine go ?_; intro c6)
  (show wpO _ _ ⟨_, .call _, _, _, _, _⟩ _ _ _ _ _ _; refine o_callA (ht) (fun ⟨G1, a⟩ ⟨E1, g1⟩ => ?_); try simp only [List.cons_append, List.nil_append])
  try dsimp only at E1 g1 ⊢
  have hop1 := hop G1 E1
  (refine go ?_; intros)
  refine wpC_drawnA [brI b (accB (outS S) a), pts c6 (.cells (coC cc).toArray 28 (0, 0))] 15 ?_
  ((first | refine dt 0 ?_ | refine dts 0 ?_); (first | refine dt 1 ?_ | refine dts 1 ?_); (first | refine dt 2 ?_ | refine dts 2 ?_); (first | refine dt 3 ?_ | refine dts 3 ?_); (first | refine dt 4 ?_ | refine dts 4 ?_); (first | refine dt 5 ?_ | refine dts 5 ?_); (first | refine df 6 ?_ | refine dfs 6 ?_); (first | refine df 7 ?_ | refine dfs 7 ?_))
  refine dcall 8 hop1 (fun Y _ => ?_)
  simp only [List.cons_append, List.nil_append]
  ((first | refine df 9 ?_ | refine dfs 9 ?_); (first | refine dt 10 ?_ | refine dts 10 ?_); (first | refine dt 11 ?_ | refine dts 11 ?_); (first | refine dt 12 ?_ | refine dts 12 ?_); (first | refine df 13 ?_ | refine dfs 13 ?_); (first | refine df 14 ?_ | refine dfs 14 ?_); refine dl ?_)
  (refine go ?_; intros)
  have hse2 := hse G1 E1 a Y
  (show wpO _ _ ⟨_, .call _, _, _, _, _⟩ _ _ _ _ _ _; refine o_callA (hse2) (fun v _ => ?_); try simp only [List.cons_append, List.nil_append])
  (refine go ?_; intros)
  exact q_ret0 rfl (G1, a, v, Y) rfl ⟨E1, g1⟩ eNT _ (.inr rfl)
end Go.Proofs.YtnaabpfpldelmaaGreatDoor
set_option linter.unusedSimpArgs false
set_option linter.unusedVariables false
set_option maxRecDepth 20000
namespace Go.Proofs.YtnaabpfpldelmaaGreatDoor
open Go Go.Sx
attribute [local irreducible] MidQ wpE wpO wpC qE wpQ wpQO wpH wpHO wpD wpDO wpZ Ev own emp exI sl ch PostS LoopQ Rd rowsAt
set_option maxHeartbeats 400000 in
theorem br_ping {G : Rg} (hM : mayG G) (b cn : Nat) (S : BrS) (h0 : S.c0 = pt0 cn) (C : CnS) (hc : C.cl = false) (ha : atOk cn C.ba) (ob : List UInt8) (hob : ob.length ≤ 1000) (cc : CoS) :
    FnDoes Tryz.prog 99 [pt0 b, nat64 0, .agg (pkC 12 cc).toArray] [brI b S, cnnI cn C, bytI C.bv ob, rgH G] (fun _ : Value => True) (fun _ => .tuple #[])
      (fun v => [brI b S, cnnI cn { C with ba := pt0 cn, bv := v }, bytI v (ob ++ [208, 0]), rgH G]) := by
  have he := fun bb => br_emit1 hM 13 (.inr rfl) b 0 cn bb S (.inl ⟨rfl, h0⟩) C hc ha ob hob
  refine does_of Tryz.func99 rfl rfl Tryz.ntmps99 rfl eNUM (fun c => ?_)
  (refine go ?_; intro c5 bb)
  have he2 := he bb
  (show wpO _ _ ⟨_, .call _, _, _, _, _⟩ _ _ _ _ _ _; refine o_callA (he2) (fun v _ => ?_); try simp only [List.cons_append, List.nil_append])
  (refine go ?_; intros)
  exact q_ret0 rfl v rfl trivial eNT _ (.inr rfl)
set_option maxHeartbeats 400000 in
theorem br_disc (b cn : Nat) (S : BrS) (h0 : S.c0 = pt0 cn) (hs0 : S.s0 = 0) (C : CnS) (hc : C.cl = false) (hcm : C.cm = true) (o : DuS) (Z : NsS) (cc : CoS) : FnDoes Tryz.prog 100 [pt0 b, nat64 0, .agg (pkC 14 cc).toArray] [brI b S, cnnI cn C, dueI S.du o, ssI S.ss (pt0 Z.s) true, nssI Z false true] (fun _ : Unit => True) (fun _ => .tuple #[])
    (fun _ => [brI b (outS S), cnnI cn { C with wl := false, cl := true }, dueI S.du .e, ssI S.ss (pt0 Z.s) true, nssI Z false false]) := by
  have hf := cn_forget cn C
  have hd := br_dropC b cn S h0 hs0 { C with wl := false } hc hcm false rfl o Z
  obtain ⟨c0, k0, s0, c1, k1, s1, lk, ss, tr, ke, du, sp, ck, lg, ak, rt⟩ := S
  try dsimp only at h0 hs0 hd ⊢
  subst h0 hs0
  refine does_of Tryz.func100 rfl rfl Tryz.ntmps100 rfl eNUM (fun c => ?_)
  (refine go ?_; intro c5)
  (show wpO _ _ ⟨_, .call _, _, _, _, _⟩ _ _ _ _ _ _; refine o_callA (hf) (fun _ _ => ?_); try simp only [List.cons_append, List.nil_append])
  (refine go ?_; intros)
  (show wpO _ _ ⟨_, .call _, _, _, _, _⟩ _ _ _ _ _ _; refine o_callA (hd) (fun _ _ => ?_); try simp only [List.cons_append, List.nil_append])
  (refine go ?_; intros)
  exact q_ret0 rfl () rfl trivial eNT _ (.inr rfl)
set_option maxHeartbeats 1000000 in
theorem br_tickQ (b n : Nat) (hn : n ≤ 1000) (S : BrS) (hck : S.ck ≤ 1000) (o : DuS) (hf : firB o (S.ck + n) = false) : FnDoes Tryz.prog 22 [pt0 b, nat64 n] [brI b S, dueI S.du o] (fun _ : Unit => True) (fun _ => nat64 0) (fun _ => [brI b { S with ck := S.ck + n }, dueI S.du o]) := by
  have hfi := du_fireN S.du (S.ck + n) o hf
  obtain ⟨c0, k0, s0, c1, k1, s1, lk, ss, tr, ke, du, sp, ck, lg, ak, rt⟩ := S
  try dsimp only at hck hfi ⊢
  refine does_of Tryz.func22 rfl rfl Tryz.ntmps22 rfl eNUM (fun c => ?_)
  (refine go ?_; intros)
  try dsimp only
  (refine go ?_; intros)
  rw [show ((ck : Nat) : Int) + (n : Int) = ((ck + n : Nat) : Int) by omega]
  refine o_storeS rfl rfl rfl rfl rfl pK (by simp) ?_
  (refine go ?_; intros)
  refine wpC_drawnT ?_
  (refine zt 10 ?_)
  refine wpZ_D [brI b ⟨c0, k0, s0, c1, k1, s1, lk, ss, tr, ke, du, sp, ck + n, lg, ak, rt⟩] 9 1 9 ?_
  ((first | refine dt 0 ?_ | refine dts 0 ?_); (first | refine dt 1 ?_ | refine dts 1 ?_); (first | refine dt 2 ?_ | refine dts 2 ?_); (first | refine dt 3 ?_ | refine dts 3 ?_); (first | refine dt 4 ?_ | refine dts 4 ?_); (first | refine dt 5 ?_ | refine dts 5 ?_); (first | refine dt 6 ?_ | refine dts 6 ?_); (first | refine dt 7 ?_ | refine dts 7 ?_))
  refine dcall 8 hfi (fun _ _ => ?_)
  simp only [List.cons_append, List.nil_append]
  (refine dl ?_)
  (refine go ?_; intros)
  refine wpC_loop (σ := Unit) (fun _ => True) (fun _ => [(39, nat64 0), (40, nat64 0)]) (fun _ => [brI b ⟨c0, k0, s0, c1, k1, s1, lk, ss, tr, ke, du, sp, ck + n, lg, ak, rt⟩, dueI du o]) (fun _ => 0) () trivial sUB eNT (fun _ _ => ?_)
  (refine go ?_; intros)
  exact q_ret1 rfl rfl () rfl trivial eNT
set_option maxHeartbeats 2000000 in
theorem br_tickF {G : Rg} (E : EnvB G) (b cn n : Nat) (hn : n ≤ 1000) (S : BrS) (hck : S.ck ≤ 1000) (h0 : S.c0 = pt0 cn) (hs0 : S.s0 = 0) (hl : S.lg = sn0) (hk : S.ak = sn0) (hrt : S.rt = 0) (C : CnS) (hc : C.cl = false) (hcm : C.cm = true) (hwt : C.wl = true) (hx : C.who.wx.size ≤ 1000000) (htt : C.who.wt.size ≤ 65536) (o : DuS) (hf : firB o (S.ck + n) = true) (Z : NsS) :
    FnDoes Tryz.prog 22 [pt0 b, nat64 n] [brI b S, cnnI cn C, dueI S.du o, ssI S.ss (pt0 Z.s) true, nssI Z false true, trI S.tr, nvI S.ke S.sp, rgH G] (fun y : Rg × AccS => EnvB y.1 ∧ grG G y.1) (fun _ => nat64 0)
      (fun y => tkO b cn { S with ck := S.ck + n } C o Z G 1 y) := by
  have hfi := du_fireY S.du (S.ck + n) o hf
  have hd := br_dropB E b cn { S with ck := S.ck + n } h0 hs0 hl hk hrt C hc hcm hwt hx htt .e Z
  obtain ⟨c0, k0, s0, c1, k1, s1, lk, ss, tr, ke, du, sp, ck, lg, ak, rt⟩ := S
  try dsimp only at hck hfi hd h0 hs0 ⊢
  subst h0 hs0
  refine does_of Tryz.func22 rfl rfl Tryz.ntmps22 rfl eNUM (fun c => ?_)
  (refine go ?_; intros)
  try dsimp only
  (refine go ?_; intros)
  rw [show ((ck : Nat) : Int) + (n : Int) = ((ck + n : Nat) : Int) by omega]
  refine o_storeS rfl rfl rfl rfl rfl pK (by simp) ?_
  (refine go ?_; intros)
  refine wpC_drawnT ?_
  (refine zt 10 ?_)
  refine wpZ_D [brI b ⟨pt0 cn, k0, 0, c1, k1, s1, lk, ss, tr, ke, du, sp, ck + n, lg, ak, rt⟩] 9 1 9 ?_
  ((first | refine dt 0 ?_ | refine dts 0 ?_); (first | refine dt 1 ?_ | refine dts 1 ?_); (first | refine dt 2 ?_ | refine dts 2 ?_); (first | refine dt 3 ?_ | refine dts 3 ?_); (first | refine dt 4 ?_ | refine dts 4 ?_); (first | refine dt 5 ?_ | refine dts 5 ?_); (first | refine dt 6 ?_ | refine dts 6 ?_); (first | refine dt 7 ?_ | refine dts 7 ?_))
  refine dcall 8 hfi (fun v _ => ?_)
  simp only [List.cons_append, List.nil_append]
  refine wpD_fact (sl_slice (v := v) (.tail .head)) (fun hv => ?_)
  obtain ⟨av, cap, rfl⟩ := hv
  (refine dl ?_)
  (refine go ?_; intros)
  refine wpC_sl (v := .slice av 1 cap) pK (fun _ h _ => by omega) (fun bq cap2 junk e q1 q2 q3 => ?_)
  cases e
  refine wpC_loop (σ := Nat × Rg × AccS) (fun s => s.1 ≤ 1 ∧ (s.1 ≠ 0 → EnvB s.2.1 ∧ grG G s.2.1)) (fun s => [(0, pt0 b), (38, .slice (some ⟨bq, 0, none⟩) 1 cap), (39, nat64 1), (40, nat64 s.1)]) (fun s => pts bq (.cells ([nat64 0] ++ junk).toArray tInt (0, 0)) :: tkO b cn ⟨pt0 cn, k0, 0, c1, k1, s1, lk, ss, tr, ke, du, sp, ck + n, lg, ak, rt⟩ C .e Z G s.1 s.2) (fun s => 1 - s.1) (0, G, ⟨pn, pn, 0⟩) ⟨Nat.zero_le _, fun h => absurd rfl h⟩ sUB (by dsimp only [tkO]; ((try simp only [List.cons_append, List.nil_append]); repeat (first | exact Ent.nil | (apply Ent.cons; repeat (first | exact Pick.head | apply Pick.tail))))) (fun s hs => ?_)
  obtain ⟨i, G1, a⟩ := s
  obtain ⟨hi, he⟩ := hs
  try dsimp only at hi he
  rcases (show i = 0 ∨ i = 1 by omega) with rfl | rfl
  · dsimp only [tkO]
    (refine go ?_; intros)
    (show wpO _ _ ⟨_, .call _, _, _, _, _⟩ _ _ _ _ _ _; refine o_callA (hd) (fun y hy => ?_); try simp only [List.cons_append, List.nil_append])
    (refine go ?_; intros)
    exact q_round (1, y) ⟨show (1 : Nat) ≤ 1 by decide, fun _ => hy⟩ (show (0 : Nat) < 1 by decide) sUB (by first | (dsimp only [tkO]; ((try simp only [List.cons_append, List.nil_append]); repeat (first | exact Ent.nil | (apply Ent.cons; repeat (first | exact Pick.head | apply Pick.tail))))) | ((try simp only [List.cons_append, List.nil_append]); repeat (first | exact Ent.nil | (apply Ent.cons; repeat (first | exact Pick.head | apply Pick.tail)))))
  · dsimp only [tkO]
    (refine go ?_; intros)
    exact q_ret1 rfl rfl (G1, a) rfl (he (by decide)) (by first | (dsimp only [tkO]; ((try simp only [List.cons_append, List.nil_append]); repeat (first | exact Ent.nil | (apply Ent.cons; repeat (first | exact Pick.head | apply Pick.tail))))) | ((try simp only [List.cons_append, List.nil_append]); repeat (first | exact Ent.nil | (apply Ent.cons; repeat (first | exact Pick.head | apply Pick.tail)))))
def rnO (o : DuS) (ck kp : Nat) : DuS := if 0 < kp then .f (ck + kp + kp / 2 + 1) else o
set_option maxHeartbeats 1000000 in
theorem br_renA (b : Nat) (S : BrS) (h0 : S.c0 = pn) : DefDoes Tryz.prog 72 [pt0 b, nat64 0, nat64 0] [brI b S] (fun _ : Unit => True) (fun _ => [brI b S]) := by
  refine defers_of (val := fun _ => .tuple #[]) Tryz.func72 rfl rfl Tryz.ntmps72 rfl eNUM (fun c hrnd hds => ?_)
  obtain ⟨c0, k0, s0, c1, k1, s1, lk, ss, tr, ke, du, sp, ck, lg, ak, rt⟩ := S
  try dsimp only at h0 ⊢
  subst h0
  (refine go ?_; intros)
  exact qm_ret0 hds (.inl rfl) (q_ret0 rfl () rfl trivial eNT _ (.inl rfl))
set_option maxHeartbeats 1000000 in
theorem br_renB (b cn : Nat) (S : BrS) (h0 : S.c0 = pt0 cn) (hk : S.k0 = 0) (hck : S.ck ≤ 2000) (C : CnS) (hcm : C.cm = true) (hkp : C.who.kp ≤ 65536) (o : DuS) (ho : o ≠ .e) : DefDoes Tryz.prog 72 [pt0 b, nat64 0, nat64 0] [brI b S, cnnI cn C, dueI S.du o] (fun _ : Unit => True) (fun _ => [brI b S, cnnI cn C, dueI S.du (rnO o S.ck C.who.kp)]) := by
  refine defers_of (val := fun _ => .tuple #[]) Tryz.func72 rfl rfl Tryz.ntmps72 rfl eNUM (fun c hrnd hds => ?_)
  have hw := cn_who cn C
  simp only [hcm, if_true] at hw
  have hla := cl_late S.ck C.who.kp (by omega) hkp
  have hse := du_set S.du (S.ck + C.who.kp + C.who.kp / 2 + 1) o ho
  generalize hww : C.who = who at *
  obtain ⟨c0, k0, s0, c1, k1, s1, lk, ss, tr, ke, du, sp, ck, lg, ak, rt⟩ := S
  try dsimp only at h0 hk hck hla hse ⊢
  subst h0 hk
  unfold rnO
  (refine go ?_; intro c6)
  (show wpO _ _ ⟨_, .call _, _, _, _, _⟩ _ _ _ _ _ _; refine o_callA (hw) (fun _ _ => ?_); try simp only [List.cons_append, List.nil_append])
  by_cases hp : 0 < who.kp
  · rw [if_pos hp]
    (refine go ?_; intro c7)
    refine wpC_drawnA [brI b ⟨pt0 cn, 0, s0, c1, k1, s1, lk, ss, tr, ke, du, sp, ck, lg, ak, rt⟩, pts c7 (.cells (coC who).toArray 28 (0, 0))] 12 ?_
    ((first | refine dt 0 ?_ | refine dts 0 ?_); (first | refine dt 1 ?_ | refine dts 1 ?_); (first | refine dt 2 ?_ | refine dts 2 ?_); (first | refine dt 3 ?_ | refine dts 3 ?_); (first | refine dt 4 ?_ | refine dts 4 ?_); (first | refine dt 5 ?_ | refine dts 5 ?_); (first | refine dt 6 ?_ | refine dts 6 ?_); (first | refine dt 7 ?_ | refine dts 7 ?_); (first | refine dt 8 ?_ | refine dts 8 ?_); (first | refine df 9 ?_ | refine dfs 9 ?_); (first | refine df 10 ?_ | refine dfs 10 ?_))
    refine dcall 11 hla (fun _ _ => ?_)
    simp only [List.cons_append, List.nil_append]
    (refine dlcall (hse) (fun _ _ => ?_); try simp only [List.cons_append, List.nil_append])
    (refine go ?_; intros)
    exact qm_ret0 hds (.inr rfl) (q_ret0 rfl () rfl trivial eNT _ (.inr rfl))
  · rw [if_neg hp]
    (refine go ?_; intro c7)
    exact qm_ret0 hds (.inr rfl) (q_ret0 rfl () rfl trivial eNT _ (.inr rfl))
set_option maxHeartbeats 1000000 in
theorem br_renC (b cn : Nat) (S : BrS) (h1 : S.c1 = pt0 cn) (hk : S.k1 = 1) (C : CnS) (hcm : C.cm = true) (hkp : C.who.kp = 0) : DefDoes Tryz.prog 72 [pt0 b, nat64 1, nat64 1] [brI b S, cnnI cn C] (fun _ : Unit => True) (fun _ => [brI b S, cnnI cn C]) := by
  refine defers_of (val := fun _ => .tuple #[]) Tryz.func72 rfl rfl Tryz.ntmps72 rfl eNUM (fun c hrnd hds => ?_)
  have hw := cn_who cn C
  simp only [hcm, if_true] at hw
  have hz : ((C.who.kp : Nat) : Int) = 0 := by rw [hkp]; rfl
  obtain ⟨c0, k0, s0, c1, k1, s1, lk, ss, tr, ke, du, sp, ck, lg, ak, rt⟩ := S
  try dsimp only at h1 hk ⊢
  subst h1 hk
  (refine go ?_; intro c6)
  (show wpO _ _ ⟨_, .call _, _, _, _, _⟩ _ _ _ _ _ _; refine o_callA (hw) (fun _ _ => ?_); try simp only [List.cons_append, List.nil_append])
  (refine go ?_; intro c7)
  exact qm_ret0 hds (.inr rfl) (q_ret0 rfl () rfl trivial eNT _ (.inr rfl))
end Go.Proofs.YtnaabpfpldelmaaGreatDoor
set_option linter.unusedSimpArgs false
set_option linter.unusedVariables false
set_option maxRecDepth 20000
namespace Go.Proofs.YtnaabpfpldelmaaGreatDoor
open Go Go.Sx
structure N1S where
  e : Nat
  a : Option Addr
  cap : Nat
  v : Value
  Z : NsS
abbrev camL (b cn : Nat) (S : BrS) (C : CnS) (k : Nat) (ob : List UInt8) (cc : CoS) (G : Rg) (y : N1S) : List HProp :=
  brI b (slS S 0) :: trI S.tr :: cnnI cn (acC { C with fs := false } cn y.v cc) :: frmI C.f (.slice y.a 0 y.cap) (k + 1) :: bytI y.v (ob ++ ansN) :: ssI S.ss (pt0 y.Z.s) true :: dueI S.du (rnO .z S.ck cc.kp) :: rgH G :: nsL y.Z cc.cl true
def n1L (b cn : Nat) (S : BrS) (C : CnS) (k : Nat) (ob : List UInt8) (cc : CoS) (G : Rg) (y : N1S) : List HProp := match y.e with
  | 0 => camL b cn S C k ob cc G y
  | _ => [rgH G]
structure NewC (C : CnS) (cn : Nat) : Prop where
  fs : C.fs = true
  cl : C.cl = false
  bd : C.bd = 0
  cm : C.cm = false
  wl : C.wl = false
  ba : atOk cn C.ba
attribute [local irreducible] MidQ wpE wpO wpC qE wpQ wpQO wpH wpHO wpD wpDO wpZ Ev own emp exI sl ch PostS LoopQ Rd rowsAt
set_option maxHeartbeats 2000000 in
theorem br_next1 {G : Rg} (E : EnvB G) (b cn : Nat) (S : BrS) (h0 : S.c0 = pt0 cn) (hk0 : S.k0 = 0) (hs0 : S.s0 = -1) (hs1 : S.s1 = -1) (hck : S.ck ≤ 2000) (C : CnS) (hC : NewC C cn) (k : Nat) (hk : k ≤ 1000) (v : Value) (l : List UInt8) (m kk : Nat) (body : List UInt8) (hp : PktAt l 1 m kk body) (ob : List UInt8) (hob : ob.length ≤ 1000)
    (hg : (ofZ body).e = 0 → (coOf body).lv = 4 ∧ (coOf body).id = naA ∧ (coOf body).kp ≤ 65536) :
    FnDoes Tryz.prog 47 [pt0 b, nat64 0] [brI b S, trI S.tr, cnnI cn C, frmI C.f v k, bytI v l, bytI C.bv ob, ssI S.ss pn false, dueI S.du .z, rgH G] (fun y : N1S => (y.e = 0 → (ofZ body).e = 0) ∧ ((ofZ body).e = 0 → (coOf body).hw = false → y.e = 0)) (fun y => nat64 y.e) (n1L b cn S C k ob (coOf body) G) := by
  obtain ⟨c1, c2, c3, c4, c5, c6⟩ := hC
  have hnx := cn_next cn k 1 (coOf body) C c3 c2 v l (fun e => decide (e ≠ 0)) _ (cn_take1 E.ok E.m E.v cn k hk C c1 v l m kk body hp)
  have hdr := fun e => br_dropA b cn S h0 hs0 { C with fs := decide (e ≠ 0), bd := e } c2 c5 c4 .z true
  have hco := fun h => br_conn0 E b cn S h0 hs0 hs1 { C with fs := false, bd := 0 } c2 c6 ob hob (coOf body) (hg h).1 (hg h).2.1
  have hre := fun vv h => br_renB b cn (slS S 0) h0 hk0 hck (acC { C with fs := false, bd := 0 } cn vv (coOf body)) rfl (hg h).2.2 .z (by intro h; cases h)
  obtain ⟨ba, bv, f, fs, cl, bd, who, cm, wl⟩ := C
  obtain ⟨x0, k0, s0, x1, k1, s1, lk, ss, tr, ke, du, sp, ck, lg, ak, rt⟩ := S
  try dsimp only at h0 hk0 hs0 hs1 hck c1 c2 c3 c4 c5 c6 hnx hdr hco hre ⊢
  subst h0 hk0 hs0 hs1 c1 c2 c3 c4 c5
  refine does_ofM Tryz.func47 rfl rfl Tryz.ntmps47 rfl eNUM (fun c hrnd hds => ?_)
  (refine go ?_; intros)
  (show wpO _ _ ⟨_, .call _, _, _, _, _⟩ _ _ _ _ _ _; refine o_callA (hnx) (fun ⟨a, cap, e⟩ hy => ?_); try simp only [List.cons_append, List.nil_append])
  obtain ⟨hy1, hy2⟩ := hy
  try dsimp only at hy1 hy2 ⊢
  by_cases he : e = 0
  · subst he
    rw [tkV_ok]
    have hz := hy1 rfl
    (refine go ?_; intro c6)
    refine o_defer hrnd rfl rfl ?_
    (refine go ?_; intros)
    (show wpO _ _ ⟨_, .call _, _, _, _, _⟩ _ _ _ _ _ _; refine o_callA (br_server1 b) (fun _ _ => ?_); try simp only [List.cons_append, List.nil_append])
    (refine go ?_; intros)
    refine o_callB (bd := [pt0 b]) (args := [nat64 0, .agg (pkC 1 (coOf body)).toArray]) (fr := []) (hco hz) (fun y _ => ?_)
    obtain ⟨vv, Z⟩ := y
    simp only [List.cons_append, List.nil_append]
    (refine go ?_; intros)
    refine qm_defer (hre vv hz) (Picks.ent pKS) (.inl rfl) (fun _ _ => ?_)
    simp only [List.cons_append, List.nil_append]
    refine qm_ret0 hds (.inl rfl) (q_ret1 rfl rfl (⟨0, a, cap, vv, Z⟩ : N1S) rfl ⟨fun _ => hz, fun _ _ => rfl⟩ ?_)
    dsimp only [n1L, camL]
    ((try simp only [List.cons_append, List.nil_append]); repeat (first | exact Ent.nil | (apply Ent.cons; repeat (first | exact Pick.head | apply Pick.tail))))
  · rw [tkV_no _ _ he]
    have hd := hdr e
    rw [show decide (e ≠ 0) = true from decide_eq_true he] at hd ⊢
    have h1 : (e : Int) ≠ 0 := by omega
    (refine go ?_; intro c6)
    (show wpO _ _ ⟨_, .call _, _, _, _, _⟩ _ _ _ _ _ _; refine o_callA (hd) (fun _ _ => ?_); try simp only [List.cons_append, List.nil_append])
    (refine go ?_; intros)
    refine qm_ret0 hds (.inl rfl) (q_ret1 rfl rfl (⟨e, a, cap, pn, ⟨0, 0, 0, 0, 0, 0⟩⟩ : N1S) rfl ⟨hy1, hy2⟩ ?_)
    obtain ⟨e', rfl⟩ : ∃ e', e = e' + 1 := ⟨e - 1, by omega⟩
    dsimp only [n1L]
    ((try simp only [List.cons_append, List.nil_append]); repeat (first | exact Ent.nil | (apply Ent.cons; repeat (first | exact Pick.head | apply Pick.tail))))
set_option maxHeartbeats 2000000 in
theorem br_nextP {G : Rg} (E : EnvB G) (b cn : Nat) (S : BrS) (h0 : S.c0 = pt0 cn) (hk0 : S.k0 = 0) (hck : S.ck ≤ 2000) (C : CnS) (c1 : C.fs = false) (c2 : C.cl = false) (c3 : C.bd = 0) (c4 : C.cm = true) (c6 : atOk cn C.ba) (hkp : C.who.kp ≤ 65536) (k : Nat) (hk : k ≤ 1000) (v : Value) (l : List UInt8) (hp : PktAt l 12 0 1 []) (ob : List UInt8) (hob : ob.length ≤ 1000) (o : DuS) (ho : o ≠ .e) :
    FnDoes Tryz.prog 47 [pt0 b, nat64 0] [brI b S, cnnI cn C, frmI C.f v k, bytI v l, bytI C.bv ob, dueI S.du o, rgH G] (fun _ : N1S => True) (fun _ => nat64 0) (fun y => [brI b S, cnnI cn { C with ba := pt0 cn, bv := y.v }, frmI C.f (.slice y.a 0 y.cap) (k + 1), bytI y.v (ob ++ [208, 0]), dueI S.du (rnO o S.ck C.who.kp), rgH G]) := by
  have hnx := cn_next cn k 12 co0 C c3 c2 v l (fun _ => false) _ ((cn_takeN E.m cn k hk C c1 v l 12 (.inl rfl) hp).turn (Ent.refl _) (fun y hy => ⟨y, hy, rfl, by rw [← c1]; exact Ent.refl _⟩))
  have hpi := br_ping E.m b cn S h0 { C with fs := false, bd := 0 } c2 c6 ob hob co0
  have hre := fun vv => br_renB b cn S h0 hk0 hck { C with fs := false, bd := 0, ba := pt0 cn, bv := vv } c4 hkp o ho
  obtain ⟨ba, bv, f, fs, cl, bd, who, cm, wl⟩ := C
  obtain ⟨x0, k0, s0, x1, k1, s1, lk, ss, tr, ke, du, sp, ck, lg, ak, rt⟩ := S
  try dsimp only at h0 hk0 hck c1 c2 c3 c4 c6 hnx hpi hre ⊢
  subst h0 hk0 c1 c2 c3 c4
  refine does_ofM Tryz.func47 rfl rfl Tryz.ntmps47 rfl eNUM (fun c hrnd hds => ?_)
  (refine go ?_; intros)
  (show wpO _ _ ⟨_, .call _, _, _, _, _⟩ _ _ _ _ _ _; refine o_callA (hnx) (fun ⟨a, cap, e⟩ hy => ?_); try simp only [List.cons_append, List.nil_append])
  obtain rfl : e = 0 := hy
  rw [tkV_ok]
  (refine go ?_; intro c6)
  refine o_defer hrnd rfl rfl ?_
  (refine go ?_; intros)
  (show wpO _ _ ⟨_, .call _, _, _, _, _⟩ _ _ _ _ _ _; refine o_callA (br_server12 b) (fun _ _ => ?_); try simp only [List.cons_append, List.nil_append])
  (refine go ?_; intros)
  refine o_callB (bd := [pt0 b]) (args := [nat64 0, .agg (pkC 12 co0).toArray]) (fr := []) hpi (fun vv _ => ?_)
  simp only [List.cons_append, List.nil_append]
  (refine go ?_; intros)
  refine qm_defer (hre vv) (Picks.ent pKS) (.inl rfl) (fun _ _ => ?_)
  simp only [List.cons_append, List.nil_append]
  exact qm_ret0 hds (.inl rfl) (q_ret1 rfl rfl (⟨0, a, cap, vv, ⟨0, 0, 0, 0, 0, 0⟩⟩ : N1S) rfl trivial eNT)
set_option maxHeartbeats 2000000 in
theorem br_nextD {G : Rg} (E : EnvB G) (b cn : Nat) (S : BrS) (h0 : S.c0 = pt0 cn) (hk0 : S.k0 = 0) (hs0 : S.s0 = 0) (C : CnS) (c1 : C.fs = false) (c2 : C.cl = false) (c3 : C.bd = 0) (c4 : C.cm = true) (k : Nat) (hk : k ≤ 1000) (v : Value) (l : List UInt8) (hp : PktAt l 14 0 1 []) (o : DuS) (Z : NsS) :
    FnDoes Tryz.prog 47 [pt0 b, nat64 0] [brI b S, cnnI cn C, frmI C.f v k, bytI v l, dueI S.du o, ssI S.ss (pt0 Z.s) true, nssI Z false true, rgH G] (fun _ : Unit => True) (fun _ => nat64 0) (fun y => [brI b (outS S), cnnI cn { C with wl := false, cl := true }, rgH G]) := by
  have hnx := cn_next cn k 14 co0 C c3 c2 v l (fun _ => false) _ ((cn_takeN E.m cn k hk C c1 v l 14 (.inr rfl) hp).turn (Ent.refl _) (fun y hy => ⟨y, hy, rfl, by rw [← c1]; exact Ent.refl _⟩))
  have hdi := br_disc b cn S h0 hs0 { C with fs := false, bd := 0 } c2 c4 o Z co0
  have hre := br_renA b (outS S) rfl
  obtain ⟨ba, bv, f, fs, cl, bd, who, cm, wl⟩ := C
  obtain ⟨x0, k0, s0, x1, k1, s1, lk, ss, tr, ke, du, sp, ck, lg, ak, rt⟩ := S
  try dsimp only at h0 hk0 hs0 c1 c2 c3 c4 hnx hdi hre ⊢
  subst h0 hk0 hs0 c1 c2 c3 c4
  refine does_ofM Tryz.func47 rfl rfl Tryz.ntmps47 rfl eNUM (fun c hrnd hds => ?_)
  (refine go ?_; intros)
  (show wpO _ _ ⟨_, .call _, _, _, _, _⟩ _ _ _ _ _ _; refine o_callA (hnx) (fun ⟨a, cap, e⟩ hy => ?_); try simp only [List.cons_append, List.nil_append])
  obtain rfl : e = 0 := hy
  rw [tkV_ok]
  (refine go ?_; intro c6)
  refine o_defer hrnd rfl rfl ?_
  (refine go ?_; intros)
  (show wpO _ _ ⟨_, .call _, _, _, _, _⟩ _ _ _ _ _ _; refine o_callA (br_server14 b) (fun _ _ => ?_); try simp only [List.cons_append, List.nil_append])
  (refine go ?_; intros)
  refine o_callB (bd := [pt0 b]) (args := [nat64 0, .agg (pkC 14 co0).toArray]) (fr := []) hdi (fun _ _ => ?_)
  simp only [List.cons_append, List.nil_append]
  (refine go ?_; intros)
  refine qm_defer hre (Picks.ent pKS) (.inl rfl) (fun _ _ => ?_)
  simp only [List.cons_append, List.nil_append]
  exact qm_ret0 hds (.inl rfl) (q_ret1 rfl rfl () rfl trivial eNT)
set_option maxHeartbeats 2000000 in
theorem br_nextE {G : Rg} (E : EnvB G) (b cn kd : Nat) (S : BrS) (h0 : S.c0 = pt0 cn) (hs0 : S.s0 = 0) (hl : S.lg = sn0) (hk : S.ak = sn0) (hrt : S.rt = 0) (C : CnS) (c1 : C.fs = false) (c2 : C.cl = false) (c3 : C.bd = 0) (c4 : C.cm = true) (c5 : C.wl = true) (hx : C.who.wx.size ≤ 1000000) (htt : C.who.wt.size ≤ 65536) (k : Nat) (v : Value) (l : List UInt8) (o : DuS) (Z : NsS)
    (hnt : FnDoes Tryz.prog 90 [pt0 cn] [cnnI cn C, frmI C.f v k, bytI v l, rgH G] (fun y : Option Addr × Nat × Nat => y.2.2 ≠ 0) (fun y => tkV kd co0 y.2.2) (fun y => [cnnI cn C, frmI C.f (aft y) (k + 1), rgH G])) :
    FnDoes Tryz.prog 47 [pt0 b, nat64 0] [brI b S, cnnI cn C, frmI C.f v k, bytI v l, dueI S.du o, ssI S.ss (pt0 Z.s) true, nssI Z false true, trI S.tr, nvI S.ke S.sp, rgH G] (fun y : Nat × Rg × AccS => y.1 ≠ 0 ∧ EnvB y.2.1 ∧ grG G y.2.1) (fun y => nat64 y.1)
      (fun y => [brI b (accB (outS S) y.2.2), cnnI cn { C with bd := y.1, cl := true }, logI y.2.2.v 1 (entE S.ck C.who.id true C.who), rgH y.2.1]) := by
  have hnx := cn_next cn k kd co0 C c3 c2 v l (fun _ => false) _ (hnt.turn (Ent.refl _) (fun y hy => ⟨y, hy, rfl, by rw [← c1]; exact Ent.refl _⟩))
  have hdr := fun e => br_dropB E b cn S h0 hs0 hl hk hrt { C with fs := false, bd := e } c2 c4 c5 hx htt o Z
  obtain ⟨ba, bv, f, fs, cl, bd, who, cm, wl⟩ := C
  obtain ⟨x0, k0, s0, x1, k1, s1, lk, ss, tr, ke, du, sp, ck, lg, ak, rt⟩ := S
  try dsimp only at h0 hs0 c1 c2 c3 c4 c5 hnx hdr ⊢
  subst h0 hs0 c1 c2 c3 c4 c5
  refine does_ofM Tryz.func47 rfl rfl Tryz.ntmps47 rfl eNUM (fun c hrnd hds => ?_)
  (refine go ?_; intros)
  (show wpO _ _ ⟨_, .call _, _, _, _, _⟩ _ _ _ _ _ _; refine o_callA (hnx) (fun ⟨a, cap, e⟩ he => ?_); try simp only [List.cons_append, List.nil_append])
  try dsimp only at he ⊢
  rw [tkV_no _ _ he]
  have hd := hdr e
  have h1 : (e : Int) ≠ 0 := by omega
  (refine go ?_; intro c6)
  (show wpO _ _ ⟨_, .call _, _, _, _, _⟩ _ _ _ _ _ _; refine o_callA (hd) (fun y hy => ?_); try simp only [List.cons_append, List.nil_append])
  (refine go ?_; intros)
  exact qm_ret0 hds (.inl rfl) (q_ret1 rfl rfl (e, y) rfl ⟨he, hy⟩ eNT)
end Go.Proofs.YtnaabpfpldelmaaGreatDoor
