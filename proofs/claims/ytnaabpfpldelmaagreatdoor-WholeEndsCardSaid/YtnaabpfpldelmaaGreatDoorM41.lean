/-
  An answer, told from its bytes.
  The whole program: a packet is sent; a client comes; what went out.
  The whole program: it computes at all.
  The whole program: packets are sent.
-/
import Derived.Test.YtnaabpfpldelmaaGreatDoorM31
import Derived.Test.YtnaabpfpldelmaaGreatDoorM38
import Derived.Test.YtnaabpfpldelmaaGreatDoorM40
set_option linter.unusedSimpArgs false
set_option linter.unusedVariables false
set_option maxRecDepth 20000
namespace Go.Proofs.YtnaabpfpldelmaaGreatDoor
open Go Go.Sx
attribute [local irreducible] MidQ wpE wpO wpC qE wpQ wpQO wpH wpHO wpD wpDO wpZ Ev own emp exI sl ch PostS LoopQ Rd rowsAt
theorem co_ofAck : FnDoes Tryz.prog 269 [.string two0] [] (fun _ : Unit => True) (fun _ => .tuple #[.bool false, nat64 0, nat64 0]) (fun _ => []) := by
  have hz : two0.size = 2 := rfl
  have h0 : (0 : UInt8).toNat = 0 := rfl
  refine does_of Tryz.func269 rfl rfl Tryz.ntmps269 rfl eNUM (fun c => ?_)
  (refine go ?_; intros)
  refine o_evB (ev_strIndex (u := 0) rfl rfl rfl rfl) ?_
  rw [h0]
  (refine go ?_; intros)
  refine wpC_drawnA [] 7 ?_
  ((first | refine dt 0 ?_ | refine dts 0 ?_))
  refine dtB 1 rfl (ev_strIndex (u := 0) rfl rfl rfl rfl) ?_
  rw [h0]
  ((first | refine dt 2 ?_ | refine dts 2 ?_); (first | refine dt 3 ?_ | refine dts 3 ?_))
  refine dtB 4 rfl (ev_strIndex (j := 1) (u := 0) rfl rfl rfl rfl) ?_
  rw [h0]
  ((first | refine dt 5 ?_ | refine dts 5 ?_); (first | refine df 6 ?_ | refine dfs 6 ?_); refine dl ?_)
  (refine go ?_; intros)
  (show wpO _ _ ⟨_, .call _, _, _, _, _⟩ _ _ _ _ _ _; refine o_callA (co_putAck) (fun v _ => ?_); try simp only [List.cons_append, List.nil_append])
  (refine go ?_; intros)
  exact q_ret3 rfl rfl rfl rfl () rfl trivial eNT
theorem pk_teller2 (w : Nat) (c : CoS) (s : ByteArray) : FnDoes Tryz.prog 144 [pt0 w] [wrpI w 2 c s] (fun _ : Unit => True) (fun _ => meth 204 w) (fun _ => [wrpI w 2 c s]) := by
  refine does_of Tryz.func144 rfl rfl Tryz.ntmps144 rfl eNUM (fun c => ?_)
  (refine go ?_; intros)
  refine o_evB (ev_makeFunc (vb := [pt0 w]) (vf := []) rfl rfl) ?_
  (refine go ?_; intros)
  exact q_ret1 rfl rfl () rfl trivial eNT
theorem pk_ofConnack (w : Nat) : FnDoes Tryz.prog 204 [pt0 w] [wrpI w 2 co0 two0] (fun _ : Unit => True) (fun _ => nat64 0) (fun _ => [wrpI w 2 co0 two0]) := by
  refine does_of Tryz.func204 rfl rfl Tryz.ntmps204 rfl eNUM (fun c => ?_)
  (refine go ?_; intros)
  (show wpO _ _ ⟨_, .call _, _, _, _, _⟩ _ _ _ _ _ _; refine o_callA (co_ofAck) (fun _ _ => ?_); try simp only [List.cons_append, List.nil_append])
  (refine go ?_; intros)
  refine o_storeS rfl rfl rfl rfl rfl pK (by simp) ?_
  (refine go ?_; intros)
  refine o_storeS rfl rfl rfl rfl rfl pK (by simp) ?_
  (refine go ?_; intros)
  exact q_ret1 rfl rfl () rfl trivial eNT
set_option maxHeartbeats 1000000 in
theorem pk_of2 {G : Rg} (hM : mayG G) : FnDoes Tryz.prog 103 [.agg (rawC 2 2 two0).toArray] [rgH G] (fun _ : Unit => True) (fun _ => pkE 2 co0 0) (fun _ => [rgH G]) := by
  have hr := hd_right hM 2 (by unfold kindOk; omega)
  have hz : two0.size = 2 := rfl
  refine does_of Tryz.func103 rfl rfl Tryz.ntmps103 rfl eNUM (fun c => ?_)
  (refine go ?_; intro c1 c2)
  (show wpO _ _ ⟨_, .call _, _, _, _, _⟩ _ _ _ _ _ _; refine o_callA (hr) (fun _ _ => ?_); try simp only [List.cons_append, List.nil_append])
  (refine go ?_; intro w)
  (show wpO _ _ ⟨_, .call _, _, _, _, _⟩ _ _ _ _ _ _; refine o_callA (pk_teller2 w co0 two0) (fun _ _ => ?_); try simp only [List.cons_append, List.nil_append])
  (refine go ?_; intros)
  refine o_callB (bd := [pt0 w]) (args := []) (fr := []) (pk_ofConnack w) (fun _ _ => ?_)
  simp only [List.cons_append, List.nil_append]
  (refine go ?_; intros)
  exact q_retAT (l1 := pkC 2 co0) rfl rfl rfl rfl rfl rfl rfl pK () rfl trivial eNT
abbrev ackL : List UInt8 := [32, 2, 0, 0]
set_option maxHeartbeats 2000000 in
theorem pk_one1 {G : Rg} (hM : mayG G) {X : HProp} {v : Value} (hX : Bs X v ackL) : FnDoes Tryz.prog 74 [v, nat64 0] [X, rgH G] (fun _ : Unit => True) (fun _ => .tuple #[.agg (pkC 2 co0).toArray, nat64 4, .bool true, nat64 0]) (fun _ => [X, rgH G]) := by
  have hg := hd_get hM hX (by decide) 0 2 2 1 (.inr (.inl rfl)) (by decide) rfl ⟨by decide, .inl ⟨rfl, rfl, by decide⟩⟩ (by decide) (by decide)
  have ho := pk_of2 hM
  have hal : ackL.length = 4 := rfl
  refine does_of Tryz.func74 rfl rfl Tryz.ntmps74 rfl eNUM (fun c => ?_)
  refine wpC_fact (hX.isSlice .head) (fun hs => ?_)
  obtain ⟨a, cap, rfl, ha⟩ := hs
  obtain ⟨_, _, _, hcap⟩ := ha (by decide)
  have hcap4 : 4 ≤ cap := hcap
  have hB := Bs.part (X := X) (l := ackL) (a := a) (cap := cap) hX (i := 2) (k := 2) (by decide)
  (refine go ?_; intro c4)
  (show wpO _ _ ⟨_, .call _, _, _, _, _⟩ _ _ _ _ _ _; refine o_callA (hg) (fun _ _ => ?_); try simp only [List.cons_append, List.nil_append])
  (refine go ?_; intro c8)
  refine wpC_drawnA [X, pts c8 (.cells (hedC 2 0 2).toArray 78 (0, 0))] 16 ?_
  ((first | refine dt 0 ?_ | refine dts 0 ?_); (first | refine dt 1 ?_ | refine dts 1 ?_); (first | refine dt 2 ?_ | refine dts 2 ?_); (first | refine dt 3 ?_ | refine dts 3 ?_); (first | refine dt 4 ?_ | refine dts 4 ?_); (first | refine dt 5 ?_ | refine dts 5 ?_); (first | refine dt 6 ?_ | refine dts 6 ?_))
  refine dtB 7 rfl (ev_slcLoHi (l := 2) (m := 2) 1 rfl rfl rfl rfl rfl rfl rfl rfl (by omega)) ?_
  refine dtB 8 rfl (ev_str (l := [0, 0]) rfl rfl rfl rfl hB pK) ?_
  ((first | refine dt 9 ?_ | refine dts 9 ?_))
  refine wpD_two 10 14 ?_ ?_
  · refine d1_call ho (fun _ _ => ?_)
    simp only [List.cons_append, List.nil_append]
    ((first | refine dt 11 ?_ | refine dts 11 ?_); (first | refine dt 12 ?_ | refine dts 12 ?_); (first | refine dt 13 ?_ | refine dts 13 ?_))
    (refine wpD_eff 14 rfl rfl (by kernel_rfl) rfl rfl ?_; show OVL _ ⟨_, .alloc _, _, _, _, _⟩ _ _ _ _ _ _)
    refine x_alloc (by rfl) (by rfl) (by rfl) (fun c11 => ⟨eNT, ?_⟩)
    (refine wpD_effU 15 rfl rfl (by decide +kernel) rfl ?_; show OUL _ ⟨_, .store _ _ _, _, _, _, _⟩ _ _ _ _ _)
    refine x_storeP (vs := pkC 2 co0) (by rfl) (by rfl) (by rfl) (by rfl) (by rfl) (by rfl) pK (by show (0 + 24 : Nat) ≤ 24; decide) rfl ⟨eNT, ?_⟩
    (refine dl ?_)
    (refine go ?_; intros)
    refine wpC_drawnA [pts c8 (.cells (hedC 2 0 2).toArray 78 (0, 0)), pts c11 (.cells (pkC 2 co0).toArray 32 (0, 0))] 11 ?_
    ((first | refine dt 0 ?_ | refine dts 0 ?_); (first | refine dt 1 ?_ | refine dts 1 ?_); (first | refine dt 2 ?_ | refine dts 2 ?_); (first | refine dt 3 ?_ | refine dts 3 ?_); (first | refine dt 4 ?_ | refine dts 4 ?_); (first | refine dt 5 ?_ | refine dts 5 ?_); (first | refine dt 6 ?_ | refine dts 6 ?_); (first | refine dt 7 ?_ | refine dts 7 ?_))
    (refine wpD_effU 8 rfl rfl (by decide +kernel) rfl ?_; show OUL _ ⟨_, .store _ _ _, _, _, _, _⟩ _ _ _ _ _)
    refine x_storeP (vs := pkC 2 co0) (by rfl) (by rfl) (by rfl) (by rfl) (by rfl) (by rfl) pK (by show (0 + 24 : Nat) ≤ 24; decide) rfl ⟨eNT, ?_⟩
    ((first | refine df 9 ?_ | refine dfs 9 ?_); (first | refine df 10 ?_ | refine dfs 10 ?_); refine dl ?_)
    (refine go ?_; intros)
    exact q_retA3 (l1 := pkC 2 co0) rfl rfl rfl rfl rfl rfl rfl rfl rfl pK () rfl trivial eNT
  · refine d1_val (i := 14) ?_
    refine x_alloc (by rfl) (by rfl) (by rfl) (fun c11 => ⟨eNT, ?_⟩)
    refine dcall 10 ho (fun _ _ => ?_)
    simp only [List.cons_append, List.nil_append]
    ((first | refine dt 11 ?_ | refine dts 11 ?_); (first | refine dt 12 ?_ | refine dts 12 ?_); (first | refine dt 13 ?_ | refine dts 13 ?_))
    (refine wpD_effU 15 rfl rfl (by decide +kernel) rfl ?_; show OUL _ ⟨_, .store _ _ _, _, _, _, _⟩ _ _ _ _ _)
    refine x_storeP (vs := pkC 2 co0) (by rfl) (by rfl) (by rfl) (by rfl) (by rfl) (by rfl) pK (by show (0 + 24 : Nat) ≤ 24; decide) rfl ⟨eNT, ?_⟩
    (refine dl ?_)
    (refine go ?_; intros)
    refine wpC_drawnA [pts c8 (.cells (hedC 2 0 2).toArray 78 (0, 0)), pts c11 (.cells (pkC 2 co0).toArray 32 (0, 0))] 11 ?_
    ((first | refine dt 0 ?_ | refine dts 0 ?_); (first | refine dt 1 ?_ | refine dts 1 ?_); (first | refine dt 2 ?_ | refine dts 2 ?_); (first | refine dt 3 ?_ | refine dts 3 ?_); (first | refine dt 4 ?_ | refine dts 4 ?_); (first | refine dt 5 ?_ | refine dts 5 ?_); (first | refine dt 6 ?_ | refine dts 6 ?_); (first | refine dt 7 ?_ | refine dts 7 ?_))
    (refine wpD_effU 8 rfl rfl (by decide +kernel) rfl ?_; show OUL _ ⟨_, .store _ _ _, _, _, _, _⟩ _ _ _ _ _)
    refine x_storeP (vs := pkC 2 co0) (by rfl) (by rfl) (by rfl) (by rfl) (by rfl) (by rfl) pK (by show (0 + 24 : Nat) ≤ 24; decide) rfl ⟨eNT, ?_⟩
    ((first | refine df 9 ?_ | refine dfs 9 ?_); (first | refine df 10 ?_ | refine dfs 10 ?_); refine dl ?_)
    (refine go ?_; intros)
    exact q_retA3 (l1 := pkC 2 co0) rfl rfl rfl rfl rfl rfl rfl rfl rfl pK () rfl trivial eNT
set_option maxHeartbeats 1000000 in
theorem pk_one2 {G : Rg} {X : HProp} {v : Value} (hX : Bs X v ackL) : FnDoes Tryz.prog 74 [v, nat64 4] [X, rgH G] (fun _ : Unit => True) (fun _ => .tuple #[.agg (pkC 0 co0).toArray, nat64 0, .bool false, nat64 0]) (fun _ => [X, rgH G]) := by
  have hg := hd_end (G := G) hX (by decide)
  refine does_of Tryz.func74 rfl rfl Tryz.ntmps74 rfl eNUM (fun c => ?_)
  (refine go ?_; intro c4)
  (show wpO _ _ ⟨_, .call _, _, _, _, _⟩ _ _ _ _ _ _; refine o_callA (hg) (fun _ _ => ?_); try simp only [List.cons_append, List.nil_append])
  (refine go ?_; intro c8)
  exact q_retA3 (l1 := pkC 0 co0) rfl rfl rfl rfl rfl rfl rfl rfl rfl pK () rfl trivial eNT
abbrev pksI (v : Value) : HProp := sl 32 24 v 1 (pkC 2 co0)
set_option maxHeartbeats 2000000 in
theorem pk_all {G : Rg} (hM : mayG G) : FnDoes Tryz.prog 48 [.string (txt ackL)] [rgH G] (fun _ : Value => True) (fun v => .tuple #[v, nat64 4, nat64 0]) (fun v => [rgH G, pksI v]) := by
  refine does_of Tryz.func48 rfl rfl Tryz.ntmps48 rfl eNUM (fun c => ?_)
  (refine go ?_; intros)
  refine o_bytesOf rfl rfl rfl rfl rfl (fun vb => ?_)
  have h1 := pk_one1 hM (X := bsI vb ackL) (v := vb) Bs.ofBsI
  have h2 := pk_one2 (G := G) (X := bsI vb ackL) (v := vb) Bs.ofBsI
  (refine go ?_; intros)
  refine wpC_loop (σ := Bool × Value) (fun s => s.1 = false → s.2 = .slice none 0 0) (fun s => [(5, s.2), (6, vb), (7, nat64 (bif s.1 then 4 else 0))]) (fun s => [bsI vb ackL, rgH G, sl 32 24 s.2 (bif s.1 then 1 else 0) (bif s.1 then pkC 2 co0 else [])]) (fun s => bif s.1 then 0 else 1) (false, .slice none 0 0) (fun _ => rfl) sUB (Ent.cons pK (Ent.cons pK (Ent.slNil Ent.nil))) (fun s hs => ?_)
  obtain ⟨st, w⟩ := s
  cases st with
  | false =>
    obtain rfl := hs rfl
    dsimp only [cond_false]
    (refine go ?_; intros)
    (show wpO _ _ ⟨_, .call _, _, _, _, _⟩ _ _ _ _ _ _; refine o_callA (h1) (fun _ _ => ?_); try simp only [List.cons_append, List.nil_append])
    (refine go ?_; intro bb b2)
    refine o_append (m := 1) (news := pkC 2 co0) (sz := 24) rfl rfl rfl rfl rfl rfl rfl rfl pK (src_pts rfl pK rfl rfl rfl) (by decide +kernel) rfl (fun v' => ?_)
    (refine go ?_; intros)
    exact q_round (true, v') (fun h => by cases h) (show (0 : Nat) < 1 by decide) sUB eNT
  | true =>
    dsimp only [cond_true]
    refine wpC_fact (sl_one (v := w) pK) (fun o3 => ?_)
    (refine go ?_; intros)
    (show wpO _ _ ⟨_, .call _, _, _, _, _⟩ _ _ _ _ _ _; refine o_callA (h2) (fun _ _ => ?_); try simp only [List.cons_append, List.nil_append])
    (refine go ?_; intros)
    exact q_ret3 rfl rfl rfl rfl w rfl trivial eNT
end Go.Proofs.YtnaabpfpldelmaaGreatDoor
set_option linter.unusedSimpArgs false
set_option linter.unusedVariables false
set_option maxRecDepth 20000
namespace Go.Proofs.YtnaabpfpldelmaaGreatDoor
open Go Go.Sx
theorem pktB_eq (kd : Nat) (bod : List UInt8) : pktB kd bod = UInt8.ofNat (kd * 16) :: ((if bod.length ≤ 127 then [UInt8.ofNat bod.length] else [UInt8.ofNat (bod.length % 128 + 128), UInt8.ofNat (bod.length / 128)]) ++ bod) := rfl
theorem pktB_at (kd : Nat) (hk : kindOk kd) (bod : List UInt8) (hl : bod.length ≤ 4096) : PktAt (pktB kd bod) kd bod.length (if bod.length ≤ 127 then 1 else 2) bod := by
  rw [pktB_eq]; exact pkt_at kd hk bod hl
theorem pktB_len (kd : Nat) (bod : List UInt8) (hl : bod.length ≤ 4096) : 0 < (pktB kd bod).length ∧ (pktB kd bod).length ≤ 5000 := by
  have := headB_len kd bod.length
  unfold pktB
  rw [List.length_append]
  exact ⟨by unfold headB; simp only [List.length_cons]; omega, by omega⟩
attribute [local irreducible] MidQ wpE wpO wpC qE wpQ wpQO wpH wpHO wpD wpDO wpZ Ev own emp exI sl ch PostS LoopQ Rd rowsAt
set_option maxHeartbeats 2000000 in
theorem tp_send1 {G : Rg} (E : EnvB G) (b cn : Nat) (S : BrS) (h0 : S.c0 = pt0 cn) (hk0 : S.k0 = 0) (hs0 : S.s0 = -1) (hs1 : S.s1 = -1) (hck : S.ck ≤ 2000) (C : CnS) (hC : NewC C cn) (hbv : C.bv = sn0)
    (cl : Bool) (kp : Nat) (hkp : kp ≤ 65535) (hw : Bool) (w : WiS) (hh : hw = false → w = wi0) (ht : w.t.size ≤ 140737488351232) (hx : w.x.size ≤ 140737488351232) :
    FnDoes Tryz.prog 7 [pt0 b, nat64 0, .agg (pkW cl kp hw w).toArray] [brI b S, trI S.tr, cnnI cn C, frmI C.f sn0 0, ssI S.ss pn false, dueI S.du .z, rgH G]
      (fun y : N1S => (y.e = 0 → 0 ≤ w.q ∧ rightD w.t = true ∧ w.x.size ≤ 65535) ∧ (hw = false → y.e = 0)) (fun y => .bool (y.e == 0)) (fun y => match y.e with | 0 => camL b cn S C 0 [] (coR cl kp hw w) G y | _ => [rgH G]) := by
  have hp := rf_Put1 cl kp hkp hw w hh ht hx
  have hCf := hC.cl
  have hbod : hw = false → (bodB cl kp hw w).length ≤ 4096 := fun h => by subst h; have := hh rfl; subst this; unfold bodB; simp only [cond_false, List.append_nil]; show (preB _ kp ++ putL naA).length ≤ 4096; rw [List.length_append]; show 10 + 3 ≤ 4096; decide
  refine does_of Tryz.func7 rfl rfl Tryz.ntmps7 rfl eNUM (fun c => ?_)
  (refine go ?_; intro c5)
  (show wpO _ _ ⟨_, .call _, _, _, _, _⟩ _ _ _ _ _ _; refine o_callA (hp) (fun ⟨v, e⟩ hy => ?_); try simp only [List.cons_append, List.nil_append])
  try dsimp only at hy
  refine wpE_fact (sl_one (v := v) .head) (fun o1 => ?_)
  by_cases he : e = 0
  · subst he
    obtain ⟨q0, q2, hr, hxs, hbl⟩ := hy.1 rfl
    have hpa := pktB_at 1 (.inl rfl) _ hbl
    have hpl := pktB_len 1 _ hbl
    have hpz := bod_parse cl kp hw w hkp q0 q2 hh hr hxs
    have hn := fun vf => br_next1 E b cn S h0 hk0 hs0 hs1 hck C hC 0 (by decide) vf _ _ _ _ hpa [] (by decide) (fun _ => by rw [hpz.2]; exact ⟨rfl, rfl, Nat.le_trans hkp (by decide)⟩)
    rw [hpz.2, hbv] at hn
    generalize bodB cl kp hw w = bod at hpa hpl hn hpz ⊢
    have hsz : (txt (pktB 1 bod)).size = (pktB 1 bod).length := txt_size _
    have hfe := br_doOn b 1 0 0 (.inl rfl) (by decide) _ S (br_onB b 0 cn 0 0 0 none (txt (pktB 1 bod)) (by rw [hsz]; exact hpl.1) (by rw [hsz]; omega) S (.inl ⟨rfl, h0⟩) C hCf)
    rw [txt_list] at hfe
    have hse := fun vf => br_doOn b 4 0 0 (.inr (.inr rfl)) (by decide) mt0 S (br_onS b 0 cn 0 mt0 S (.inl ⟨rfl, h0⟩) (hn vf))
    rw [show rawE 0 (pktB 1 bod) = pktB 1 bod from rfl]
    (refine go ?_; intros)
    refine o_evB (ev_str (l := pktB 1 bod) rfl rfl rfl rfl (Rd.ofSl (e := tU8)) pK) ?_
    (refine go ?_; intros)
    (show wpO _ _ ⟨_, .call _, _, _, _, _⟩ _ _ _ _ _ _; refine o_callA (hfe) (fun vf _ => ?_); try simp only [List.cons_append, List.nil_append])
    (refine go ?_; intros)
    refine wpO_ent (Ent.trans (Ent.slNil (e := tU8) (size := 1) (Ent.refl _)) (Ent.refl _)) ?_
    have hse2 := hse vf
    (show wpO _ _ ⟨_, .call _, _, _, _, _⟩ _ _ _ _ _ _; refine o_callA (hse2) (fun y hy2 => ?_); try simp only [List.cons_append, List.nil_append])
    obtain ⟨ye, ya, yc, yv, yZ⟩ := y
    obtain ⟨hy3, hy4⟩ := hy2
    try dsimp only at hy3 hy4
    cases ye with
    | zero =>
      unfold n1L
      dsimp only
      (refine go ?_; intros)
      exact q_ret1 rfl rfl (⟨0, ya, yc, yv, yZ⟩ : N1S) rfl ⟨fun _ => ⟨q0, hr, hxs⟩, fun _ => rfl⟩ (by dsimp only; ((try simp only [List.cons_append, List.nil_append]); repeat (first | exact Ent.nil | (apply Ent.cons; repeat (first | exact Pick.head | apply Pick.tail)))))
    | succ n =>
      have hw1 : hw ≠ false := fun h => by have := hy4 hpz.1 h; cases this
      unfold n1L
      dsimp only
      have hn1 : ¬ ((n + 1 : Nat) : Int) = 0 := by omega
      (refine go ?_; intros)
      exact q_ret1 rfl rfl (⟨n + 1, ya, yc, yv, yZ⟩ : N1S) rfl ⟨fun h => (by cases h), fun h => absurd h hw1⟩ (by dsimp only; ((try simp only [List.cons_append, List.nil_append]); repeat (first | exact Ent.nil | (apply Ent.cons; repeat (first | exact Pick.head | apply Pick.tail)))))
  · have h1 : (e : Int) ≠ 0 := by omega
    have hw1 : hw ≠ false := fun h => he (hy.2 (by have := hh h; subst this; exact ⟨by decide, by decide, by decide +kernel, by decide, hbod h⟩))
    obtain ⟨n, rfl⟩ : ∃ n, e = n + 1 := ⟨e - 1, by omega⟩
    (refine go ?_; intros)
    exact q_ret1 rfl rfl (⟨n + 1, none, 0, pn, ⟨0, 0, 0, 0, 0, 0⟩⟩ : N1S) rfl ⟨fun h => (by cases h), fun h => absurd h hw1⟩ (by dsimp only; ((try simp only [List.cons_append, List.nil_append]); repeat (first | exact Ent.nil | (apply Ent.cons; repeat (first | exact Pick.head | apply Pick.tail)))))
end Go.Proofs.YtnaabpfpldelmaaGreatDoor
set_option linter.unusedSimpArgs false
set_option linter.unusedVariables false
set_option maxRecDepth 20000
namespace Go.Proofs.YtnaabpfpldelmaaGreatDoor
open Go Go.Sx
abbrev opS (S : BrS) (cn : Nat) (lk : Value) : BrS := { S with c0 := pt0 cn, k0 := 0, s0 := -1, lk := lk }
structure CmS where
  cn : Nat
  f : Nat
  lk : Value
  n : N1S
attribute [local irreducible] MidQ wpE wpO wpC qE wpQ wpQO wpH wpHO wpD wpDO wpZ Ev own emp exI sl ch PostS LoopQ Rd rowsAt
theorem cn0_new (cn f : Nat) : NewC (cn0 f) cn := ⟨rfl, rfl, rfl, rfl, rfl, .inl rfl⟩
set_option maxHeartbeats 1000000 in
theorem tp_come0 {G : Rg} (E : EnvB G) (b ss tr ke du sp : Nat) : FnDoes Tryz.prog 25 [pt0 b, nat64 0, .string naA, .bool true] [brI b (br0 ss tr ke du sp), ssI ss pn false, trI tr, dueI du .z, rgH G] (fun y : CmS => True) (fun _ => .bool true)
    (fun y => lnkI y.lk 1 [nat64 0, pt0 y.cn] :: camL b y.cn (opS (br0 ss tr ke du sp) y.cn y.lk) (cn0 y.f) 0 [] (coR true 0 false wi0) G y.n) := by
  have ho := br_doO b 0 0 (by decide) mt0 (br0 ss tr ke du sp) (A := []) (br_open0 b (br0 ss tr ke du sp) rfl rfl)
  have hs := fun cn f lk => tp_send1 E b cn (opS (br0 ss tr ke du sp) cn lk) rfl rfl rfl rfl (show (0 : Nat) ≤ 2000 by decide) (cn0 f) (cn0_new cn f) rfl true 0 (by decide) false wi0 (fun _ => rfl) (by decide) (by decide)
  refine does_of Tryz.func25 rfl rfl Tryz.ntmps25 rfl eNUM (fun c => ?_)
  (refine go ?_; intros)
  (show wpO _ _ ⟨_, .call _, _, _, _, _⟩ _ _ _ _ _ _; refine o_callA (ho) (fun ⟨cn, f, lk⟩ _ => ?_); try simp only [List.cons_append, List.nil_append])
  try dsimp only
  (refine go ?_; intros)
  have hs2 := hs cn f lk
  (show wpO _ _ ⟨_, .call _, _, _, _, _⟩ _ _ _ _ _ _; refine o_callA (hs2) (fun y hy => ?_); try simp only [List.cons_append, List.nil_append])
  obtain ⟨ye, ya, yc, yv, yZ⟩ := y
  obtain rfl : ye = 0 := hy.2 rfl
  dsimp only
  (refine go ?_; intros)
  exact q_ret1 rfl rfl (⟨cn, f, lk, ⟨0, ya, yc, yv, yZ⟩⟩ : CmS) rfl trivial eNT
set_option maxHeartbeats 2000000 in
theorem tp_stream {G : Rg} (E : EnvB G) (b cn : Nat) (S : BrS) (C : CnS) : FnDoes Tryz.prog 26 [pt0 b, nat64 0] [brI b S, lnkI S.lk 1 [nat64 0, pt0 cn], cnnI cn C, outI C.bv ackL, rgH G] (fun _ : Value => True) (fun v => v) (fun v => [brI b S, rgH G, pksI v]) := by
  have hl := br_links1 b cn S C ackL (by decide)
  have hpa := pk_all E.m
  refine does_of Tryz.func26 rfl rfl Tryz.ntmps26 rfl eNUM (fun c => ?_)
  (refine go ?_; intros)
  (show wpO _ _ ⟨_, .call _, _, _, _, _⟩ _ _ _ _ _ _; refine o_callA (hl) (fun v _ => ?_); try simp only [List.cons_append, List.nil_append])
  refine wpE_fact (sl_one (v := v) pK) (fun o1 => ?_)
  (refine go ?_; intros)
  refine wpC_sl (v := v) pK (fun _ h _ => by omega) (fun bl cap junk e q1 q2 q3 => ?_)
  subst e
  refine wpC_loop (σ := Bool × Value) (fun s => s.1 = false → s.2 = sn0) (fun s => [(0, pt0 b), (1, nat64 0), (5, s.2), (6, .slice (some ⟨bl, 0, none⟩) 1 cap), (7, nat64 (bif s.1 then 1 else 0))]) (fun s => [brI b S, rgH G, pts bl (.cells ([nat64 0, .string (txt ackL), .bool C.cl] ++ junk).toArray tAl (0, 0)), sl tPkt 24 s.2 (bif s.1 then 1 else 0) (bif s.1 then pkC 2 co0 else [])]) (fun s => bif s.1 then 0 else 1) (false, sn0) (fun _ => rfl) sUB (Ent.cons pK (Ent.cons pK (Ent.cons pK (Ent.slNil Ent.nil)))) (fun s hs => ?_)
  obtain ⟨st, w⟩ := s
  cases st with
  | false =>
    obtain rfl := hs rfl
    dsimp only [cond_false]
    (refine go ?_; intros)
    (show wpO _ _ ⟨_, .call _, _, _, _, _⟩ _ _ _ _ _ _; refine o_callA (hpa) (fun v2 _ => ?_); try simp only [List.cons_append, List.nil_append])
    refine wpE_fact (sl_one (v := v2) (.tail .head)) (fun o2 => ?_)
    (refine go ?_; intros)
    refine o_append (m := 1) (news := pkC 2 co0) (sz := 24) rfl rfl rfl rfl rfl rfl rfl rfl (by exact .tail (.tail (.tail (.tail .head)))) (src_sl (e := tPkt) rfl pK) (by decide +kernel) rfl (fun v' => ?_)
    refine wpE_fact (sl_one (v := v') .head) (fun o4 => ?_)
    (refine go ?_; intros)
    exact q_round (true, v') (fun h => by cases h) (show (0 : Nat) < 1 by decide) sUB eNT
  | true =>
    dsimp only [cond_true]
    refine wpC_fact (sl_one (v := w) pK) (fun o3 => ?_)
    (refine go ?_; intros)
    exact q_ret1 rfl rfl w rfl trivial eNT
set_option maxHeartbeats 2000000 in
theorem tp_awake {G : Rg} (E : EnvB G) : FnDoes Tryz.prog 8 [] [rgH G] (fun _ : Unit => True) (fun _ => .bool true) (fun _ => [rgH G]) := by
  have hc := fun y : BrP => tp_come0 E y.b y.ss y.tr y.ke y.du y.sp
  refine does_of Tryz.func8 rfl rfl Tryz.ntmps8 rfl eNUM (fun c => ?_)
  (refine go ?_; intros)
  (show wpO _ _ ⟨_, .call _, _, _, _, _⟩ _ _ _ _ _ _; refine o_callA (br_new) (fun y _ => ?_); try simp only [List.cons_append, List.nil_append])
  obtain ⟨b, ss, tr, ke, du, sp⟩ := y
  try dsimp only
  have hc2 := hc ⟨b, ss, tr, ke, du, sp⟩
  try dsimp only at hc2
  (refine go ?_; intros)
  (show wpO _ _ ⟨_, .call _, _, _, _, _⟩ _ _ _ _ _ _; refine o_callA (hc2) (fun ⟨cn, f, lk, ⟨ye, ya, yc, yv, yZ⟩⟩ _ => ?_); try simp only [List.cons_append, List.nil_append])
  try dsimp only [camL]
  have hst := tp_stream E b cn (slS (opS (br0 ss tr ke du sp) cn lk) 0) (acC { cn0 f with fs := false } cn yv (coR true 0 false wi0))
  have hse := br_sess b yZ.s (slS (opS (br0 ss tr ke du sp) cn lk) 0)
  try simp only [List.cons_append, List.nil_append]
  (refine go ?_; intros)
  refine wpO_ent (Ent.frOfSl (l := ackL) rfl (.inr (by decide)) pK (Ent.refl _)) ?_
  (show wpO _ _ ⟨_, .call _, _, _, _, _⟩ _ _ _ _ _ _; refine o_callA (hst) (fun w _ => ?_); try simp only [List.cons_append, List.nil_append])
  refine wpE_sl (v := w) pK (fun _ h _ => by omega) (fun bl cap junk e q1 q2 q3 => ?_)
  subst e
  (refine go ?_; intros)
  refine o_evB (ev_indexS 24 (i := 0) rfl rfl rfl rfl rfl rfl (by decide)) ?_
  (refine go ?_; intros)
  (show wpO _ _ ⟨_, .call _, _, _, _, _⟩ _ _ _ _ _ _; refine o_callA (hse) (fun _ _ => ?_); try simp only [List.cons_append, List.nil_append])
  (refine go ?_; intros)
  exact q_ret1 rfl rfl () rfl trivial eNT
theorem tp_wills0 (b : Nat) (S : BrS) (hl : S.lg = sn0) : FnDoes Tryz.prog 10 [pt0 b, .string naA] [brI b S] (fun _ : Unit => True) (fun _ => nat64 0) (fun _ => [brI b S]) := by
  have hlo := br_log0 b S hl
  refine does_of Tryz.func10 rfl rfl Tryz.ntmps10 rfl eNUM (fun c => ?_)
  (refine go ?_; intros)
  (show wpO _ _ ⟨_, .call _, _, _, _, _⟩ _ _ _ _ _ _; refine o_callA (hlo) (fun _ _ => ?_); try simp only [List.cons_append, List.nil_append])
  (refine go ?_; intros)
  refine wpC_loop (σ := Unit) (fun _ => True) (fun _ => [(5, nat64 0), (6, sn0), (7, nat64 0)]) (fun _ => [brI b S]) (fun _ => 0) () trivial sUB eNT (fun _ _ => ?_)
  (refine go ?_; intros)
  exact q_ret1 rfl rfl () rfl trivial eNT
set_option maxHeartbeats 1000000 in
theorem tp_wills1 (b at_ : Nat) (S : BrS) (cc : CoS) : FnDoes Tryz.prog 10 [pt0 b, .string naA] [brI b S, logI S.lg 1 (entE at_ naA true cc)] (fun _ : Unit => True) (fun _ => nat64 1) (fun _ => [brI b S, logI S.lg 1 (entE at_ naA true cc)]) := by
  have hlo := br_log1 b S (entE at_ naA true cc) rfl rfl
  refine does_of Tryz.func10 rfl rfl Tryz.ntmps10 rfl eNUM (fun c => ?_)
  (refine go ?_; intros)
  (show wpO _ _ ⟨_, .call _, _, _, _, _⟩ _ _ _ _ _ _; refine o_callA (hlo) (fun w _ => ?_); try simp only [List.cons_append, List.nil_append])
  refine wpE_fact (sl_one (v := w) pK) (fun o1 => ?_)
  (refine go ?_; intros)
  refine wpC_sl (v := w) (e := tEnt) (size := 7) (len := 1) (xs := entE at_ naA true cc) (by exact .tail (.tail .head)) (fun _ h _ => by omega) (fun bl cap junk e q1 q2 q3 => ?_)
  subst e
  refine wpC_loop (σ := Bool) (fun _ => True) (fun s => [(1, .string naA), (5, nat64 (bif s then 1 else 0)), (6, .slice (some ⟨bl, 0, none⟩) 1 cap), (7, nat64 (bif s then 1 else 0))]) (fun _ => [brI b S, logI S.lg 1 (entE at_ naA true cc), pts bl (.cells (entE at_ naA true cc ++ junk).toArray tEnt (0, 0))]) (fun s => bif s then 0 else 1) false trivial sUB eNT (fun s hs => ?_)
  cases s with
  | false =>
    dsimp only [cond_false]
    (refine go ?_; intros)
    exact q_round true trivial (by decide) sUB eNT
  | true =>
    dsimp only [cond_true]
    (refine go ?_; intros)
    exact q_ret1 rfl rfl () rfl trivial eNT
end Go.Proofs.YtnaabpfpldelmaaGreatDoor
set_option linter.unusedSimpArgs false
set_option linter.unusedVariables false
set_option maxRecDepth 20000
namespace Go.Proofs.YtnaabpfpldelmaaGreatDoor
open Go Go.Sx
attribute [local irreducible] MidQ wpE wpO wpC qE wpQ wpQO wpH wpHO wpD wpDO wpZ Ev own emp exI sl ch PostS LoopQ Rd rowsAt
set_option maxHeartbeats 1000000 in
theorem tp_sendW {σ : Type} (b at_ cn : Nat) (hat1 : at_ ≤ 1) (S : BrS) (hat : AtC S at_ cn) (C : CnS) (hc : C.cl = false) (k cap : Nat) (a : Option Addr) (cl : Bool) (kp : Nat) (hw : Bool) (w : WiS) (l : List UInt8) (hl : 0 < l.length ∧ l.length ≤ 5000)
    (hp : FnDoes Tryz.prog 5 [.agg (pkW cl kp hw w).toArray] [] (fun _ : Value => True) (fun v => .tuple #[v, nat64 0]) (fun v => [bytI v l])) {A : List HProp} {φ : σ → Prop} {e : σ → Nat} {B : σ → List HProp}
    (hn : ∀ vf, FnDoes Tryz.prog 47 [pt0 b, nat64 at_] (brI b S :: cnnI cn C :: frmI C.f vf k :: bytI vf l :: A) φ (fun y => nat64 (e y)) B) :
    FnDoes Tryz.prog 7 [pt0 b, nat64 at_, .agg (pkW cl kp hw w).toArray] (brI b S :: cnnI cn C :: frmI C.f (.slice a 0 cap) k :: A) φ (fun y => .bool (e y == 0)) B := by
  have hsz : (txt l).size = l.length := txt_size _
  have hfe := br_doOn b 1 at_ 0 (.inl rfl) hat1 _ S (br_onB b at_ cn 0 k cap a (txt l) (by rw [hsz]; exact hl.1) (by rw [hsz]; omega) S hat C hc)
  rw [txt_list] at hfe
  have hse := fun vf => (br_doOn b 4 at_ 0 (.inr (.inr rfl)) hat1 mt0 S (br_onS b at_ cn 0 mt0 S hat (hn vf))).turn (A' := [brI b S, cnnI cn C, frmI C.f vf k, bytI vf l, starI A]) (Ent.cons .head (Ent.cons .head (Ent.cons .head (Ent.cons .head Ent.star1)))) (fun y hy => ⟨y, hy, rfl, Ent.refl _⟩)
  suffices h : FnDoes Tryz.prog 7 [pt0 b, nat64 at_, .agg (pkW cl kp hw w).toArray] [brI b S, cnnI cn C, frmI C.f (.slice a 0 cap) k, starI A] φ (fun y => .bool (e y == 0)) B from h.turn (Ent.cons .head (Ent.cons .head (Ent.cons .head Ent.unstar1))) (fun y hy => ⟨y, hy, rfl, Ent.refl _⟩)
  refine does_of Tryz.func7 rfl rfl Tryz.ntmps7 rfl eNUM (fun c => ?_)
  (refine go ?_; intro c5)
  (show wpO _ _ ⟨_, .call _, _, _, _, _⟩ _ _ _ _ _ _; refine o_callA (hp) (fun v _ => ?_); try simp only [List.cons_append, List.nil_append])
  refine wpE_fact (sl_one (v := v) .head) (fun o1 => ?_)
  (refine go ?_; intros)
  refine o_evB (ev_str (l := l) rfl rfl rfl rfl (Rd.ofSl (e := tU8)) pK) ?_
  (refine go ?_; intros)
  (show wpO _ _ ⟨_, .call _, _, _, _, _⟩ _ _ _ _ _ _; refine o_callA (hfe) (fun vf _ => ?_); try simp only [List.cons_append, List.nil_append])
  (refine go ?_; intros)
  have hse2 := hse vf
  (show wpO _ _ ⟨_, .call _, _, _, _, _⟩ _ _ _ _ _ _; refine o_callA (hse2) (fun y hy => ?_); try simp only [List.cons_append, List.nil_append])
  by_cases h0 : e y = 0
  · have h1 : ((e y : Nat) : Int) = 0 := by omega
    (refine go ?_; intros)
    exact q_ret1 rfl rfl y (by rw [h0]; rfl) hy (Ent.left _ _)
  · have h1 : ¬ ((e y : Nat) : Int) = 0 := by omega
    (refine go ?_; intros)
    exact q_ret1 rfl rfl y (by rw [show (e y == 0) = false from by simpa using h0]) hy (Ent.left _ _)
set_option maxHeartbeats 1000000 in
theorem tp_sendN {σ : Type} (b at_ cn : Nat) (hat1 : at_ ≤ 1) (S : BrS) (hat : AtC S at_ cn) (C : CnS) (hc : C.cl = false) (k cap : Nat) (a : Option Addr) (kd : Nat) (l : List UInt8) (hl : 0 < l.length ∧ l.length ≤ 5000)
    (hp : FnDoes Tryz.prog 5 [.agg (pkC kd co0).toArray] [] (fun _ : Value => True) (fun v => .tuple #[v, nat64 0]) (fun v => [bytI v l])) {A : List HProp} {φ : σ → Prop} {e : σ → Nat} {B : σ → List HProp}
    (hn : ∀ vf, FnDoes Tryz.prog 47 [pt0 b, nat64 at_] (brI b S :: cnnI cn C :: frmI C.f vf k :: bytI vf l :: A) φ (fun y => nat64 (e y)) B) :
    FnDoes Tryz.prog 7 [pt0 b, nat64 at_, .agg (pkC kd co0).toArray] (brI b S :: cnnI cn C :: frmI C.f (.slice a 0 cap) k :: A) φ (fun y => .bool (e y == 0)) B := by
  have hsz : (txt l).size = l.length := txt_size _
  have hfe := br_doOn b 1 at_ 0 (.inl rfl) hat1 _ S (br_onB b at_ cn 0 k cap a (txt l) (by rw [hsz]; exact hl.1) (by rw [hsz]; omega) S hat C hc)
  rw [txt_list] at hfe
  have hse := fun vf => (br_doOn b 4 at_ 0 (.inr (.inr rfl)) hat1 mt0 S (br_onS b at_ cn 0 mt0 S hat (hn vf))).turn (A' := [brI b S, cnnI cn C, frmI C.f vf k, bytI vf l, starI A]) (Ent.cons .head (Ent.cons .head (Ent.cons .head (Ent.cons .head Ent.star1)))) (fun y hy => ⟨y, hy, rfl, Ent.refl _⟩)
  suffices h : FnDoes Tryz.prog 7 [pt0 b, nat64 at_, .agg (pkC kd co0).toArray] [brI b S, cnnI cn C, frmI C.f (.slice a 0 cap) k, starI A] φ (fun y => .bool (e y == 0)) B from h.turn (Ent.cons .head (Ent.cons .head (Ent.cons .head Ent.unstar1))) (fun y hy => ⟨y, hy, rfl, Ent.refl _⟩)
  refine does_of Tryz.func7 rfl rfl Tryz.ntmps7 rfl eNUM (fun c => ?_)
  (refine go ?_; intro c5)
  (show wpO _ _ ⟨_, .call _, _, _, _, _⟩ _ _ _ _ _ _; refine o_callA (hp) (fun v _ => ?_); try simp only [List.cons_append, List.nil_append])
  refine wpE_fact (sl_one (v := v) .head) (fun o1 => ?_)
  (refine go ?_; intros)
  refine o_evB (ev_str (l := l) rfl rfl rfl rfl (Rd.ofSl (e := tU8)) pK) ?_
  (refine go ?_; intros)
  (show wpO _ _ ⟨_, .call _, _, _, _, _⟩ _ _ _ _ _ _; refine o_callA (hfe) (fun vf _ => ?_); try simp only [List.cons_append, List.nil_append])
  (refine go ?_; intros)
  have hse2 := hse vf
  (show wpO _ _ ⟨_, .call _, _, _, _, _⟩ _ _ _ _ _ _; refine o_callA (hse2) (fun y hy => ?_); try simp only [List.cons_append, List.nil_append])
  by_cases h0 : e y = 0
  · have h1 : ((e y : Nat) : Int) = 0 := by omega
    (refine go ?_; intros)
    exact q_ret1 rfl rfl y (by rw [h0]; rfl) hy (Ent.left _ _)
  · have h1 : ¬ ((e y : Nat) : Int) = 0 := by omega
    (refine go ?_; intros)
    exact q_ret1 rfl rfl y (by rw [show (e y == 0) = false from by simpa using h0]) hy (Ent.left _ _)
end Go.Proofs.YtnaabpfpldelmaaGreatDoor
