/-
  The document's bytes: who comes; a packet.
  The document's bytes: a packet.
  Who comes, by the document's bytes: what is read of them.
  Who comes, by the document's bytes: what is read of them is what was put.
-/
import Derived.Test.YtnaabpfpldelmaaGreatDoorM39
import Derived.Test.YtnaabpfpldelmaaGreatDoorM33
import Derived.Test.YtnaabpfpldelmaaGreatDoorM31
set_option linter.unusedSimpArgs false
set_option linter.unusedVariables false
set_option maxRecDepth 20000
namespace Go.Proofs.YtnaabpfpldelmaaGreatDoor
open Go Go.Sx
structure WiS where
  t : ByteArray
  x : ByteArray
  q : Int
  r : Bool
abbrev wi0 : WiS := ⟨mt0, mt0, 0, false⟩
abbrev coW (cl : Bool) (kp : Nat) (hw : Bool) (w : WiS) : List Value := [nat64 4, .bool cl, nat64 kp, .string naA, .bool hw, .string w.t, .string w.x, .int .i64 w.q, .bool w.r, .bool false, .string mt0, .bool false, .string mt0]
abbrev pkW (cl : Bool) (kp : Nat) (hw : Bool) (w : WiS) : List Value := [nat64 1, nat64 0, .bool false, .string mt0, .string mt0, nat64 0, .bool false, nat64 4, .bool cl, nat64 kp, .string naA, .bool hw, .string w.t, .string w.x, .int .i64 w.q, .bool w.r, .bool false, .string mt0, .bool false, .string mt0, .bool false, nat64 0, .slice none 0 0, .slice none 0 0]
def flgN (cl hw : Bool) (q : Nat) (r : Bool) : Nat := (bif cl then 2 else 0) + (bif hw then 4 + 8 * q + (bif r then 32 else 0) else 0)
def preB (fl kp : Nat) : List UInt8 := [0, 4, 77, 81, 84, 84, 4, UInt8.ofNat fl, UInt8.ofNat (kp / 256), UInt8.ofNat (kp % 256)]
def bodB (cl : Bool) (kp : Nat) (hw : Bool) (w : WiS) : List UInt8 := preB (flgN cl hw w.q.toNat w.r) kp ++ putL naA ++ (bif hw then putL w.t ++ putL w.x else [])
theorem bytI_app (v : Value) (a b : List UInt8) : sl tU8 1 v (a.length + b.length) (u8s a ++ u8s b) = bytI v (a ++ b) := by
  unfold bytI; rw [List.length_append, u8s_append]
theorem flg_lt (cl hw : Bool) (q : Nat) (hq : q ≤ 2) (r : Bool) : flgN cl hw q r < 256 := by
  unfold flgN; cases cl <;> cases hw <;> cases r <;> simp <;> omega
attribute [local irreducible] MidQ wpE wpO wpC qE wpQ wpQO wpH wpHO wpD wpDO wpZ Ev own emp exI sl ch PostS LoopQ Rd rowsAt
set_option maxHeartbeats 1000000 in
theorem rf_flags (cl : Bool) (kp : Nat) (hw : Bool) (w : WiS) (h0 : 0 ≤ w.q) (h2 : w.q ≤ 2) (hh : hw = false → w.r = false) : FnDoes Tryz.prog 54 [.agg (coW cl kp hw w).toArray] [] (fun _ : Unit => True) (fun _ => nat64 (flgN cl hw w.q.toNat w.r)) (fun _ => []) := by
  obtain ⟨t, x, q, r⟩ := w
  try dsimp only at h0 h2 hh ⊢
  have hq : q = (q.toNat : Int) := by omega
  generalize q.toNat = n at hq ⊢
  subst hq
  unfold flgN
  dsimp only [coW]
  refine does_of Tryz.func54 rfl rfl Tryz.ntmps54 rfl eNUM (fun c => ?_)
  cases cl <;> cases hw <;> cases r
  all_goals first | (exact absurd (hh rfl) (by decide)) | skip
  all_goals
    (refine go ?_; intros)
    exact q_ret1 rfl rfl () (by simp only [cond_true, cond_false]; first | rfl | (congr 1; omega)) trivial eNT
set_option maxHeartbeats 1000000 in
theorem rf_wrong (cl : Bool) (kp : Nat) (hkp : kp ≤ 65535) (hw : Bool) (w : WiS) (hh : hw = false → w = wi0) : FnDoes Tryz.prog 53 [.agg (coW cl kp hw w).toArray] [] (fun e : Nat => e = 0 ↔ (0 ≤ w.q ∧ w.q ≤ 2)) (fun e => nat64 e) (fun _ => []) := by
  obtain ⟨t, x, q, r⟩ := w
  try dsimp only at hh ⊢
  dsimp only [coW]
  refine does_of Tryz.func53 rfl rfl Tryz.ntmps53 rfl eNUM (fun c => ?_)
  by_cases h0 : q < 0
  · (refine go ?_; intros)
    exact q_ret1 rfl rfl 10 rfl (⟨fun h => (by cases h), fun h => absurd h.1 (by omega)⟩ : (10 : Nat) = 0 ↔ _) eNT
  by_cases h2 : q > 2
  · (refine go ?_; intros)
    exact q_ret1 rfl rfl 10 rfl (⟨fun h => (by cases h), fun h => absurd h.2 (by omega)⟩ : (10 : Nat) = 0 ↔ _) eNT
  cases hw with
  | true =>
    (refine go ?_; intros)
    exact q_ret1 rfl rfl 0 rfl (⟨fun h => ⟨by omega, by omega⟩, fun h => rfl⟩ : (0 : Nat) = 0 ↔ _) eNT
  | false =>
    have := hh rfl
    cases this
    (refine go ?_; intros)
    refine o_evB (ev_eq_agg (r := true) (r' := false) rfl rfl (by kernel_rfl) (by kernel_rfl) rfl) ?_
    (refine go ?_; intros)
    exact q_ret1 rfl rfl 0 rfl (⟨fun h => ⟨by omega, by omega⟩, fun h => rfl⟩ : (0 : Nat) = 0 ↔ _) eNT
set_option maxHeartbeats 4000000 in
theorem rf_put13 (cl : Bool) (kp : Nat) (hkp : kp ≤ 65535) (hw : Bool) (w : WiS) (hh : hw = false → w = wi0) (ht : w.t.size ≤ 140737488351232) (hx : w.x.size ≤ 140737488351232) : FnDoes Tryz.prog 35 [.agg (coW cl kp hw w).toArray] [] (fun y : Value × Nat => y.2 = 0 ↔ (0 ≤ w.q ∧ w.q ≤ 2 ∧ rightD w.t = true ∧ w.x.size ≤ 65535 ∧ (bodB cl kp hw w).length ≤ 4096)) (fun y => .tuple #[y.1, nat64 y.2]) (fun y => [bytI y.1 (rawE y.2 (bodB cl kp hw w))]) := by
  have hwr := rf_wrong cl kp hkp hw w hh
  have hfl := rf_flags cl kp hw w
  have hna := rf_put naA (by decide)
  have hpt := rf_put w.t ht
  have hpx := rf_putRaw w.x hx
  have hrt : rightD w.t = true → w.t.size ≤ 65535 := fun h => by unfold rightD at h; simp at h; exact h.1
  have hb : Tryz.prog.types[5].bytes ≤ 1000 := by decide +kernel
  have hb1 : Tryz.prog.types[5].bytes = 1 := by decide +kernel
  obtain ⟨t, x, q, r⟩ := w
  try dsimp only at *
  refine does_of Tryz.func35 rfl rfl Tryz.ntmps35 rfl eNUM (fun c => ?_)
  (refine go ?_; intro c1)
  (show wpO _ _ ⟨_, .call _, _, _, _, _⟩ _ _ _ _ _ _; refine o_callA (hwr) (fun e0 he0 => ?_); try simp only [List.cons_append, List.nil_append])
  by_cases h0 : e0 = 0
  · subst h0
    obtain ⟨q0, q2⟩ := he0.1 rfl
    have hfl2 := hfl q0 q2 (fun h => by have := hh h; cases this; rfl)
    have hflt := flg_lt cl hw q.toNat (by omega) r
    generalize hfe : flgN cl hw q.toNat r = fl at hfl2 hflt
    have f1 := u8_ofNat hflt
    have f2 := u8_ofNat (show kp / 256 < 256 by omega)
    have f3 := u8_ofNat (show kp % 256 < 256 by omega)
    have f4 : ((kp : Nat) : Int) % 256 = ((kp % 256 : Nat) : Int) := by omega
    (refine go ?_; intros)
    refine wpC_drawnA [pts c1 (.cells (coW cl kp hw ⟨t, x, q, r⟩).toArray 28 (0, 0))] 12 ?_
    ((first | refine dt 0 ?_ | refine dts 0 ?_); (first | refine dt 3 ?_ | refine dts 3 ?_); (first | refine dt 4 ?_ | refine dts 4 ?_); (first | refine dt 5 ?_ | refine dts 5 ?_); (first | refine dt 6 ?_ | refine dts 6 ?_); (first | refine dt 7 ?_ | refine dts 7 ?_); (first | refine dt 8 ?_ | refine dts 8 ?_); (first | refine dt 9 ?_ | refine dts 9 ?_); (first | refine dt 10 ?_ | refine dts 10 ?_))
    refine dcall 1 hfl2 (fun _ _ => ?_)
    simp only [List.cons_append, List.nil_append]
    ((first | refine df 2 ?_ | refine dfs 2 ?_))
    (refine wpD_eff 11 rfl rfl (by kernel_rfl) rfl rfl ?_; show OVL _ ⟨_, .buildSlice _ _ _, _, _, _, _⟩ _ _ _ _ _ _)
    refine x_buildSliceN (l := [.int .u8 ((0 : Nat) : Int), .int .u8 ((4 : Nat) : Int), .int .u8 ((77 : Nat) : Int), .int .u8 ((81 : Nat) : Int), .int .u8 ((84 : Nat) : Int), .int .u8 ((84 : Nat) : Int), .int .u8 ((4 : Nat) : Int), .int .u8 (fl : Int), .int .u8 ((kp / 256 : Nat) : Int), .int .u8 ((kp % 256 : Nat) : Int)]) (by rfl) (by rfl) (by rfl) (by rfl) (by rfl) (by rfl) (by rfl) (by rfl) (fun b => ⟨eNT, ?_⟩)
    (refine dl ?_)
    rw [show [Value.int .u8 ((0 : Nat) : Int), .int .u8 ((4 : Nat) : Int), .int .u8 ((77 : Nat) : Int), .int .u8 ((81 : Nat) : Int), .int .u8 ((84 : Nat) : Int), .int .u8 ((84 : Nat) : Int), .int .u8 ((4 : Nat) : Int), .int .u8 (fl : Int), .int .u8 ((kp / 256 : Nat) : Int), .int .u8 ((kp % 256 : Nat) : Int)] = u8s (preB fl kp) by unfold preB u8s; simp only [List.map_cons, List.map_nil, f1, f2, f3]; rfl]
    (refine go ?_; intros)
    (show wpO _ _ ⟨_, .call _, _, _, _, _⟩ _ _ _ _ _ _; refine o_callA (hna) (fun ⟨v1, e1⟩ hy1 => ?_); try simp only [List.cons_append, List.nil_append])
    obtain rfl : e1 = 0 := hy1.2 (by decide +kernel)
    refine wpE_fact (sl_one (v := v1) .head) (fun o1 => ?_)
    (refine go ?_; intros)
    refine wpO_ent (Ent.slClose (size := 1) (len := 10) (cap := 10) (xs := u8s (preB fl kp)) (junk := []) pK rfl (u8s_one _) (Nat.le_refl 10) (by decide) rfl (Ent.refl _)) ?_
    refine o_append (m := (putL naA).length) (news := u8s (putL naA)) (sz := 1) rfl rfl rfl rfl rfl rfl rfl rfl pK (src_sl rfl pK) ?_ rfl (fun v2 => ?_)
    · rw [hb1]; show (10 + 3) * 1 ≤ _; decide
    rw [show sl tU8 1 v2 (10 + (putL naA).length) (u8s (preB fl kp) ++ u8s (putL naA)) = bytI v2 (preB fl kp ++ putL naA) from bytI_app v2 (preB fl kp) (putL naA)]
    refine wpE_fact (sl_one (v := v2) .head) (fun o2 => ?_)
    have hl1 : (preB fl kp ++ putL naA).length = 13 := rfl
    unfold bodB
    dsimp only
    rw [hfe]
    generalize preB fl kp ++ putL naA = pre at hl1 ⊢
    cases hw with
    | false =>
      have := hh rfl
      cases this
      simp only [cond_false, List.append_nil]
      (refine go ?_; intros)
      exact q_ret2 rfl rfl rfl (v2, 0) rfl (by show (0 : Nat) = 0 ↔ _; exact ⟨fun _ => ⟨by decide, by decide, by decide +kernel, by decide, by omega⟩, fun _ => rfl⟩) eNT
    | true =>
      simp only [cond_true]
      have hlt : (putL t).length = 2 + t.size := by unfold putL; rw [List.length_append, two_len]; congr 1
      have hlx : (putL x).length = 2 + x.size := by unfold putL; rw [List.length_append, two_len]; congr 1
      (refine go ?_; intros)
      (show wpO _ _ ⟨_, .call _, _, _, _, _⟩ _ _ _ _ _ _; refine o_callA (hpt) (fun ⟨v3, e3⟩ hy3 => ?_); try simp only [List.cons_append, List.nil_append])
      try dsimp only at hy3
      by_cases h3 : e3 = 0
      · subst h3
        have h5 := hy3.1 rfl
        have h6 := hrt h5
        refine wpE_fact (sl_one (v := v3) .head) (fun o3 => ?_)
        (refine go ?_; intros)
        refine o_append (m := (putL t).length) (news := u8s (putL t)) (sz := 1) rfl rfl rfl rfl rfl rfl rfl rfl pK (src_sl rfl pK) ?_ rfl (fun v4 => ?_)
        · rw [hb1]; omega
        rw [bytI_app]
        refine wpE_fact (sl_one (v := v4) .head) (fun o4 => ?_)
        (refine go ?_; intros)
        (show wpO _ _ ⟨_, .call _, _, _, _, _⟩ _ _ _ _ _ _; refine o_callA (hpx) (fun ⟨v5, e5⟩ hy5 => ?_); try simp only [List.cons_append, List.nil_append])
        try dsimp only at hy5
        by_cases h7 : e5 = 0
        · subst h7
          have h8 := hy5.1 rfl
          refine wpE_fact (sl_one (v := v5) .head) (fun o5 => ?_)
          (refine go ?_; intros)
          refine o_append (m := (putL x).length) (news := u8s (putL x)) (sz := 1) rfl rfl rfl rfl rfl rfl rfl rfl pK (src_sl rfl pK) ?_ rfl (fun v6 => ?_)
          · rw [hb1, List.length_append]; omega
          rw [bytI_app, List.append_assoc]
          refine wpE_fact (sl_one (v := v6) .head) (fun o6 => ?_)
          have hlen : (pre ++ (putL t ++ putL x)).length = 17 + t.size + x.size := by rw [List.length_append, List.length_append]; omega
          generalize pre ++ (putL t ++ putL x) = bod at hlen ⊢
          by_cases h9 : bod.length ≤ 4096
          · (refine go ?_; intros)
            exact q_ret2 rfl rfl rfl (v6, 0) rfl (by show (0 : Nat) = 0 ↔ _; exact ⟨fun _ => ⟨q0, q2, h5, h8, h9⟩, fun _ => rfl⟩) eNT
          · (refine go ?_; intros)
            exact q_ret2 rfl rfl rfl (.slice none 0 0, 3) rfl (by show (3 : Nat) = 0 ↔ _; exact ⟨fun h => (by cases h), fun h => absurd h.2.2.2.2 h9⟩) (Ent.slNil Ent.nil)
        · have h1 : (e5 : Int) ≠ 0 := by omega
          (refine go ?_; intros)
          exact q_ret2 rfl rfl rfl (.slice none 0 0, e5) rfl (by show e5 = 0 ↔ _; exact ⟨fun h => absurd h h7, fun h => hy5.2 h.2.2.2.1⟩) (by rw [show rawE e5 (pre ++ (putL t ++ putL x)) = [] from if_neg h7]; exact Ent.slNil Ent.nil)
      · have h1 : (e3 : Int) ≠ 0 := by omega
        (refine go ?_; intros)
        exact q_ret2 rfl rfl rfl (.slice none 0 0, e3) rfl (by show e3 = 0 ↔ _; exact ⟨fun h => absurd h h3, fun h => hy3.2 h.2.2.1⟩) (by rw [show rawE e3 (pre ++ (putL t ++ putL x)) = [] from if_neg h3]; exact Ent.slNil Ent.nil)
  · have h1 : (e0 : Int) ≠ 0 := by omega
    (refine go ?_; intros)
    exact q_ret2 rfl rfl rfl (.slice none 0 0, e0) rfl (by show e0 = 0 ↔ _; exact ⟨fun h => absurd h h0, fun h => absurd (he0.2 ⟨h.1, h.2.1⟩) h0⟩) (by rw [show rawE e0 (bodB cl kp hw ⟨t, x, q, r⟩) = [] from if_neg h0]; exact Ent.slNil Ent.nil)
end Go.Proofs.YtnaabpfpldelmaaGreatDoor
set_option linter.unusedSimpArgs false
set_option linter.unusedVariables false
set_option maxRecDepth 20000
namespace Go.Proofs.YtnaabpfpldelmaaGreatDoor
open Go Go.Sx
def pktB (kd : Nat) (bod : List UInt8) : List UInt8 := headB kd bod.length ++ bod
attribute [local irreducible] MidQ wpE wpO wpC qE wpQ wpQO wpH wpHO wpD wpDO wpZ Ev own emp exI sl ch PostS LoopQ Rd rowsAt
set_option maxHeartbeats 1000000 in
theorem rf_clean1 (cl : Bool) (kp : Nat) (hw : Bool) (w : WiS) : FnDoes Tryz.prog 19 [.agg (pkW cl kp hw w).toArray] [] (fun _ : Unit => True) (fun _ => .agg (pkW cl kp hw w).toArray) (fun _ => []) := by
  refine does_of Tryz.func19 rfl rfl Tryz.ntmps19 rfl eNUM (fun c => ?_)
  (refine go ?_; intro c1 c2 c3)
  refine o_store_part (vs := coW cl kp hw w) rfl rfl rfl rfl rfl rfl pK (by show (20 : Nat) ≤ 24; decide) rfl ?_
  (refine go ?_; intros)
  exact q_retCell (l := pkW cl kp hw w) rfl rfl rfl rfl rfl pK rfl () rfl trivial eNT
theorem rf_cleanN (kd : Nat) (hk : kd = 12 ∨ kd = 14) : FnDoes Tryz.prog 19 [.agg (pkC kd co0).toArray] [] (fun _ : Unit => True) (fun _ => .agg (pkC kd co0).toArray) (fun _ => []) := by
  refine does_of Tryz.func19 rfl rfl Tryz.ntmps19 rfl eNUM (fun c => ?_)
  rcases hk with rfl | rfl
  focus
    (refine go ?_; intro c1 c2 c3)
    exact q_retCell (l := pkC 12 co0) rfl rfl rfl rfl rfl pK rfl () rfl trivial eNT
  focus
    (refine go ?_; intro c1 c2 c3)
    exact q_retCell (l := pkC 14 co0) rfl rfl rfl rfl rfl pK rfl () rfl trivial eNT
set_option maxHeartbeats 1000000 in
theorem rf_body1 (cl : Bool) (kp : Nat) (hkp : kp ≤ 65535) (hw : Bool) (w : WiS) (hh : hw = false → w = wi0) (ht : w.t.size ≤ 140737488351232) (hx : w.x.size ≤ 140737488351232) : FnDoes Tryz.prog 18 [.agg (pkW cl kp hw w).toArray] [] (fun y : Value × Nat => y.2 = 0 ↔ (0 ≤ w.q ∧ w.q ≤ 2 ∧ rightD w.t = true ∧ w.x.size ≤ 65535 ∧ (bodB cl kp hw w).length ≤ 4096)) (fun y => .tuple #[nat64 0, y.1, nat64 y.2]) (fun y => [bytI y.1 (rawE y.2 (bodB cl kp hw w))]) := by
  have hp := rf_put13 cl kp hkp hw w hh ht hx
  refine does_of Tryz.func18 rfl rfl Tryz.ntmps18 rfl eNUM (fun c => ?_)
  (refine go ?_; intros)
  (show wpO _ _ ⟨_, .call _, _, _, _, _⟩ _ _ _ _ _ _; refine o_callA (hp) (fun ⟨v, e⟩ hy => ?_); try simp only [List.cons_append, List.nil_append])
  try dsimp only at hy ⊢
  refine wpE_fact (sl_one (v := v) .head) (fun o1 => ?_)
  (refine go ?_; intros)
  exact q_ret3 rfl rfl rfl rfl (v, e) rfl hy eNT
theorem rf_bodyN (kd : Nat) (hk : kd = 12 ∨ kd = 14) : FnDoes Tryz.prog 18 [.agg (pkC kd co0).toArray] [] (fun _ : Unit => True) (fun y => .tuple #[nat64 0, .slice none 0 0, nat64 0]) (fun _ => []) := by
  refine does_of Tryz.func18 rfl rfl Tryz.ntmps18 rfl eNUM (fun c => ?_)
  rcases hk with rfl | rfl
  all_goals
    (refine go ?_; intros)
    exact q_ret3 rfl rfl rfl rfl () rfl trivial eNT
theorem headB_len (kd m : Nat) : (headB kd m).length ≤ 3 := by
  unfold headB lenB; split <;> simp
set_option maxHeartbeats 1000000 in
theorem rf_Put1 (cl : Bool) (kp : Nat) (hkp : kp ≤ 65535) (hw : Bool) (w : WiS) (hh : hw = false → w = wi0) (ht : w.t.size ≤ 140737488351232) (hx : w.x.size ≤ 140737488351232) : FnDoes Tryz.prog 5 [.agg (pkW cl kp hw w).toArray] [] (fun y : Value × Nat => y.2 = 0 ↔ (0 ≤ w.q ∧ w.q ≤ 2 ∧ rightD w.t = true ∧ w.x.size ≤ 65535 ∧ (bodB cl kp hw w).length ≤ 4096)) (fun y => .tuple #[y.1, nat64 y.2]) (fun y => [bytI y.1 (rawE y.2 (pktB 1 (bodB cl kp hw w)))]) := by
  have hc := rf_clean1 cl kp hw w
  have hbo := rf_body1 cl kp hkp hw w hh ht hx
  have hb1 : Tryz.prog.types[5].bytes = 1 := by decide +kernel
  refine does_of Tryz.func5 rfl rfl Tryz.ntmps5 rfl eNUM (fun c => ?_)
  (refine go ?_; intro c1)
  (show wpO _ _ ⟨_, .call _, _, _, _, _⟩ _ _ _ _ _ _; refine o_callA (hc) (fun _ _ => ?_); try simp only [List.cons_append, List.nil_append])
  (refine go ?_; intros)
  (show wpO _ _ ⟨_, .call _, _, _, _, _⟩ _ _ _ _ _ _; refine o_callA (hbo) (fun ⟨v, e⟩ hy => ?_); try simp only [List.cons_append, List.nil_append])
  try dsimp only at hy
  refine wpE_fact (sl_one (v := v) .head) (fun o1 => ?_)
  generalize bodB cl kp hw w = bod at hy ⊢
  by_cases he : e = 0
  · subst he
    have h5 := hy.1 rfl
    have hbl := h5.2.2.2.2
    have hhd := rf_put11 1 bod.length (.inl rfl) (by omega)
    have hl3 := headB_len 1 bod.length
    rw [show rawE 0 bod = bod from rfl]
    (refine go ?_; intros)
    (show wpO _ _ ⟨_, .call _, _, _, _, _⟩ _ _ _ _ _ _; refine o_callA (hhd) (fun ⟨v2, e2⟩ hy2 => ?_); try simp only [List.cons_append, List.nil_append])
    try dsimp only at hy2
    obtain rfl : e2 = 0 := hy2.2 hbl
    rw [show rawE 0 (headB 1 bod.length) = headB 1 bod.length from rfl]
    refine wpE_fact (sl_one (v := v2) .head) (fun o2 => ?_)
    (refine go ?_; intros)
    refine o_append (m := bod.length) (news := u8s bod) (sz := 1) rfl rfl rfl rfl rfl rfl rfl rfl pK (src_sl rfl pK) ?_ rfl (fun v4 => ?_)
    · rw [hb1]; omega
    rw [bytI_app]
    refine wpE_fact (sl_one (v := v4) .head) (fun o4 => ?_)
    (refine go ?_; intros)
    exact q_ret2 rfl rfl rfl (v4, 0) rfl hy eNT
  · have h1 : (e : Int) ≠ 0 := by omega
    (refine go ?_; intros)
    exact q_ret2 rfl rfl rfl (.slice none 0 0, e) rfl hy (by rw [show rawE e (pktB 1 bod) = [] from if_neg he]; exact Ent.slNil Ent.nil)
set_option maxHeartbeats 1000000 in
theorem rf_PutN (kd : Nat) (hk : kd = 12 ∨ kd = 14) : FnDoes Tryz.prog 5 [.agg (pkC kd co0).toArray] [] (fun _ : Value => True) (fun v => .tuple #[v, nat64 0]) (fun v => [bytI v [UInt8.ofNat (kd * 16), 0]]) := by
  have hc := rf_cleanN kd hk
  have hbo := rf_bodyN kd hk
  have hhd := rf_put11 kd 0 (.inr hk) (by omega)
  have hb1 : Tryz.prog.types[5].bytes = 1 := by decide +kernel
  refine does_of Tryz.func5 rfl rfl Tryz.ntmps5 rfl eNUM (fun c => ?_)
  (refine go ?_; intro c1)
  (show wpO _ _ ⟨_, .call _, _, _, _, _⟩ _ _ _ _ _ _; refine o_callA (hc) (fun _ _ => ?_); try simp only [List.cons_append, List.nil_append])
  (refine go ?_; intros)
  (show wpO _ _ ⟨_, .call _, _, _, _, _⟩ _ _ _ _ _ _; refine o_callA (hbo) (fun _ _ => ?_); try simp only [List.cons_append, List.nil_append])
  (refine go ?_; intros)
  (show wpO _ _ ⟨_, .call _, _, _, _, _⟩ _ _ _ _ _ _; refine o_callA (hhd) (fun ⟨v2, e2⟩ hy2 => ?_); try simp only [List.cons_append, List.nil_append])
  try dsimp only at hy2
  obtain rfl : e2 = 0 := hy2.2 (by omega)
  rw [show rawE 0 (headB kd 0) = [UInt8.ofNat (kd * 16), 0] from rfl]
  refine wpE_fact (sl_one (v := v2) .head) (fun o2 => ?_)
  (refine go ?_; intros)
  refine o_append (m := 0) (news := []) (sz := 1) rfl rfl rfl rfl rfl rfl rfl rfl pK (src_nil rfl) ?_ rfl (fun v4 => ?_)
  · rw [hb1]; show (2 + 0) * 1 ≤ 140737488355328; decide
  refine wpE_fact (sl_one (v := v4) .head) (fun o4 => ?_)
  (refine go ?_; intros)
  exact q_ret2 rfl rfl rfl v4 rfl trivial eNT
end Go.Proofs.YtnaabpfpldelmaaGreatDoor
set_option linter.unusedSimpArgs false
set_option linter.unusedVariables false
set_option maxRecDepth 20000
namespace Go.Proofs.YtnaabpfpldelmaaGreatDoor
open Go Go.Sx
theorem at8_drop (l : List UInt8) (p : Nat) (x : UInt8) (r : List UInt8) (h : l.drop p = x :: r) : at8 l p = x.toNat ∧ l.drop (p + 1) = r ∧ p < l.length := by
  have hl : p < l.length := by
    rcases Nat.lt_or_ge p l.length with h' | h'
    · exact h'
    · rw [List.drop_eq_nil_of_le h'] at h; cases h
  rw [List.drop_eq_getElem_cons hl] at h
  simp only [List.cons.injEq] at h
  refine ⟨?_, h.2, hl⟩
  unfold at8
  rw [List.getD_eq_getElem?_getD, List.getElem?_eq_getElem hl, h.1]; rfl
theorem two_nat (n : Nat) (h : n ≤ 65535) : (UInt8.ofNat (n / 256)).toNat * 256 + (UInt8.ofNat (n % 256)).toNat = n := by
  rw [UInt8.toNat_ofNat', UInt8.toNat_ofNat']; omega
theorem raw_at {l : List UInt8} {p : Nat} {s : ByteArray} {r : List UInt8} (h : l.drop p = putL s ++ r) (hs : s.size ≤ 65535) : rawR l p = some s.data.toList ∧ l.drop (p + 2 + s.size) = r ∧ num2 l p = s.size := by
  have hsz : s.data.toList.length = s.size := Array.length_toList
  unfold putL two at h
  simp only [List.cons_append, List.nil_append] at h
  obtain ⟨a1, d1, l1⟩ := at8_drop l p _ _ h
  obtain ⟨a2, d2, l2⟩ := at8_drop l (p + 1) _ _ d1
  have hn : num2 l p = s.size := by unfold num2; rw [a1, a2]; exact two_nat _ hs
  have hlen : (l.drop (p + 2)).length = s.size + r.length := by rw [d2, List.length_append, hsz]
  rw [List.length_drop] at hlen
  refine ⟨?_, ?_, hn⟩
  · unfold rawR
    rw [hn, if_pos (by omega), d2, ← hsz, List.take_left]
  · rw [← List.drop_drop, d2, ← hsz, List.drop_left]
theorem raw_txt (s : ByteArray) : txt s.data.toList = s := txt_data s
theorem rawF_at {l : List UInt8} {p : Nat} {s : ByteArray} {r : List UInt8} (h : l.drop p = putL s ++ r) (hs : s.size ≤ 65535) : rawF l p = (s, p + 2 + s.size, 0) := by
  unfold rawF
  rw [(raw_at h hs).1]
  simp only [raw_txt]
  rw [show s.data.toList.length = s.size from Array.length_toList]
theorem getF_at {l : List UInt8} {p : Nat} {s : ByteArray} {r : List UInt8} (h : l.drop p = putL s ++ r) (hs : s.size ≤ 65535) (hr : rightD s = true) : getF l p = (s, p + 2 + s.size, 0) := by
  unfold getF
  rw [(raw_at h hs).1]
  simp only [raw_txt, hr, if_true]
  rw [show s.data.toList.length = s.size from Array.length_toList]
theorem right_size {s : ByteArray} (h : rightD s = true) : s.size ≤ 65535 := by unfold rightD at h; simp at h; exact h.1
theorem flg_bits (cl hw : Bool) (q : Nat) (hq : q ≤ 2) (r : Bool) (h0 : hw = false → q = 0 ∧ r = false) : mayF (flgN cl hw q r) = true ∧ bitB (flgN cl hw q r) 2 = cl ∧ bitB (flgN cl hw q r) 4 = hw ∧ flgN cl hw q r / 8 &&& 3 = q ∧ bitB (flgN cl hw q r) 32 = r ∧ bitB (flgN cl hw q r) 128 = false ∧ bitB (flgN cl hw q r) 64 = false := by
  have : q = 0 ∨ q = 1 ∨ q = 2 := by omega
  cases hw with
  | false =>
    obtain ⟨rfl, rfl⟩ := h0 rfl
    cases cl <;> decide +kernel
  | true => rcases this with rfl | rfl | rfl <;> cases cl <;> cases r <;> decide +kernel
end Go.Proofs.YtnaabpfpldelmaaGreatDoor
set_option linter.unusedSimpArgs false
set_option linter.unusedVariables false
set_option maxRecDepth 20000
namespace Go.Proofs.YtnaabpfpldelmaaGreatDoor
open Go Go.Sx
abbrev coR (cl : Bool) (kp : Nat) (hw : Bool) (w : WiS) : CoS := ⟨4, cl, kp, naA, hw, w.t, w.x, w.q.toNat, w.r, false, mt0, false, mt0⟩
theorem rText_t {how : List UInt8 → Nat → ByteArray × Nat × Nat} {l : List UInt8} {p : Nat} {s : ByteArray} {k : Nat} (h : how l p = (s, k, 0)) : rTextF how l ⟨p, 0⟩ true = (s, ⟨k, 0⟩) := by
  unfold rTextF; rw [if_neg (by simp)]; simp only [h]
theorem rText_f {how : List UInt8 → Nat → ByteArray × Nat × Nat} {l : List UInt8} {z : Rdr} : rTextF how l z false = (mt0, z) := by
  unfold rTextF; rw [if_pos (.inl rfl)]
theorem rOne_at {l : List UInt8} {p n : Nat} {x : UInt8} {r : List UInt8} (h : l.drop p = x :: r) (hx : x.toNat = n) : rOne l ⟨p, 0⟩ = (n, ⟨p + 1, 0⟩) := by
  obtain ⟨a, _, hl⟩ := at8_drop l p x r h
  unfold rOne
  rw [if_neg (by simp), if_neg (by show ¬ l.length ≤ p; omega)]
  show (at8 l p, _) = _
  rw [a, hx]
theorem rTwo_at {l : List UInt8} {p n : Nat} {r : List UInt8} (h : l.drop p = two n ++ r) (hn : n ≤ 65535) : rTwo l ⟨p, 0⟩ = (n, ⟨p + 2, 0⟩) := by
  unfold two at h
  simp only [List.cons_append, List.nil_append] at h
  obtain ⟨a1, d1, l1⟩ := at8_drop l p _ _ h
  obtain ⟨a2, d2, l2⟩ := at8_drop l (p + 1) _ _ d1
  unfold rTwo
  rw [if_neg (by simp), if_pos (by show p + 2 ≤ l.length; omega)]
  show (num2 l p, _) = _
  unfold num2; rw [a1, a2, two_nat _ hn]
theorem bod_parse (cl : Bool) (kp : Nat) (hw : Bool) (w : WiS) (hkp : kp ≤ 65535) (q0 : 0 ≤ w.q) (q2 : w.q ≤ 2) (hh : hw = false → w = wi0) (ht : rightD w.t = true) (hx : w.x.size ≤ 65535) : (ofZ (bodB cl kp hw w)).e = 0 ∧ coOf (bodB cl kp hw w) = coR cl kp hw w := by
  have hts := right_size ht
  obtain ⟨b1, b2, b3, b4, b5, b6, b7⟩ := flg_bits cl hw w.q.toNat (by omega) w.r (fun h => by rw [hh h]; exact ⟨rfl, rfl⟩)
  have hfl := flg_lt cl hw w.q.toNat (by omega) w.r
  generalize hfe : flgN cl hw w.q.toNat w.r = fl at *
  have hl : bodB cl kp hw w = preB fl kp ++ putL naA ++ (bif hw then putL w.t ++ putL w.x else []) := by unfold bodB; rw [hfe]
  generalize bodB cl kp hw w = l at hl ⊢
  have hfu : (UInt8.ofNat fl).toNat = fl := by rw [UInt8.toNat_ofNat']; omega
  generalize hrs : (bif hw then putL w.t ++ putL w.x else []) = rest at hl
  have d0 : l.drop 0 = putL mqtt ++ (4 :: UInt8.ofNat fl :: (two kp ++ (putL naA ++ rest))) := by
    rw [List.drop_zero, hl]
    show (preB fl kp ++ putL naA) ++ rest = _
    rw [List.append_assoc]; rfl
  have d6 := (raw_at d0 (by decide)).2.1
  have hms : mqtt.size = 4 := rfl
  rw [hms] at d6
  have g0 := getF_at d0 (by decide) (by decide +kernel)
  rw [hms] at g0
  have e0 : of0 l = (mqtt, ⟨6, 0⟩) := rText_t g0
  have e1 : of1 l = (4, ⟨7, 0⟩) := by unfold of1; rw [e0]; exact rOne_at d6 rfl
  have d7 := (at8_drop l 6 _ _ d6).2.1
  have e2 : rOne l ⟨7, 0⟩ = (fl, ⟨8, 0⟩) := rOne_at d7 hfu
  have d8 := (at8_drop l 7 _ _ d7).2.1
  have e3 : rs1 l ⟨7, 0⟩ = ⟨8, 0⟩ := by unfold rs1; rw [e2, if_neg (by simp [b1])]
  have e4 : rs2 l ⟨7, 0⟩ = (kp, ⟨10, 0⟩) := by unfold rs2; rw [e3]; exact rTwo_at d8 hkp
  have d10 : l.drop 10 = putL naA ++ rest := by
    have := congrArg (List.drop 2) d8
    rw [List.drop_drop] at this
    exact this
  have e5 : rs3 l ⟨7, 0⟩ = (naA, ⟨13, 0⟩) := by unfold rs3; rw [e4]; exact rText_t (getF_at d10 (by decide) (by decide +kernel))
  have d13 : l.drop 13 = rest := (raw_at d10 (by decide)).2.1
  have hz1 : ofZ l = rs8 l ⟨7, 0⟩ := by
    unfold ofZ; rw [e0, e1]
    simp only [ne_eq, not_true_eq_false, if_false, if_true]
  have key : rs4 l ⟨7, 0⟩ = (w.t, (rs4 l ⟨7, 0⟩).2) ∧ rs5 l ⟨7, 0⟩ = (w.x, ⟨l.length, 0⟩) := by
    cases hw with
    | false =>
      have := hh rfl
      subst this
      have e6 : rs4 l ⟨7, 0⟩ = (mt0, ⟨13, 0⟩) := by unfold rs4; rw [e5, e2]; simp only [b3]; exact rText_f
      have e7 : rs5 l ⟨7, 0⟩ = (mt0, ⟨13, 0⟩) := by unfold rs5; rw [e6, e2]; simp only [b3]; exact rText_f
      have hlen : l.length = 13 := by rw [hl, ← hrs]; rfl
      exact ⟨by rw [e6], by rw [e7, hlen]⟩
    | true =>
      simp only [cond_true] at hrs
      subst hrs
      have e6 : rs4 l ⟨7, 0⟩ = (w.t, ⟨15 + w.t.size, 0⟩) := by unfold rs4; rw [e5, e2]; simp only [b3]; exact rText_t (getF_at d13 hts ht)
      have d15 : l.drop (15 + w.t.size) = putL w.x ++ [] := by rw [List.append_nil]; exact (raw_at d13 hts).2.1
      have e7 : rs5 l ⟨7, 0⟩ = (w.x, ⟨15 + w.t.size + 2 + w.x.size, 0⟩) := by unfold rs5; rw [e6, e2]; simp only [b3]; exact rText_t (rawF_at d15 hx)
      have hlx : (putL w.x).length = 2 + w.x.size := by unfold putL; rw [List.length_append, two_len]; congr 1
      have hlen : l.length = 15 + w.t.size + 2 + w.x.size := by
        have h1 := congrArg List.length d15
        rw [List.length_drop, List.append_nil, hlx] at h1
        omega
      exact ⟨by rw [e6], by rw [e7, hlen]⟩
  obtain ⟨e6, e7⟩ := key
  have e8 : rs6 l ⟨7, 0⟩ = (mt0, ⟨l.length, 0⟩) := by unfold rs6; rw [e7, e2]; simp only [b6]; exact rText_f
  have e9 : rs7 l ⟨7, 0⟩ = (mt0, ⟨l.length, 0⟩) := by unfold rs7; rw [e8, e2]; simp only [b7]; exact rText_f
  have e10 : rs8 l ⟨7, 0⟩ = ⟨l.length, 0⟩ := by unfold rs8; rw [e9]; simp
  have hz : (ofZ l).e = 0 := by rw [hz1, e10]
  refine ⟨hz, ?_⟩
  have e6' : (rs4 l ⟨7, 0⟩).1 = w.t := by rw [e6]
  unfold coOf
  rw [if_pos hz, e0, e1]
  simp only [ne_eq, not_true_eq_false, if_false, if_true, e2, e4, e5, e6', e7, e8, e9, b2, b3, b4, b5, b6, b7]
theorem pkt_at (kd : Nat) (hk : kindOk kd) (bod : List UInt8) (hl : bod.length ≤ 4096) : PktAt (UInt8.ofNat (kd * 16) :: ((if bod.length ≤ 127 then [UInt8.ofNat bod.length] else [UInt8.ofNat (bod.length % 128 + 128), UInt8.ofNat (bod.length / 128)]) ++ bod)) kd bod.length (if bod.length ≤ 127 then 1 else 2) bod := by
  have hkd : kd ≤ 14 := by unfold kindOk at hk; omega
  have h1 : (UInt8.ofNat (kd * 16)).toNat = kd * 16 := by rw [UInt8.toNat_ofNat']; omega
  by_cases h : bod.length ≤ 127
  · rw [if_pos h, if_pos h]
    have h2 : (UInt8.ofNat bod.length).toNat = bod.length := by rw [UInt8.toNat_ofNat']; omega
    exact ⟨hk, by simp, h1, ⟨by simp, .inl ⟨rfl, h2, by omega⟩⟩, by simp; omega, by simp, hl, by omega⟩
  · rw [if_neg h, if_neg h]
    have h2 : (UInt8.ofNat (bod.length % 128 + 128)).toNat = bod.length % 128 + 128 := by rw [UInt8.toNat_ofNat']; omega
    have h3 : (UInt8.ofNat (bod.length / 128)).toNat = bod.length / 128 := by rw [UInt8.toNat_ofNat']; omega
    exact ⟨hk, by simp, h1, ⟨by simp, .inr ⟨rfl, h2, h3, by omega, by omega⟩⟩, by simp; omega, by simp, hl, by omega⟩
end Go.Proofs.YtnaabpfpldelmaaGreatDoor
