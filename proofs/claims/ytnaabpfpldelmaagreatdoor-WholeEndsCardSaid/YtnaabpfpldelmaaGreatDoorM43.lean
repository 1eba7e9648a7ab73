/-
  The whole program: a connection ends, and its will.
  The start memory: what the listed variables hold there serves the walk.
-/
import Derived.Test.YtnaabpfpldelmaaGreatDoorM42
import Derived.Test.YtnaabpfpldelmaaGreatDoorShelfA
import Derived.Lib.LaidU8T
set_option linter.unusedSimpArgs false
set_option linter.unusedVariables false
set_option maxRecDepth 20000
namespace Go.Proofs.YtnaabpfpldelmaaGreatDoor
open Go Go.Sx
theorem eqV_msgC (t x t' x' : ByteArray) (q q' : Int) (r r' : Bool) : eqV Tryz.prog 6 24 (.agg (msgC t x q r).toArray) (.agg (msgC t' x' q' r').toArray) = some (decide (t = t') && (decide (x = x') && ((q == q') && ((r == r') && true)))) := by kernel_rfl
theorem eqV_msgW (t x : ByteArray) (n : Int) (r : Bool) : eqV Tryz.prog 6 24 (.agg (msgC t x n r).toArray) (.agg (msgC t x n r).toArray) = some true := by rw [eqV_msgC]; simp
theorem fi_ok (o : DuS) (ck kp t : Nat) (ho : kp = 0 → firB o (ck + t) = false) : firB (rnO o ck kp) (ck + t) = decide (0 < kp ∧ 3 * kp < 2 * t) := by
  unfold rnO
  by_cases h : 0 < kp
  · rw [if_pos h]
    show decide (ck + kp + kp / 2 + 1 ≤ ck + t) = _
    congr 1
    apply propext
    constructor
    · intro h1; exact ⟨h, by omega⟩
    · intro h1; have := h1.2; omega
  · rw [if_neg h, ho (by omega), decide_eq_false (fun h1 => h h1.1)]
attribute [local irreducible] MidQ wpE wpO wpC qE wpQ wpQO wpH wpHO wpD wpDO wpZ Ev own emp exI sl ch PostS LoopQ Rd rowsAt
theorem tp_ends {G : Rg} (E : EnvB G) (R : RdS) (kp : Nat) (w : WiS) (hR : Rdy R kp w) (hW : WiOk kp w) (h t : Nat) (ht : t ≤ 1000) : FnDoes Tryz.prog 11 (endsA R h kp t w) (rdyL R G) (FinP G (h % 6)) (fun y => .bool y.ov) (finL R kp w) := by
  rcases (show h % 6 = 0 ∨ h % 6 = 1 ∨ h % 6 = 2 ∨ h % 6 = 3 ∨ h % 6 = 4 ∨ h % 6 = 5 by omega) with e | e | e | e | e | e
  · rw [e]; exact tp_ends0 E R kp w hR hW h t e ht
  · rw [e]; exact tp_ends1 E R kp w hR hW h t e
  · rw [e]; exact tp_ends2 E R kp w hR hW h t e
  · rw [e]; exact tp_ends3 E R kp w hR hW h t e
  · rw [e]; exact tp_ends4 E R kp w hR hW h t e
  · rw [e]; exact tp_ends5 E R kp w hR hW h t e
set_option maxHeartbeats 4000000 in
theorem tp_whole {G : Rg} (E : EnvB G) (h kx tx : Nat) (hh : h < 256) (hkx : kx < 65536) (htx : tx < 65536) (sv : Bool) (t x : ByteArray) (q : Int) (r : Bool) (hts : t.size ≤ 140737488351232) (hxs : x.size ≤ 140737488351232) :
    FnDoes Tryz.prog 3 [.int .u8 (h : Int), .int .u16 (kx : Int), .int .u16 (tx : Int), .bool sv, .agg (msgC t x q r).toArray] [rgH G] (fun G' : Rg => grG G G') (fun _ => .bool true) (fun G' => [rgH G']) := by
  have e1 : ((kx : Nat) : Int) % 400 = ((kx % 400 : Nat) : Int) := by omega
  have e2 : ((tx : Nat) : Int) % 1001 = ((tx % 1001 : Nat) : Int) := by omega
  have haw := tp_awake E
  generalize hkp : kx % 400 = kp at e1
  generalize htt : tx % 1001 = tk at e2
  have hkp4 : kp < 400 := by omega
  have htk : tk ≤ 1000 := by omega
  have hpu := rf_Put1 false kp (by omega) true ⟨t, x, q, r⟩ (fun h => by cases h) hts hxs
  refine does_of Tryz.func3 rfl rfl Tryz.ntmps3 rfl eNUM (fun c => ?_)
  (refine go ?_; intro c9)
  (show wpO _ _ ⟨_, .call _, _, _, _, _⟩ _ _ _ _ _ _; refine o_callA (br_new) (fun y _ => ?_); try simp only [List.cons_append, List.nil_append])
  obtain ⟨b, ss, tr, ke, du, sp⟩ := y
  try dsimp only
  (refine go ?_; intro c14 c15)
  try rw [e1]
  try rw [e2]
  (show wpO _ _ ⟨_, .call _, _, _, _, _⟩ _ _ _ _ _ _; refine o_callA (hpu) (fun ⟨vp, ep⟩ hyp => ?_); try simp only [List.cons_append, List.nil_append])
  try dsimp only at hyp
  refine wpE_fact (sl_one (v := vp) .head) (fun o1 => ?_)
  by_cases he : ep = 0
  · subst he
    obtain ⟨q0, q2, hr, hx6, hbl⟩ := hyp.1 rfl
    obtain ⟨n, rfl⟩ := Int.eq_ofNat_of_zero_le q0
    have hW : WiOk kp ⟨t, x, (n : Int), r⟩ := ⟨by omega, q0, q2, hr, hx6, hbl⟩
    have ho := br_doO b 0 0 (by decide) mt0 (br0 ss tr ke du sp) (A := []) (br_open0 b (br0 ss tr ke du sp) rfl rfl)
    have hs := fun cn f lk => tp_send1 E b cn (opS (br0 ss tr ke du sp) cn lk) rfl rfl rfl rfl (show (0 : Nat) ≤ 2000 by decide) (cn0 f) (cn0_new cn f) rfl false kp (by omega) true ⟨t, x, (n : Int), r⟩ (fun h => by cases h) hts hxs
    (refine go ?_; intros)
    (show wpO _ _ ⟨_, .call _, _, _, _, _⟩ _ _ _ _ _ _; refine o_callA (ho) (fun ⟨cn, f, lk⟩ _ => ?_); try simp only [List.cons_append, List.nil_append])
    try dsimp only
    (refine go ?_; intros)
    have hs2 := hs cn f lk
    (show wpO _ _ ⟨_, .call _, _, _, _, _⟩ _ _ _ _ _ _; refine o_callA (hs2) (fun y hy => ?_); try simp only [List.cons_append, List.nil_append])
    obtain ⟨ye, ya, yc, yv, yZ⟩ := y
    cases ye with
    | succ m =>
      dsimp only
      have hm : (m + 1 == 0) = false := rfl
      rw [hm]
      (refine go ?_; intros)
      (show wpO _ _ ⟨_, .call _, _, _, _, _⟩ _ _ _ _ _ _; refine o_callA (haw) (fun _ _ => ?_); try simp only [List.cons_append, List.nil_append])
      (refine go ?_; intros)
      exact q_ret1 rfl rfl G rfl (Gr.refl _ _) eNT
    | zero =>
      dsimp only [camL]
      rw [show ((0 : Nat) == 0) = true from rfl]
      (refine go ?_; intros)
      refine wpC_meet (σ := RdS) (fun R => Rdy R kp ⟨t, x, (n : Int), r⟩ ∧ R.ob.length ≤ 1000 ∧ R.ob ≠ []) (fun R => [(0, .int .u8 (h : Int)), (9, pt0 c9), (11, pt0 R.b), (12, nat64 kp), (13, nat64 tk), (15, pt0 c15)]) (fun R => [brI R.b R.S, cnnI R.cn R.C, frmI R.C.f (.slice R.a 0 R.cap) R.k, lnkI R.S.lk 1 [nat64 0, pt0 R.cn], bytI R.C.bv R.ob, dueI R.S.du R.o, ssI R.S.ss (pt0 R.Z.s) true, nssI R.Z false true, trI R.S.tr, nvI R.S.ke R.S.sp, rgH G, pts c9 (.cells (msgC t x (n : Int) r).toArray 24 (0, 0)), pts c15 (.cells (pkW false kp true ⟨t, x, (n : Int), r⟩).toArray tPkt (0, 0))]) ?_ (fun R hR => ?_)
      · cases sv with
        | false =>
          (refine go ?_; intros)
          exact q_mid (⟨b, cn, slS (opS (br0 ss tr ke du sp) cn lk) 0, acC { cn0 f with fs := false } cn yv (coR false kp true ⟨t, x, (n : Int), r⟩), 1, yc, ya, ansN, rnO .z 0 kp, yZ⟩ : RdS) ⟨⟨rfl, rfl, rfl, rfl, rfl, rfl, rfl, rfl, rfl, rfl, rfl, rfl, rfl, rfl, (show (1 : Nat) ≤ 100 by decide), (show (0 : Nat) ≤ 1000 by decide), fun t => fi_ok .z 0 kp t (fun _ => rfl)⟩, (show ansN.length ≤ 1000 by decide), (show ansN ≠ [] by decide)⟩ sUB eNT
        | true =>
          have hf := fi_ok .z 0 kp kp (fun _ => rfl)
          rw [decide_eq_false (by omega)] at hf
          have hne : rnO .z 0 kp ≠ .e := by unfold rnO; split <;> (intro h; cases h)
          have hd := br_doT b 0 kp mt0 (slS (opS (br0 ss tr ke du sp) cn lk) 0) (br_tickQ b kp (by omega) (slS (opS (br0 ss tr ke du sp) cn lk) 0) (show (0 : Nat) ≤ 1000 by decide) (rnO .z 0 kp) hf)
          have hpa : PktAt [UInt8.ofNat (12 * 16), 0] 12 0 1 [] := ⟨.inr (.inr (.inr (.inl rfl))), by decide, rfl, ⟨by decide, .inl ⟨rfl, rfl, by decide⟩⟩, rfl, rfl, by decide, by decide⟩
          have hn := fun vf => br_nextP E b cn { slS (opS (br0 ss tr ke du sp) cn lk) 0 with ck := 0 + kp } rfl rfl (show 0 + kp ≤ 2000 by omega) (acC { cn0 f with fs := false } cn yv (coR false kp true ⟨t, x, (n : Int), r⟩)) rfl rfl rfl rfl (.inr rfl) (show kp ≤ 65536 by omega) 1 (by decide) vf _ hpa ansN (by decide) (rnO .z 0 kp) hne
          have hsn := tp_sendN b 0 cn (by decide) { slS (opS (br0 ss tr ke du sp) cn lk) 0 with ck := 0 + kp } (.inl ⟨rfl, rfl⟩) (acC { cn0 f with fs := false } cn yv (coR false kp true ⟨t, x, (n : Int), r⟩)) rfl 1 yc ya 12 _ ⟨by decide, by decide⟩ (rf_PutN 12 (.inl rfl)) (e := fun _ => 0) hn
          (refine go ?_; intros)
          (show wpO _ _ ⟨_, .call _, _, _, _, _⟩ _ _ _ _ _ _; refine o_callA (hd) (fun _ _ => ?_); try simp only [List.cons_append, List.nil_append])
          (refine go ?_; intros)
          (show wpO _ _ ⟨_, .call _, _, _, _, _⟩ _ _ _ _ _ _; refine o_callA (hsn) (fun ⟨_, za, zc, zv, _⟩ _ => ?_); try simp only [List.cons_append, List.nil_append])
          rw [show ((0 : Nat) == 0) = true from rfl]
          try dsimp only
          (refine go ?_; intros)
          exact q_mid (⟨b, cn, { slS (opS (br0 ss tr ke du sp) cn lk) 0 with ck := 0 + kp }, { acC { cn0 f with fs := false } cn yv (coR false kp true ⟨t, x, (n : Int), r⟩) with ba := pt0 cn, bv := zv }, 2, zc, za, ansN ++ [208, 0], rnO (rnO .z 0 kp) (0 + kp) kp, yZ⟩ : RdS) ⟨⟨rfl, rfl, rfl, rfl, rfl, rfl, rfl, rfl, rfl, rfl, rfl, rfl, rfl, rfl, (show (2 : Nat) ≤ 100 by decide), (show 0 + kp ≤ 1000 by omega), fun t => fi_ok (rnO .z 0 kp) (0 + kp) kp t (fun h => by subst h; rfl)⟩, (show (ansN ++ [208, 0]).length ≤ 1000 by decide), (show ansN ++ [208, 0] ≠ [] by decide)⟩ sUB eNT
      · obtain ⟨hR, hob, hobn⟩ := hR
        have hl1 := br_links1 R.b R.cn R.S R.C R.ob (by omega)
        rw [hR.cl] at hl1
        have hw0 := tp_wills0 R.b R.S hR.lg
        have hen := tp_ends E R kp ⟨t, x, (n : Int), r⟩ hR hW h tk htk
        unfold endsA at hen
        refine wpC_ent (Ent.frOfSl rfl (.inr hobn) pK (Ent.refl _)) ?_
        (refine go ?_; intros)
        (show wpO _ _ ⟨_, .call _, _, _, _, _⟩ _ _ _ _ _ _; refine o_callA (hl1) (fun v1 _ => ?_); try simp only [List.cons_append, List.nil_append])
        refine wpE_fact (sl_one (v := v1) pK) (fun o2 => ?_)
        refine wpE_sl (v := v1) pK (fun _ h _ => by omega) (fun bl cap junk e q1 q2 q3 => ?_)
        subst e
        (refine go ?_; intros)
        refine o_evB (ev_indexS 3 (i := 0) rfl rfl rfl rfl rfl rfl (by decide)) ?_
        (refine go ?_; intros)
        (show wpO _ _ ⟨_, .call _, _, _, _, _⟩ _ _ _ _ _ _; refine o_callA (hw0) (fun _ _ => ?_); try simp only [List.cons_append, List.nil_append])
        (refine go ?_; intros)
        (show wpO _ _ ⟨_, .call _, _, _, _, _⟩ _ _ _ _ _ _; refine o_callA (hen) (fun ⟨S', C', at', two, acc, ov, cn1, C1, G1⟩ ⟨g1, gr1, lgf, clf, acf⟩ => ?_); try simp only [List.cons_append, List.nil_append])
        try dsimp only at g1 lgf clf acf ⊢
        have hawG := tp_awake g1
        cases acc with
        | true =>
          obtain rfl : ov = true := by cases ov; (simp at acf); rfl
          have hj : h % 6 ≠ 4 := by intro hj; rw [hj] at acf; cases acf
          cases two with
          | false =>
            dsimp only [finL, lgX]
            try simp only [List.cons_append, List.nil_append]
            have hlk := br_links1 R.b R.cn S' C' R.ob (by omega)
            rw [clf] at hlk
            have hwi := tp_wills1 R.b at' S' (coR false kp true ⟨t, x, (n : Int), r⟩)
            have hlo := br_log1 R.b S' (entE at' naA true (coR false kp true ⟨t, x, (n : Int), r⟩)) rfl rfl
            (refine go ?_; intros)
            (show wpO _ _ ⟨_, .call _, _, _, _, _⟩ _ _ _ _ _ _; refine o_callA (hlk) (fun v2 _ => ?_); try simp only [List.cons_append, List.nil_append])
            refine wpE_fact (sl_one (v := v2) pK) (fun o3 => ?_)
            refine wpE_sl (v := v2) pK (fun _ h _ => by omega) (fun b2 cap2 junk2 e q1 q2 q3 => ?_)
            subst e
            (refine go ?_; intros)
            refine o_evB (ev_indexS 3 (i := 0) rfl rfl rfl rfl rfl rfl (by decide)) ?_
            (refine go ?_; intros)
            (show wpO _ _ ⟨_, .call _, _, _, _, _⟩ _ _ _ _ _ _; refine o_callA (hwi) (fun _ _ => ?_); try simp only [List.cons_append, List.nil_append])
            (refine go ?_; intros)
            (show wpO _ _ ⟨_, .call _, _, _, _, _⟩ _ _ _ _ _ _; refine o_callA (hlo) (fun w4 _ => ?_); try simp only [List.cons_append, List.nil_append])
            refine wpE_fact (sl_one (v := w4) (.tail (.tail .head))) (fun o4 => ?_)
            refine wpE_sl (v := w4) (by exact .tail (.tail .head)) (fun _ h _ => by omega) (fun b4 cap4 junk4 e q1 q2 q3 => ?_)
            subst e
            (refine go ?_; intros)
            refine wpC_drawnA [pts b4 (.cells (entE at' naA true (coR false kp true ⟨t, x, (n : Int), r⟩) ++ junk4).toArray tEnt (0, 0)), pts c9 (.cells (msgC t x (n : Int) r).toArray 24 (0, 0))] 21 ?_
            ((first | refine df 0 ?_ | refine dfs 0 ?_); (first | refine df 1 ?_ | refine dfs 1 ?_); (first | refine df 2 ?_ | refine dfs 2 ?_); (first | refine df 3 ?_ | refine dfs 3 ?_); (first | refine df 4 ?_ | refine dfs 4 ?_); (first | refine df 5 ?_ | refine dfs 5 ?_); (first | refine df 6 ?_ | refine dfs 6 ?_); (first | refine dt 7 ?_ | refine dts 7 ?_); (first | refine dt 8 ?_ | refine dts 8 ?_); (first | refine dt 9 ?_ | refine dts 9 ?_); (first | refine dt 10 ?_ | refine dts 10 ?_))
            refine dtB 11 rfl (ev_indexS 7 (i := 0) rfl rfl rfl rfl rfl rfl (by decide)) ?_
            ((first | refine dt 12 ?_ | refine dts 12 ?_))
            refine dtB 13 rfl (ev_load_agg rfl rfl rfl rfl pK (vs := msgC t x (n : Int) r) rfl rfl) ?_
            ((first | refine df 14 ?_ | refine dfs 14 ?_))
            refine dfB 15 rfl (ev_eq_agg (r := true) (r' := true) rfl rfl (by kernel_rfl) (eqV_msgW t x n r) rfl) ?_
            ((first | refine df 16 ?_ | refine dfs 16 ?_); (first | refine df 17 ?_ | refine dfs 17 ?_); (first | refine df 18 ?_ | refine dfs 18 ?_))
            refine dcall 19 hawG (fun _ _ => ?_)
            try simp only [List.nil_append]
            ((first | refine df 20 ?_ | refine dfs 20 ?_); refine dl ?_)
            (refine go ?_; intros)
            exact q_ret1 rfl rfl G1 rfl gr1 eNT
          | true =>
            dsimp only [finL, lgX]
            try simp only [List.cons_append, List.nil_append]
            have hlk := br_links2 R.b R.cn cn1 S' C' C1 R.ob ansN (by omega) (by decide)
            rw [clf] at hlk
            have hwi := tp_wills1 R.b at' S' (coR false kp true ⟨t, x, (n : Int), r⟩)
            have hlo := br_log1 R.b S' (entE at' naA true (coR false kp true ⟨t, x, (n : Int), r⟩)) rfl rfl
            (refine go ?_; intros)
            (show wpO _ _ ⟨_, .call _, _, _, _, _⟩ _ _ _ _ _ _; refine o_callA (hlk) (fun v2 _ => ?_); try simp only [List.cons_append, List.nil_append])
            refine wpE_fact (sl_one (v := v2) pK) (fun o3 => ?_)
            refine wpE_sl (v := v2) pK (fun _ h _ => by omega) (fun b2 cap2 junk2 e q1 q2 q3 => ?_)
            subst e
            (refine go ?_; intros)
            refine o_evB (ev_indexS 3 (i := 0) rfl rfl rfl rfl rfl rfl (by decide)) ?_
            (refine go ?_; intros)
            (show wpO _ _ ⟨_, .call _, _, _, _, _⟩ _ _ _ _ _ _; refine o_callA (hwi) (fun _ _ => ?_); try simp only [List.cons_append, List.nil_append])
            (refine go ?_; intros)
            (show wpO _ _ ⟨_, .call _, _, _, _, _⟩ _ _ _ _ _ _; refine o_callA (hlo) (fun w4 _ => ?_); try simp only [List.cons_append, List.nil_append])
            refine wpE_fact (sl_one (v := w4) (.tail (.tail .head))) (fun o4 => ?_)
            refine wpE_sl (v := w4) (by exact .tail (.tail .head)) (fun _ h _ => by omega) (fun b4 cap4 junk4 e q1 q2 q3 => ?_)
            subst e
            (refine go ?_; intros)
            refine wpC_drawnA [pts b4 (.cells (entE at' naA true (coR false kp true ⟨t, x, (n : Int), r⟩) ++ junk4).toArray tEnt (0, 0)), pts c9 (.cells (msgC t x (n : Int) r).toArray 24 (0, 0))] 21 ?_
            ((first | refine df 0 ?_ | refine dfs 0 ?_); (first | refine df 1 ?_ | refine dfs 1 ?_); (first | refine df 2 ?_ | refine dfs 2 ?_); (first | refine df 3 ?_ | refine dfs 3 ?_); (first | refine df 4 ?_ | refine dfs 4 ?_); (first | refine df 5 ?_ | refine dfs 5 ?_); (first | refine df 6 ?_ | refine dfs 6 ?_); (first | refine dt 7 ?_ | refine dts 7 ?_); (first | refine dt 8 ?_ | refine dts 8 ?_); (first | refine dt 9 ?_ | refine dts 9 ?_); (first | refine dt 10 ?_ | refine dts 10 ?_))
            refine dtB 11 rfl (ev_indexS 7 (i := 0) rfl rfl rfl rfl rfl rfl (by decide)) ?_
            ((first | refine dt 12 ?_ | refine dts 12 ?_))
            refine dtB 13 rfl (ev_load_agg rfl rfl rfl rfl pK (vs := msgC t x (n : Int) r) rfl rfl) ?_
            ((first | refine df 14 ?_ | refine dfs 14 ?_))
            refine dfB 15 rfl (ev_eq_agg (r := true) (r' := true) rfl rfl (by kernel_rfl) (eqV_msgW t x n r) rfl) ?_
            ((first | refine df 16 ?_ | refine dfs 16 ?_); (first | refine df 17 ?_ | refine dfs 17 ?_); (first | refine df 18 ?_ | refine dfs 18 ?_))
            refine dcall 19 hawG (fun _ _ => ?_)
            try simp only [List.nil_append]
            ((first | refine df 20 ?_ | refine dfs 20 ?_); refine dl ?_)
            (refine go ?_; intros)
            exact q_ret1 rfl rfl G1 rfl gr1 eNT
        | false =>
          cases ov with
          | false =>
            cases two with
            | false =>
              dsimp only [finL, lgX]
              try simp only [List.cons_append, List.nil_append]
              have hlk := br_links1 R.b R.cn S' C' R.ob (by omega)
              rw [clf] at hlk
              have hwi := tp_wills0 R.b S' (lgf rfl)
              have hlo := br_log0 R.b S' (lgf rfl)
              (refine go ?_; intros)
              (show wpO _ _ ⟨_, .call _, _, _, _, _⟩ _ _ _ _ _ _; refine o_callA (hlk) (fun v2 _ => ?_); try simp only [List.cons_append, List.nil_append])
              refine wpE_fact (sl_one (v := v2) pK) (fun o3 => ?_)
              refine wpE_sl (v := v2) pK (fun _ h _ => by omega) (fun b2 cap2 junk2 e q1 q2 q3 => ?_)
              subst e
              (refine go ?_; intros)
              refine o_evB (ev_indexS 3 (i := 0) rfl rfl rfl rfl rfl rfl (by decide)) ?_
              (refine go ?_; intros)
              (show wpO _ _ ⟨_, .call _, _, _, _, _⟩ _ _ _ _ _ _; refine o_callA (hwi) (fun _ _ => ?_); try simp only [List.cons_append, List.nil_append])
              (refine go ?_; intros)
              (show wpO _ _ ⟨_, .call _, _, _, _, _⟩ _ _ _ _ _ _; refine o_callA (hlo) (fun _ _ => ?_); try simp only [List.cons_append, List.nil_append])
              (refine go ?_; intros)
              refine wpC_drawnA [] 21 ?_
              ((first | refine df 0 ?_ | refine dfs 0 ?_); (first | refine df 1 ?_ | refine dfs 1 ?_); (first | refine df 2 ?_ | refine dfs 2 ?_); (first | refine df 3 ?_ | refine dfs 3 ?_); (first | refine df 4 ?_ | refine dfs 4 ?_); (first | refine df 5 ?_ | refine dfs 5 ?_); (first | refine df 6 ?_ | refine dfs 6 ?_); (first | refine dt 7 ?_ | refine dts 7 ?_); (first | refine dt 8 ?_ | refine dts 8 ?_); (first | refine dt 9 ?_ | refine dts 9 ?_); (first | refine dt 10 ?_ | refine dts 10 ?_); (first | refine dt 11 ?_ | refine dts 11 ?_); (first | refine dt 12 ?_ | refine dts 12 ?_); (first | refine dt 13 ?_ | refine dts 13 ?_); (first | refine df 14 ?_ | refine dfs 14 ?_); (first | refine df 15 ?_ | refine dfs 15 ?_); (first | refine df 16 ?_ | refine dfs 16 ?_); (first | refine df 17 ?_ | refine dfs 17 ?_); (first | refine df 18 ?_ | refine dfs 18 ?_))
              refine dcall 19 hawG (fun _ _ => ?_)
              try simp only [List.nil_append]
              ((first | refine df 20 ?_ | refine dfs 20 ?_); refine dl ?_)
              (refine go ?_; intros)
              exact q_ret1 rfl rfl G1 rfl gr1 eNT
            | true =>
              dsimp only [finL, lgX]
              try simp only [List.cons_append, List.nil_append]
              have hlk := br_links2 R.b R.cn cn1 S' C' C1 R.ob ansN (by omega) (by decide)
              rw [clf] at hlk
              have hwi := tp_wills0 R.b S' (lgf rfl)
              have hlo := br_log0 R.b S' (lgf rfl)
              (refine go ?_; intros)
              (show wpO _ _ ⟨_, .call _, _, _, _, _⟩ _ _ _ _ _ _; refine o_callA (hlk) (fun v2 _ => ?_); try simp only [List.cons_append, List.nil_append])
              refine wpE_fact (sl_one (v := v2) pK) (fun o3 => ?_)
              refine wpE_sl (v := v2) pK (fun _ h _ => by omega) (fun b2 cap2 junk2 e q1 q2 q3 => ?_)
              subst e
              (refine go ?_; intros)
              refine o_evB (ev_indexS 3 (i := 0) rfl rfl rfl rfl rfl rfl (by decide)) ?_
              (refine go ?_; intros)
              (show wpO _ _ ⟨_, .call _, _, _, _, _⟩ _ _ _ _ _ _; refine o_callA (hwi) (fun _ _ => ?_); try simp only [List.cons_append, List.nil_append])
              (refine go ?_; intros)
              (show wpO _ _ ⟨_, .call _, _, _, _, _⟩ _ _ _ _ _ _; refine o_callA (hlo) (fun _ _ => ?_); try simp only [List.cons_append, List.nil_append])
              (refine go ?_; intros)
              refine wpC_drawnA [] 21 ?_
              ((first | refine df 0 ?_ | refine dfs 0 ?_); (first | refine df 1 ?_ | refine dfs 1 ?_); (first | refine df 2 ?_ | refine dfs 2 ?_); (first | refine df 3 ?_ | refine dfs 3 ?_); (first | refine df 4 ?_ | refine dfs 4 ?_); (first | refine df 5 ?_ | refine dfs 5 ?_); (first | refine df 6 ?_ | refine dfs 6 ?_); (first | refine dt 7 ?_ | refine dts 7 ?_); (first | refine dt 8 ?_ | refine dts 8 ?_); (first | refine dt 9 ?_ | refine dts 9 ?_); (first | refine dt 10 ?_ | refine dts 10 ?_); (first | refine dt 11 ?_ | refine dts 11 ?_); (first | refine dt 12 ?_ | refine dts 12 ?_); (first | refine dt 13 ?_ | refine dts 13 ?_); (first | refine df 14 ?_ | refine dfs 14 ?_); (first | refine df 15 ?_ | refine dfs 15 ?_); (first | refine df 16 ?_ | refine dfs 16 ?_); (first | refine df 17 ?_ | refine dfs 17 ?_); (first | refine df 18 ?_ | refine dfs 18 ?_))
              refine dcall 19 hawG (fun _ _ => ?_)
              try simp only [List.nil_append]
              ((first | refine df 20 ?_ | refine dfs 20 ?_); refine dl ?_)
              (refine go ?_; intros)
              exact q_ret1 rfl rfl G1 rfl gr1 eNT
          | true =>
            have hj : h % 6 = 4 := by
              by_cases hj : h % 6 = 4
              · exact hj
              · simp [hj] at acf
            cases two with
            | false =>
              dsimp only [finL, lgX]
              try simp only [List.cons_append, List.nil_append]
              have hlk := br_links1 R.b R.cn S' C' R.ob (by omega)
              rw [clf] at hlk
              have hwi := tp_wills0 R.b S' (lgf rfl)
              have hlo := br_log0 R.b S' (lgf rfl)
              (refine go ?_; intros)
              (show wpO _ _ ⟨_, .call _, _, _, _, _⟩ _ _ _ _ _ _; refine o_callA (hlk) (fun v2 _ => ?_); try simp only [List.cons_append, List.nil_append])
              refine wpE_fact (sl_one (v := v2) pK) (fun o3 => ?_)
              refine wpE_sl (v := v2) pK (fun _ h _ => by omega) (fun b2 cap2 junk2 e q1 q2 q3 => ?_)
              subst e
              (refine go ?_; intros)
              refine o_evB (ev_indexS 3 (i := 0) rfl rfl rfl rfl rfl rfl (by decide)) ?_
              (refine go ?_; intros)
              (show wpO _ _ ⟨_, .call _, _, _, _, _⟩ _ _ _ _ _ _; refine o_callA (hwi) (fun _ _ => ?_); try simp only [List.cons_append, List.nil_append])
              (refine go ?_; intros)
              (show wpO _ _ ⟨_, .call _, _, _, _, _⟩ _ _ _ _ _ _; refine o_callA (hlo) (fun _ _ => ?_); try simp only [List.cons_append, List.nil_append])
              (refine go ?_; intros)
              refine wpC_drawnA [] 21 ?_
              ((first | refine df 0 ?_ | refine dfs 0 ?_); (first | refine df 1 ?_ | refine dfs 1 ?_); (first | refine df 2 ?_ | refine dfs 2 ?_); (first | refine df 3 ?_ | refine dfs 3 ?_); (first | refine df 4 ?_ | refine dfs 4 ?_); (first | refine df 5 ?_ | refine dfs 5 ?_); (first | refine df 6 ?_ | refine dfs 6 ?_); (first | refine dt 7 ?_ | refine dts 7 ?_); (first | refine dt 8 ?_ | refine dts 8 ?_); (first | refine dt 9 ?_ | refine dts 9 ?_); (first | refine dt 10 ?_ | refine dts 10 ?_); (first | refine dt 11 ?_ | refine dts 11 ?_); (first | refine dt 12 ?_ | refine dts 12 ?_); (first | refine dt 13 ?_ | refine dts 13 ?_); (first | refine df 14 ?_ | refine dfs 14 ?_); (first | refine df 15 ?_ | refine dfs 15 ?_); (first | refine df 16 ?_ | refine dfs 16 ?_); (first | refine df 17 ?_ | refine dfs 17 ?_); (first | refine df 18 ?_ | refine dfs 18 ?_))
              refine dcall 19 hawG (fun _ _ => ?_)
              try simp only [List.nil_append]
              ((first | refine df 20 ?_ | refine dfs 20 ?_); refine dl ?_)
              (refine go ?_; intros)
              exact q_ret1 rfl rfl G1 rfl gr1 eNT
            | true =>
              dsimp only [finL, lgX]
              try simp only [List.cons_append, List.nil_append]
              have hlk := br_links2 R.b R.cn cn1 S' C' C1 R.ob ansN (by omega) (by decide)
              rw [clf] at hlk
              have hwi := tp_wills0 R.b S' (lgf rfl)
              have hlo := br_log0 R.b S' (lgf rfl)
              (refine go ?_; intros)
              (show wpO _ _ ⟨_, .call _, _, _, _, _⟩ _ _ _ _ _ _; refine o_callA (hlk) (fun v2 _ => ?_); try simp only [List.cons_append, List.nil_append])
              refine wpE_fact (sl_one (v := v2) pK) (fun o3 => ?_)
              refine wpE_sl (v := v2) pK (fun _ h _ => by omega) (fun b2 cap2 junk2 e q1 q2 q3 => ?_)
              subst e
              (refine go ?_; intros)
              refine o_evB (ev_indexS 3 (i := 0) rfl rfl rfl rfl rfl rfl (by decide)) ?_
              (refine go ?_; intros)
              (show wpO _ _ ⟨_, .call _, _, _, _, _⟩ _ _ _ _ _ _; refine o_callA (hwi) (fun _ _ => ?_); try simp only [List.cons_append, List.nil_append])
              (refine go ?_; intros)
              (show wpO _ _ ⟨_, .call _, _, _, _, _⟩ _ _ _ _ _ _; refine o_callA (hlo) (fun _ _ => ?_); try simp only [List.cons_append, List.nil_append])
              (refine go ?_; intros)
              refine wpC_drawnA [] 21 ?_
              ((first | refine df 0 ?_ | refine dfs 0 ?_); (first | refine df 1 ?_ | refine dfs 1 ?_); (first | refine df 2 ?_ | refine dfs 2 ?_); (first | refine df 3 ?_ | refine dfs 3 ?_); (first | refine df 4 ?_ | refine dfs 4 ?_); (first | refine df 5 ?_ | refine dfs 5 ?_); (first | refine df 6 ?_ | refine dfs 6 ?_); (first | refine dt 7 ?_ | refine dts 7 ?_); (first | refine dt 8 ?_ | refine dts 8 ?_); (first | refine dt 9 ?_ | refine dts 9 ?_); (first | refine dt 10 ?_ | refine dts 10 ?_); (first | refine dt 11 ?_ | refine dts 11 ?_); (first | refine dt 12 ?_ | refine dts 12 ?_); (first | refine dt 13 ?_ | refine dts 13 ?_); (first | refine df 14 ?_ | refine dfs 14 ?_); (first | refine df 15 ?_ | refine dfs 15 ?_); (first | refine df 16 ?_ | refine dfs 16 ?_); (first | refine df 17 ?_ | refine dfs 17 ?_); (first | refine df 18 ?_ | refine dfs 18 ?_))
              refine dcall 19 hawG (fun _ _ => ?_)
              try simp only [List.nil_append]
              ((first | refine df 20 ?_ | refine dfs 20 ?_); refine dl ?_)
              (refine go ?_; intros)
              exact q_ret1 rfl rfl G1 rfl gr1 eNT
  · have h1 : (ep : Int) ≠ 0 := by omega
    (refine go ?_; intros)
    (show wpO _ _ ⟨_, .call _, _, _, _, _⟩ _ _ _ _ _ _; refine o_callA (haw) (fun _ _ => ?_); try simp only [List.cons_append, List.nil_append])
    (refine go ?_; intros)
    exact q_ret1 rfl rfl G rfl (Gr.refl _ _) eNT
end Go.Proofs.YtnaabpfpldelmaaGreatDoor
set_option linter.unusedSimpArgs false
set_option linter.unusedVariables false
namespace Go.Sx
open Go Go.Lib
theorem heap_of_var {P : Program} {W : World} {n : String} {g : Nat} {cs : Array Value} (hg : P.globalNamed n = some g) (hv : W.var? P n = some cs) : ∃ t f, W.heap[g]? = some (.cells cs t f) := by
  simp only [World.var?, hg, Option.bind_some] at hv
  split at hv
  · rename_i c t f h
    obtain rfl := Option.some.inj hv
    exact ⟨t, f, h⟩
  · cases hv
theorem cells_of_each {H α : Type} {enc : TypeId × Value → H} {P : Program} {w : World} {base : Nat} {sp : Nat → Bool} {held : Bool} {fuel : Nat} {t e : TypeId} {n : Nat} {cs : List Value} {p : List MemPlace} (f : α → Value) (g : α → DataW H) {l : List α}
    (ht : P.underlying t = some (.array n e)) (hce : P.cellsOf e = 1) (hct : P.cellsOf t = n) (hl : l.length = n)
    (h1 : ∀ fuel' cs' a q, DataW.trod enc P w base sp held fuel' e cs' = some (g a, q) → cs' = [f a])
    (h : DataW.trod enc P w base sp held fuel t cs = some (.agg (l.map g), p)) : cs = l.map f := by
  have hn : cs.length = n := by
    cases fuel with
    | zero => simp [DataW.trod] at h
    | succ fuel =>
      simp only [DataW.trod, ht] at h
      split at h
      · rename_i hl'; rw [hl', hct]
      · cases h
  apply List.ext_getElem?
  intro i
  by_cases hi : i < n
  · obtain ⟨fuel', d, q, hd, he⟩ := array_elem ht h i hi
    have hil : i < l.length := by omega
    rw [List.getElem?_map, List.getElem?_eq_getElem hil] at hd
    obtain rfl := Option.some.inj hd
    rw [hce, Nat.mul_one] at he
    have hc := h1 _ _ _ _ he
    have := congrArg (·[0]?) hc
    rw [List.getElem?_map, List.getElem?_eq_getElem hil]
    simpa [List.getElem?_take, List.getElem?_drop] using this
  · rw [List.getElem?_eq_none (by omega), List.getElem?_eq_none (by rw [List.length_map]; omega)]
theorem grG_cell {G G' : Rho × PHeap} (g : Gr G.1 G.2 G'.1 G'.2) {b off : Nat} {v : Value} (hb : G.1 b = none) (h : G.2.cell? ⟨b, off, none⟩ = some v) : G'.2.cell? ⟨b, off, none⟩ = some v := by
  unfold PHeap.cell? at h ⊢
  cases e : G.2 b with
  | none => simp [e] at h
  | some o => obtain ⟨_, k⟩ := g.keep b o e hb; simp only [e] at h; simp only [k]; exact h
theorem law_belowG {P : Program} {f : FuncId} {args : List Value} {w : World} (S : FnDoes P f args [own (ph w)] (fun G' : Rho × PHeap => Gr (fun _ => none) (ph w) G'.1 G'.2) (fun _ => .bool true) (fun G' => [own G'.2])) :
    Calls P f args.toArray w (fun e w' => e = .returned (.bool true) ∧ Go.RowKit.Below w.heap.size w w') := fun cs => by
  obtain ⟨e, w', fr, ⟨y, hy, he, hf, h, ⟨h1, h2, a, _, _, l1, _⟩, hl, _⟩, r⟩ := S.does w (ph w) ⟨ph w, fun _ => none, rfl, trivial, fun _ => .inr rfl, PHeap.le_refl _, fun _ _ e => by cases e⟩ (PHeap.le_refl _) cs
  refine ⟨e, w', fr, ⟨he, hf.os, hf.tape, hf.output, hf.size, fun k hk => ?_⟩, r⟩
  have hk' : w.heap[k]? = some w.heap[k] := Array.getElem?_eq_getElem hk
  rw [hk']
  exact hl _ _ (l1 _ _ (by rw [show h1 = y.2 from a]; exact (hy.keep k _ hk' rfl).2))
end Go.Sx
set_option maxRecDepth 20000
namespace Go.Proofs.YtnaabpfpldelmaaGreatDoor
open Go Go.Sx Go.Lib
def mayL : List Bool := [true, true, true, true, true, true, false, false, false, false, true, true, true, true, false, false]
def mayD : DataW Unit := .agg (mayL.map fun b => .lit (.bool b))
def wordsL : List (List UInt8) := [[], [78, 66, 73, 82, 84, 72], [78, 68, 69, 65, 84, 72], [78, 68, 65, 84, 65], [78, 67, 77, 68], [68, 66, 73, 82, 84, 72], [68, 68, 69, 65, 84, 72], [68, 68, 65, 84, 65], [68, 67, 77, 68], [83, 84, 65, 84, 69]]
def wordsD : DataW Unit := .agg (wordsL.map fun s => .lit (.string s))
structure MsgT where
  t : ByteArray
  x : ByteArray
  q : Int
  r : Bool
structure StartT (W : World) : Prop where
  words : VarReads Tryz.prog W "crier/space.words" wordsD
  kinds : ∃ ks : List Int, ks.length = 8 ∧ ∃ e f, W.heap[9]? = some (.cells (ks.map (Value.int .i64)).toArray e f)
  may : VarReads Tryz.prog W "crier/head.may" mayD
  err : W.var? Tryz.prog "errors.errorType" = some #[rtV tErr]
  tabs : Lib.Utf8Tabs (Tryz.laysValid_ren.g 3) (Tryz.laysValid_ren.g 4) W
noncomputable abbrev G0 (W : World) : Rg := ((fun _ => none : Rho), ph W)
theorem st_ok (W : World) : okG (G0 W) := ⟨fun b e u n h => by cases h⟩
theorem st_kinds {W : World} (h : ∃ ks : List Int, ks.length = 8 ∧ ∃ e f, W.heap[9]? = some (.cells (ks.map (Value.int .i64)).toArray e f)) : knG (G0 W) := by
  obtain ⟨ks, hl, e, f, hh⟩ := h
  exact ⟨rfl, ks, hl, e, f, hh⟩
theorem st_may {W : World} (h : VarReads Tryz.prog W "crier/head.may" mayD) : mayG (G0 W) := by
  obtain ⟨g, t, cs, fuel, p, hg, hty, hv, hd⟩ := h
  obtain rfl := Option.some.inj ((show Tryz.prog.globalNamed "crier/head.may" = some 0 by kernel_rfl).symm.trans hg)
  obtain rfl := Option.some.inj ((show (Tryz.prog.globals[0]?).map (·.type) = some 407 by kernel_rfl).symm.trans hty)
  have hcs := cells_of_each Value.bool (fun b => (.lit (.bool b) : DataW Unit)) (l := mayL) Tryz.underlying407 (by kernel_rfl) (by kernel_rfl) rfl (fun fuel' cs' a q he => by
    obtain ⟨b, e1, e2⟩ := DataW.trod_bool Tryz.underlying4 he
    simp at e2
    rw [e1, e2.1]) hd
  obtain ⟨e, f, hh⟩ := heap_of_var hg hv
  refine ⟨rfl, mayL, e, f, rfl, ?_⟩
  rw [← hcs]
  exact hh
theorem st_words {W : World} (h : VarReads Tryz.prog W "crier/space.words" wordsD) : spG (G0 W) := by
  obtain ⟨g, t, cs, fuel, p, hg, hty, hv, hd⟩ := h
  obtain rfl := Option.some.inj ((show Tryz.prog.globalNamed "crier/space.words" = some 1 by kernel_rfl).symm.trans hg)
  obtain rfl := Option.some.inj ((show (Tryz.prog.globals[1]?).map (·.type) = some 427 by kernel_rfl).symm.trans hty)
  have hcs := cells_of_each (fun s : List UInt8 => Value.string ⟨s.toArray⟩) (fun s => (.lit (.string s) : DataW Unit)) (l := wordsL) Tryz.underlying427 (by kernel_rfl) (by kernel_rfl) rfl (fun fuel' cs' a q he => by
    obtain ⟨s, e1, e2, _⟩ := DataW.trod_string Tryz.underlying9 he
    simp at e2
    rw [e1, e2.1]) hd
  obtain ⟨e, f, hh⟩ := heap_of_var hg hv
  refine ⟨rfl, wordsL.map fun s => ⟨s.toArray⟩, e, f, rfl, ?_, ?_⟩
  · intro s hs
    simp only [wordsL, List.map_cons, List.map_nil, List.mem_cons, List.mem_nil_iff, or_false] at hs
    rcases hs with rfl | rfl | rfl | rfl | rfl | rfl | rfl | rfl | rfl | rfl <;> simp [ByteArray.size]
  · rw [List.map_map, show ((Value.string ∘ fun s : List UInt8 => (⟨s.toArray⟩ : ByteArray)) : List UInt8 → Value) = fun s => Value.string ⟨s.toArray⟩ from rfl, ← hcs]
    exact hh
theorem st_err {W : World} (h : W.var? Tryz.prog "errors.errorType" = some #[rtV tErr]) : erG (G0 W) := by
  obtain ⟨e, f, hh⟩ := heap_of_var (show Tryz.prog.globalNamed "errors.errorType" = some 2 by kernel_rfl) h
  exact ⟨rfl, e, f, hh⟩
theorem st_valid {W : World} (h : Lib.Utf8Tabs (Tryz.laysValid_ren.g 3) (Tryz.laysValid_ren.g 4) W) : vG (G0 W) := fun G' g s hs => by
  have T : ∀ w : World, PHeap.le G'.2 (ph w) → Lib.Utf8Tabs (Tryz.laysValid_ren.g 3) (Tryz.laysValid_ren.g 4) w := fun w hle =>
    ⟨fun c hc => cell_of_le hle (grG_cell g rfl (show (ph W).cell? _ = some _ from h.1 c hc)), fun i hi => ⟨cell_of_le hle (grG_cell g rfl (show (ph W).cell? _ = some _ from (h.2 i hi).1)), cell_of_le hle (grG_cell g rfl (show (ph W).cell? _ = some _ from (h.2 i hi).2))⟩⟩
  exact ⟨callable Tryz.func275 rfl rfl, fun w h hsep hle => by
    obtain ⟨h1, h2, a, r, d, l1, l2⟩ := hsep
    have hH : PHeap.le G'.2 h := by rw [← (show h1 = G'.2 from a)]; exact l1
    have cV : Calls Tryz.prog 275 #[.string s] w _ := Any.utf8_ValidString Tryz.laysValid s w (by omega) (T w (PHeap.le_trans hH hle))
    refine cV.mono ?_
    rintro e w' ⟨rfl, b⟩
    refine ⟨(), trivial, rfl, ⟨b.os, b.tape, b.output, b.size, fun k hk _ => b.block k hk⟩, h, ⟨h1, h2, a, r, d, l1, l2⟩, ?_, fun x hx => Or.inl hx⟩
    intro x o e
    have e' : w.heap[x]? = some o := hle x o e
    have hx : x < w.heap.size := (Array.getElem?_eq_some_iff.1 e').1
    show w'.heap[x]? = some o
    rw [b.block x hx]
    exact e'⟩
theorem st_env {W : World} (h : StartT W) : EnvB (G0 W) := ⟨⟨⟨st_ok W, st_valid h.tabs, st_words h.words⟩, st_err h.err, st_kinds h.kinds⟩, st_may h.may⟩
theorem whole_walk {W : World} (h : StartT W) (x0 x1 x2 : Int) (b0 : 0 ≤ x0 ∧ x0 ≤ 255) (b1 : 0 ≤ x1 ∧ x1 ≤ 65535) (b2 : 0 ≤ x2 ∧ x2 ≤ 65535) (x3 : Bool) (m : MsgT) (hm : m.t.size ≤ reachBytes ∧ m.x.size ≤ reachBytes) :
    FnDoes Tryz.prog 3 [.int .u8 x0, .int .u16 x1, .int .u16 x2, .bool x3, .agg (msgC m.t m.x m.q m.r).toArray] [own (ph W)] (fun G' : Rho × PHeap => Gr (fun _ => none) (ph W) G'.1 G'.2) (fun _ => .bool true) (fun G' => [own G'.2]) := by
  obtain ⟨k0, rfl⟩ := Int.eq_ofNat_of_zero_le b0.1
  obtain ⟨k1, rfl⟩ := Int.eq_ofNat_of_zero_le b1.1
  obtain ⟨k2, rfl⟩ := Int.eq_ofNat_of_zero_le b2.1
  exact tp_whole (st_env h) k0 k1 k2 (by omega) (by omega) (by omega) x3 m.t m.x m.q m.r hm.1 hm.2
end Go.Proofs.YtnaabpfpldelmaaGreatDoor
