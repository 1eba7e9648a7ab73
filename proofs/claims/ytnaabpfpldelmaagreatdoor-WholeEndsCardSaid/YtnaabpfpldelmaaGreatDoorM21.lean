/-
  Payloads, read.
  Payloads, read: the whole of it, and what is asked of one.
  What metrics have: items.
  What metrics have: the place of a name, and a birth's items.
-/
import Derived.Test.YtnaabpfpldelmaaGreatDoorM20
set_option linter.unusedSimpArgs false
set_option linter.unusedVariables false
set_option maxRecDepth 20000
namespace Go.Proofs.YtnaabpfpldelmaaGreatDoor
open Go Go.Sx
structure PayS where
  tm : Int
  hs : Bool
  sq : Int
  uu : ByteArray
  bo : ByteArray
  mv : Value
  mn : Nat
abbrev payC (s : PayS) : List Value := [.int .u64 s.tm, .bool s.hs, .int .u64 s.sq, .string s.uu, .string s.bo, s.mv]
abbrev payI (c : Nat) (s : PayS) : HProp := pts c (.cells (payC s).toArray 307 (0, 0))
structure PayOk (G : Rg) (s : PayS) : Prop where
  sq : inK .u64 s.sq
  mv : slG G tMet s.mv s.mn
  mn : s.mn ≤ 64
def pay0 : PayS := ⟨0, false, 0, ⟨#[]⟩, ⟨#[]⟩, .slice none 0 0, 0⟩
theorem pay0_ok {G : Rg} : PayOk G pay0 := ⟨inK0 _, okSl.nil, Nat.zero_le _⟩
structure MtrOk (s : MtkS) : Prop where
  name : s.name.size ≤ 65536
  al : inK .u64 s.al
  c3 : s.c3.oneCell' = true
  c4 : s.c4.oneCell' = true
  c5 : s.c5.oneCell' = true
  c6 : s.c6.oneCell' = true
  c8 : s.c8.oneCell' = true
  c9 : s.c9.oneCell' = true
  vn : inK .u64 s.vn
  c12 : s.c12.oneCell' = true
  c13 : s.c13.oneCell' = true
  c14 : s.c14.oneCell' = true
theorem MtkOk.row {s : MtkS} (h : MtkOk s) : MtrOk s := ⟨h.name, h.al, h.c3, h.c4, h.c5, h.c6, h.c8, h.c9, h.vn, h.c12, h.c13, h.c14⟩
theorem met_inv {S : Shp} {ρ : Rho} {vs : List Value} (h : okR S ρ [.str, .bool, .int .u64, .one, .one, .one, .one, .bool, .one, .one, .int .i64, .int .u64, .one, .one, .one] vs) : ∃ w : MtkS, MtrOk w ∧ vs = mtrC w := by
  obtain ⟨_, _, rfl, ⟨n0, rfl, o0⟩, h1⟩ := okR_cons h
  obtain ⟨_, _, rfl, ⟨a1, rfl⟩, h2⟩ := okR_cons h1
  obtain ⟨_, _, rfl, ⟨a2, rfl, o2⟩, h3⟩ := okR_cons h2
  obtain ⟨a3, _, rfl, o3, h4⟩ := okR_cons h3
  obtain ⟨a4, _, rfl, o4, h5⟩ := okR_cons h4
  obtain ⟨a5, _, rfl, o5, h6⟩ := okR_cons h5
  obtain ⟨a6, _, rfl, o6, h7⟩ := okR_cons h6
  obtain ⟨_, _, rfl, ⟨a7, rfl⟩, h8⟩ := okR_cons h7
  obtain ⟨a8, _, rfl, o8, h9⟩ := okR_cons h8
  obtain ⟨a9, _, rfl, o9, h10⟩ := okR_cons h9
  obtain ⟨_, _, rfl, ⟨a10, rfl, _⟩, h11⟩ := okR_cons h10
  obtain ⟨_, _, rfl, ⟨a11, rfl, o11⟩, h12⟩ := okR_cons h11
  obtain ⟨a12, a13, a14, rfl, o12, o13, o14⟩ := ones3 h12
  exact ⟨⟨n0, a1, a2, a3, a4, a5, a6, a7, a8, a9, a10, a11, a12, a13, a14, ⟨#[]⟩, false, ⟨#[]⟩, ⟨#[]⟩⟩, ⟨o0, o2, o3, o4, o5, o6, o8, o9, o11, o12, o13, o14⟩, rfl⟩
theorem met_get {G : Rg} {a : Option Addr} {len cap m i : Nat} (h : okG G) (hs : slG G tMet (.slice a len cap) m) (hi : i < len) : ∃ b o w, a = some ⟨b, o, none⟩ ∧ MtrOk w ∧ ∀ j u, (mtrC w)[j]? = some u → G.2.cell? ⟨b, o + i * 15 + j, none⟩ = some u := by
  obtain ⟨b, o, vs, h1, h2, h3⟩ := wt_get h hs hi shp_metric
  obtain ⟨w, hw, rfl⟩ := met_inv h2
  exact ⟨b, o, w, h1, hw, h3⟩
attribute [local irreducible] MidQ wpE wpO wpC qE wpQ wpQO wpH wpHO wpD wpDO wpZ Ev own emp exI sl ch PostS LoopQ Rd rowsAt
theorem py_kind (x : Int) : FnDoes Tryz.prog 363 [.int .i64 x] [] (fun _ : Int × Bool => True) (fun y => .tuple #[.int .i64 y.1, .bool y.2]) (fun _ => []) := by
  refine does_of Tryz.func363 rfl rfl Tryz.ntmps363 rfl eNUM (fun c => ?_)
  by_cases e1 : x = 1
  · (refine go ?_; intros)
    exact q_ret2 rfl rfl rfl (0, true) rfl trivial eNT
  by_cases e3 : x = 3
  · (refine go ?_; intros)
    exact q_ret2 rfl rfl rfl (0, true) rfl trivial eNT
  by_cases e2 : x = 2
  · (refine go ?_; intros)
    exact q_ret2 rfl rfl rfl (2, true) rfl trivial eNT
  by_cases e4 : x = 4
  · (refine go ?_; intros)
    exact q_ret2 rfl rfl rfl (2, true) rfl trivial eNT
  by_cases e5 : x = 5
  · (refine go ?_; intros)
    exact q_ret2 rfl rfl rfl (2, true) rfl trivial eNT
  · (refine go ?_; intros)
    exact q_ret2 rfl rfl rfl (0, false) rfl trivial eNT
theorem py_small (x : Int) (hx : inK .u64 x) : FnDoes Tryz.prog 495 [.int .u64 x] [] (fun y : Nat × Bool => y.1 ≤ 255) (fun y => .tuple #[nat64 y.1, .bool y.2]) (fun _ => []) := by
  have hb := inK_u64.1 hx
  refine does_of Tryz.func495 rfl rfl Tryz.ntmps495 rfl eNUM (fun c => ?_)
  by_cases h : x ≥ 256
  · (refine go ?_; intros)
    exact q_ret2 rfl rfl rfl (0, false) rfl (Nat.zero_le _) eNT
  · obtain ⟨k, rfl⟩ := Int.eq_ofNat_of_zero_le hb.1
    (refine go ?_; intros)
    exact q_ret2 rfl rfl rfl (k, true) rfl (by dsimp only; omega) eNT
theorem py_seq (s : PayS) (hs : inK .u64 s.sq) (hm : s.mv.oneCell' = true) : FnDoes Tryz.prog 448 [.agg (payC s).toArray] [] (fun y : Nat × Bool => y.1 ≤ 255) (fun y => .tuple #[nat64 y.1, .bool y.2]) (fun _ => []) := by
  obtain ⟨tm, hs', sq, uu, bo, mv, mn⟩ := s
  try dsimp only at hs hm ⊢
  refine does_of Tryz.func448 rfl rfl Tryz.ntmps448 rfl eNUM (fun c => ?_)
  cases hs'
  · (refine go ?_; intros)
    exact q_ret2 rfl rfl rfl (0, false) rfl (Nat.zero_le _) eNT
  · (refine go ?_; intros)
    (show wpO _ _ ⟨_, .call _, _, _, _, _⟩ _ _ _ _ _ _; refine o_callA (py_small sq hs) (fun ⟨k, b⟩ hk => ?_); try simp only [List.cons_append, List.nil_append])
    try dsimp only at hk ⊢
    (refine go ?_; intros)
    exact q_ret2 rfl rfl rfl (k, b) rfl hk eNT
theorem py_find1 (w : MtkS) (b : Nat) (nm : ByteArray) : FnDoes Tryz.prog 535 [.agg (mtrC w).toArray, pt0 b] [pts b (.cells [.string nm].toArray 9 (0, 0))] (fun _ : Bool => True) (fun r => .bool r) (fun _ => [pts b (.cells [.string nm].toArray 9 (0, 0))]) := by
  refine does_of Tryz.func535 rfl rfl Tryz.ntmps535 rfl eNUM (fun c => ?_)
  by_cases h : w.name = nm
  · (refine go ?_; intros)
    exact q_ret1 rfl rfl true rfl trivial eNT
  · (refine go ?_; intros)
    exact q_ret1 rfl rfl false rfl trivial eNT
set_option maxHeartbeats 1000000 in
theorem py_plain {X : HProp} {v : Value} {k : Nat} {xs : List Value} (hX : Rd X 4 v k xs) (hx : fldOk xs k) (hk : k ≤ 256) : FnDoes Tryz.prog 287 [v] [X] (fun y : PayS × Nat => inK .u64 y.1.sq ∧ y.1.mv = .slice none 0 0) (fun y => .tuple #[.agg (payC y.1).toArray, nat64 y.2]) (fun _ => [X]) := by
  refine does_of Tryz.func287 rfl rfl Tryz.ntmps287 rfl eNUM (fun c => ?_)
  refine wpC_fact (hX.isSlice .head) (fun hs => ?_)
  obtain ⟨a, cap, rfl, ha⟩ := hs
  (refine go ?_; intro c2 c4)
  refine wpC_loop (σ := Nat × PayS) (fun s => s.1 ≤ k ∧ inK .u64 s.2.sq ∧ s.2.mv = .slice none 0 0) (fun s => [(2, pt0 c2), (4, pt0 c4), (9, .slice a k cap), (10, nat64 k), (11, nat64 s.1)]) (fun s => [X, payI c2 pay0, payI c4 s.2]) (fun s => k - s.1) (0, pay0) ⟨Nat.zero_le _, inK0 _, rfl⟩ sUB eNT (fun s hs => ?_)
  obtain ⟨i, tm, hq, sq, uu, bo, mv, mn⟩ := s
  obtain ⟨hi, hsq, rfl⟩ := hs
  try dsimp only at hi hsq ⊢
  unfold pay0
  by_cases hlt : i < k
  · obtain ⟨b, o, rfl, hcap⟩ := ha (by omega)
    obtain ⟨x, y, z, t, hf, hrow⟩ := fld_row hx hlt
    (refine go ?_; intros)
    refine o_evB (ev_load_rd_agg (vs := fldC x y z t) rfl rfl rfl rfl hX pK rfl rfl hrow) ?_
    (refine go ?_; intro c6)
    (show wpO _ _ ⟨_, .call _, _, _, _, _⟩ _ _ _ _ _ _; refine o_callA (py_kind x) (fun ⟨kk, ok⟩ _ => ?_); try simp only [List.cons_append, List.nil_append])
    have key : ok = false ∨ (ok = true ∧ kk = y) ∨ (ok = true ∧ kk ≠ y) := by
      cases ok
      · exact .inl rfl
      · by_cases h : kk = y
        · exact .inr (.inl ⟨rfl, h⟩)
        · exact .inr (.inr ⟨rfl, h⟩)
    rcases key with rfl | ⟨rfl, h⟩ | ⟨rfl, h⟩
    rotate_left 2
    focus
      (refine go ?_; intros)
      exact q_retAT rfl rfl rfl rfl rfl rfl rfl pK (pay0, 4) rfl ⟨inK0 _, rfl⟩ eNT
    all_goals
      by_cases e1 : x = 1
      · (refine go ?_; intros)
        exact q_round (i + 1, ⟨z, hq, sq, uu, bo, .slice none 0 0, mn⟩) ⟨hlt, hsq, rfl⟩ (by show k - (i + 1) < k - i; omega) sUB eNT
      by_cases e3 : x = 3
      · (refine go ?_; intros)
        refine wpC_drawnA [pts c6 (.cells (fldC x y z t).toArray 363 (0, 0))] 5 ?_
        ((first | refine dt 0 ?_ | refine dts 0 ?_); (first | refine dt 1 ?_ | refine dts 1 ?_); (first | refine df 2 ?_ | refine dfs 2 ?_))
        (refine wpD_effU 3 rfl rfl (by decide +kernel) rfl ?_; show OUL _ ⟨_, .store _ _ _, _, _, _, _⟩ _ _ _ _ _)
        refine x_store (by rfl) (by rfl) (by rfl) (by rfl) rfl pK (Upd1.of (by simp)) ⟨eNT, ?_⟩
        ((first | refine df 4 ?_ | refine dfs 4 ?_))
        (refine wpD_lastU rfl rfl (by kernel_rfl) (by kernel_rfl) rfl ?_; show OUL _ ⟨_, .store _ _ _, _, _, _, _⟩ _ _ _ _ _)
        refine x_store (by rfl) (by rfl) (by rfl) (by rfl) rfl pK (Upd1.of (by simp)) ?_
        (refine go ?_; intros)
        exact q_round (i + 1, ⟨tm, true, z, uu, bo, .slice none 0 0, mn⟩) ⟨hlt, hf.2.2.1, rfl⟩ (by show k - (i + 1) < k - i; omega) sUB eNT
      by_cases e4 : x = 4
      · (refine go ?_; intros)
        exact q_round (i + 1, ⟨tm, hq, sq, t, bo, .slice none 0 0, mn⟩) ⟨hlt, hsq, rfl⟩ (by show k - (i + 1) < k - i; omega) sUB eNT
      by_cases e5 : x = 5
      · (refine go ?_; intros)
        exact q_round (i + 1, ⟨tm, hq, sq, uu, t, .slice none 0 0, mn⟩) ⟨hlt, hsq, rfl⟩ (by show k - (i + 1) < k - i; omega) sUB eNT
      · (refine go ?_; intros)
        exact q_round (i + 1, ⟨tm, hq, sq, uu, bo, .slice none 0 0, mn⟩) ⟨hlt, hsq, rfl⟩ (by show k - (i + 1) < k - i; omega) sUB eNT
  · (refine go ?_; intros)
    exact q_retAT rfl rfl rfl rfl rfl rfl rfl pK (⟨tm, hq, sq, uu, bo, .slice none 0 0, mn⟩, 0) rfl ⟨hsq, rfl⟩ eNT
end Go.Proofs.YtnaabpfpldelmaaGreatDoor
set_option linter.unusedSimpArgs false
set_option linter.unusedVariables false
set_option maxRecDepth 20000
namespace Go.Proofs.YtnaabpfpldelmaaGreatDoor
open Go Go.Sx
attribute [local irreducible] MidQ wpE wpO wpC qE wpQ wpQO wpH wpHO wpD wpDO wpZ Ev own emp exI sl ch PostS LoopQ Rd rowsAt
set_option maxHeartbeats 1000000 in
theorem py_of {X : HProp} {v : Value} {l : List UInt8} {G : Rg} (hX : Bs X v l) (hl : l.length ≤ 1000000) (hG : okG G) (hK : knG G) : FnDoes Tryz.prog 222 [v] [rgH G, X]
    (fun y : Rg × PayS × Nat => okG y.1 ∧ grG G y.1 ∧ PayOk y.1 y.2.1) (fun y => .tuple #[.agg (payC y.2.1).toArray, nat64 y.2.2]) (fun y => [rgH y.1, X]) := by
  refine does_of Tryz.func222 rfl rfl Tryz.ntmps222 rfl eNUM (fun c => ?_)
  have hw := wire_of hX hl
  (refine go ?_; intro c2)
  (show wpO _ _ ⟨_, .call _, _, _, _, _⟩ _ _ _ _ _ _; refine o_callA (hw) (fun ⟨e, q, k, xs⟩ hq => ?_); try simp only [List.cons_append, List.nil_append])
  obtain ⟨hq, hk⟩ := hq
  try dsimp only at hq hk ⊢
  by_cases he : e = 0
  · subst he
    have hp := py_plain (X := flI q k xs) (v := q) Rd.ofSl hq hk
    (refine go ?_; intros)
    (show wpO _ _ ⟨_, .call _, _, _, _, _⟩ _ _ _ _ _ _; refine o_callA (hp) (fun ⟨⟨tm, hs, sq, uu, bo, mv, mn⟩, e⟩ hy => ?_); try simp only [List.cons_append, List.nil_append])
    obtain ⟨hsq, rfl⟩ := hy
    try dsimp only at hsq ⊢
    by_cases he : e = 0
    · subst he
      have ha := wire_all (X := flI q k xs) (v := q) Rd.ofSl hq hk 2
      (refine go ?_; intro c6)
      (show wpO _ _ ⟨_, .call _, _, _, _, _⟩ _ _ _ _ _ _; refine o_callA (ha) (fun ⟨_, q2, k2, x2⟩ hq2 => ?_); try simp only [List.cons_append, List.nil_append])
      obtain ⟨hq2, hk2⟩ := hq2
      try dsimp only at hq2 hk2 ⊢
      have hr : Rd (flI q2 k2 x2) 4 q2 k2 x2 := Rd.ofSl
      refine wpE_fact (hr.isSlice pK) (fun hs => ?_)
      obtain ⟨a, cap, rfl, hcp⟩ := hs
      by_cases hbig : k2 > 64
      · (refine go ?_; intros)
        exact q_retAT rfl rfl rfl rfl rfl rfl rfl pK (G, pay0, 6) rfl ⟨hG, Gr.refl _ _, pay0_ok⟩ eNT
      · (refine go ?_; intros)
        refine wpC_loop (σ := Nat × Rg × Value × Nat) (fun s => s.1 ≤ k2 ∧ okG s.2.1 ∧ grG G s.2.1 ∧ slG s.2.1 tMet s.2.2.1 s.2.2.2 ∧ s.2.2.2 ≤ s.1) (fun s => [(2, pt0 c2), (6, pt0 c6), (36, .slice a k2 cap), (37, nat64 k2), (38, nat64 s.1)])
          (fun s => [rgH s.2.1, X, flI (.slice a k2 cap) k2 x2, payI c2 pay0, payI c6 ⟨tm, hs, sq, uu, bo, s.2.2.1, s.2.2.2⟩]) (fun s => k2 - s.1) (0, G, .slice none 0 0, 0) ⟨Nat.zero_le _, hG, Gr.refl _ _, okSl.nil, Nat.le_refl _⟩ sUB eNT (fun s hs => ?_)
        obtain ⟨i, G1, mv, mn⟩ := s
        obtain ⟨hi, hG1, hgr, hmv, hmn⟩ := hs
        try dsimp only at hi hG1 hgr hmv hmn ⊢
        have hmv1 := hmv.one
        unfold pay0
        by_cases hlt : i < k2
        · obtain ⟨b, o, rfl, hcap⟩ := hcp (by omega)
          obtain ⟨x, y, z, t, hf, hrow⟩ := fld_row hq2 hlt
          (refine go ?_; intros)
          refine o_evB (ev_load_rd_agg (vs := fldC x y z t) rfl rfl rfl rfl hr pK rfl rfl hrow) ?_
          (refine go ?_; intro c9)
          refine o_bytesOf rfl rfl rfl rfl rfl (fun bv => ?_)
          have hm := mt_Of (X := bsI bv t.data.toList) Bs.ofBsI (by rw [show t.data.toList.length = t.size from Array.length_toList]; exact hf.2.2.2) hG1 (hK.up hgr)
          (refine go ?_; intros)
          (show wpO _ _ ⟨_, .call _, _, _, _, _⟩ _ _ _ _ _ _; refine o_callA (hm) (fun ⟨G2, w, e⟩ hy => ?_); try simp only [List.cons_append, List.nil_append])
          obtain ⟨z1, z2, z3⟩ := hy
          try dsimp only at z1 z2 z3 ⊢
          have o3 := z3.c3
          have o4 := z3.c4
          have o5 := z3.c5
          have o6 := z3.c6
          have o8 := z3.c8
          have o9 := z3.c9
          have o12 := z3.c12
          have o13 := z3.c13
          have o14 := z3.c14
          by_cases he : e = 0
          · subst he
            (refine go ?_; intro c10 bb)
            refine o_appendR (S := shp) (m := 1) (news := mtrC w) z1 (hmv.mono z2.le) ((mtr_rows z3).mono le0) ?_ (fun v' ρ' H' w1 w2 w3 => ?_) (src_pts rfl pK rfl rfl (mtr_rows z3).allOne)
            · show (mn + 1) * 176 ≤ 140737488355328
              omega
            have hv1 := w3.one
            (refine go ?_; intros)
            exact q_round (i + 1, (ρ', H'), v', mn + 1) ⟨hlt, w1, hgr.trans (z2.trans w2), w3, by dsimp only; omega⟩ (by show k2 - (i + 1) < k2 - i; omega) sUB eNT
          · have he' : (e : Int) ≠ 0 := by omega
            (refine go ?_; intros)
            exact q_retAT rfl rfl rfl rfl rfl rfl rfl pK (G2, pay0, e) rfl ⟨z1, hgr.trans z2, pay0_ok⟩ eNT
        · (refine go ?_; intros)
          exact q_retAT rfl rfl rfl rfl rfl rfl rfl pK (G1, ⟨tm, hs, sq, uu, bo, mv, mn⟩, 0) rfl ⟨hG1, hgr, hsq, hmv, by dsimp only; omega⟩ eNT
    · have he' : (e : Int) ≠ 0 := by omega
      (refine go ?_; intros)
      exact q_retAT rfl rfl rfl rfl rfl rfl rfl pK (G, pay0, e) rfl ⟨hG, Gr.refl _ _, pay0_ok⟩ eNT
  · have he' : (e : Int) ≠ 0 := by omega
    (refine go ?_; intros)
    exact q_retAT rfl rfl rfl rfl rfl rfl rfl pK (G, pay0, e) rfl ⟨hG, Gr.refl _ _, pay0_ok⟩ eNT
set_option maxHeartbeats 1000000 in
theorem py_first {G : Rg} (hG : okG G) {v : Value} {k : Nat} (hv : slG G tMet v k) (hk : k ≤ 64) {f : FuncId} {fr : List Value} {A : HProp} (fn : ∀ w, FnDoes Tryz.prog f (.agg (mtrC w).toArray :: fr) [A] (fun _ : Bool => True) (fun r => .bool r) (fun _ => [A])) :
    FnDoes Tryz.prog 534 [v, .func (.func f) #[] fr.toArray] [rgH G, A] (fun y : MtkS × Bool => MtrOk y.1) (fun y => .tuple #[.agg (mtrC y.1).toArray, .bool y.2]) (fun _ => [rgH G, A]) := by
  refine does_of Tryz.func534 rfl rfl Tryz.ntmps534 rfl eNUM (fun c => ?_)
  obtain ⟨a, cap, rfl, hc⟩ := hv.isSlice
  (refine go ?_; intro c4)
  refine wpC_loop (σ := Nat) (fun i => i ≤ k) (fun i => [(1, .func (.func f) #[] fr.toArray), (4, pt0 c4), (9, .slice a k cap), (10, nat64 k), (11, nat64 i)]) (fun _ => [rgH G, A, pts c4 (.cells (mtrC mtk0).toArray 302 (0, 0))]) (fun i => k - i) 0 (Nat.zero_le _) sUB eNT (fun i hi => ?_)
  unfold mtk0
  by_cases hlt : i < k
  · obtain ⟨b, o, w, rfl, hw, hcell⟩ := met_get hG hv hlt
    have o3 := hw.c3
    have o4 := hw.c4
    have o5 := hw.c5
    have o6 := hw.c6
    have o8 := hw.c8
    have o9 := hw.c9
    have o12 := hw.c12
    have o13 := hw.c13
    have o14 := hw.c14
    (refine go ?_; intros)
    refine o_evB (ev_indexS 15 (i := i) rfl rfl rfl rfl rfl rfl hlt) ?_
    (refine go ?_; intro c7)
    refine o_callVA (args := [.agg (mtrC w).toArray]) (fr := fr) (fn w) (fun r _ => ?_)
    simp only [List.cons_append, List.nil_append]
    cases r with
    | true =>
      (refine go ?_; intros)
      exact q_retAT rfl rfl rfl rfl rfl rfl rfl pK (w, true) rfl hw eNT
    | false =>
      (refine go ?_; intros)
      exact q_round (i + 1) hlt (by show k - (i + 1) < k - i; omega) sUB eNT
  · (refine go ?_; intro c8)
    exact q_retAT rfl rfl rfl rfl rfl rfl rfl pK (mtk0, false) rfl mtk0_ok.row eNT
theorem py_find {G : Rg} (hG : okG G) (s : PayS) (hs : PayOk G s) (nm : ByteArray) : FnDoes Tryz.prog 494 [.agg (payC s).toArray, .string nm] [rgH G] (fun y : MtkS × Bool => MtrOk y.1) (fun y => .tuple #[.agg (mtrC y.1).toArray, .bool y.2]) (fun _ => [rgH G]) := by
  have hm := hs.mv.one
  obtain ⟨tm, hq, sq, uu, bo, mv, mn⟩ := s
  obtain ⟨h1, h2, h3⟩ := hs
  try dsimp only at h1 h2 h3 hm ⊢
  refine does_of Tryz.func494 rfl rfl Tryz.ntmps494 rfl eNUM (fun c => ?_)
  (refine go ?_; intro c2 c3 c4)
  refine o_evB (ev_makeFunc (vb := []) (vf := [pt0 c3]) rfl rfl) ?_
  have hf := py_first (A := pts c3 (.cells [.string nm].toArray 9 (0, 0))) (fr := [pt0 c3]) hG h2 h3 (fun w => py_find1 w c3 nm)
  (refine go ?_; intros)
  (show wpO _ _ ⟨_, .call _, _, _, _, _⟩ _ _ _ _ _ _; refine o_callA (hf) (fun ⟨w, r⟩ hw => ?_); try simp only [List.cons_append, List.nil_append])
  try dsimp only at hw ⊢
  have o3 := hw.c3
  have o4 := hw.c4
  have o5 := hw.c5
  have o6 := hw.c6
  have o8 := hw.c8
  have o9 := hw.c9
  have o12 := hw.c12
  have o13 := hw.c13
  have o14 := hw.c14
  (refine go ?_; intros)
  exact q_retAT rfl rfl rfl rfl rfl rfl rfl pK (w, r) rfl hw eNT
theorem py_bd {G : Rg} (hG : okG G) (s : PayS) (hs : PayOk G s) : FnDoes Tryz.prog 447 [.agg (payC s).toArray] [rgH G] (fun y : Nat × Bool => y.1 ≤ 255) (fun y => .tuple #[nat64 y.1, .bool y.2]) (fun _ => [rgH G]) := by
  have hm := hs.mv.one
  have hf := fun nm => py_find hG s hs nm
  obtain ⟨tm, hq, sq, uu, bo, mv, mn⟩ := s
  try dsimp only at hm hf ⊢
  refine does_of Tryz.func447 rfl rfl Tryz.ntmps447 rfl eNUM (fun c => ?_)
  (refine go ?_; intros)
  (show wpO _ _ ⟨_, .call _, _, _, _, _⟩ _ _ _ _ _ _; refine o_callA (hf _) (fun ⟨w, r⟩ hw => ?_); try simp only [List.cons_append, List.nil_append])
  try dsimp only at hw ⊢
  have o3 := hw.c3
  have o4 := hw.c4
  have o5 := hw.c5
  have o6 := hw.c6
  have o8 := hw.c8
  have o9 := hw.c9
  have o12 := hw.c12
  have o13 := hw.c13
  have o14 := hw.c14
  have hvn := hw.vn
  obtain ⟨n0, a1, a2, c3, c4, c5, c6, u7, c8, c9, k10, n11, c12, c13, c14, t15, d16, t17, t18⟩ := w
  try dsimp only at o3 o4 o5 o6 o8 o9 o12 o13 o14 hvn ⊢
  cases r
  · (refine go ?_; intros)
    exact q_ret2 rfl rfl rfl (0, false) rfl (Nat.zero_le _) eNT
  · cases u7
    · by_cases k1 : k10 = 1
      · (refine go ?_; intros)
        (show wpO _ _ ⟨_, .call _, _, _, _, _⟩ _ _ _ _ _ _; refine o_callA (py_small n11 hvn) (fun y hy => ?_); try simp only [List.cons_append, List.nil_append])
        (refine go ?_; intros)
        exact q_ret2 rfl rfl rfl y rfl hy eNT
      by_cases k2 : k10 = 2
      · (refine go ?_; intros)
        (show wpO _ _ ⟨_, .call _, _, _, _, _⟩ _ _ _ _ _ _; refine o_callA (py_small n11 hvn) (fun y hy => ?_); try simp only [List.cons_append, List.nil_append])
        (refine go ?_; intros)
        exact q_ret2 rfl rfl rfl y rfl hy eNT
      · (refine go ?_; intros)
        exact q_ret2 rfl rfl rfl (0, false) rfl (Nat.zero_le _) eNT
    · (refine go ?_; intros)
      exact q_ret2 rfl rfl rfl (0, false) rfl (Nat.zero_le _) eNT
end Go.Proofs.YtnaabpfpldelmaaGreatDoor
set_option linter.unusedSimpArgs false
set_option linter.unusedVariables false
set_option maxRecDepth 20000
namespace Go.Proofs.YtnaabpfpldelmaaGreatDoor
open Go Go.Sx
abbrev tItm : TypeId := 669
theorem shp_item : shp 669 = [.str, .bool, .int .u64, .one, .one, .one, .one, .one] := by kernel_rfl
structure ItmS where
  nm : ByteArray
  ha : Bool
  al : Int
  c3 : Value
  c4 : Value
  c5 : Value
  c6 : Value
  c7 : Value
structure ItmOk (s : ItmS) : Prop where
  nm : s.nm.size ≤ 65536
  al : inK .u64 s.al
  c3 : s.c3.oneCell' = true
  c4 : s.c4.oneCell' = true
  c5 : s.c5.oneCell' = true
  c6 : s.c6.oneCell' = true
  c7 : s.c7.oneCell' = true
abbrev itmC (s : ItmS) : List Value := [.string s.nm, .bool s.ha, .int .u64 s.al, s.c3, s.c4, s.c5, s.c6, s.c7]
theorem itm_rows {w : ItmS} (h : ItmOk w) : okRows shp ρ0 tItm (itmC w) 1 := okRows.one (by
  rw [shp_item]; exact ⟨⟨_, rfl, h.nm⟩, ⟨_, rfl⟩, ⟨_, rfl, h.al⟩, h.c3, h.c4, h.c5, h.c6, h.c7, trivial⟩)
theorem itm_get {G : Rg} {a : Option Addr} {len cap m i : Nat} (h : okG G) (hs : slG G tItm (.slice a len cap) m) (hi : i < len) : ∃ b o w, a = some ⟨b, o, none⟩ ∧ ItmOk w ∧ ∀ j u, (itmC w)[j]? = some u → G.2.cell? ⟨b, o + i * 8 + j, none⟩ = some u := by
  obtain ⟨b, o, vs, h1, h2, h3⟩ := wt_get h hs hi shp_item
  obtain ⟨_, _, rfl, ⟨n0, rfl, o0⟩, k1⟩ := okR_cons h2
  obtain ⟨_, _, rfl, ⟨a1, rfl⟩, k2⟩ := okR_cons k1
  obtain ⟨_, _, rfl, ⟨a2, rfl, o2⟩, k3⟩ := okR_cons k2
  obtain ⟨a3, a4, a5, a6, a7, rfl, o3, o4, o5, o6, o7⟩ := ones5 k3
  exact ⟨b, o, ⟨n0, a1, a2, a3, a4, a5, a6, a7⟩, h1, ⟨o0, o2, o3, o4, o5, o6, o7⟩, h3⟩
attribute [local irreducible] MidQ wpE wpO wpC qE wpQ wpQO wpH wpHO wpD wpDO wpZ Ev own emp exI sl ch PostS LoopQ Rd rowsAt
theorem it_plain (k n : Int) (s : Value) (hs : s.oneCell' = true) : FnDoes Tryz.prog 542 [.agg [.int .i64 k, .int .u64 n, s].toArray] [] (fun y : Value × Value × Value => y.1.oneCell' = true ∧ y.2.1.oneCell' = true ∧ y.2.2.oneCell' = true ∧ y.1.cells = [y.1].toArray ∧ y.2.1.cells = [y.2.1].toArray ∧ y.2.2.cells = [y.2.2].toArray) (fun y => .agg [y.1, y.2.1, y.2.2].toArray) (fun _ => []) := by
  have hsc : s.cells = [s].toArray := by cases s <;> first | rfl | cases hs
  refine does_of Tryz.func542 rfl rfl Tryz.ntmps542 rfl eNUM (fun c => ?_)
  by_cases e8 : k = 8
  · (refine go ?_; intros)
    exact q_retCell rfl rfl rfl rfl rfl pK rfl (_, _, _) rfl ⟨rfl, rfl, rfl, rfl, rfl, rfl⟩ eNT
  by_cases e9 : k = 9
  · (refine go ?_; intros)
    exact q_retCell rfl rfl rfl rfl rfl pK rfl (_, _, _) rfl ⟨rfl, rfl, rfl, rfl, rfl, rfl⟩ eNT
  · (refine go ?_; intros)
    exact q_retCell rfl rfl rfl rfl rfl pK rfl (.int .i64 k, .int .u64 n, s) rfl ⟨rfl, rfl, hs, rfl, rfl, hsc⟩ eNT
set_option maxHeartbeats 1000000 in
theorem it_of (w : MtkS) (hw : MtrOk w) : FnDoes Tryz.prog 538 [.agg (mtrC w).toArray] [] ItmOk (fun y => .agg (itmC y).toArray) (fun _ => []) := by
  obtain ⟨n0, a1, a2, c3, c4, c5, c6, u7, c8, c9, k10, n11, c12, c13, c14, t15, d16, t17, t18⟩ := w
  obtain ⟨o0, o2, o3, o4, o5, o6, o8, o9, o11, o12, o13, o14⟩ := hw
  try dsimp only at o0 o2 o3 o4 o5 o6 o8 o9 o11 o12 o13 o14 ⊢
  have q4 : c4.cells = [c4].toArray := by revert o4; cases c4 <;> intro o4 <;> first | rfl | cases o4
  refine does_of Tryz.func538 rfl rfl Tryz.ntmps538 rfl eNUM (fun c => ?_)
  (refine go ?_; intro b c2)
  refine wpC_drawnA [pts b (.cells (mtrC ⟨n0, a1, a2, c3, c4, c5, c6, u7, c8, c9, k10, n11, c12, c13, c14, t15, d16, t17, t18⟩).toArray 302 (0, 0))] 14 ?_
  ((first | refine dt 0 ?_ | refine dts 0 ?_); (first | refine dt 1 ?_ | refine dts 1 ?_); (first | refine dt 2 ?_ | refine dts 2 ?_); (first | refine dt 3 ?_ | refine dts 3 ?_); (first | refine dt 4 ?_ | refine dts 4 ?_); (first | refine dt 5 ?_ | refine dts 5 ?_); (first | refine dt 6 ?_ | refine dts 6 ?_); (first | refine dt 7 ?_ | refine dts 7 ?_); (first | refine dt 8 ?_ | refine dts 8 ?_); (first | refine dt 9 ?_ | refine dts 9 ?_); (first | refine df 10 ?_ | refine dfs 10 ?_); (first | refine df 11 ?_ | refine dfs 11 ?_))
  refine dcall 12 (it_plain k10 n11 c12 o12) (fun y hy => ?_)
  obtain ⟨y0, y1, y2⟩ := y
  obtain ⟨u0, u1, u2, v0, v1, v2⟩ := hy
  try dsimp only at u0 u1 u2 v0 v1 v2 ⊢
  simp only [List.cons_append, List.nil_append]
  refine dfB 13 rfl (ev_build (r := [.string n0, .bool a1, .int .u64 a2, c4, .bool u7, y0, y1, y2]) (qs := [(0, [.string n0]), (1, [.bool a1]), (2, [.int .u64 a2]), (3, [c4]), (4, [.bool u7]), (5, [y0, y1, y2])]) rfl rfl rfl rfl rfl (by show some [(0, [Value.string n0]), (1, [Value.bool a1]), (2, [Value.int .u64 a2]), (3, c4.cells.toList), (4, [Value.bool u7]), (5, [y0, y1, y2])] = _; rw [q4]) rfl) ?_
  (refine wpD_lastU rfl rfl (by kernel_rfl) (by kernel_rfl) rfl ?_; show OUL _ ⟨_, .store _ _ _, _, _, _, _⟩ _ _ _ _ _)
  refine x_storeP (vs := [.string n0, .bool a1, .int .u64 a2, c4, .bool u7, y0, y1, y2]) (by rfl) (by rfl) (by rfl) (by rfl) (by rfl) (by simp [u0, u1, u2, oc_str, oc_bool, oc_int, oc_slice, oc_ptr, oc_map, oc_chan, oc_func, oc_iface, o4]) pK (by simp) rfl ?_
  (refine go ?_; intros)
  exact q_retCell (l := [.string n0, .bool a1, .int .u64 a2, c4, .bool u7, y0, y1, y2]) rfl rfl rfl rfl rfl pK rfl (⟨n0, a1, a2, c4, .bool u7, y0, y1, y2⟩ : ItmS) rfl ⟨o0, o2, o4, rfl, u0, u1, u2⟩ eNT
theorem it_place1 (w : ItmS) (hw : ItmOk w) (b : Nat) (nm : ByteArray) : FnDoes Tryz.prog 550 [.agg (itmC w).toArray, pt0 b] [pts b (.cells [.string nm].toArray 9 (0, 0))] (fun _ : Bool => True) (fun r => .bool r) (fun _ => [pts b (.cells [.string nm].toArray 9 (0, 0))]) := by
  have o3 := hw.c3
  have o4 := hw.c4
  have o5 := hw.c5
  have o6 := hw.c6
  have o7 := hw.c7
  refine does_of Tryz.func550 rfl rfl Tryz.ntmps550 rfl eNUM (fun c => ?_)
  by_cases h : w.nm = nm
  · (refine go ?_; intros)
    exact q_ret1 rfl rfl true rfl trivial eNT
  · (refine go ?_; intros)
    exact q_ret1 rfl rfl false rfl trivial eNT
end Go.Proofs.YtnaabpfpldelmaaGreatDoor
set_option linter.unusedSimpArgs false
set_option linter.unusedVariables false
set_option maxRecDepth 20000
namespace Go.Proofs.YtnaabpfpldelmaaGreatDoor
open Go Go.Sx
attribute [local irreducible] MidQ wpE wpO wpC qE wpQ wpQO wpH wpHO wpD wpDO wpZ Ev own emp exI sl ch PostS LoopQ Rd rowsAt
theorem it_index {G : Rg} (hG : okG G) {v : Value} {k : Nat} (hv : slG G tItm v k) (hk : k ≤ 64) {f : FuncId} {fr : List Value} {A : HProp} (fn : ∀ w, ItmOk w → FnDoes Tryz.prog f (.agg (itmC w).toArray :: fr) [A] (fun _ : Bool => True) (fun r => .bool r) (fun _ => [A])) :
    FnDoes Tryz.prog 549 [v, .func (.func f) #[] fr.toArray] [rgH G, A] (fun y : Int => -1 ≤ y ∧ y ≤ 64) (fun y => .int .i64 y) (fun _ => [rgH G, A]) := by
  refine does_of Tryz.func549 rfl rfl Tryz.ntmps549 rfl eNUM (fun c => ?_)
  obtain ⟨a, cap, rfl, hc⟩ := hv.isSlice
  (refine go ?_; intros)
  refine wpC_loop (σ := Nat) (fun i => i ≤ k) (fun i => [(0, .slice a k cap), (1, .func (.func f) #[] fr.toArray), (7, nat64 k), (8, nat64 i)]) (fun _ => [rgH G, A]) (fun i => k - i) 0 (Nat.zero_le _) sUB eNT (fun i hi => ?_)
  by_cases hlt : i < k
  · obtain ⟨b, o, w, rfl, hw, hcell⟩ := itm_get hG hv hlt
    have o3 := hw.c3
    have o4 := hw.c4
    have o5 := hw.c5
    have o6 := hw.c6
    have o7 := hw.c7
    (refine go ?_; intros)
    refine o_callVA (args := [.agg (itmC w).toArray]) (fr := fr) (fn w hw) (fun r _ => ?_)
    simp only [List.cons_append, List.nil_append]
    cases r with
    | true =>
      (refine go ?_; intros)
      exact q_ret1 rfl rfl (i : Int) rfl ⟨by omega, by omega⟩ eNT
    | false =>
      (refine go ?_; intros)
      exact q_round (i + 1) hlt (by show k - (i + 1) < k - i; omega) sUB eNT
  · (refine go ?_; intros)
    exact q_ret1 rfl rfl (-1) rfl ⟨by omega, by omega⟩ eNT
theorem it_place {G : Rg} (hG : okG G) {v : Value} {k : Nat} (hv : slG G tItm v k) (hk : k ≤ 64) (nm : ByteArray) (b : Nat) :
    FnDoes Tryz.prog 537 [.string nm, .slice (some ⟨b, 0, none⟩) 1 1] [rgH G, pts b (.cells [v].toArray 432 (0, 0))] (fun y : Int => -1 ≤ y ∧ y ≤ 64) (fun y => .int .i64 y) (fun _ => [rgH G]) := by
  have hv1 := hv.one
  refine does_of Tryz.func537 rfl rfl Tryz.ntmps537 rfl eNUM (fun c => ?_)
  (refine go ?_; intro c2)
  refine wpC_loop (σ := Nat × Int) (fun s => s.1 ≤ 1 ∧ (s.1 = 0 → s.2 = 0)) (fun s => [(2, pt0 c2), (5, .int .i64 s.2), (9, .slice (some ⟨b, 0, none⟩) 1 1), (10, nat64 1), (11, nat64 s.1)]) (fun _ => [rgH G, pts b (.cells [v].toArray 432 (0, 0)), pts c2 (.cells [.string nm].toArray 9 (0, 0))]) (fun s => 1 - s.1) (0, 0) ⟨Nat.zero_le _, fun _ => rfl⟩ sUB eNT (fun s hi => ?_)
  obtain ⟨i, z⟩ := s
  obtain ⟨hi, hz⟩ := hi
  try dsimp only at hi hz ⊢
  by_cases hlt : i < 1
  · obtain rfl : i = 0 := by omega
    obtain rfl := hz rfl
    have hf := it_index (A := pts c2 (.cells [.string nm].toArray 9 (0, 0))) (fr := [pt0 c2]) hG hv hk (fun w hw => it_place1 w hw c2 nm)
    obtain ⟨a, cap, rfl, hc⟩ := hv.isSlice
    (refine go ?_; intros)
    refine o_evB (ev_makeFunc (vb := []) (vf := [pt0 c2]) rfl rfl) ?_
    (refine go ?_; intros)
    (show wpO _ _ ⟨_, .call _, _, _, _, _⟩ _ _ _ _ _ _; refine o_callA (hf) (fun y hy => ?_); try simp only [List.cons_append, List.nil_append])
    by_cases h0 : y ≥ 0
    · (refine go ?_; intros)
      exact q_ret1 rfl rfl (0 + y) rfl ⟨by omega, by omega⟩ eNT
    · (refine go ?_; intros)
      exact q_round (1, 0 + (k : Int)) ⟨Nat.le_refl _, fun h => by cases h⟩ (by show 1 - 1 < 1 - 0; decide) sUB eNT
  · (refine go ?_; intros)
    exact q_ret1 rfl rfl (-1) rfl ⟨by omega, by omega⟩ eNT
abbrev tRef : TypeId := 691
def refV : Option (Nat × Int) → Value
  | none => .nilIface
  | some p => .iface tRef (pt0 p.1)
def refL : Option (Nat × Int) → List HProp
  | none => []
  | some p => [pts p.1 (.cells [.int .i64 p.2].toArray 694 (0, 0))]
theorem it_refuse (k : Int) : FnDoes Tryz.prog 536 [.int .i64 k] [] (fun _ : Nat => True) (fun b => refV (some (b, k))) (fun b => refL (some (b, k))) := by
  refine does_of Tryz.func536 rfl rfl Tryz.ntmps536 rfl eNUM (fun c => ?_)
  (refine go ?_; intro b)
  exact q_ret1 rfl rfl b rfl trivial eNT
set_option maxHeartbeats 1000000 in
theorem it_born {G : Rg} (hG : okG G) {v : Value} {k : Nat} (hv : slG G tMet v k) (hk : k ≤ 64) : FnDoes Tryz.prog 496 [v] [rgH G]
    (fun y : Rg × Value × Nat × Option (Nat × Int) => okG y.1 ∧ grG G y.1 ∧ slG y.1 tItm y.2.1 y.2.2.1 ∧ y.2.2.1 ≤ 32 ∧ y.2.1.oneCell' = true) (fun y => .tuple #[y.2.1, refV y.2.2.2]) (fun y => rgH y.1 :: refL y.2.2.2) := by
  refine does_of Tryz.func496 rfl rfl Tryz.ntmps496 rfl eNUM (fun c => ?_)
  obtain ⟨a, cap, rfl, hc⟩ := hv.isSlice
  by_cases hbig : k > 32
  · (refine go ?_; intros)
    (show wpO _ _ ⟨_, .call _, _, _, _, _⟩ _ _ _ _ _ _; refine o_callA (it_refuse 8) (fun e _ => ?_); try simp only [List.cons_append, List.nil_append])
    (refine go ?_; intros)
    exact q_ret2 rfl rfl rfl (G, .slice none 0 0, 0, some (e, 8)) rfl ⟨hG, Gr.refl _ _, okSl.nil, Nat.zero_le _, rfl⟩ eNT
  · (refine go ?_; intros)
    refine wpC_loop (σ := Nat × Rg × Value × Nat) (fun s => s.1 ≤ k ∧ okG s.2.1 ∧ grG G s.2.1 ∧ slG s.2.1 tItm s.2.2.1 s.2.2.2 ∧ s.2.2.2 ≤ s.1) (fun s => [(4, s.2.2.1), (11, .slice a k cap), (12, nat64 k), (13, nat64 s.1)]) (fun s => [rgH s.2.1]) (fun s => k - s.1) (0, G, .slice none 0 0, 0) ⟨Nat.zero_le _, hG, Gr.refl _ _, okSl.nil, Nat.le_refl _⟩ sUB eNT (fun s hs => ?_)
    obtain ⟨i, G1, iv, m⟩ := s
    obtain ⟨hi, hG1, hgr, hiv, hm⟩ := hs
    try dsimp only at hi hG1 hgr hiv hm ⊢
    have hiv1 := hiv.one
    by_cases hlt : i < k
    · obtain ⟨b, o, w, rfl, hw, hcell⟩ := met_get hG1 (hv.mono hgr.le) hlt
      have o3 := hw.c3
      have o4 := hw.c4
      have o5 := hw.c5
      have o6 := hw.c6
      have o8 := hw.c8
      have o9 := hw.c9
      have o12 := hw.c12
      have o13 := hw.c13
      have o14 := hw.c14
      have hof := it_of w hw
      have hpl := fun b2 => it_place hG1 hiv (by omega) w.name b2
      (refine go ?_; intros)
      refine o_evB (ev_indexS 15 (i := i) rfl rfl rfl rfl rfl rfl hlt) ?_
      by_cases hn : w.name = (⟨#[]⟩ : ByteArray)
      · (refine go ?_; intro c6)
        (show wpO _ _ ⟨_, .call _, _, _, _, _⟩ _ _ _ _ _ _; refine o_callA (it_refuse 7) (fun e _ => ?_); try simp only [List.cons_append, List.nil_append])
        (refine go ?_; intros)
        exact q_ret2 rfl rfl rfl (G1, .slice none 0 0, 0, some (e, 7)) rfl ⟨hG1, hgr, okSl.nil, Nat.zero_le _, rfl⟩ eNT
      · obtain ⟨ia, icap, rfl, _⟩ := hiv.isSlice
        (refine go ?_; intro c6 b2)
        (show wpO _ _ ⟨_, .call _, _, _, _, _⟩ _ _ _ _ _ _; refine o_callA (hpl b2) (fun p hp => ?_); try simp only [List.cons_append, List.nil_append])
        by_cases hp0 : p ≥ 0
        · (refine go ?_; intros)
          (show wpO _ _ ⟨_, .call _, _, _, _, _⟩ _ _ _ _ _ _; refine o_callA (it_refuse 10) (fun e _ => ?_); try simp only [List.cons_append, List.nil_append])
          (refine go ?_; intros)
          exact q_ret2 rfl rfl rfl (G1, .slice none 0 0, 0, some (e, 10)) rfl ⟨hG1, hgr, okSl.nil, Nat.zero_le _, rfl⟩ eNT
        · (refine go ?_; intros)
          (show wpO _ _ ⟨_, .call _, _, _, _, _⟩ _ _ _ _ _ _; refine o_callA (hof) (fun u hu => ?_); try simp only [List.cons_append, List.nil_append])
          have p3 := hu.c3
          have p4 := hu.c4
          have p5 := hu.c5
          have p6 := hu.c6
          have p7 := hu.c7
          (refine go ?_; intro bb)
          refine o_appendR (S := shp) (m := 1) (news := itmC u) hG1 hiv ((itm_rows hu).mono le0) ?_ (fun v' ρ' H' w1 w2 w3 => ?_) (src_pts rfl pK rfl rfl (itm_rows hu).allOne)
          · have hb : Tryz.prog.types[tItm].bytes ≤ 1000 := by decide +kernel
            have := Nat.mul_le_mul (show m + 1 ≤ 64 by omega) hb
            omega
          have hv1 := w3.one
          (refine go ?_; intros)
          exact q_round (i + 1, (ρ', H'), v', m + 1) ⟨hlt, w1, hgr.trans w2, w3, by dsimp only; omega⟩ (by show k - (i + 1) < k - i; omega) sUB eNT
    · (refine go ?_; intros)
      exact q_ret2 rfl rfl rfl (G1, iv, m, none) rfl ⟨hG1, hgr, hiv, by show m ≤ 32; omega, hiv1⟩ eNT
end Go.Proofs.YtnaabpfpldelmaaGreatDoor
