/-
  What is told of a metric, read: the whole of it.
  Tables of values: read.
-/
import Derived.Test.YtnaabpfpldelmaaGreatDoorM16
set_option linter.unusedSimpArgs false
set_option linter.unusedVariables false
set_option maxRecDepth 20000
namespace Go.Proofs.YtnaabpfpldelmaaGreatDoor
open Go Go.Sx
def metaZ : List Value := [.bool false, .string ⟨#[]⟩, .int .u64 0, .int .u64 0, .string ⟨#[]⟩, .string ⟨#[]⟩, .string ⟨#[]⟩, .string ⟨#[]⟩]
theorem metaZ_ok : okRows shp ρ0 734 metaZ 1 := okRows.one (by rw [shp_meta]; exact okZ rfl)
theorem met_rows {C : List Value} (h : MetOk C) : okRows shp ρ0 734 C 1 := by
  obtain ⟨a, b, c, d, e, f, g, i, rfl⟩ := h.eight
  have h2 := h.2
  simp only [List.all_cons, List.all_nil, Bool.and_true, Bool.and_eq_true] at h2
  exact okRows.one (by rw [shp_meta]; exact ⟨h2.1, h2.2.1, h2.2.2.1, h2.2.2.2.1, h2.2.2.2.2.1, h2.2.2.2.2.2.1, h2.2.2.2.2.2.2.1, h2.2.2.2.2.2.2.2, trivial⟩)
attribute [local irreducible] MidQ wpE wpO wpC qE wpQ wpQO wpH wpHO wpD wpDO wpZ Ev own emp exI sl ch PostS LoopQ Rd rowsAt
set_option maxHeartbeats 4000000 in
theorem me_of {X : HProp} {v : Value} {l : List UInt8} (hX : Bs X v l) (hl : l.length ≤ 1000000) : FnDoes Tryz.prog 663 [v] [X] (fun y : List Value × Nat => okRows shp ρ0 734 y.1 1) (fun y => .tuple #[.agg y.1.toArray, nat64 y.2]) (fun _ => [X]) := by
  refine does_of Tryz.func663 rfl rfl Tryz.ntmps663 rfl eNUM (fun c => ?_)
  have hw := wire_of hX hl
  (refine go ?_; intro c2)
  (show wpO _ _ ⟨_, .call _, _, _, _, _⟩ _ _ _ _ _ _; refine o_callA (hw) (fun ⟨e, q, k, xs⟩ hq => ?_); try simp only [List.cons_append, List.nil_append])
  obtain ⟨hq, hk⟩ := hq
  try dsimp only at hq hk ⊢
  by_cases he : e = 0
  · subst he
    have hr : Rd (flI q k xs) 4 q k xs := Rd.ofSl
    refine wpE_fact (hr.isSlice pK) (fun hs => ?_)
    obtain ⟨a0, cap, rfl, ha⟩ := hs
    (refine go ?_; intro c6)
    (show wpO _ _ ⟨_, .call _, _, _, _, _⟩ _ _ _ _ _ _; refine o_callA (me_parts c6) (fun P _ => ?_); try simp only [List.cons_append, List.nil_append])
    (refine go ?_; intros)
    refine wpC_loop (σ := Nat × List Value) (fun s => s.1 ≤ k ∧ MetOk s.2) (fun s => [(2, pt0 c2), (6, pt0 c6), (7, .slice (some ⟨P.p, 0, none⟩) 8 8), (22, .slice a0 k cap), (23, nat64 k), (24, nat64 s.1)]) (fun s => [X, flI (.slice a0 k cap) k xs, metI c6 s.2] ++ prtI c6 P ++ [pts c2 (.cells metaZ.toArray 734 (0, 0))]) (fun s => k - s.1)
      (0, metaZ) ⟨Nat.zero_le _, rfl, rfl⟩ sUB eNT (fun s hs => ?_)
    obtain ⟨i, C⟩ := s
    obtain ⟨hi, hC⟩ := hs
    try dsimp only at hi hC ⊢
    simp only [List.cons_append, List.nil_append]
    by_cases hlt : i < k
    · obtain ⟨b, o, rfl, hcap⟩ := ha (by omega)
      obtain ⟨x, y, z, t, hf, hrow⟩ := fld_row hq hlt
      by_cases hbig : x > 8
      · (refine go ?_; intros)
        refine o_evB (ev_load_rd_agg (vs := fldC x y z t) rfl rfl rfl rfl hr pK rfl rfl hrow) ?_
        (refine go ?_; intros)
        exact q_round (i + 1, C) ⟨hlt, hC⟩ (by show k - (i + 1) < k - i; omega) sUB eNT
      · have hx8 : x = 1 ∨ x = 2 ∨ x = 3 ∨ x = 4 ∨ x = 5 ∨ x = 6 ∨ x = 7 ∨ x = 8 := by have := hf.1; omega
        rcases hx8 with rfl | rfl | rfl | rfl | rfl | rfl | rfl | rfl
        · (refine go ?_; intros)
          refine o_evB (ev_load_rd_agg (vs := fldC 1 y z t) rfl rfl rfl rfl hr pK rfl rfl hrow) ?_
          (refine go ?_; intro c9)
          refine o_evB (ev_indexS 4 (i := 0) rfl rfl rfl rfl rfl rfl (by decide)) ?_
          refine g_none rfl ?_
          refine o_evB (ev_load_agg (vs := flgC 1 P.a) rfl rfl rfl rfl pK rfl rfl) ?_
          by_cases hy : y = 0
          · (refine go ?_; intro c10)
            refine o_callVA (args := [.agg (fldC 1 y z t).toArray]) (fr := [pt0 P.a]) (me_flag2 P.a c6 0 C hC (by decide) 1 y z t) (fun w hw => ?_)
            simp only [List.cons_append, List.nil_append]
            obtain ⟨C', e⟩ := w
            try dsimp only at hw ⊢
            by_cases he : e = 0
            · subst he
              (refine go ?_; intros)
              exact q_round (i + 1, C') ⟨hlt, hw⟩ (by show k - (i + 1) < k - i; omega) sUB eNT
            · have he' : (e : Int) ≠ 0 := by omega
              unfold metaZ
              (refine go ?_; intros)
              exact q_retAT rfl rfl rfl rfl rfl rfl rfl pK (metaZ, e) rfl metaZ_ok eNT
          · unfold metaZ
            (refine go ?_; intros)
            exact q_retAT rfl rfl rfl rfl rfl rfl rfl pK (metaZ, 4) rfl metaZ_ok eNT
        · (refine go ?_; intros)
          refine o_evB (ev_load_rd_agg (vs := fldC 2 y z t) rfl rfl rfl rfl hr pK rfl rfl hrow) ?_
          (refine go ?_; intro c9)
          refine o_evB (ev_indexS 4 (i := 1) rfl rfl rfl rfl rfl rfl (by decide)) ?_
          refine g_none rfl ?_
          refine o_evB (ev_load_agg (vs := txtC 2 P.b) rfl rfl rfl rfl pK rfl rfl) ?_
          by_cases hy : y = 2
          · (refine go ?_; intro c10)
            refine o_callVA (args := [.agg (fldC 2 y z t).toArray]) (fr := [pt0 P.b]) (me_text2 P.b c6 1 C hC (by decide) 2 y z t) (fun w hw => ?_)
            simp only [List.cons_append, List.nil_append]
            obtain ⟨C', e⟩ := w
            try dsimp only at hw ⊢
            by_cases he : e = 0
            · subst he
              (refine go ?_; intros)
              exact q_round (i + 1, C') ⟨hlt, hw⟩ (by show k - (i + 1) < k - i; omega) sUB eNT
            · have he' : (e : Int) ≠ 0 := by omega
              unfold metaZ
              (refine go ?_; intros)
              exact q_retAT rfl rfl rfl rfl rfl rfl rfl pK (metaZ, e) rfl metaZ_ok eNT
          · unfold metaZ
            (refine go ?_; intros)
            exact q_retAT rfl rfl rfl rfl rfl rfl rfl pK (metaZ, 4) rfl metaZ_ok eNT
        · (refine go ?_; intros)
          refine o_evB (ev_load_rd_agg (vs := fldC 3 y z t) rfl rfl rfl rfl hr pK rfl rfl hrow) ?_
          (refine go ?_; intro c9)
          refine o_evB (ev_indexS 4 (i := 2) rfl rfl rfl rfl rfl rfl (by decide)) ?_
          refine g_none rfl ?_
          refine o_evB (ev_load_agg (vs := nmbC 3 P.c) rfl rfl rfl rfl pK rfl rfl) ?_
          by_cases hy : y = 0
          · (refine go ?_; intro c10)
            refine o_callVA (args := [.agg (fldC 3 y z t).toArray]) (fr := [pt0 P.c]) (me_number2 P.c c6 2 C hC (by decide) 3 y z t) (fun w hw => ?_)
            simp only [List.cons_append, List.nil_append]
            obtain ⟨C', e⟩ := w
            try dsimp only at hw ⊢
            by_cases he : e = 0
            · subst he
              (refine go ?_; intros)
              exact q_round (i + 1, C') ⟨hlt, hw⟩ (by show k - (i + 1) < k - i; omega) sUB eNT
            · have he' : (e : Int) ≠ 0 := by omega
              unfold metaZ
              (refine go ?_; intros)
              exact q_retAT rfl rfl rfl rfl rfl rfl rfl pK (metaZ, e) rfl metaZ_ok eNT
          · unfold metaZ
            (refine go ?_; intros)
            exact q_retAT rfl rfl rfl rfl rfl rfl rfl pK (metaZ, 4) rfl metaZ_ok eNT
        · (refine go ?_; intros)
          refine o_evB (ev_load_rd_agg (vs := fldC 4 y z t) rfl rfl rfl rfl hr pK rfl rfl hrow) ?_
          (refine go ?_; intro c9)
          refine o_evB (ev_indexS 4 (i := 3) rfl rfl rfl rfl rfl rfl (by decide)) ?_
          refine g_none rfl ?_
          refine o_evB (ev_load_agg (vs := nmbC 4 P.d) rfl rfl rfl rfl pK rfl rfl) ?_
          by_cases hy : y = 0
          · (refine go ?_; intro c10)
            refine o_callVA (args := [.agg (fldC 4 y z t).toArray]) (fr := [pt0 P.d]) (me_number2 P.d c6 3 C hC (by decide) 4 y z t) (fun w hw => ?_)
            simp only [List.cons_append, List.nil_append]
            obtain ⟨C', e⟩ := w
            try dsimp only at hw ⊢
            by_cases he : e = 0
            · subst he
              (refine go ?_; intros)
              exact q_round (i + 1, C') ⟨hlt, hw⟩ (by show k - (i + 1) < k - i; omega) sUB eNT
            · have he' : (e : Int) ≠ 0 := by omega
              unfold metaZ
              (refine go ?_; intros)
              exact q_retAT rfl rfl rfl rfl rfl rfl rfl pK (metaZ, e) rfl metaZ_ok eNT
          · unfold metaZ
            (refine go ?_; intros)
            exact q_retAT rfl rfl rfl rfl rfl rfl rfl pK (metaZ, 4) rfl metaZ_ok eNT
        · (refine go ?_; intros)
          refine o_evB (ev_load_rd_agg (vs := fldC 5 y z t) rfl rfl rfl rfl hr pK rfl rfl hrow) ?_
          (refine go ?_; intro c9)
          refine o_evB (ev_indexS 4 (i := 4) rfl rfl rfl rfl rfl rfl (by decide)) ?_
          refine g_none rfl ?_
          refine o_evB (ev_load_agg (vs := txtC 5 P.e) rfl rfl rfl rfl pK rfl rfl) ?_
          by_cases hy : y = 2
          · (refine go ?_; intro c10)
            refine o_callVA (args := [.agg (fldC 5 y z t).toArray]) (fr := [pt0 P.e]) (me_text2 P.e c6 4 C hC (by decide) 5 y z t) (fun w hw => ?_)
            simp only [List.cons_append, List.nil_append]
            obtain ⟨C', e⟩ := w
            try dsimp only at hw ⊢
            by_cases he : e = 0
            · subst he
              (refine go ?_; intros)
              exact q_round (i + 1, C') ⟨hlt, hw⟩ (by show k - (i + 1) < k - i; omega) sUB eNT
            · have he' : (e : Int) ≠ 0 := by omega
              unfold metaZ
              (refine go ?_; intros)
              exact q_retAT rfl rfl rfl rfl rfl rfl rfl pK (metaZ, e) rfl metaZ_ok eNT
          · unfold metaZ
            (refine go ?_; intros)
            exact q_retAT rfl rfl rfl rfl rfl rfl rfl pK (metaZ, 4) rfl metaZ_ok eNT
        · (refine go ?_; intros)
          refine o_evB (ev_load_rd_agg (vs := fldC 6 y z t) rfl rfl rfl rfl hr pK rfl rfl hrow) ?_
          (refine go ?_; intro c9)
          refine o_evB (ev_indexS 4 (i := 5) rfl rfl rfl rfl rfl rfl (by decide)) ?_
          refine g_none rfl ?_
          refine o_evB (ev_load_agg (vs := txtC 6 P.f) rfl rfl rfl rfl pK rfl rfl) ?_
          by_cases hy : y = 2
          · (refine go ?_; intro c10)
            refine o_callVA (args := [.agg (fldC 6 y z t).toArray]) (fr := [pt0 P.f]) (me_text2 P.f c6 5 C hC (by decide) 6 y z t) (fun w hw => ?_)
            simp only [List.cons_append, List.nil_append]
            obtain ⟨C', e⟩ := w
            try dsimp only at hw ⊢
            by_cases he : e = 0
            · subst he
              (refine go ?_; intros)
              exact q_round (i + 1, C') ⟨hlt, hw⟩ (by show k - (i + 1) < k - i; omega) sUB eNT
            · have he' : (e : Int) ≠ 0 := by omega
              unfold metaZ
              (refine go ?_; intros)
              exact q_retAT rfl rfl rfl rfl rfl rfl rfl pK (metaZ, e) rfl metaZ_ok eNT
          · unfold metaZ
            (refine go ?_; intros)
            exact q_retAT rfl rfl rfl rfl rfl rfl rfl pK (metaZ, 4) rfl metaZ_ok eNT
        · (refine go ?_; intros)
          refine o_evB (ev_load_rd_agg (vs := fldC 7 y z t) rfl rfl rfl rfl hr pK rfl rfl hrow) ?_
          (refine go ?_; intro c9)
          refine o_evB (ev_indexS 4 (i := 6) rfl rfl rfl rfl rfl rfl (by decide)) ?_
          refine g_none rfl ?_
          refine o_evB (ev_load_agg (vs := txtC 7 P.g) rfl rfl rfl rfl pK rfl rfl) ?_
          by_cases hy : y = 2
          · (refine go ?_; intro c10)
            refine o_callVA (args := [.agg (fldC 7 y z t).toArray]) (fr := [pt0 P.g]) (me_text2 P.g c6 6 C hC (by decide) 7 y z t) (fun w hw => ?_)
            simp only [List.cons_append, List.nil_append]
            obtain ⟨C', e⟩ := w
            try dsimp only at hw ⊢
            by_cases he : e = 0
            · subst he
              (refine go ?_; intros)
              exact q_round (i + 1, C') ⟨hlt, hw⟩ (by show k - (i + 1) < k - i; omega) sUB eNT
            · have he' : (e : Int) ≠ 0 := by omega
              unfold metaZ
              (refine go ?_; intros)
              exact q_retAT rfl rfl rfl rfl rfl rfl rfl pK (metaZ, e) rfl metaZ_ok eNT
          · unfold metaZ
            (refine go ?_; intros)
            exact q_retAT rfl rfl rfl rfl rfl rfl rfl pK (metaZ, 4) rfl metaZ_ok eNT
        · (refine go ?_; intros)
          refine o_evB (ev_load_rd_agg (vs := fldC 8 y z t) rfl rfl rfl rfl hr pK rfl rfl hrow) ?_
          (refine go ?_; intro c9)
          refine o_evB (ev_indexS 4 (i := 7) rfl rfl rfl rfl rfl rfl (by decide)) ?_
          refine g_none rfl ?_
          refine o_evB (ev_load_agg (vs := txtC 8 P.h) rfl rfl rfl rfl pK rfl rfl) ?_
          by_cases hy : y = 2
          · (refine go ?_; intro c10)
            refine o_callVA (args := [.agg (fldC 8 y z t).toArray]) (fr := [pt0 P.h]) (me_text2 P.h c6 7 C hC (by decide) 8 y z t) (fun w hw => ?_)
            simp only [List.cons_append, List.nil_append]
            obtain ⟨C', e⟩ := w
            try dsimp only at hw ⊢
            by_cases he : e = 0
            · subst he
              (refine go ?_; intros)
              exact q_round (i + 1, C') ⟨hlt, hw⟩ (by show k - (i + 1) < k - i; omega) sUB eNT
            · have he' : (e : Int) ≠ 0 := by omega
              unfold metaZ
              (refine go ?_; intros)
              exact q_retAT rfl rfl rfl rfl rfl rfl rfl pK (metaZ, e) rfl metaZ_ok eNT
          · unfold metaZ
            (refine go ?_; intros)
            exact q_retAT rfl rfl rfl rfl rfl rfl rfl pK (metaZ, 4) rfl metaZ_ok eNT
    · obtain ⟨m0, m1, m2, m3, m4, m5, m6, m7, rfl⟩ := hC.eight
      have h2 := hC.2
      simp only [List.all_cons, List.all_nil, Bool.and_true, Bool.and_eq_true] at h2
      obtain ⟨u0, u1, u2, u3, u4, u5, u6, u7⟩ := h2
      unfold metaZ
      (refine go ?_; intros)
      exact q_retAT rfl rfl rfl rfl rfl rfl rfl pK ([m0, m1, m2, m3, m4, m5, m6, m7], 0) rfl (met_rows hC) eNT
  · have he' : (e : Int) ≠ 0 := by omega
    (refine go ?_; intros)
    exact q_retAT rfl rfl rfl rfl rfl rfl rfl pK (metaZ, e) rfl metaZ_ok eNT
end Go.Proofs.YtnaabpfpldelmaaGreatDoor
set_option linter.unusedSimpArgs false
set_option linter.unusedVariables false
set_option maxRecDepth 20000
namespace Go.Proofs.YtnaabpfpldelmaaGreatDoor
open Go Go.Sx
theorem shp_value : shp 296 = [.one, .one, .one] := by kernel_rfl
theorem shp_values : shp 762 = [.one] := by kernel_rfl
theorem shp_u32 : shp 293 = [.one] := by kernel_rfl
theorem shp_set : shp 740 = [.one, .one, .one] := by kernel_rfl
attribute [local irreducible] MidQ wpE wpO wpC qE wpQ wpQO wpH wpHO wpD wpDO wpZ Ev own emp exI sl ch PostS LoopQ Rd rowsAt
theorem da_wrong (x y z : Int) (s : ByteArray) : FnDoes Tryz.prog 682 [.agg (fldC x y z s).toArray] [] (fun _ : Nat => True) (fun e => nat64 e) (fun _ => []) := by
  refine does_of Tryz.func682 rfl rfl Tryz.ntmps682 rfl eNUM (fun c => ?_)
  (repeat' (first | (refine go1 ?_; intros) | (first | (refine o_cmpS ?_ ?_ <;> (intro h_; simp only [cmpP] at h_)) | (refine o_strS ?_ ?_ <;> intro h_) | (refine o_strN ?_ ?_ <;> intro h_) | (refine wpC_condS ?_ ?_ <;> (intro h_; first | subst h_ | skip))) | (first | exact q_ret1 rfl rfl () rfl trivial eNT | exact q_ret2 rfl rfl rfl () rfl trivial eNT | exact q_ret3 rfl rfl rfl rfl () rfl trivial eNT | exact q_ret0 rfl () rfl trivial eNT _ (by first | exact .inl rfl | exact .inr rfl)) | (exact q_ret1 rfl rfl 0 rfl trivial eNT) | (exact q_ret1 rfl rfl 4 rfl trivial eNT) | (exact q_ret1 rfl rfl 5 rfl trivial eNT)))
theorem da_read1 (x y z : Int) (s : ByteArray) : FnDoes Tryz.prog 685 [.agg (fldC x y z s).toArray] [] (fun _ : Bool => True) (fun e => .bool e) (fun _ => []) := by
  refine does_of Tryz.func685 rfl rfl Tryz.ntmps685 rfl eNUM (fun c => ?_)
  (repeat' (first | (refine go1 ?_; intros) | (first | (refine o_cmpS ?_ ?_ <;> (intro h_; simp only [cmpP] at h_)) | (refine o_strS ?_ ?_ <;> intro h_) | (refine o_strN ?_ ?_ <;> intro h_) | (refine wpC_condS ?_ ?_ <;> (intro h_; first | subst h_ | skip))) | (first | exact q_ret1 rfl rfl () rfl trivial eNT | exact q_ret2 rfl rfl rfl () rfl trivial eNT | exact q_ret3 rfl rfl rfl rfl () rfl trivial eNT | exact q_ret0 rfl () rfl trivial eNT _ (by first | exact .inl rfl | exact .inr rfl)) | (exact q_ret1 rfl rfl true rfl trivial eNT) | (exact q_ret1 rfl rfl false rfl trivial eNT)))
theorem fl_index {X : HProp} {v : Value} {k : Nat} {xs : List Value} (hX : Rd X 4 v k xs) (hx : fldOk xs k) (hk : k ≤ 256) {f : FuncId} (fn : ∀ x y z s, FnDoes Tryz.prog f [.agg (fldC x y z s).toArray] [] (fun _ : Bool => True) (fun e => .bool e) (fun _ => [])) :
    FnDoes Tryz.prog 687 [v, .func (.func f) #[] #[]] [X] (fun y : Int => -1 ≤ y ∧ y ≤ 256) (fun y => .int .i64 y) (fun _ => [X]) := by
  refine does_of Tryz.func687 rfl rfl Tryz.ntmps687 rfl eNUM (fun c => ?_)
  refine wpC_fact (hX.isSlice .head) (fun hs => ?_)
  obtain ⟨a, cap, rfl, ha⟩ := hs
  (refine go ?_; intros)
  refine wpC_loop (σ := Nat) (fun i => i ≤ k) (fun i => [(0, .slice a k cap), (1, .func (.func f) #[] #[]), (7, nat64 k), (8, nat64 i)]) (fun _ => [X]) (fun i => k - i) 0 (Nat.zero_le _) sUB eNT (fun i hi => ?_)
  by_cases hlt : i < k
  · obtain ⟨b, o, rfl, hcap⟩ := ha (by omega)
    obtain ⟨x, y, z, t, hf, hrow⟩ := fld_row hx hlt
    (refine go ?_; intros)
    refine o_evB (ev_load_rd_agg (vs := fldC x y z t) rfl rfl rfl rfl hX pK rfl rfl hrow) ?_
    (refine go ?_; intros)
    refine o_callVA (args := [.agg (fldC x y z t).toArray]) (fr := []) (fn x y z t) (fun r _ => ?_)
    simp only [List.cons_append, List.nil_append]
    cases r with
    | true =>
      (refine go ?_; intros)
      exact q_ret1 rfl rfl (i : Int) rfl ⟨by omega, by omega⟩ eNT
    | false =>
      (refine go ?_; intros)
      exact q_round (i + 1) hlt (by show k - (i + 1) < k - i; omega) sUB eNT
  · (refine go ?_; intros)
    exact q_ret1 rfl rfl (-1) rfl ⟨by omega, by omega⟩ eNT
theorem fl_contains {X : HProp} {v : Value} {k : Nat} {xs : List Value} (hX : Rd X 4 v k xs) (hx : fldOk xs k) (hk : k ≤ 256) {f : FuncId} (fn : ∀ x y z s, FnDoes Tryz.prog f [.agg (fldC x y z s).toArray] [] (fun _ : Bool => True) (fun e => .bool e) (fun _ => [])) :
    FnDoes Tryz.prog 684 [v, .func (.func f) #[] #[]] [X] (fun _ : Bool => True) (fun y => .bool y) (fun _ => [X]) := by
  refine does_of Tryz.func684 rfl rfl Tryz.ntmps684 rfl eNUM (fun c => ?_)
  have h := fl_index hX hx hk fn
  (refine go ?_; intros)
  (show wpO _ _ ⟨_, .call _, _, _, _, _⟩ _ _ _ _ _ _; refine o_callA (h) (fun y hy => ?_); try simp only [List.cons_append, List.nil_append])
  by_cases h0 : y ≥ 0
  · (refine go ?_; intros)
    exact q_ret1 rfl rfl true rfl trivial eNT
  · (refine go ?_; intros)
    exact q_ret1 rfl rfl false rfl trivial eNT
theorem val_ok {k : Nat} {x : Int} {s : ByteArray} : okR shp ρ0 [.one, .one, .one] (valC k x s) := ⟨rfl, rfl, rfl, trivial⟩
set_option maxHeartbeats 1000000 in
theorem da_read {G : Rg} (hG : okG G) (hK : knG G) (s : ByteArray) (hs : s.size ≤ 65536) (cols : Nat) (hc : cols ≤ 256) : FnDoes Tryz.prog 679 [.string s, nat64 cols] [rgH G]
    (fun y : Rg × Value × Nat => okG y.1 ∧ grG G y.1 ∧ y.2.1.oneCell' = true) (fun y => .tuple #[y.2.1, nat64 y.2.2]) (fun y => [rgH y.1]) := by
  refine does_of Tryz.func679 rfl rfl Tryz.ntmps679 rfl eNUM (fun c => ?_)
  (refine go ?_; intros)
  refine o_bytesOf rfl rfl rfl rfl rfl (fun bv => ?_)
  have hb := wire_of (X := bsI bv s.data.toList) Bs.ofBsI (by rw [show s.data.toList.length = s.size from Array.length_toList]; omega)
  (refine go ?_; intros)
  (show wpO _ _ ⟨_, .call _, _, _, _, _⟩ _ _ _ _ _ _; refine o_callA (hb) (fun ⟨e, q0, k0, xs0⟩ hq => ?_); try simp only [List.cons_append, List.nil_append])
  obtain ⟨hq0, hk0⟩ := hq
  try dsimp only at hq0 hk0 ⊢
  by_cases he : e = 0
  · subst he
    have ha1 := wire_all (X := flI q0 k0 xs0) (v := q0) Rd.ofSl hq0 hk0 1
    (refine go ?_; intros)
    (show wpO _ _ ⟨_, .call _, _, _, _, _⟩ _ _ _ _ _ _; refine o_callA (ha1) (fun ⟨_, q, k, xs⟩ hq => ?_); try simp only [List.cons_append, List.nil_append])
    obtain ⟨hq, hk⟩ := hq
    try dsimp only at hq hk ⊢
    have hr : Rd (flI q k xs) 4 q k xs := Rd.ofSl
    have hcn := fl_contains hr hq (by omega) da_read1
    by_cases hlen : k = cols
    · subst hlen
      (refine go ?_; intros)
      (show wpO _ _ ⟨_, .call _, _, _, _, _⟩ _ _ _ _ _ _; refine o_callA (hcn) (fun yes _ => ?_); try simp only [List.cons_append, List.nil_append])
      cases yes with
      | true =>
        (refine go ?_; intros)
        exact q_ret2 rfl rfl rfl (G, .slice none 0 0, 4) rfl ⟨hG, Gr.refl _ _, rfl⟩ eNT
      | false =>
        (refine go ?_; intros)
        refine o_makeSliceR (S := shp) (l := k) hG ?_ (by omega) (fun ov ρ' H' w1 w2 w3 => ?_)
        · show k * 32 ≤ 140737488355328
          omega
        refine wpE_fact (hr.isSlice pK) (fun hs => ?_)
        obtain ⟨a, cap, rfl, ha⟩ := hs
        (refine go ?_; intros)
        refine wpC_loop (σ := Nat × Rg) (fun s => s.1 ≤ k ∧ okG s.2 ∧ grG (ρ', H') s.2) (fun s => [(6, .slice a k cap), (8, ov), (33, nat64 k), (34, nat64 s.1)]) (fun s => [rgH s.2, flI (.slice a k cap) k xs]) (fun s => k - s.1) (0, (ρ', H')) ⟨Nat.zero_le _, w1, Gr.refl _ _⟩ sUB eNT (fun s hs => ?_)
        obtain ⟨i, G2⟩ := s
        obtain ⟨hi, hG2, hgr⟩ := hs
        try dsimp only at hi hG2 hgr ⊢
        have ho1 := w3.one
        by_cases hlt : i < k
        · obtain ⟨b, o, rfl, hcap⟩ := ha (by omega)
          obtain ⟨x, y, z, t, hf, hrow⟩ := fld_row hq hlt
          (refine go ?_; intros)
          refine o_evB (ev_load_rd rfl rfl rfl hr pK (by omega) (hrow 3 _ rfl)) ?_
          (refine go ?_; intros)
          refine o_bytesOf rfl rfl rfl rfl rfl (fun bv2 => ?_)
          have hb2 := wire_of (X := bsI bv2 t.data.toList) Bs.ofBsI (by rw [show t.data.toList.length = t.size from Array.length_toList]; have := hf.2.2.2; omega)
          (refine go ?_; intros)
          (show wpO _ _ ⟨_, .call _, _, _, _, _⟩ _ _ _ _ _ _; refine o_callA (hb2) (fun ⟨e, q2, k2, xs2⟩ hq2 => ?_); try simp only [List.cons_append, List.nil_append])
          obtain ⟨hq2, hk2⟩ := hq2
          try dsimp only at hq2 hk2 ⊢
          by_cases he : e = 0
          · subst he
            have hv := va_of (G := G2) (hK.up (w2.trans hgr)) (X := flI q2 k2 xs2) (v := q2) Rd.ofSl hq2 hk2 1 ⟨by decide, by decide⟩ false
            (refine go ?_; intros)
            (show wpO _ _ ⟨_, .call _, _, _, _, _⟩ _ _ _ _ _ _; refine o_callA (hv) (fun ⟨kn, n, st, e⟩ hval => ?_); try simp only [List.cons_append, List.nil_append])
            try dsimp only at hval ⊢
            have w4 := w3.mono hgr.le
            obtain ⟨oa, ocap, rfl, hoc⟩ := w4.isSlice
            obtain ⟨ob, oo, rfl⟩ := w4.pos (by omega)
            (refine go ?_; intros)
            refine o_storeR (S := shp) (k := i) (vs := valC kn n st) hG2 w4 hlt (by rw [shp_value]; exact val_ok.mono le0) (fun ρ3 H3 u1 u2 => ?_)
            by_cases he : e = 0
            · subst he
              (refine go ?_; intros)
              exact q_round (i + 1, (ρ3, H3)) ⟨hlt, u1, hgr.trans u2⟩ (by show k - (i + 1) < k - i; omega) sUB eNT
            · have he' : (e : Int) ≠ 0 := by omega
              (refine go ?_; intros)
              exact q_ret2 rfl rfl rfl ((ρ3, H3), .slice none 0 0, e) rfl ⟨u1, w2.trans (hgr.trans u2), rfl⟩ eNT
          · have he' : (e : Int) ≠ 0 := by omega
            (refine go ?_; intros)
            exact q_ret2 rfl rfl rfl (G2, .slice none 0 0, e) rfl ⟨hG2, w2.trans hgr, rfl⟩ eNT
        · (refine go ?_; intros)
          exact q_ret2 rfl rfl rfl (G2, ov, 0) rfl ⟨hG2, w2.trans hgr, ho1⟩ eNT
    · (refine go ?_; intros)
      exact q_ret2 rfl rfl rfl (G, .slice none 0 0, 4) rfl ⟨hG, Gr.refl _ _, rfl⟩ eNT
  · have he' : (e : Int) ≠ 0 := by omega
    (refine go ?_; intros)
    exact q_ret2 rfl rfl rfl (G, .slice none 0 0, e) rfl ⟨hG, Gr.refl _ _, rfl⟩ eNT
end Go.Proofs.YtnaabpfpldelmaaGreatDoor
