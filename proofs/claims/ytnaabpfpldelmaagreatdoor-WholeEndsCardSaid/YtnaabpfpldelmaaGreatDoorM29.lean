/-
  The payload that asks for a birth anew.
  The payload that asks for a birth anew: its bytes.
  Filters, where nobody wants anything: somebody's.
  Filters, where nobody wants anything: who wants a name.
-/
import Derived.Test.YtnaabpfpldelmaaGreatDoorM28
import Derived.Test.YtnaabpfpldelmaaGreatDoorM27
set_option linter.unusedSimpArgs false
set_option linter.unusedVariables false
set_option maxRecDepth 20000
namespace Go.Proofs.YtnaabpfpldelmaaGreatDoor
open Go Go.Sx
abbrev f1A : PfdS := ⟨1, 2, 0, txt nmA.data.toList⟩
abbrev f2A : PfdS := ⟨4, 0, 11, mt0⟩
abbrev f3A (x : Int) : PfdS := ⟨14, x, 1, mt0⟩
attribute [local irreducible] MidQ wpE wpO wpC qE wpQ wpQO wpH wpHO wpD wpDO wpZ Ev own emp exI sl ch PostS LoopQ Rd rowsAt
theorem va_lim5 : FnDoes Tryz.prog 627 [.int .i64 5] [] (fun _ : Unit => True) (fun _ => .int .u64 1) (fun _ => []) := by
  refine does_of Tryz.func627 rfl rfl Tryz.ntmps627 rfl eNUM (fun c => ?_)
  (refine go ?_; intros)
  exact q_ret1 rfl rfl () rfl trivial eNT
set_option maxHeartbeats 1000000 in
theorem va_right5 : FnDoes Tryz.prog 620 [.agg vaA.toArray] [] (fun _ : Unit => True) (fun _ => nat64 0) (fun _ => []) := by
  have ht := va_textual 5
  rw [decide_eq_false (by omega)] at ht
  refine does_of Tryz.func620 rfl rfl Tryz.ntmps620 rfl eNUM (fun c => ?_)
  (refine go ?_; intro c1)
  (show wpO _ _ ⟨_, .call _, _, _, _, _⟩ _ _ _ _ _ _; refine o_callA (ht) (fun _ _ => ?_); try simp only [List.cons_append, List.nil_append])
  (refine go ?_; intros)
  refine wpC_drawnA [pts c1 (.cells vaA.toArray 296 (0, 0))] 12 ?_
  ((first | refine dt 0 ?_ | refine dts 0 ?_); (first | refine dt 1 ?_ | refine dts 1 ?_); (first | refine df 2 ?_ | refine dfs 2 ?_); (first | refine df 3 ?_ | refine dfs 3 ?_))
  refine dcall 4 va_lim5 (fun _ _ => ?_)
  simp only [List.cons_append, List.nil_append]
  ((first | refine df 5 ?_ | refine dfs 5 ?_); (first | refine df 6 ?_ | refine dfs 6 ?_); (first | refine df 7 ?_ | refine dfs 7 ?_); (first | refine df 8 ?_ | refine dfs 8 ?_); (first | refine df 9 ?_ | refine dfs 9 ?_); (first | refine df 10 ?_ | refine dfs 10 ?_); (first | refine df 11 ?_ | refine dfs 11 ?_); refine dl ?_)
  (refine go ?_; intros)
  refine wpC_drawnA [pts c1 (.cells vaA.toArray 296 (0, 0))] 6 ?_
  ((first | refine dt 0 ?_ | refine dts 0 ?_); (first | refine dt 1 ?_ | refine dts 1 ?_); (first | refine df 2 ?_ | refine dfs 2 ?_); (first | refine df 3 ?_ | refine dfs 3 ?_))
  refine dcall 4 va_lim5 (fun _ _ => ?_)
  simp only [List.cons_append, List.nil_append]
  ((first | refine df 5 ?_ | refine dfs 5 ?_); refine dl ?_)
  (refine go ?_; intros)
  exact q_ret1 rfl rfl () rfl trivial eNT
set_option maxHeartbeats 1000000 in
theorem va_put5 {G : Rg} {x : Int} (hk : G.2.cell? ⟨9, 0 + 5 * 1, none⟩ = some (.int .i64 x)) : FnDoes Tryz.prog 613 [.agg vaA.toArray, nat64 10, .bool true] [rgH G] (fun _ : Nat => True) (fun b => .tuple #[.slice (some ⟨b, 0, none⟩) 1 1, nat64 0]) (fun b => [rgH G, pts b (.cells (pfdD (f3A x)).toArray tFld (0, 0))]) := by
  have hb := va_based 10 (by omega)
  refine does_of Tryz.func613 rfl rfl Tryz.ntmps613 rfl eNUM (fun c => ?_)
  (refine go ?_; intro c3)
  (show wpO _ _ ⟨_, .call _, _, _, _, _⟩ _ _ _ _ _ _; refine o_callA (hb) (fun _ _ => ?_); try simp only [List.cons_append, List.nil_append])
  (refine go ?_; intros)
  (show wpO _ _ ⟨_, .call _, _, _, _, _⟩ _ _ _ _ _ _; refine o_callA (va_right5) (fun _ _ => ?_); try simp only [List.cons_append, List.nil_append])
  (refine go ?_; intros)
  refine wpC_drawnA [pts c3 (.cells vaA.toArray 296 (0, 0)), rgH G] 16 ?_
  ((first | refine dt 0 ?_ | refine dts 0 ?_); (first | refine dt 1 ?_ | refine dts 1 ?_); (first | refine dt 2 ?_ | refine dts 2 ?_); (first | refine dt 3 ?_ | refine dts 3 ?_); (first | refine dt 4 ?_ | refine dts 4 ?_); (first | refine dt 5 ?_ | refine dts 5 ?_); (first | refine dt 6 ?_ | refine dts 6 ?_))
  refine dtB 7 rfl (ev_indexArr 1 (i := 5) rfl rfl rfl rfl rfl rfl (by decide)) ?_
  ((first | refine dt 8 ?_ | refine dts 8 ?_); (first | refine dt 9 ?_ | refine dts 9 ?_); (first | refine dt 10 ?_ | refine dts 10 ?_); (first | refine df 11 ?_ | refine dfs 11 ?_); (first | refine df 12 ?_ | refine dfs 12 ?_); (first | refine df 13 ?_ | refine dfs 13 ?_))
  (refine wpD_eff 14 rfl rfl (by kernel_rfl) rfl rfl ?_; show OVL _ ⟨_, .buildSlice _ _ _, _, _, _, _⟩ _ _ _ _ _ _)
  refine x_buildSlice1 (l := pfdD (f3A x)) (by rfl) (by rfl) (by rfl) (by rfl) (by rfl) (by rfl) (by rfl) (by rfl) (fun bb => ⟨eNT, ?_⟩)
  ((first | refine df 15 ?_ | refine dfs 15 ?_); refine dl ?_)
  (refine go ?_; intros)
  exact q_ret2 rfl rfl rfl bb rfl trivial eNT
set_option maxHeartbeats 2000000 in
theorem am_wrong : FnDoes Tryz.prog 603 [.agg mtA.toArray] [] (fun _ : Unit => True) (fun _ => nat64 0) (fun _ => []) := by
  refine does_of Tryz.func603 rfl rfl Tryz.ntmps603 rfl eNUM (fun c => ?_)
  (refine go ?_; intro c1 c3)
  refine wpC_drawnA [pts c3 (.cells mtA.toArray 302 (0, 0))] 9 ?_
  ((first | refine dt 0 ?_ | refine dts 0 ?_); (first | refine dt 1 ?_ | refine dts 1 ?_); (first | refine dt 2 ?_ | refine dts 2 ?_); (first | refine dt 3 ?_ | refine dts 3 ?_); (first | refine dt 4 ?_ | refine dts 4 ?_); (first | refine dt 5 ?_ | refine dts 5 ?_); (first | refine dt 6 ?_ | refine dts 6 ?_); (first | refine dt 7 ?_ | refine dts 7 ?_); (first | refine df 8 ?_ | refine dfs 8 ?_); refine dl ?_)
  (refine go ?_; intros)
  exact q_ret1 rfl rfl () rfl trivial eNT
set_option maxHeartbeats 1000000 in
theorem am_more (b : Nat) : FnDoes Tryz.prog 607 [.agg mtA.toArray, pt0 b] [] (fun _ : Unit => True) (fun _ => nat64 0) (fun _ => []) := by
  refine does_of Tryz.func607 rfl rfl Tryz.ntmps607 rfl eNUM (fun c => ?_)
  (refine go ?_; intro c2)
  refine wpC_loop (σ := Unit) (fun _ => True) (fun _ => [(2, pt0 c2), (4, nat64 0), (13, .slice none 0 0), (14, nat64 0), (15, nat64 0)]) (fun _ => [pts c2 (.cells mtA.toArray 459 (0, 0))]) (fun _ => 0) () trivial sUB eNT (fun _ _ => ?_)
  (refine go ?_; intros)
  exact q_ret1 rfl rfl () rfl trivial eNT
set_option maxHeartbeats 1000000 in
theorem am_value {G : Rg} {x : Int} (hk : G.2.cell? ⟨9, 0 + 5 * 1, none⟩ = some (.int .i64 x)) (b : Nat) (v : Value) (l : List PfdS) (hl : l.length ≤ 1000) : FnDoes Tryz.prog 608 [.agg mtA.toArray, pt0 b, nat64 1] [rgH G, lstI b v, pfI v l] (fun _ : Value => True) (fun _ => nat64 0) (fun v' => [rgH G, lstI b v', pfI v' (l ++ [(f3A x)])]) := by
  have hp := va_put5 hk
  refine does_of Tryz.func608 rfl rfl Tryz.ntmps608 rfl eNUM (fun c => ?_)
  refine wpC_fact (sl_one (v := v) (.tail (.tail .head))) (fun h1 => ?_)
  (refine go ?_; intro c3)
  (show wpO _ _ ⟨_, .call _, _, _, _, _⟩ _ _ _ _ _ _; refine o_callA (hp) (fun bb _ => ?_); try simp only [List.cons_append, List.nil_append])
  (refine go ?_; intros)
  refine o_append (m := 1) (news := pfdD (f3A x)) (sz := 4) rfl rfl rfl rfl rfl rfl rfl rfl pK (src_pts rfl pK rfl rfl rfl) ?_ rfl (fun v' => ?_)
  · have := Nat.mul_le_mul (show l.length + 1 ≤ 1001 by omega) fld_by
    omega
  rw [pfd_app, show l.length + 1 = (l ++ [(f3A x)]).length by simp]
  refine wpE_fact (sl_one (v := v') .head) (fun h2 => ?_)
  (refine go ?_; intros)
  exact q_ret1 rfl rfl v' rfl trivial eNT
set_option maxHeartbeats 2000000 in
theorem am_fields {G : Rg} {x : Int} (hk : G.2.cell? ⟨9, 0 + 5 * 1, none⟩ = some (.int .i64 x)) : FnDoes Tryz.prog 602 [.agg mtA.toArray, nat64 1] [rgH G] (fun _ : Value => True) (fun v => .tuple #[v, nat64 0]) (fun v => [rgH G, pfI v [f1A, f2A, (f3A x)]]) := by
  refine does_of Tryz.func602 rfl rfl Tryz.ntmps602 rfl eNUM (fun c => ?_)
  (refine go ?_; intro c2)
  (show wpO _ _ ⟨_, .call _, _, _, _, _⟩ _ _ _ _ _ _; refine o_callA (am_wrong) (fun _ _ => ?_); try simp only [List.cons_append, List.nil_append])
  (refine go ?_; intro b c8)
  have h1 := ml_text b 1 (.slice none 0 0) [] (by decide) nmA (by decide)
  refine wpO_ent (Ent.slNil (e := tFld) (size := 4) (Ent.refl _)) ?_
  (show wpO _ _ ⟨_, .call _, _, _, _, _⟩ _ _ _ _ _ _; refine o_callA (h1) (fun v1 _ => ?_); try simp only [List.cons_append, List.nil_append])
  (refine go ?_; intros)
  (show wpO _ _ ⟨_, .call _, _, _, _, _⟩ _ _ _ _ _ _; refine o_callA (ml_none b 3 .nilIface) (fun _ _ => ?_); try simp only [List.cons_append, List.nil_append])
  (refine go ?_; intros)
  have h2 := ml_number b 4 11 (by decide) v1 [f1A] (by decide)
  (show wpO _ _ ⟨_, .call _, _, _, _, _⟩ _ _ _ _ _ _; refine o_callA (h2) (fun v2 _ => ?_); try simp only [List.cons_append, List.nil_append])
  (refine go ?_; intros)
  (show wpO _ _ ⟨_, .call _, _, _, _, _⟩ _ _ _ _ _ _; refine o_callA (ml_flag b 5) (fun _ _ => ?_); try simp only [List.cons_append, List.nil_append])
  (refine go ?_; intros)
  (show wpO _ _ ⟨_, .call _, _, _, _, _⟩ _ _ _ _ _ _; refine o_callA (ml_flag b 6) (fun _ _ => ?_); try simp only [List.cons_append, List.nil_append])
  (refine go ?_; intros)
  (show wpO _ _ ⟨_, .call _, _, _, _, _⟩ _ _ _ _ _ _; refine o_callA (ml_flag b 7) (fun _ _ => ?_); try simp only [List.cons_append, List.nil_append])
  (refine go ?_; intros)
  (show wpO _ _ ⟨_, .call _, _, _, _, _⟩ _ _ _ _ _ _; refine o_callA (am_more b) (fun _ _ => ?_); try simp only [List.cons_append, List.nil_append])
  (refine go ?_; intros)
  have h3 := am_value hk b v2 [f1A, f2A] (by decide)
  (show wpO _ _ ⟨_, .call _, _, _, _, _⟩ _ _ _ _ _ _; refine o_callA (h3) (fun v3 _ => ?_); try simp only [List.cons_append, List.nil_append])
  refine wpE_fact (sl_one (v := v3) (.tail (.tail .head))) (fun o3 => ?_)
  (refine go ?_; intros)
  exact q_ret2 rfl rfl rfl v3 rfl trivial eNT
abbrev tAsM : TypeId := 459
theorem lfA_ok (x : Int) : ∀ f ∈ [f1A, f2A, (f3A x)], PfdOk f := by
  intro f hf
  simp only [List.mem_cons, List.mem_nil_iff, or_false] at hf
  rcases hf with rfl | rfl | rfl
  · exact ⟨by decide, by decide, by decide⟩
  · exact ⟨by decide, by decide, by decide⟩
  · exact ⟨show (14 : Nat) ≤ 100 by decide, show (1 : Nat) ≤ 100000 by decide, show mt0.size ≤ 100000 by decide⟩
set_option maxHeartbeats 1000000 in
theorem mt_lay {G : Rg} (hK : knG G) : FnDoes Tryz.prog 300 [.iface tAsM (.agg mtA.toArray), nat64 1] [rgH G] (fun y : Value × List UInt8 × Nat => y.2.1.length ≤ 4096) (fun y => .tuple #[y.1, nat64 y.2.2]) (fun y => [rgH G, bytI y.1 y.2.1]) := by
  obtain ⟨x, hk⟩ := kn5 hK
  have hf : InvDoes Tryz.prog tAsM (.agg mtA.toArray) "crier/metric.fields" [nat64 1] [rgH G] (fun _ : Value => True) (fun v => .tuple #[v, nat64 0]) (fun v => [rgH G, pfI v [f1A, f2A, (f3A x)]]) := InvDoes.direct (am_fields hk) (by decide +kernel)
  refine does_of Tryz.func300 rfl rfl Tryz.ntmps300 rfl eNUM (fun c => ?_)
  (refine go ?_; intros)
  (show wpO _ _ ⟨_, .call _, _, _, _, _⟩ _ _ _ _ _ _; refine o_invokeI (hf) (fun v _ => ?_); try simp only [List.cons_append, List.nil_append])
  have hw := wi_Put (X := pfI v [f1A, f2A, (f3A x)]) (v := v) (l := [f1A, f2A, (f3A x)]) Rd.ofSl (show (3 : Nat) ≤ 10 by decide) (lfA_ok x)
  refine wpE_fact (sl_one (v := v) (.tail .head)) (fun o3 => ?_)
  (refine go ?_; intros)
  (show wpO _ _ ⟨_, .call _, _, _, _, _⟩ _ _ _ _ _ _; refine o_callA (hw) (fun ⟨w, bs, e⟩ hy => ?_); try simp only [List.cons_append, List.nil_append])
  try dsimp only at hy ⊢
  refine wpE_fact (sl_one (v := w) (.tail .head)) (fun o4 => ?_)
  (refine go ?_; intros)
  exact q_ret2 rfl rfl rfl (w, bs, e) rfl hy eNT
theorem mt_Put {G : Rg} (hK : knG G) : FnDoes Tryz.prog 233 [.agg mtA.toArray] [rgH G] (fun y : Value × List UInt8 × Nat => y.2.1.length ≤ 4096) (fun y => .tuple #[y.1, nat64 y.2.2]) (fun y => [rgH G, bytI y.1 y.2.1]) := by
  have hl := mt_lay hK
  refine does_of Tryz.func233 rfl rfl Tryz.ntmps233 rfl eNUM (fun c => ?_)
  (refine go ?_; intros)
  (show wpO _ _ ⟨_, .call _, _, _, _, _⟩ _ _ _ _ _ _; refine o_callA (hl) (fun ⟨w, bs, e⟩ hy => ?_); try simp only [List.cons_append, List.nil_append])
  try dsimp only at hy ⊢
  refine wpE_fact (sl_one (v := w) (.tail .head)) (fun o4 => ?_)
  (refine go ?_; intros)
  exact q_ret2 rfl rfl rfl (w, bs, e) rfl hy eNT
theorem py_text (num : Nat) (s : ByteArray) : FnDoes Tryz.prog 234 [nat64 num, .string s] [] (fun _ : Unit => True) (fun _ => .agg (pfdD ⟨num, 2, 0, s⟩).toArray) (fun _ => []) := by
  refine does_of Tryz.func234 rfl rfl Tryz.ntmps234 rfl eNUM (fun c => ?_)
  (refine go ?_; intros)
  exact q_retCell (l := pfdD ⟨num, 2, 0, s⟩) rfl rfl rfl rfl rfl pK rfl () rfl trivial eNT
abbrev pyA (b : Nat) : List Value := [.int .u64 0, .bool false, .int .u64 0, .string mt0, .string mt0, .slice (some ⟨b, 0, none⟩) 1 1]
theorem py_ends (b : Nat) : FnDoes Tryz.prog 236 [.agg (pyA b).toArray] [] (fun _ : Unit => True) (fun _ => .slice none 0 0) (fun _ => []) := by
  refine does_of Tryz.func236 rfl rfl Tryz.ntmps236 rfl eNUM (fun c => ?_)
  (refine go ?_; intros)
  exact q_ret1 rfl rfl () rfl trivial eNT
end Go.Proofs.YtnaabpfpldelmaaGreatDoor
set_option linter.unusedSimpArgs false
set_option linter.unusedVariables false
set_option maxRecDepth 20000
namespace Go.Proofs.YtnaabpfpldelmaaGreatDoor
open Go Go.Sx
attribute [local irreducible] MidQ wpE wpO wpC qE wpQ wpQO wpH wpHO wpD wpDO wpZ Ev own emp exI sl ch PostS LoopQ Rd rowsAt
set_option maxHeartbeats 2000000 in
theorem py_Put {G : Rg} (hK : knG G) (b : Nat) : FnDoes Tryz.prog 168 [.agg (pyA b).toArray] [rgH G, pts b (.cells mtA.toArray 302 (0, 0))] (fun y : Value × List UInt8 × Nat => y.2.1.length ≤ 4096) (fun y => .tuple #[y.1, nat64 y.2.2]) (fun y => [rgH G, bytI y.1 y.2.1]) := by
  have hm := mt_Put hK
  refine does_of Tryz.func168 rfl rfl Tryz.ntmps168 rfl eNUM (fun c => ?_)
  (refine go ?_; intro c1)
  refine wpC_ent (Ent.slNil (e := tFld) (size := 4) (Ent.refl _)) ?_
  refine wpC_loop (σ := Nat × Value × List PfdS) (fun s => s.1 ≤ 1 ∧ s.2.2.length = s.1 ∧ ∀ f ∈ s.2.2, PfdOk f) (fun s => [(1, pt0 c1), (4, s.2.1), (23, .slice (some ⟨b, 0, none⟩) 1 1), (24, nat64 1), (25, nat64 s.1)]) (fun s => [pfI s.2.1 s.2.2, rgH G, pts c1 (.cells (pyA b).toArray 307 (0, 0)), pts b (.cells mtA.toArray 302 (0, 0))]) (fun s => 1 - s.1) (0, .slice none 0 0, []) ⟨Nat.zero_le _, rfl, fun f hf => by cases hf⟩ sUB eNT (fun s hs => ?_)
  obtain ⟨i, v, l⟩ := s
  obtain ⟨hi, hl, hok⟩ := hs
  try dsimp only at hi hl hok ⊢
  refine wpC_fact (sl_one (v := v) .head) (fun o1 => ?_)
  by_cases hlt : i < 1
  · obtain rfl : i = 0 := by omega
    obtain rfl : l = [] := List.eq_nil_of_length_eq_zero hl
    (refine go ?_; intros)
    refine o_evB (ev_indexS 15 (i := 0) rfl rfl rfl rfl rfl rfl (by omega)) ?_
    (refine go ?_; intro c6)
    (show wpO _ _ ⟨_, .call _, _, _, _, _⟩ _ _ _ _ _ _; refine o_callA (hm) (fun ⟨w, bs, e⟩ hy => ?_); try simp only [List.cons_append, List.nil_append])
    try dsimp only at hy ⊢
    refine wpE_fact (sl_slice (v := w) (.tail .head)) (fun hv => ?_)
    obtain ⟨wa, wc, rfl⟩ := hv
    by_cases h0 : e = 0
    · subst h0
      have ht := py_text 2 (txt bs)
      (refine go ?_; intros)
      refine o_evB (ev_str (l := bs) rfl rfl rfl rfl (Rd.ofSl (e := tU8)) pK) ?_
      (refine go ?_; intros)
      (show wpO _ _ ⟨_, .call _, _, _, _, _⟩ _ _ _ _ _ _; refine o_callA (ht) (fun _ _ => ?_); try simp only [List.cons_append, List.nil_append])
      (refine go ?_; intro bb)
      refine o_append (m := 1) (news := pfdD ⟨2, 2, 0, txt bs⟩) (sz := 4) rfl rfl rfl rfl rfl rfl rfl rfl pK (src_pts rfl pK rfl rfl rfl) (by decide +kernel) rfl (fun v' => ?_)
      refine wpE_fact (sl_one (v := v') .head) (fun o3 => ?_)
      (refine go ?_; intros)
      exact q_round (1, v', [⟨2, 2, 0, txt bs⟩]) ⟨Nat.le_refl _, rfl, fun f hf => by
        obtain rfl : f = ⟨2, 2, 0, txt bs⟩ := by simpa using hf
        exact ⟨by dsimp only; omega, by dsimp only; omega, by show (txt bs).size ≤ 100000; rw [txt_size]; omega⟩⟩ (by dsimp only; omega) sUB eNT
    · have h1 : (e : Int) ≠ 0 := by omega
      (refine go ?_; intros)
      exact q_ret2 rfl rfl rfl (.slice none 0 0, [], e) rfl (Nat.zero_le _) (Ent.cons pK (Ent.slNil Ent.nil))
  · obtain rfl : i = 1 := by omega
    (refine go ?_; intros)
    (show wpO _ _ ⟨_, .call _, _, _, _, _⟩ _ _ _ _ _ _; refine o_callA (py_ends b) (fun _ _ => ?_); try simp only [List.cons_append, List.nil_append])
    (refine go ?_; intros)
    refine o_append (m := 0) (news := []) (sz := 4) rfl rfl rfl rfl rfl rfl rfl rfl pK (src_nil rfl) ?_ rfl (fun v' => ?_)
    · have := Nat.mul_le_mul (show l.length + 0 ≤ 1001 by omega) fld_by
      omega
    rw [List.append_nil, Nat.add_zero]
    have hw := wi_Put (X := pfI v' l) (v := v') (l := l) Rd.ofSl (by omega) hok
    refine wpE_fact (sl_one (v := v') .head) (fun o3 => ?_)
    (refine go ?_; intros)
    (show wpO _ _ ⟨_, .call _, _, _, _, _⟩ _ _ _ _ _ _; refine o_callA (hw) (fun ⟨w, bs, e⟩ hy => ?_); try simp only [List.cons_append, List.nil_append])
    try dsimp only at hy ⊢
    refine wpE_fact (sl_one (v := w) (.tail .head)) (fun o4 => ?_)
    (refine go ?_; intros)
    exact q_ret2 rfl rfl rfl (w, bs, e) rfl hy eNT
theorem py_rebirth {G : Rg} (hK : knG G) : FnDoes Tryz.prog 115 [] [rgH G] (fun y : Value × List UInt8 => y.2.length ≤ 4096) (fun y => y.1) (fun y => [rgH G, bytI y.1 y.2]) := by
  have hp := fun b => py_Put hK b
  refine does_of Tryz.func115 rfl rfl Tryz.ntmps115 rfl eNUM (fun c => ?_)
  (refine go ?_; intro c1 b)
  (show wpO _ _ ⟨_, .call _, _, _, _, _⟩ _ _ _ _ _ _; refine o_callA (hp b) (fun ⟨w, bs, e⟩ hy => ?_); try simp only [List.cons_append, List.nil_append])
  try dsimp only at hy ⊢
  refine wpE_fact (sl_one (v := w) (.tail .head)) (fun o4 => ?_)
  (refine go ?_; intros)
  exact q_ret1 rfl rfl (w, bs) rfl hy eNT
end Go.Proofs.YtnaabpfpldelmaaGreatDoor
set_option linter.unusedSimpArgs false
set_option linter.unusedVariables false
namespace Go.Sx
open Go Go.Conc
theorem ev_strIndexK {P : Program} {c : Cx} {n : Nat} {L : Env} {M : List HProp} {dst : Option Nat} {ty : TypeId} {pos : String} {after : Array Edge} {g : Option (Nat × Bool)} {t : TypeId} {x i : Operand} {s : ByteArray} {j : Nat} {u : UInt8} (k : IntKind) (hx : opnd L x = some (.string s)) (hi : opnd L i = some (.int k j)) (hu : P.underlying t = some .string) (hs : s[j]? = some u) : Ev P ⟨dst, .index t x i, ty, pos, after, g⟩ c n L M (.int .u8 u.toNat) := fun T w st => by
  simp [execOp, opnd_eval st.slots hx, opnd_eval st.slots hi, Instr.index, asIntOf, run_underlying hu, hs]
end Go.Sx
set_option maxRecDepth 20000
namespace Go.Proofs.YtnaabpfpldelmaaGreatDoor
open Go Go.Sx
structure TriS where
  t : Nat
  r : Nat
  b : Nat
  w : Nat
abbrev triC (r : Nat) : List Value := [pt0 r, nat64 0, nat64 0, nat64 0, nat64 0, nat64 0, nat64 0, nat64 0, nat64 0]
abbrev triI (T : TriS) : HProp := pts T.t (.cells (triC T.r).toArray 98 (0, 0))
abbrev nodI (T : TriS) : HProp := pts T.r (.cells [.map (some T.b), .map (some T.w)].toArray 145 (0, 0))
abbrev triL (T : TriS) : List HProp := [triI T, nodI T, mapR T.b [] 0, mapR T.w [] 0]
theorem key_int (k : Int) : KeyOk Tryz.prog 3 (.int .i64 k) := ⟨fun e w => by cases e <;> kernel_rfl, fun w => by kernel_rfl⟩
attribute [local irreducible] MidQ wpE wpO wpC qE wpQ wpQO wpH wpHO wpD wpDO wpZ Ev own emp exI sl ch PostS LoopQ Rd rowsAt
theorem tr_fresh : FnDoes Tryz.prog 31 [] [] (fun _ : Nat × Nat × Nat => True) (fun y => pt0 y.1) (fun y => [pts y.1 (.cells [.map (some y.2.1), .map (some y.2.2)].toArray 145 (0, 0)), mapR y.2.1 [] 0, mapR y.2.2 [] 0]) := by
  refine does_of Tryz.func31 rfl rfl Tryz.ntmps31 rfl eNUM (fun c => ?_)
  (refine go ?_; intros)
  refine o_makeMapR (fun b => ?_)
  (refine go ?_; intros)
  refine o_makeMapR (fun w => ?_)
  (refine go ?_; intro r)
  exact q_ret1 rfl rfl (r, b, w) rfl trivial eNT
theorem tr_new : FnDoes Tryz.prog 14 [] [] (fun _ : TriS => True) (fun T => pt0 T.t) (fun T => triL T) := by
  refine does_of Tryz.func14 rfl rfl Tryz.ntmps14 rfl eNUM (fun c => ?_)
  (refine go ?_; intros)
  (show wpO _ _ ⟨_, .call _, _, _, _, _⟩ _ _ _ _ _ _; refine o_callA (tr_fresh) (fun ⟨r, b, w⟩ _ => ?_); try simp only [List.cons_append, List.nil_append])
  (refine go ?_; intro t)
  exact q_ret1 rfl rfl (⟨t, r, b, w⟩ : TriS) rfl trivial eNT
theorem tr_none (T : TriS) : FnDoes Tryz.prog 149 [pt0 T.t] [triI T] (fun _ : Unit => True) (fun _ => .bool false) (fun _ => [triI T]) := by
  refine does_of Tryz.func149 rfl rfl Tryz.ntmps149 rfl eNUM (fun c => ?_)
  (refine go ?_; intros)
  exact q_ret1 rfl rfl () rfl trivial eNT
theorem tr_known (k : Nat) (hk : k < 8) : FnDoes Tryz.prog 169 [nat64 k] [] (fun _ : Unit => True) (fun _ => .bool true) (fun _ => []) := by
  refine does_of Tryz.func169 rfl rfl Tryz.ntmps169 rfl eNUM (fun c => ?_)
  (refine go ?_; intros)
  exact q_ret1 rfl rfl () rfl trivial eNT
theorem bt_len64 : FnDoes Tryz.prog 312 [.int .u64 0] [] (fun _ : Unit => True) (fun _ => nat64 0) (fun _ => []) := by
  have hz : (0 : UInt8).toNat = 0 := rfl
  refine does_of Tryz.func312 rfl rfl Tryz.ntmps312 rfl eNUM (fun c => ?_)
  (refine go ?_; intros)
  refine o_evB (ev_strIndexK (j := 0) (u := 0) .u8 rfl rfl rfl rfl) ?_
  rw [hz]
  (refine go ?_; intros)
  exact q_ret1 rfl rfl () rfl trivial eNT
theorem bt_len : FnDoes Tryz.prog 238 [.int .u64 0] [] (fun _ : Unit => True) (fun _ => nat64 0) (fun _ => []) := by
  refine does_of Tryz.func238 rfl rfl Tryz.ntmps238 rfl eNUM (fun c => ?_)
  (refine go ?_; intros)
  (show wpO _ _ ⟨_, .call _, _, _, _, _⟩ _ _ _ _ _ _; refine o_callA (bt_len64) (fun _ _ => ?_); try simp only [List.cons_append, List.nil_append])
  (refine go ?_; intros)
  exact q_ret1 rfl rfl () rfl trivial eNT
theorem tr_sort (f : Value) (hf : f.oneCell' = true) : FnDoes Tryz.prog 171 [.slice none 0 0, f] [] (fun _ : Unit => True) (fun _ => .tuple #[]) (fun _ => []) := by
  have h1 : FnDoes Tryz.prog 303 [.slice none 0 0, nat64 0, nat64 0, f] [] (fun _ : Unit => True) (fun _ => .tuple #[]) (fun _ => []) := by
    refine does_of Tryz.func303 rfl rfl Tryz.ntmps303 rfl eNUM (fun c => ?_)
    (refine go ?_; intros)
    refine wpC_loop (σ := Unit) (fun _ => True) (fun _ => [(2, nat64 0), (8, .int .i64 1)]) (fun _ => []) (fun _ => 0) () trivial sUB eNT (fun _ _ => ?_)
    (refine go ?_; intros)
    exact q_ret0 rfl () rfl trivial eNT _ (.inr rfl)
  have h2 : FnDoes Tryz.prog 237 [.slice none 0 0, nat64 0, nat64 0, nat64 0, f] [] (fun _ : Unit => True) (fun _ => .tuple #[]) (fun _ => []) := by
    refine does_of Tryz.func237 rfl rfl Tryz.ntmps237 rfl eNUM (fun c => ?_)
    (refine go ?_; intros)
    refine wpC_loop (σ := Unit) (fun _ => True) (fun _ => [(0, .slice none 0 0), (1, nat64 0), (2, nat64 0), (4, f)]) (fun _ => []) (fun _ => 0) () trivial sUB eNT (fun _ _ => ?_)
    (refine go ?_; intros)
    (show wpO _ _ ⟨_, .call _, _, _, _, _⟩ _ _ _ _ _ _; refine o_callA (h1) (fun _ _ => ?_); try simp only [List.cons_append, List.nil_append])
    (refine go ?_; intros)
    exact q_ret0 rfl () rfl trivial eNT _ (.inl rfl)
  refine does_of Tryz.func171 rfl rfl Tryz.ntmps171 rfl eNUM (fun c => ?_)
  (refine go ?_; intros)
  (show wpO _ _ ⟨_, .call _, _, _, _, _⟩ _ _ _ _ _ _; refine o_callA (bt_len) (fun _ _ => ?_); try simp only [List.cons_append, List.nil_append])
  (refine go ?_; intros)
  (show wpO _ _ ⟨_, .call _, _, _, _, _⟩ _ _ _ _ _ _; refine o_callA (h2) (fun _ _ => ?_); try simp only [List.cons_append, List.nil_append])
  (refine go ?_; intros)
  exact q_ret0 rfl () rfl trivial eNT _ (.inr rfl)
theorem tr_gather (T : TriS) (k o : Nat) : FnDoes Tryz.prog 170 [pt0 T.r, .slice none 0 0, nat64 k, pt0 o] [nodI T, mapR T.b [] 0, mapR T.w [] 0] (fun _ : Unit => True) (fun _ => .tuple #[]) (fun _ => [nodI T, mapR T.b [] 0, mapR T.w [] 0]) := by
  have hk := key_int k
  refine does_of Tryz.func170 rfl rfl Tryz.ntmps170 rfl eNUM (fun c => ?_)
  (refine go ?_; intros)
  refine o_evB (ev_lookup0 (ok := true) (b := T.w) hk rfl rfl rfl rfl rfl pK) ?_
  (refine go ?_; intros)
  refine o_rangeR (b := T.b) rfl rfl pK (fun r => ?_)
  (refine go ?_; intros)
  refine wpC_loop (σ := Unit) (fun _ => True) (fun _ => [(37, pt0 r)]) (fun _ => [nodI T, mapR T.b [] 0, mapR T.w [] 0, itR r T.b 0 []]) (fun _ => 0) () trivial sUB eNT (fun _ _ => ?_)
  (refine go ?_; intros)
  refine o_nextR (b := T.b) (l := []) (bornOk_nil 0) rfl pK pK (fun _ => ?_) (fun e he => by cases he)
  (refine go ?_; intros)
  exact q_ret0 rfl () rfl trivial eNT _ (.inr rfl)
theorem tr_of (T : TriS) (k : Nat) (hk : k < 8) : FnDoes Tryz.prog 120 [pt0 T.t, nat64 k] (triL T) (fun _ : Unit => True) (fun _ => .slice none 0 0) (fun _ => triL T) := by
  have hn := tr_none T
  have hkn := tr_known k hk
  have hg := fun o => tr_gather T k o
  have hs := tr_sort (.func (.func 172) #[] #[]) rfl
  refine does_of Tryz.func120 rfl rfl Tryz.ntmps120 rfl eNUM (fun c => ?_)
  (refine go ?_; intros)
  (show wpO _ _ ⟨_, .call _, _, _, _, _⟩ _ _ _ _ _ _; refine o_callA (hn) (fun _ _ => ?_); try simp only [List.cons_append, List.nil_append])
  (refine go ?_; intros)
  (show wpO _ _ ⟨_, .call _, _, _, _, _⟩ _ _ _ _ _ _; refine o_callA (hkn) (fun _ _ => ?_); try simp only [List.cons_append, List.nil_append])
  (refine go ?_; intro o)
  (show wpO _ _ ⟨_, .call _, _, _, _, _⟩ _ _ _ _ _ _; refine o_callA (hg o) (fun _ _ => ?_); try simp only [List.cons_append, List.nil_append])
  (refine go ?_; intros)
  (show wpO _ _ ⟨_, .call _, _, _, _, _⟩ _ _ _ _ _ _; refine o_callA (hs) (fun _ _ => ?_); try simp only [List.cons_append, List.nil_append])
  (refine go ?_; intros)
  exact q_ret1 rfl rfl () rfl trivial eNT
theorem tr_clear (T : TriS) (k : Nat) (hk : k < 8) : FnDoes Tryz.prog 87 [pt0 T.t, nat64 k] (triL T) (fun _ : Unit => True) (fun _ => nat64 0) (fun _ => triL T) := by
  have ho := tr_of T k hk
  refine does_of Tryz.func87 rfl rfl Tryz.ntmps87 rfl eNUM (fun c => ?_)
  (refine go ?_; intros)
  (show wpO _ _ ⟨_, .call _, _, _, _, _⟩ _ _ _ _ _ _; refine o_callA (ho) (fun _ _ => ?_); try simp only [List.cons_append, List.nil_append])
  (refine go ?_; intros)
  refine wpC_loop (σ := Unit) (fun _ => True) (fun _ => [(5, .slice none 0 0), (12, nat64 0), (13, nat64 0)]) (fun _ => triL T) (fun _ => 0) () trivial sUB eNT (fun _ _ => ?_)
  (refine go ?_; intros)
  exact q_ret1 rfl rfl () rfl trivial eNT
end Go.Proofs.YtnaabpfpldelmaaGreatDoor
set_option linter.unusedSimpArgs false
set_option linter.unusedVariables false
set_option maxRecDepth 20000
namespace Go.Proofs.YtnaabpfpldelmaaGreatDoor
open Go Go.Sx
attribute [local irreducible] MidQ wpE wpO wpC qE wpQ wpQO wpH wpHO wpD wpDO wpZ Ev own emp exI sl ch PostS LoopQ Rd rowsAt
theorem be_none (m : Nat) : FnDoes Tryz.prog 212 [.map (some m), .pointer none] [] (fun _ : Unit => True) (fun _ => .tuple #[]) (fun _ => []) := by
  refine does_of Tryz.func212 rfl rfl Tryz.ntmps212 rfl eNUM (fun c => ?_)
  (refine go ?_; intros)
  exact q_ret0 rfl () rfl trivial eNT _ (.inl rfl)
theorem be_walk0 (m : Nat) (v : Value) (hv : v.oneCell' = true) (w : Bool) : FnDoes Tryz.prog 150 [.map (some m), .pointer none, v, .bool w] [] (fun _ : Unit => True) (fun _ => .tuple #[]) (fun _ => []) := by
  refine does_of Tryz.func150 rfl rfl Tryz.ntmps150 rfl eNUM (fun c => ?_)
  (refine go ?_; intros)
  exact q_ret0 rfl () rfl trivial eNT _ (.inl rfl)
set_option maxHeartbeats 1000000 in
theorem be_walk {G : Rg} (hG : okG G) (T : TriS) (m : Nat) {v : Value} {k : Nat} (hv : slG G tStr v k) (hk : 1 ≤ k) (w : Bool) : FnDoes Tryz.prog 150 [.map (some m), pt0 T.r, v, .bool w] [nodI T, mapR T.b [] 0, rgH G] (fun _ : Unit => True) (fun _ => .tuple #[]) (fun _ => [nodI T, mapR T.b [] 0, rgH G]) := by
  obtain ⟨a, cap, rfl, hc⟩ := hv.isSlice
  obtain ⟨b, o, s0, rfl, hs0, hcell⟩ := str_at hG hv (i := 0) (by omega)
  have h35 := key_str ⟨#[35]⟩
  have h43 := key_str ⟨#[43]⟩
  have hks := key_str s0
  have hn := be_none m
  have hw0 := be_walk0 m (.slice (if cap = 1 then some ⟨b, o, none⟩ else (some ⟨b, o, none⟩ : Option Addr).map fun x => x.add (1 * 1)) (k - 1) (cap - 1)) rfl true
  refine does_of Tryz.func150 rfl rfl Tryz.ntmps150 rfl eNUM (fun c => ?_)
  cases w with
  | true =>
    (refine go ?_; intros)
    refine o_evB (ev_lookup0 (ok := false) (b := T.b) h35 rfl rfl rfl rfl rfl pK) ?_
    (refine go ?_; intros)
    (show wpO _ _ ⟨_, .call _, _, _, _, _⟩ _ _ _ _ _ _; refine o_callA (hn) (fun _ _ => ?_); try simp only [List.cons_append, List.nil_append])
    (refine go ?_; intros)
    refine wpC_drawnA [nodI T, mapR T.b [] 0, rgH G] 11 ?_
    ((first | refine dt 0 ?_ | refine dts 0 ?_); (first | refine dt 1 ?_ | refine dts 1 ?_); (first | refine dt 2 ?_ | refine dts 2 ?_); (first | refine dt 3 ?_ | refine dts 3 ?_); (first | refine dt 4 ?_ | refine dts 4 ?_); (first | refine dt 5 ?_ | refine dts 5 ?_))
    refine dtB 6 rfl (ev_indexS 1 (i := 0) rfl rfl rfl rfl rfl rfl (by omega)) ?_
    ((first | refine dt 7 ?_ | refine dts 7 ?_))
    refine dtB 8 rfl (ev_lookup0 (ok := false) (b := T.b) hks rfl rfl rfl rfl rfl pK) ?_
    ((first | refine df 9 ?_ | refine dfs 9 ?_))
    refine dfB 10 rfl (ev_slcLo (l := 1) 1 rfl rfl rfl rfl rfl rfl (by omega)) ?_
    (refine dlcall (hw0) (fun _ _ => ?_); try simp only [List.cons_append, List.nil_append])
    try simp only [List.cons_append, List.nil_append]
    (refine go ?_; intros)
    refine wpC_drawnA [nodI T, mapR T.b [] 0, rgH G] 8 ?_
    ((first | refine dt 0 ?_ | refine dts 0 ?_); (first | refine dt 1 ?_ | refine dts 1 ?_); (first | refine dt 2 ?_ | refine dts 2 ?_); (first | refine dt 3 ?_ | refine dts 3 ?_); (first | refine dt 4 ?_ | refine dts 4 ?_))
    refine dtB 5 rfl (ev_lookup0 (ok := false) (b := T.b) h43 rfl rfl rfl rfl rfl pK) ?_
    ((first | refine df 6 ?_ | refine dfs 6 ?_))
    refine dfB 7 rfl (ev_slcLo (l := 1) 1 rfl rfl rfl rfl rfl rfl (by omega)) ?_
    (refine dlcall (hw0) (fun _ _ => ?_); try simp only [List.cons_append, List.nil_append])
    try simp only [List.cons_append, List.nil_append]
    (refine go ?_; intros)
    exact q_ret0 rfl () rfl trivial eNT _ (.inr rfl)
  | false =>
    (refine go ?_; intros)
    refine wpC_drawnA [nodI T, mapR T.b [] 0, rgH G] 11 ?_
    ((first | refine dt 0 ?_ | refine dts 0 ?_); (first | refine dt 1 ?_ | refine dts 1 ?_); (first | refine dt 2 ?_ | refine dts 2 ?_); (first | refine dt 3 ?_ | refine dts 3 ?_); (first | refine dt 4 ?_ | refine dts 4 ?_); (first | refine dt 5 ?_ | refine dts 5 ?_))
    refine dtB 6 rfl (ev_indexS 1 (i := 0) rfl rfl rfl rfl rfl rfl (by omega)) ?_
    ((first | refine dt 7 ?_ | refine dts 7 ?_))
    refine dtB 8 rfl (ev_lookup0 (ok := false) (b := T.b) hks rfl rfl rfl rfl rfl pK) ?_
    ((first | refine df 9 ?_ | refine dfs 9 ?_))
    refine dfB 10 rfl (ev_slcLo (l := 1) 1 rfl rfl rfl rfl rfl rfl (by omega)) ?_
    (refine dlcall (hw0) (fun _ _ => ?_); try simp only [List.cons_append, List.nil_append])
    try simp only [List.cons_append, List.nil_append]
    (refine go ?_; intros)
    exact q_ret0 rfl () rfl trivial eNT _ (.inr rfl)
abbrev bxI (b m : Nat) : HProp := pts b (.cells [.map (some m)].toArray 279 (0, 0))
theorem mk_seq (b m : Nat) : SeqDoes Tryz.prog 216 [pt0 b] [] [bxI b m, mapR m [] 0] := fun j J Z hY => by
  refine does_of Tryz.func216 rfl rfl Tryz.ntmps216 rfl eNUM (fun c => ?_)
  simp only [List.cons_append, List.nil_append]
  (refine go ?_; intros)
  refine o_rangeR (b := m) rfl rfl pK (fun r => ?_)
  (refine go ?_; intros)
  refine wpC_loop (σ := Unit) (fun _ => True) (fun _ => [(5, pt0 r)]) (fun _ => [bxI b m, mapR m [] 0, itR r m 0 [], J 0]) (fun _ => 0) () trivial sUB eNT (fun _ _ => ?_)
  (refine go ?_; intros)
  refine o_nextR (b := m) (l := []) (bornOk_nil 0) rfl pK pK (fun _ => ?_) (fun e he => by cases he)
  (refine go ?_; intros)
  exact q_ret0 rfl true rfl trivial eNT _ (.inr rfl)
theorem mk_keys (m : Nat) : FnDoes Tryz.prog 154 [.map (some m)] [] (fun _ : Nat => True) (fun b => .func (.func 216) #[] [pt0 b].toArray) (fun b => [bxI b m]) := by
  refine does_of Tryz.func154 rfl rfl Tryz.ntmps154 rfl eNUM (fun c => ?_)
  (refine go ?_; intro b)
  refine o_evB (ev_makeFunc (vb := []) (vf := [pt0 b]) rfl rfl) ?_
  (refine go ?_; intros)
  exact q_ret1 rfl rfl b rfl trivial eNT
theorem sl_append (b m : Nat) : FnDoes Tryz.prog 280 [.slice none 0 0, .func (.func 216) #[] [pt0 b].toArray] [bxI b m, mapR m [] 0] (fun _ : Unit => True) (fun _ => .slice none 0 0) (fun _ => []) := by
  refine does_ofM Tryz.func280 rfl rfl Tryz.ntmps280 rfl eNUM (fun c hrnd hds => ?_)
  (refine go ?_; intro c2)
  refine wpC_rangeFunc (ps := [7]) (σ := Unit) (R := []) (fun _ _ => True) (fun _ _ => []) (fun _ _ => [pts c2 (.cells [.slice none 0 0].toArray 30 (0, 0))])
    (fun _ => [pts c2 (.cells [.slice none 0 0].toArray 30 (0, 0))])
    (fun _ => [exI (σ := Unit) (fun _ => False) (fun _ => [])])
    hrnd (mk_seq b m) rfl rfl ?_ ?_ ?_ ?_ ?_ ?_
  · intro e he; cases he
  · ((try simp only [List.cons_append, List.nil_append]); repeat (first | exact Ent.nil | (apply Ent.cons; repeat (first | exact Pick.head | apply Pick.tail))))
  · intro l1 c' hr' hd' k hk; exact absurd hk (Nat.not_lt_zero _)
  · intro l1 c' hr' hd' k hk; exact absurd hk (Nat.not_lt_zero _)
  · intro D
    simp only [List.cons_append, List.nil_append]
    refine q_block_normal ?_
    refine q_then ?_
    (refine go ?_; intros)
    exact qm_ret1 hds pK (.inl rfl) (q_ret1 rfl rfl () rfl trivial eNT)
  · intro D jj
    simp only [List.cons_append, List.nil_append]
    refine q_unfoldP (.tail (.tail (.tail .head))) (fun y hy => ?_)
    exact hy.elim
end Go.Proofs.YtnaabpfpldelmaaGreatDoor
