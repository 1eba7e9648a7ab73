/-
  Properties, some of which have properties of their own: read.
  Properties, read: a list of them, and each one's own.
  What is told of a metric: read.
-/
import Derived.Test.YtnaabpfpldelmaaGreatDoorM15
set_option linter.unusedSimpArgs false
set_option linter.unusedVariables false
set_option maxRecDepth 20000
namespace Go.Proofs.YtnaabpfpldelmaaGreatDoor
open Go Go.Sx
theorem shp_prop : shp 736 = [.one, .one, .one, .one, .one, .one, .one] := by kernel_rfl
structure FndS where
  k : Value
  t : Value
  n : Value
  vk : Int
  vn : Value
  vs : Value
  sub : Value
  set : ByteArray
structure FndOk (s : FndS) : Prop where
  k : s.k.oneCell' = true
  t : s.t.oneCell' = true
  n : s.n.oneCell' = true
  vn : s.vn.oneCell' = true
  vs : s.vs.oneCell' = true
  sub : s.sub.oneCell' = true
  set : s.set.size ≤ 65536
abbrev prpC (s : FndS) : List Value := [s.k, s.t, s.n, .int .i64 s.vk, s.vn, s.vs, s.sub]
abbrev fndI (r : Nat) (s : FndS) : HProp := pts r (.cells [s.k, s.t, s.n, .int .i64 s.vk, s.vn, s.vs, s.sub, .string s.set].toArray 821 (0, 0))
attribute [local irreducible] MidQ wpE wpO wpC qE wpQ wpQO wpH wpHO wpD wpDO wpZ Ev own emp exI sl ch PostS LoopQ Rd rowsAt
theorem pr_number (x y z : Int) (s : ByteArray) (m : Int) : FnDoes Tryz.prog 686 [.agg (fldC x y z s).toArray, .int .u64 m] [] (fun p : Int × Nat => p.1 = 0 ∨ p.1 = z ∧ z ≤ m) (fun p => .tuple #[.int .u64 p.1, nat64 p.2]) (fun _ => []) := by
  refine does_of Tryz.func686 rfl rfl Tryz.ntmps686 rfl eNUM (fun c => ?_)
  by_cases hk : y = 0
  · by_cases hz : z > m
    · (refine go ?_; intros)
      exact q_ret2 rfl rfl rfl (0, 5) rfl (.inl rfl) eNT
    · (refine go ?_; intros)
      exact q_ret2 rfl rfl rfl (z, 0) rfl (.inr ⟨rfl, by omega⟩) eNT
  · (refine go ?_; intros)
    exact q_ret2 rfl rfl rfl (0, 4) rfl (.inl rfl) eNT
set_option maxHeartbeats 1000000 in
theorem pr_take {G : Rg} (hK : knG G) (r : Nat) (w : FndS) (hw : FndOk w) (x y z : Int) (s : ByteArray) (hf : FldP x y z s) : FnDoes Tryz.prog 681 [pt0 r, .agg (fldC x y z s).toArray] [fndI r w, rgH G]
    (fun p : FndS × Nat => FndOk p.1) (fun p => nat64 p.2) (fun p => [fndI r p.1, rgH G]) := by
  obtain ⟨c0, c1, c2, vk, c4, c5, c6, st⟩ := w
  have hw' := hw
  obtain ⟨h0, h1, h2, h4, h5, h6, h7⟩ := hw'
  dsimp only at h0 h1 h2 h4 h5 h6 h7 ⊢
  have hz := inK_u64.1 hf.2.2.1
  refine does_of Tryz.func681 rfl rfl Tryz.ntmps681 rfl eNUM (fun c => ?_)
  by_cases k1 : x = 1
  · (refine go ?_; intros)
    (show wpO _ _ ⟨_, .call _, _, _, _, _⟩ _ _ _ _ _ _; refine o_callA (pr_number x y z s 4294967295) (fun ⟨m, e⟩ hm => ?_); try simp only [List.cons_append, List.nil_append])
    try dsimp only at hm ⊢
    have hm2 : 0 ≤ m ∧ m ≤ 4294967295 := by omega
    (refine go ?_; intros)
    exact q_ret1 rfl rfl (⟨c0, .int .u32 m, c2, vk, c4, c5, c6, st⟩, e) rfl ⟨h0, rfl, h2, h4, h5, h6, h7⟩ eNT
  by_cases k2 : x = 2
  · (refine go ?_; intros)
    (show wpO _ _ ⟨_, .call _, _, _, _, _⟩ _ _ _ _ _ _; refine o_callA (pr_number x y z s 1) (fun ⟨m, e⟩ hm => ?_); try simp only [List.cons_append, List.nil_append])
    try dsimp only at hm ⊢
    by_cases m1 : m = 1
    · (refine go ?_; intros)
      exact q_ret1 rfl rfl (⟨c0, c1, .bool true, vk, c4, c5, c6, st⟩, e) rfl ⟨h0, h1, rfl, h4, h5, h6, h7⟩ eNT
    · (refine go ?_; intros)
      exact q_ret1 rfl rfl (⟨c0, c1, .bool false, vk, c4, c5, c6, st⟩, e) rfl ⟨h0, h1, rfl, h4, h5, h6, h7⟩ eNT
  by_cases k9 : x = 9
  · by_cases hy : y = 2
    · (refine go ?_; intro b)
      refine wpC_drawnA [pts b (.cells (fldC x y z s).toArray 363 (0, 0))] 11 ?_
      ((first | refine dt 0 ?_ | refine dts 0 ?_); (first | refine dt 1 ?_ | refine dts 1 ?_); (first | refine dt 2 ?_ | refine dts 2 ?_); (first | refine dt 3 ?_ | refine dts 3 ?_); (first | refine dt 4 ?_ | refine dts 4 ?_); (first | refine df 5 ?_ | refine dfs 5 ?_); (first | refine df 6 ?_ | refine dfs 6 ?_); (first | refine df 7 ?_ | refine dfs 7 ?_))
      (refine wpD_effU 8 rfl rfl (by decide +kernel) rfl ?_; show OUL _ ⟨_, .store _ _ _, _, _, _, _⟩ _ _ _ _ _)
      refine x_storeP (vs := [.int .i64 8, .int .u64 0, .string ⟨#[]⟩]) (by rfl) (by rfl) (by rfl) (by rfl) (by rfl) (by rfl) pK (by simp) rfl ⟨eNT, ?_⟩
      ((first | refine df 9 ?_ | refine dfs 9 ?_); (first | refine df 10 ?_ | refine dfs 10 ?_))
      (refine wpD_lastU rfl rfl (by kernel_rfl) (by kernel_rfl) rfl ?_; show OUL _ ⟨_, .store _ _ _, _, _, _, _⟩ _ _ _ _ _)
      refine x_store (by rfl) (by rfl) (by rfl) (by rfl) rfl pK (Upd1.of (by simp)) ?_
      (refine go ?_; intros)
      exact q_ret1 rfl rfl (⟨c0, c1, c2, 8, .int .u64 0, .string ⟨#[]⟩, c6, s⟩, 0) rfl ⟨h0, h1, h2, rfl, rfl, h6, hf.2.2.2⟩ eNT
    · (refine go ?_; intros)
      exact q_ret1 rfl rfl (⟨c0, c1, c2, vk, c4, c5, c6, st⟩, 4) rfl hw eNT
  by_cases kv : 3 ≤ x ∧ x ≤ 8
  · (refine go ?_; intro b bb)
    have hX : Rd (pts bb (.cells (fldC x y z s).toArray 363 (0, 0))) 4 (.slice (some ⟨bb, 0, none⟩) 1 1) 1 (fldC x y z s) := Rd.ofPts rfl rfl (by decide)
    have hc := va_of (G := G) hK hX (fld_one hf) (by decide) 3 ⟨by decide, by decide⟩ false
    (show wpO _ _ ⟨_, .call _, _, _, _, _⟩ _ _ _ _ _ _; refine o_callA (hc) (fun ⟨kn, n, t, e⟩ hv => ?_); try simp only [List.cons_append, List.nil_append])
    try dsimp only at hv ⊢
    (refine go ?_; intros)
    refine o_store_part (vs := valC kn n t) rfl rfl rfl rfl rfl rfl pK (by simp) rfl ?_
    (refine go ?_; intros)
    exact q_ret1 rfl rfl (⟨c0, c1, c2, kn, .int .u64 n, .string t, c6, st⟩, e) rfl ⟨h0, h1, h2, rfl, rfl, h6, h7⟩ eNT
  · by_cases kl : x ≥ 3
    · (refine go ?_; intros)
      exact q_ret1 rfl rfl (⟨c0, c1, c2, vk, c4, c5, c6, st⟩, 0) rfl hw eNT
    · (refine go ?_; intros)
      exact q_ret1 rfl rfl (⟨c0, c1, c2, vk, c4, c5, c6, st⟩, 0) rfl hw eNT
end Go.Proofs.YtnaabpfpldelmaaGreatDoor
set_option linter.unusedSimpArgs false
set_option linter.unusedVariables false
set_option maxRecDepth 20000
namespace Go.Proofs.YtnaabpfpldelmaaGreatDoor
open Go Go.Sx
def PropsOf (deep : Nat) : Prop := ∀ (X : HProp) (v : Value) (l : List UInt8) (G : Rg), Bs X v l → l.length ≤ 1000000 → okG G → knG G → FnDoes Tryz.prog 671 [v, nat64 deep] [rgH G, X]
  (fun y : Rg × Value × Nat => okG y.1 ∧ grG G y.1 ∧ y.2.1.oneCell' = true) (fun y => .tuple #[y.2.1, nat64 y.2.2]) (fun y => [rgH y.1, X])
def propZ : List Value := [.string ⟨#[]⟩, .int .u32 0, .bool false, .int .i64 0, .int .u64 0, .string ⟨#[]⟩, .slice none 0 0]
attribute [local irreducible] MidQ wpE wpO wpC qE wpQ wpQO wpH wpHO wpD wpDO wpZ Ev own emp exI sl ch PostS LoopQ Rd rowsAt
set_option maxHeartbeats 1000000 in
theorem pr_read (deep : Nat) (hd : deep ≤ 8) (IH : PropsOf (deep + 1)) {G : Rg} (hG : okG G) (hK : knG G) (key s : ByteArray) (hs : s.size ≤ 65536) : FnDoes Tryz.prog 677 [.string key, .string s, nat64 deep] [rgH G]
    (fun y : Rg × List Value × Nat => okG y.1 ∧ grG G y.1 ∧ okRows shp ρ0 736 y.2.1 1) (fun y => .tuple #[.agg y.2.1.toArray, nat64 y.2.2]) (fun y => [rgH y.1]) := by
  have hz : okRows shp ρ0 736 propZ 1 := okRows.one (by rw [shp_prop]; exact okZ rfl)
  have hp : ∀ w : FndS, FndOk w → okRows shp ρ0 736 (prpC w) 1 := fun w h => okRows.one (by
    rw [shp_prop]; exact ⟨h.k, h.t, h.n, rfl, h.vn, h.vs, h.sub, trivial⟩)
  refine does_of Tryz.func677 rfl rfl Tryz.ntmps677 rfl eNUM (fun c => ?_)
  (refine go ?_; intro c6)
  refine o_bytesOf rfl rfl rfl rfl rfl (fun bv => ?_)
  have hb := wire_of (X := bsI bv s.data.toList) Bs.ofBsI (by rw [show s.data.toList.length = s.size from Array.length_toList]; omega)
  (refine go ?_; intros)
  (show wpO _ _ ⟨_, .call _, _, _, _, _⟩ _ _ _ _ _ _; refine o_callA (hb) (fun ⟨e, q, k, xs⟩ hq => ?_); try simp only [List.cons_append, List.nil_append])
  obtain ⟨hq, hk⟩ := hq
  try dsimp only at hq hk ⊢
  by_cases he : e = 0
  · subst he
    have hr : Rd (flI q k xs) 4 q k xs := Rd.ofSl
    refine wpE_fact (hr.isSlice pK) (fun hs => ?_)
    obtain ⟨a, cap, rfl, ha⟩ := hs
    (refine go ?_; intro r)
    refine wpC_loop (σ := Nat × FndS) (fun s => s.1 ≤ k ∧ FndOk s.2) (fun s => [(2, nat64 deep), (6, pt0 c6), (10, pt0 r), (28, .slice a k cap), (29, nat64 k), (30, nat64 s.1)]) (fun s => [rgH G, flI (.slice a k cap) k xs, fndI r s.2, pts c6 (.cells propZ.toArray 736 (0, 0))]) (fun s => k - s.1)
      (0, ⟨.string key, .int .u32 0, .bool false, 0, .int .u64 0, .string ⟨#[]⟩, .slice none 0 0, ⟨#[]⟩⟩) ⟨Nat.zero_le _, rfl, rfl, rfl, rfl, rfl, rfl, Nat.zero_le _⟩ sUB eNT (fun s hs => ?_)
    obtain ⟨i, w⟩ := s
    obtain ⟨hi, hw⟩ := hs
    try dsimp only at hi hw ⊢
    by_cases hlt : i < k
    · obtain ⟨b, o, rfl, hcap⟩ := ha (by omega)
      obtain ⟨x, y, z, t, hf, hrow⟩ := fld_row hq hlt
      (refine go ?_; intros)
      refine o_evB (ev_load_rd_agg (vs := fldC x y z t) rfl rfl rfl rfl hr pK rfl rfl hrow) ?_
      (refine go ?_; intro c12)
      have ht := pr_take hK r w hw x y z t hf
      (show wpO _ _ ⟨_, .call _, _, _, _, _⟩ _ _ _ _ _ _; refine o_callA (ht) (fun ⟨w', e⟩ hw' => ?_); try simp only [List.cons_append, List.nil_append])
      try dsimp only at hw' ⊢
      by_cases he : e = 0
      · subst he
        (refine go ?_; intros)
        exact q_round (i + 1, w') ⟨hlt, hw'⟩ (by show k - (i + 1) < k - i; omega) sUB eNT
      · have he' : (e : Int) ≠ 0 := by omega
        unfold propZ
        (refine go ?_; intros)
        exact q_retAT rfl rfl rfl rfl rfl rfl rfl pK (G, propZ, e) rfl ⟨hG, Gr.refl _ _, hz⟩ eNT
    · have h1 := hw.k
      have h2 := hw.t
      have h3 := hw.n
      have h4 := hw.vn
      have h5 := hw.vs
      have h6 := hw.sub
      unfold propZ
      by_cases hset : w.vk = 8
      · (refine go ?_; intros)
        refine o_bytesOf rfl rfl rfl rfl rfl (fun bv2 => ?_)
        have hb2 := IH (bsI bv2 w.set.data.toList) bv2 w.set.data.toList G Bs.ofBsI (by rw [show w.set.data.toList.length = w.set.size from Array.length_toList]; have := hw.set; omega) hG hK
        (refine go ?_; intros)
        (show wpO _ _ ⟨_, .call _, _, _, _, _⟩ _ _ _ _ _ _; refine o_callA (hb2) (fun ⟨G2, sv, e⟩ hy => ?_); try simp only [List.cons_append, List.nil_append])
        obtain ⟨g1, g2, g3⟩ := hy
        try dsimp only at g1 g2 g3 ⊢
        (refine go ?_; intros)
        by_cases he : e = 0
        · subst he
          (refine go ?_; intros)
          exact q_retAT rfl rfl rfl rfl rfl rfl rfl pK (G2, prpC { w with sub := sv }, 0) rfl ⟨g1, g2, hp { w with sub := sv } ⟨h1, h2, h3, h4, h5, g3, hw.set⟩⟩ eNT
        · have he' : (e : Int) ≠ 0 := by omega
          (refine go ?_; intros)
          exact q_retAT rfl rfl rfl rfl rfl rfl rfl pK (G2, propZ, e) rfl ⟨g1, g2, hz⟩ eNT
      · (refine go ?_; intros)
        exact q_retAT rfl rfl rfl rfl rfl rfl rfl pK (G, prpC w, 0) rfl ⟨hG, Gr.refl _ _, hp w hw⟩ eNT
  · have he' : (e : Int) ≠ 0 := by omega
    (refine go ?_; intros)
    exact q_retAT rfl rfl rfl rfl rfl rfl rfl pK (G, propZ, e) rfl ⟨hG, Gr.refl _ _, hz⟩ eNT
structure HlvS where
  e : Nat
  q1 : Value
  k1 : Nat
  x1 : List Value
  q2 : Value
  k2 : Nat
  x2 : List Value
def HlvOk (s : HlvS) : Prop := fldOk s.x1 s.k1 ∧ fldOk s.x2 s.k2 ∧ s.k1 = s.k2 ∧ s.k1 ≤ 32
theorem pr_halves {X : HProp} {v : Value} {k : Nat} {xs : List Value} (hX : Rd X 4 v k xs) (hx : fldOk xs k) (hk : k ≤ 256) : FnDoes Tryz.prog 676 [v] [X] HlvOk (fun y => .tuple #[y.q1, y.q2, nat64 y.e]) (fun y => [X, flI y.q1 y.k1 y.x1, flI y.q2 y.k2 y.x2]) := by
  have hz : ∀ e, HlvOk ⟨e, .slice none 0 0, 0, [], .slice none 0 0, 0, []⟩ := fun e => ⟨fld_nil, fld_nil, rfl, Nat.zero_le _⟩
  refine does_of Tryz.func676 rfl rfl Tryz.ntmps676 rfl eNUM (fun c => ?_)
  refine wpC_fact (hX.isSlice .head) (fun hs => ?_)
  obtain ⟨a, cap, rfl, ha⟩ := hs
  (refine go ?_; intros)
  refine wpC_loop (σ := Nat) (fun i => i ≤ k) (fun i => [(0, .slice a k cap), (9, .slice a k cap), (10, nat64 k), (11, nat64 i)]) (fun _ => [X]) (fun i => k - i) 0 (Nat.zero_le _) sUB eNT (fun i hi => ?_)
  by_cases hlt : i < k
  · obtain ⟨b, o, rfl, hcap⟩ := ha (by omega)
    obtain ⟨x, y, z, t, hf, hrow⟩ := fld_row hx hlt
    (refine go ?_; intros)
    refine o_evB (ev_load_rd_agg (vs := fldC x y z t) rfl rfl rfl rfl hX pK rfl rfl hrow) ?_
    by_cases h1 : x = 1
    · by_cases hy : y = 2
      · (refine go ?_; intros)
        exact q_round (i + 1) hlt (by show k - (i + 1) < k - i; omega) sUB eNT
      · (refine go ?_; intros)
        exact q_ret3 rfl rfl rfl rfl _ rfl (hz 4) (Ent.cons pK (Ent.slNil (Ent.slNil Ent.nil)))
    by_cases h2 : x = 2
    · by_cases hy : y = 2
      · (refine go ?_; intros)
        exact q_round (i + 1) hlt (by show k - (i + 1) < k - i; omega) sUB eNT
      · (refine go ?_; intros)
        exact q_ret3 rfl rfl rfl rfl _ rfl (hz 4) (Ent.cons pK (Ent.slNil (Ent.slNil Ent.nil)))
    · (refine go ?_; intros)
      exact q_round (i + 1) hlt (by show k - (i + 1) < k - i; omega) sUB eNT
  · (refine go ?_; intros)
    have ha1 := wire_all hX hx hk 1
    (show wpO _ _ ⟨_, .call _, _, _, _, _⟩ _ _ _ _ _ _; refine o_callA (ha1) (fun ⟨_, q1, k1, x1⟩ hy1 => ?_); try simp only [List.cons_append, List.nil_append])
    obtain ⟨hy1, hk1⟩ := hy1
    (refine go ?_; intros)
    have ha2 := wire_all hX hx hk 2
    (show wpO _ _ ⟨_, .call _, _, _, _, _⟩ _ _ _ _ _ _; refine o_callA (ha2) (fun ⟨_, q2, k2, x2⟩ hy2 => ?_); try simp only [List.cons_append, List.nil_append])
    obtain ⟨hy2, hk2⟩ := hy2
    try dsimp only at hy1 hk1 hy2 hk2 ⊢
    by_cases m1 : k1 > 32
    · (refine go ?_; intros)
      exact q_ret3 rfl rfl rfl rfl _ rfl (hz 6) (Ent.cons pK (Ent.slNil (Ent.slNil Ent.nil)))
    by_cases m2 : k2 > 32
    · (refine go ?_; intros)
      exact q_ret3 rfl rfl rfl rfl _ rfl (hz 6) (Ent.cons pK (Ent.slNil (Ent.slNil Ent.nil)))
    by_cases m3 : k1 = k2
    · (refine go ?_; intros)
      exact q_ret3 rfl rfl rfl rfl ⟨0, q1, k1, x1, q2, k2, x2⟩ rfl ⟨hy1, hy2, m3, by dsimp only; omega⟩ eNT
    · (refine go ?_; intros)
      exact q_ret3 rfl rfl rfl rfl _ rfl (hz 4) (Ent.cons pK (Ent.slNil (Ent.slNil Ent.nil)))
theorem prop_inv {S : Shp} {ρ : Rho} {vs : List Value} (h : okR S ρ [.one, .one, .one, .one, .one, .one, .one] vs) : ∃ a b c d e f g : Value, vs = [a, b, c, d, e, f, g] ∧ a.oneCell' = true ∧ b.oneCell' = true ∧ c.oneCell' = true ∧ d.oneCell' = true ∧ e.oneCell' = true ∧ f.oneCell' = true ∧ g.oneCell' = true := by
  obtain ⟨a, _, rfl, h0, h1⟩ := okR_cons h
  obtain ⟨b, _, rfl, k1, h2⟩ := okR_cons h1
  obtain ⟨c, _, rfl, k2, h3⟩ := okR_cons h2
  obtain ⟨d, _, rfl, k3, h4⟩ := okR_cons h3
  obtain ⟨e, _, rfl, k4, h5⟩ := okR_cons h4
  obtain ⟨f, _, rfl, k5, h6⟩ := okR_cons h5
  obtain ⟨g, _, rfl, k6, h7⟩ := okR_cons h6
  obtain rfl := okR_nil h7
  exact ⟨a, b, c, d, e, f, g, rfl, h0, k1, k2, k3, k4, k5, k6⟩
theorem le0 {ρ : Rho} : Rho.le ρ0 ρ := fun _ _ _ _ h => by cases h
theorem rows1 {e : TypeId} {cts : List CT} {vs : List Value} (h : okRows shp ρ0 e vs 1) (he : shp e = cts) : okR shp ρ0 cts vs := by
  subst he
  have := h.2 0 (by decide)
  rwa [rowOf_one (by have := h.1; omega)] at this
set_option maxHeartbeats 2000000 in
theorem pr_ofN : ∀ j deep, deep + j = 9 → PropsOf deep
  | 0, deep, hd => by
    intro X v l G hX hl hG hK
    have hd' : (deep : Int) > 8 := by omega
    refine does_of Tryz.func671 rfl rfl Tryz.ntmps671 rfl eNUM (fun c => ?_)
    (refine go ?_; intros)
    exact q_ret2 rfl rfl rfl (G, .slice none 0 0, 12) rfl ⟨hG, Gr.refl _ _, rfl⟩ eNT
  | j + 1, deep, hd => by
    intro X v l G hX hl hG hK
    have IH : PropsOf (deep + 1) := pr_ofN j (deep + 1) (by omega)
    have hd' : ¬ (deep : Int) > 8 := by omega
    refine does_of Tryz.func671 rfl rfl Tryz.ntmps671 rfl eNUM (fun c => ?_)
    have hw := wire_of hX hl
    (refine go ?_; intros)
    (show wpO _ _ ⟨_, .call _, _, _, _, _⟩ _ _ _ _ _ _; refine o_callA (hw) (fun ⟨e, q, k, xs⟩ hq => ?_); try simp only [List.cons_append, List.nil_append])
    obtain ⟨hq, hk⟩ := hq
    try dsimp only at hq hk ⊢
    by_cases he : e = 0
    focus
      subst he
      have hh := pr_halves (X := flI q k xs) (v := q) Rd.ofSl hq hk
      (refine go ?_; intros)
      (show wpO _ _ ⟨_, .call _, _, _, _, _⟩ _ _ _ _ _ _; refine o_callA (hh) (fun ⟨e, q1, k1, x1, q2, k2, x2⟩ hy => ?_); try simp only [List.cons_append, List.nil_append])
      obtain ⟨y1, y2, y3, y4⟩ := hy
      try dsimp only at y1 y2 y3 y4 ⊢
      subst y3
      by_cases he : e = 0
      focus
        subst he
        have hr1 : Rd (flI q1 k1 x1) 4 q1 k1 x1 := Rd.ofSl
        have hr2 : Rd (flI q2 k1 x2) 4 q2 k1 x2 := Rd.ofSl
        (refine go ?_; intros)
        refine wpC_loop (σ := Nat × Rg × Value × Nat) (fun s => s.1 ≤ k1 ∧ okG s.2.1 ∧ grG G s.2.1 ∧ slG s.2.1 736 s.2.2.1 s.2.2.2 ∧ s.2.2.2 ≤ s.1) (fun s => [(1, nat64 deep), (8, q1), (9, q2), (10, s.2.2.1), (33, q1), (34, nat64 k1), (35, nat64 s.1)])
          (fun s => [rgH s.2.1, X, flI q1 k1 x1, flI q2 k1 x2]) (fun s => k1 - s.1) (0, G, .slice none 0 0, 0) ⟨Nat.zero_le _, hG, Gr.refl _ _, okSl.nil, Nat.le_refl _⟩ sUB eNT (fun s hs => ?_)
        obtain ⟨i, G1, out, kn⟩ := s
        obtain ⟨hi, hG1, hgr, hout, hkn⟩ := hs
        try dsimp only at hi hG1 hgr hout hkn ⊢
        refine wpC_fact (hr1.isSlice pK) (fun hs => ?_)
        obtain ⟨a1, cap1, rfl, ha1⟩ := hs
        refine wpC_fact (hr2.isSlice pK) (fun hs => ?_)
        obtain ⟨a2, cap2, rfl, ha2⟩ := hs
        have ho1 := hout.one
        by_cases hlt : i < k1
        focus
          obtain ⟨b1, o1, rfl, hcap1⟩ := ha1 (by omega)
          obtain ⟨b2, o2, rfl, hcap2⟩ := ha2 (by omega)
          obtain ⟨fx, fy, fz, fs, ⟨_, _, _, hfs⟩, hrow1⟩ := fld_row y1 hlt
          obtain ⟨gx, gy, gz, gs, ⟨_, _, _, hgs⟩, hrow2⟩ := fld_row y2 hlt
          have hread := pr_read deep (by omega) IH hG1 (hK.up hgr) fs gs hgs
          (refine go ?_; intros)
          refine wpC_drawnA [flI (.slice (some ⟨b1, o1, none⟩) k1 cap1) k1 x1, flI (.slice (some ⟨b2, o2, none⟩) k1 cap2) k1 x2] 17 ?_
          ((first | refine dt 0 ?_ | refine dts 0 ?_); (first | refine dt 1 ?_ | refine dts 1 ?_); (first | refine dt 2 ?_ | refine dts 2 ?_); (first | refine dt 3 ?_ | refine dts 3 ?_))
          refine dtB 4 rfl (ev_load_rd rfl rfl rfl hr1 pK (by omega) (hrow1 3 _ rfl)) ?_
          ((first | refine dt 5 ?_ | refine dts 5 ?_); (first | refine dt 6 ?_ | refine dts 6 ?_); (first | refine dt 7 ?_ | refine dts 7 ?_); (first | refine dt 8 ?_ | refine dts 8 ?_))
          refine dtB 9 rfl (ev_load_rd rfl rfl rfl hr2 pK (by omega) (hrow2 3 _ rfl)) ?_
          ((first | refine dt 10 ?_ | refine dts 10 ?_))
          refine wpD_two 11 15 ?_ ?_
          focus
            refine d1_call hread (fun y hy => ?_)
            obtain ⟨G2, P, e⟩ := y
            obtain ⟨z1, z2, z3⟩ := hy
            try dsimp only at z1 z2 z3 ⊢
            have z4 := rows1 z3 shp_prop
            obtain ⟨p0, p1, p2, p3, p4, p5, p6, rfl, u0, u1, u2, u3, u4, u5, u6⟩ := prop_inv z4
            simp only [List.cons_append, List.nil_append]
            ((first | refine dt 12 ?_ | refine dts 12 ?_); (first | refine dt 13 ?_ | refine dts 13 ?_); (first | refine dt 14 ?_ | refine dts 14 ?_))
            (refine wpD_eff 15 rfl rfl (by kernel_rfl) rfl rfl ?_; show OVL _ ⟨_, .alloc _, _, _, _, _⟩ _ _ _ _ _ _)
            refine x_alloc (by rfl) (by rfl) (by rfl) (fun c12 => ⟨eNT, ?_⟩)
            (refine wpD_effU 16 rfl rfl (by decide +kernel) rfl ?_; show OUL _ ⟨_, .store _ _ _, _, _, _, _⟩ _ _ _ _ _)
            refine x_storeP (vs := [p0, p1, p2, p3, p4, p5, p6]) (by rfl) (by rfl) (by rfl) (by rfl) (by rfl) z4.one pK (by simp) rfl ⟨eNT, ?_⟩
            (refine dl ?_)
          rotate_left
          focus
            refine d1_val ?_
            show OVL _ ⟨_, .alloc _, _, _, _, _⟩ _ _ _ _ _ _
            refine x_alloc (by rfl) (by rfl) (by rfl) (fun c12 => ⟨eNT, ?_⟩)
            refine dcall 11 hread (fun y hy => ?_)
            obtain ⟨G2, P, e⟩ := y
            obtain ⟨z1, z2, z3⟩ := hy
            try dsimp only at z1 z2 z3 ⊢
            have z4 := rows1 z3 shp_prop
            obtain ⟨p0, p1, p2, p3, p4, p5, p6, rfl, u0, u1, u2, u3, u4, u5, u6⟩ := prop_inv z4
            simp only [List.cons_append, List.nil_append]
            ((first | refine df 12 ?_ | refine dfs 12 ?_); (first | refine dt 13 ?_ | refine dts 13 ?_); (first | refine dt 14 ?_ | refine dts 14 ?_))
            (refine wpD_effU 16 rfl rfl (by decide +kernel) rfl ?_; show OUL _ ⟨_, .store _ _ _, _, _, _, _⟩ _ _ _ _ _)
            refine x_storeP (vs := [p0, p1, p2, p3, p4, p5, p6]) (by rfl) (by rfl) (by rfl) (by rfl) (by rfl) z4.one pK (by simp) rfl ⟨eNT, ?_⟩
            (refine dl ?_)
          rotate_left
          all_goals
            by_cases he : e = 0
            · subst he
              (refine go ?_; intro bb)
              refine o_appendR (S := shp) (m := 1) (news := [p0, p1, p2, p3, p4, p5, p6]) z1 (hout.mono z2.le) (z3.mono le0) ?_ (fun v' ρ' H' w1 w2 w3 => ?_) (src_pts rfl pK rfl rfl z4.one)
              · show (kn + 1) * 80 ≤ 140737488355328
                have := y4
                omega
              (refine go ?_; intros)
              exact q_round (i + 1, (ρ', H'), v', kn + 1) ⟨hlt, w1, hgr.trans (z2.trans w2), w3, by dsimp only; omega⟩ (by show k1 - (i + 1) < k1 - i; omega) sUB eNT
            · have he' : (e : Int) ≠ 0 := by omega
              (refine go ?_; intros)
              exact q_ret2 rfl rfl rfl (G2, .slice none 0 0, e) rfl ⟨z1, hgr.trans z2, rfl⟩ eNT
        · (refine go ?_; intros)
          exact q_ret2 rfl rfl rfl (G1, out, 0) rfl ⟨hG1, hgr, ho1⟩ eNT
      · have he' : (e : Int) ≠ 0 := by omega
        (refine go ?_; intros)
        exact q_ret2 rfl rfl rfl (G, .slice none 0 0, e) rfl ⟨hG, Gr.refl _ _, rfl⟩ eNT
    · have he' : (e : Int) ≠ 0 := by omega
      (refine go ?_; intros)
      exact q_ret2 rfl rfl rfl (G, .slice none 0 0, e) rfl ⟨hG, Gr.refl _ _, rfl⟩ eNT
theorem pr_Of {X : HProp} {v : Value} {l : List UInt8} {G : Rg} (hX : Bs X v l) (hl : l.length ≤ 1000000) (hG : okG G) (hK : knG G) : FnDoes Tryz.prog 664 [v] [rgH G, X]
    (fun y : Rg × Value × Nat => okG y.1 ∧ grG G y.1 ∧ y.2.1.oneCell' = true) (fun y => .tuple #[y.2.1, nat64 y.2.2]) (fun y => [rgH y.1, X]) := by
  refine does_of Tryz.func664 rfl rfl Tryz.ntmps664 rfl eNUM (fun c => ?_)
  have h := pr_ofN 8 1 rfl X v l G hX hl hG hK
  (refine go ?_; intros)
  (show wpO _ _ ⟨_, .call _, _, _, _, _⟩ _ _ _ _ _ _; refine o_callA (h) (fun y hy => ?_); try simp only [List.cons_append, List.nil_append])
  (refine go ?_; intros)
  exact q_ret2 rfl rfl rfl y rfl hy eNT
end Go.Proofs.YtnaabpfpldelmaaGreatDoor
set_option linter.unusedSimpArgs false
set_option linter.unusedVariables false
set_option maxRecDepth 20000
namespace Go.Proofs.YtnaabpfpldelmaaGreatDoor
open Go Go.Sx
theorem shp_meta : shp 734 = [.one, .one, .one, .one, .one, .one, .one, .one] := by kernel_rfl
abbrev pk (m k : Nat) : Value := .pointer (some ⟨m, k, none⟩)
abbrev fv (f : FuncId) (b : Nat) : Value := .func (.func f) #[] #[pt0 b]
abbrev flgC (num : Int) (b : Nat) : List Value := [.int .i64 num, .int .i64 0, fv 633 b, fv 634 b]
abbrev txtC (num : Int) (b : Nat) : List Value := [.int .i64 num, .int .i64 2, fv 635 b, fv 636 b]
abbrev nmbC (num : Int) (b : Nat) : List Value := [.int .i64 num, .int .i64 0, fv 637 b, fv 638 b]
abbrev bxB (b m k : Nat) : HProp := pts b (.cells [pk m k].toArray 779 (0, 0))
abbrev bxS (b m k : Nat) : HProp := pts b (.cells [pk m k].toArray 781 (0, 0))
abbrev bxN (b m k : Nat) : HProp := pts b (.cells [pk m k].toArray 783 (0, 0))
abbrev metI (m : Nat) (C : List Value) : HProp := pts m (.cells C.toArray 734 (0, 0))
def MetOk (C : List Value) : Prop := C.length = 8 ∧ C.all (·.oneCell') = true
theorem MetOk.set {C : List Value} (h : MetOk C) (k : Nat) {v : Value} (hv : v.oneCell' = true) : MetOk (C.set k v) := by
  refine ⟨by rw [List.length_set]; exact h.1, ?_⟩
  have := h.2
  rw [List.all_eq_true] at this ⊢
  intro x hx
  rcases List.mem_or_eq_of_mem_set hx with h1 | rfl
  · exact this x h1
  · exact hv
theorem MetOk.eight {C : List Value} (h : MetOk C) : ∃ a b c d e f g i : Value, C = [a, b, c, d, e, f, g, i] := by
  have h1 := h.1
  match C, h1 with
  | [a, b, c, d, e, f, g, i], _ => exact ⟨a, b, c, d, e, f, g, i, rfl⟩
attribute [local irreducible] MidQ wpE wpO wpC qE wpQ wpQO wpH wpHO wpD wpDO wpZ Ev own emp exI sl ch PostS LoopQ Rd rowsAt
theorem me_flag (num : Int) (m k : Nat) : FnDoes Tryz.prog 628 [.int .i64 num, pk m k] [] (fun _ : Nat => True) (fun b => .agg (flgC num b).toArray) (fun b => [bxB b m k]) := by
  refine does_of Tryz.func628 rfl rfl Tryz.ntmps628 rfl eNUM (fun c => ?_)
  (refine go ?_; intro b c4)
  refine o_evB (ev_makeFunc (vb := []) (vf := [pt0 b]) rfl rfl) ?_
  (refine go ?_; intros)
  refine o_evB (ev_makeFunc (vb := []) (vf := [pt0 b]) rfl rfl) ?_
  (refine go ?_; intros)
  exact q_retCell (l := flgC num b) rfl rfl rfl rfl rfl pK rfl b rfl trivial eNT
theorem me_text (num : Int) (m k : Nat) : FnDoes Tryz.prog 629 [.int .i64 num, pk m k] [] (fun _ : Nat => True) (fun b => .agg (txtC num b).toArray) (fun b => [bxS b m k]) := by
  refine does_of Tryz.func629 rfl rfl Tryz.ntmps629 rfl eNUM (fun c => ?_)
  (refine go ?_; intro b c4)
  refine o_evB (ev_makeFunc (vb := []) (vf := [pt0 b]) rfl rfl) ?_
  (refine go ?_; intros)
  refine o_evB (ev_makeFunc (vb := []) (vf := [pt0 b]) rfl rfl) ?_
  (refine go ?_; intros)
  exact q_retCell (l := txtC num b) rfl rfl rfl rfl rfl pK rfl b rfl trivial eNT
theorem me_number (num : Int) (m k : Nat) : FnDoes Tryz.prog 630 [.int .i64 num, pk m k] [] (fun _ : Nat => True) (fun b => .agg (nmbC num b).toArray) (fun b => [bxN b m k]) := by
  refine does_of Tryz.func630 rfl rfl Tryz.ntmps630 rfl eNUM (fun c => ?_)
  (refine go ?_; intro b c4)
  refine o_evB (ev_makeFunc (vb := []) (vf := [pt0 b]) rfl rfl) ?_
  (refine go ?_; intros)
  refine o_evB (ev_makeFunc (vb := []) (vf := [pt0 b]) rfl rfl) ?_
  (refine go ?_; intros)
  exact q_retCell (l := nmbC num b) rfl rfl rfl rfl rfl pK rfl b rfl trivial eNT
theorem me_flag2 (b m k : Nat) (C : List Value) (hC : MetOk C) (hk : k < 8) (x y z : Int) (s : ByteArray) : FnDoes Tryz.prog 634 [.agg (fldC x y z s).toArray, pt0 b] [bxB b m k, metI m C] (fun y : List Value × Nat => MetOk y.1) (fun y => nat64 y.2) (fun y => [bxB b m k, metI m y.1]) := by
  have hl : k < C.length := by rw [hC.1]; exact hk
  refine does_of Tryz.func634 rfl rfl Tryz.ntmps634 rfl eNUM (fun c => ?_)
  by_cases h1 : z > 1
  · (refine go ?_; intros)
    exact q_ret1 rfl rfl (C, 5) rfl hC eNT
  · by_cases h2 : z = 1
    · (refine go ?_; intros)
      exact q_ret1 rfl rfl (C.set k (.bool true), 0) rfl (hC.set k rfl) eNT
    · (refine go ?_; intros)
      exact q_ret1 rfl rfl (C.set k (.bool false), 0) rfl (hC.set k rfl) eNT
theorem me_text2 (b m k : Nat) (C : List Value) (hC : MetOk C) (hk : k < 8) (x y z : Int) (s : ByteArray) : FnDoes Tryz.prog 636 [.agg (fldC x y z s).toArray, pt0 b] [bxS b m k, metI m C] (fun y : List Value × Nat => MetOk y.1) (fun y => nat64 y.2) (fun y => [bxS b m k, metI m y.1]) := by
  have hl : k < C.length := by rw [hC.1]; exact hk
  refine does_of Tryz.func636 rfl rfl Tryz.ntmps636 rfl eNUM (fun c => ?_)
  (refine go ?_; intros)
  exact q_ret1 rfl rfl (C.set k (.string s), 0) rfl (hC.set k rfl) eNT
theorem me_number2 (b m k : Nat) (C : List Value) (hC : MetOk C) (hk : k < 8) (x y z : Int) (s : ByteArray) : FnDoes Tryz.prog 638 [.agg (fldC x y z s).toArray, pt0 b] [bxN b m k, metI m C] (fun y : List Value × Nat => MetOk y.1) (fun y => nat64 y.2) (fun y => [bxN b m k, metI m y.1]) := by
  have hl : k < C.length := by rw [hC.1]; exact hk
  refine does_of Tryz.func638 rfl rfl Tryz.ntmps638 rfl eNUM (fun c => ?_)
  (refine go ?_; intros)
  exact q_ret1 rfl rfl (C.set k (.int .u64 z), 0) rfl (hC.set k rfl) eNT
structure PtS where
  p : Nat
  a : Nat
  b : Nat
  c : Nat
  d : Nat
  e : Nat
  f : Nat
  g : Nat
  h : Nat
abbrev prtC (s : PtS) : List Value := flgC 1 s.a ++ txtC 2 s.b ++ nmbC 3 s.c ++ nmbC 4 s.d ++ txtC 5 s.e ++ txtC 6 s.f ++ txtC 7 s.g ++ txtC 8 s.h
abbrev prtI (m : Nat) (s : PtS) : List HProp := [pts s.p (.cells (prtC s).toArray 771 (0, 0)), bxB s.a m 0, bxS s.b m 1, bxN s.c m 2, bxN s.d m 3, bxS s.e m 4, bxS s.f m 5, bxS s.g m 6, bxS s.h m 7]
set_option maxHeartbeats 2000000 in
theorem me_parts (m : Nat) : FnDoes Tryz.prog 621 [pt0 m] [] (fun _ : PtS => True) (fun s => .slice (some ⟨s.p, 0, none⟩) 8 8) (fun s => prtI m s) := by
  refine does_of Tryz.func621 rfl rfl Tryz.ntmps621 rfl eNUM (fun c => ?_)
  (refine go ?_; intros)
  refine wpC_drawnA [] 33 ?_
  ((first | refine dt 0 ?_ | refine dts 0 ?_); (first | refine dt 1 ?_ | refine dts 1 ?_); (first | refine dt 2 ?_ | refine dts 2 ?_); (first | refine dt 4 ?_ | refine dts 4 ?_); (first | refine dt 5 ?_ | refine dts 5 ?_); (first | refine dt 6 ?_ | refine dts 6 ?_); (first | refine dt 8 ?_ | refine dts 8 ?_); (first | refine dt 9 ?_ | refine dts 9 ?_); (first | refine dt 10 ?_ | refine dts 10 ?_); (first | refine dt 12 ?_ | refine dts 12 ?_); (first | refine dt 13 ?_ | refine dts 13 ?_); (first | refine dt 14 ?_ | refine dts 14 ?_); (first | refine dt 16 ?_ | refine dts 16 ?_); (first | refine dt 17 ?_ | refine dts 17 ?_); (first | refine dt 18 ?_ | refine dts 18 ?_); (first | refine dt 20 ?_ | refine dts 20 ?_); (first | refine dt 21 ?_ | refine dts 21 ?_); (first | refine dt 22 ?_ | refine dts 22 ?_); (first | refine dt 24 ?_ | refine dts 24 ?_); (first | refine dt 25 ?_ | refine dts 25 ?_); (first | refine dt 26 ?_ | refine dts 26 ?_); (first | refine dt 28 ?_ | refine dts 28 ?_); (first | refine dt 29 ?_ | refine dts 29 ?_); (first | refine dt 30 ?_ | refine dts 30 ?_))
  (refine dcall 3 (me_flag 1 m 0) (fun a _ => ?_); try simp only [List.cons_append, List.nil_append])
  (refine dcall 7 (me_text 2 m 1) (fun b _ => ?_); try simp only [List.cons_append, List.nil_append])
  (refine dcall 11 (me_number 3 m 2) (fun c _ => ?_); try simp only [List.cons_append, List.nil_append])
  (refine dcall 15 (me_number 4 m 3) (fun d _ => ?_); try simp only [List.cons_append, List.nil_append])
  (refine dcall 19 (me_text 5 m 4) (fun e _ => ?_); try simp only [List.cons_append, List.nil_append])
  (refine dcall 23 (me_text 6 m 5) (fun f _ => ?_); try simp only [List.cons_append, List.nil_append])
  (refine dcall 27 (me_text 7 m 6) (fun g _ => ?_); try simp only [List.cons_append, List.nil_append])
  (refine dcall 31 (me_text 8 m 7) (fun h _ => ?_); try simp only [List.cons_append, List.nil_append])
  (refine wpD_eff 32 rfl rfl (by kernel_rfl) rfl rfl ?_; show OVL _ ⟨_, .buildSlice _ _ _, _, _, _, _⟩ _ _ _ _ _ _)
  refine x_buildSliceN (l := prtC ⟨0, a, b, c, d, e, f, g, h⟩) (by rfl) (by rfl) (by rfl) (by rfl) (by rfl) (by rfl) (by rfl) (by rfl) (fun p => ⟨eNT, ?_⟩)
  (refine dl ?_)
  (refine go ?_; intros)
  exact q_ret1 rfl rfl ⟨p, a, b, c, d, e, f, g, h⟩ rfl trivial eNT
end Go.Proofs.YtnaabpfpldelmaaGreatDoor
