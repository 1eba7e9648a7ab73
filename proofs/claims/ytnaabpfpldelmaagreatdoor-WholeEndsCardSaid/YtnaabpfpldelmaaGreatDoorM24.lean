/-
  strings.Join.
  Names of topics of the space spBv1.0: put, and looked at.
  Names of topics of the space spBv1.0: put, guessed, read.
-/
import Derived.Test.YtnaabpfpldelmaaGreatDoorM23
set_option linter.unusedSimpArgs false
set_option linter.unusedVariables false
set_option maxRecDepth 20000
namespace Go.Proofs.YtnaabpfpldelmaaGreatDoor
open Go Go.Sx Go.Extern
theorem r_noZero (w : World) (k : Nat) (hk : k ≤ 1000000000) : ∃ cs : List Value, (callFunc 469 [.int .i64 k].toArray).run Tryz.prog w = .ok (.value (.slice (some ⟨w.heap.size, 0, none⟩) k cs.length)) (w.drew.drew.alloc (.cells cs.toArray tU8)) ∧ k ≤ cs.length ∧ cs.length ≤ maxLen := by
  obtain ⟨cs, h1, h2, h3⟩ := Lib.run_makeNoZero (P := Tryz.prog) w #[3] 33 tU8 (by kernel_rfl) k (by omega)
  refine ⟨cs.toList, ?_, by simpa using h2, by simpa using h3 (by simp only [maxLen]; omega)⟩
  rw [run_callFunc_extern (e := BytealgMakeNoZero.makeNoZero #[3] #[33]) Tryz.func469 (by kernel_rfl) (by kernel_rfl) (by kernel_rfl) (by kernel_rfl)]
  rw [show [Value.int .i64 k].toArray = #[.int .i64 k] from rfl, h1]
  simp [Result.andThen]
attribute [local irreducible] MidQ wpE wpO wpC qE wpQ wpQO wpH wpHO wpD wpDO wpZ Ev own emp exI sl ch PostS LoopQ Rd rowsAt
theorem bl_grow (b : Nat) (p : Value) (k : Nat) (hk : k ≤ 1000000000) : FnDoes Tryz.prog 385 [pt0 b, nat64 k] [bldC b p (.slice none 0 0) [] tBld]
    (fun _ : Value => True) (fun _ => .tuple #[]) (fun v' => [bldC b p v' [] tBld, sl tU8 1 v' 0 []]) := by
  refine does_of Tryz.func385 rfl rfl Tryz.ntmps385 rfl eNUM (fun c => ?_)
  (refine go ?_; intros)
  refine wpC_drawnA [bldC b p (.slice none 0 0) [] tBld] 15 ?_
  ((first | refine dt 0 ?_ | refine dts 0 ?_); (first | refine dt 1 ?_ | refine dts 1 ?_); (first | refine dt 2 ?_ | refine dts 2 ?_); (first | refine dt 3 ?_ | refine dts 3 ?_))
  refine dtB 4 rfl (ev_cap_slice rfl rfl) ?_
  ((first | refine dt 5 ?_ | refine dts 5 ?_); (first | refine dt 6 ?_ | refine dts 6 ?_); (first | refine dt 7 ?_ | refine dts 7 ?_); (first | refine dt 9 ?_ | refine dts 9 ?_); (first | refine dt 10 ?_ | refine dts 10 ?_); (first | refine dt 11 ?_ | refine dts 11 ?_); (first | refine dt 12 ?_ | refine dts 12 ?_); (first | refine dt 13 ?_ | refine dts 13 ?_))
  (refine wpD_eff 8 rfl rfl (by kernel_rfl) rfl rfl ?_; show OVL _ ⟨_, .call _, _, _, _, _⟩ _ _ _ _ _ _)
  refine x_ext (args := [nat64 k]) (by show some [Value.int .i64 (2 * 0 + (k : Int))] = _; rw [show (2 * 0 + (k : Int)) = k by omega]) (fun w s => ?_)
  obtain ⟨cs, h1, h2, h3⟩ := r_noZero w k hk
  refine ⟨_, _, _, h1, HSt.new (w' := w.drew.drew.alloc (.cells cs.toArray tU8)) (HSt.same (w' := w.drew.drew) s rfl rfl rfl rfl) (.cells cs.toArray tU8 (0, 0)) rfl rfl rfl rfl, eNT, ?_⟩
  refine dfB 14 rfl (ev_slcHi (h := 0) rfl rfl rfl rfl rfl (Nat.zero_le _)) ?_
  (refine dl ?_)
  (refine go ?_; intros)
  refine o_evB (ev_copy0 rfl rfl rfl rfl) ?_
  (refine go ?_; intros)
  exact q_ret0 rfl (.slice (some ⟨w.heap.size, 0, none⟩) 0 cs.length) rfl trivial (Ent.trans (Ent.slOfBlk h3 pK) eNT) _ (.inr rfl)
theorem bl_Grow (b : Nat) (k : Nat) (hk : k ≤ 1000000000) (h0 : 0 < k) : FnDoes Tryz.prog 299 [pt0 b, nat64 k] [bldC b (.pointer none) (.slice none 0 0) [] tBld]
    (fun _ : Value => True) (fun _ => .tuple #[]) (fun v' => [bldC b (pt0 b) v' [] tBld, sl tU8 1 v' 0 []]) := by
  have hc := bl_check b (.pointer none) (.slice none 0 0) [] tBld (.inl rfl) bld_self
  have hg := bl_grow b (pt0 b) k hk
  refine does_of Tryz.func299 rfl rfl Tryz.ntmps299 rfl eNUM (fun c => ?_)
  (refine go ?_; intros)
  (show wpO _ _ ⟨_, .call _, _, _, _, _⟩ _ _ _ _ _ _; refine o_callA (hc) (fun _ _ => ?_); try simp only [List.cons_append, List.nil_append])
  (refine go ?_; intros)
  refine wpC_drawnA [bldC b (pt0 b) (.slice none 0 0) [] tBld] 12 ?_
  ((first | refine dt 0 ?_ | refine dts 0 ?_); (first | refine dt 1 ?_ | refine dts 1 ?_); (first | refine dt 2 ?_ | refine dts 2 ?_); (first | refine dt 3 ?_ | refine dts 3 ?_))
  refine dtB 4 rfl (ev_cap_slice rfl rfl) ?_
  ((first | refine dt 5 ?_ | refine dts 5 ?_); (first | refine dt 6 ?_ | refine dts 6 ?_); (first | refine dt 7 ?_ | refine dts 7 ?_); (first | refine dt 8 ?_ | refine dts 8 ?_); (first | refine dt 9 ?_ | refine dts 9 ?_); (first | refine dt 10 ?_ | refine dts 10 ?_); (first | refine df 11 ?_ | refine dfs 11 ?_); refine dl ?_)
  (refine go ?_; intros)
  (show wpO _ _ ⟨_, .call _, _, _, _, _⟩ _ _ _ _ _ _; refine o_callA (hg) (fun v' _ => ?_); try simp only [List.cons_append, List.nil_append])
  (refine go ?_; intros)
  exact q_ret0 rfl v' rfl trivial eNT _ (.inr rfl)
theorem str_at {G : Rg} {a : Option Addr} {len cap m i : Nat} (h : okG G) (hs : slG G tStr (.slice a len cap) m) (hi : i < len) : ∃ b o s, a = some ⟨b, o, none⟩ ∧ s.size ≤ 65536 ∧ G.2.cell? ⟨b, o + i * 1, none⟩ = some (.string s) := by
  obtain ⟨b, o, vs, h1, h2, h3⟩ := wt_get h hs hi shp_str
  obtain ⟨_, _, rfl, ⟨s, rfl, hs⟩, h4⟩ := okR_cons h2
  exact ⟨b, o, s, h1, hs, by have := h3 0 _ rfl; simpa using this⟩
set_option maxHeartbeats 2000000 in
theorem st_join {G : Rg} (hG : okG G) {v : Value} {k : Nat} (hv : slG G tStr v k) (h2 : 2 ≤ k) (hk : k ≤ 16) : FnDoes Tryz.prog 232 [v, .string slash1] [rgH G] (fun _ : ByteArray => True) (fun s => .string s) (fun _ => [rgH G]) := by
  have hz : slash1.size = 1 := rfl
  refine does_of Tryz.func232 rfl rfl Tryz.ntmps232 rfl eNUM (fun c => ?_)
  obtain ⟨a, cap, rfl, hc⟩ := hv.isSlice
  obtain ⟨bb, oo, s0, rfl, hs0, hcell0⟩ := str_at hG hv (i := 0) (by omega)
  (refine go ?_; intros)
  refine o_evB (ev_quo64 (a := 9223372036854775807) (b := k - 1) rfl (by show some (Value.int .i64 ((k : Int) - 1)) = _; rw [show ((k : Int) - 1) = ((k - 1 : Nat) : Int) by omega]) (by omega) (by omega)) ?_
  have hq : 2 ≤ 9223372036854775807 / (k - 1) := (Nat.le_div_iff_mul_le (by omega)).2 (by omega)
  have hq' : ¬ ((slash1.size : Int) ≥ ((9223372036854775807 / (k - 1) : Nat) : Int)) := by omega
  (refine go ?_; intros)
  refine o_evB (ev_arith (r' := (k : Int) - 1) rfl rfl rfl (by show IntKind.i64.wrap (((slash1.size : Nat) : Int) * ((k : Int) - 1)) = _; rw [hz, show (((1 : Nat) : Int) * ((k : Int) - 1)) = (k : Int) - 1 by omega]; exact wrap64_of (by omega) (by omega))) ?_
  (refine go ?_; intros)
  refine wpC_loop (σ := Nat × Int) (fun x => x.1 ≤ k ∧ 1 ≤ x.2 ∧ x.2 ≤ k + x.1 * 65536) (fun x => [(0, .slice (some ⟨bb, oo, none⟩) k cap), (1, .string slash1), (5, .int .i64 x.2), (39, .slice (some ⟨bb, oo, none⟩) k cap), (40, nat64 k), (41, nat64 x.1)]) (fun _ => [rgH G]) (fun x => k - x.1) (0, 0 + ((k : Int) - 1)) ⟨Nat.zero_le _, by dsimp only; omega, by dsimp only; omega⟩ sUB eNT (fun x hx => ?_)
  obtain ⟨i, N⟩ := x
  obtain ⟨hi, hN1, hN2⟩ := hx
  try dsimp only at hi hN1 hN2 ⊢
  by_cases hlt : i < k
  · obtain ⟨bb', oo', s1, e1, hs1, hcell⟩ := str_at hG hv hlt
    cases e1
    (refine go ?_; intros)
    exact q_round (i + 1, N + s1.size) ⟨hlt, by dsimp only; omega, by dsimp only; omega⟩ (by show k - (i + 1) < k - i; omega) sUB eNT
  · obtain ⟨N, rfl⟩ := Int.eq_ofNat_of_zero_le (show 0 ≤ N by omega)
    have hg := fun b => bl_Grow b N (by omega) (by omega)
    (refine go ?_; intro b)
    (show wpO _ _ ⟨_, .call _, _, _, _, _⟩ _ _ _ _ _ _; refine o_callA (hg b) (fun v1 _ => ?_); try simp only [List.cons_append, List.nil_append])
    (refine go ?_; intros)
    refine o_evB (ev_indexS 1 (i := 0) rfl rfl rfl rfl rfl rfl (by omega)) ?_
    (refine go ?_; intros)
    have hw := bl_write b (pt0 b) v1 [] tBld (.inr rfl) bld_self [] s0 (by simp; omega)
    simp only [List.nil_append, List.length_nil, u8s, List.map_nil] at hw
    (show wpO _ _ ⟨_, .call _, _, _, _, _⟩ _ _ _ _ _ _; refine o_callA (hw) (fun v2 _ => ?_); try simp only [List.cons_append, List.nil_append])
    (refine go ?_; intros)
    refine o_evB (ev_slcLo (l := 1) 1 rfl rfl rfl rfl rfl rfl (by omega)) ?_
    (refine go ?_; intros)
    have hv' : slG G tStr (.slice (if cap = 1 then some ⟨bb, oo, none⟩ else (some ⟨bb, oo, none⟩ : Option Addr).map fun x => x.add (1 * 1)) (k - 1) (cap - 1)) (k - 1) := hv.from (by omega)
    generalize (if cap = 1 then some ⟨bb, oo, none⟩ else (some ⟨bb, oo, none⟩ : Option Addr).map fun x => x.add (1 * 1)) = a' at hv'
    refine wpC_loop (σ := Nat × Value × List UInt8) (fun x => x.1 ≤ k - 1 ∧ x.2.2.length ≤ 65536 + x.1 * 65537 ∧ (x.1 = 0 ∨ x.2.2 ≠ [])) (fun x => [(1, .string slash1), (8, pt0 b), (63, .slice a' (k - 1) (cap - 1)), (64, nat64 (k - 1 : Nat)), (65, nat64 x.1)]) (fun x => [rgH G, bldC b (pt0 b) x.2.1 [] tBld, sl tU8 1 x.2.1 x.2.2.length (u8s x.2.2)]) (fun x => k - 1 - x.1) (0, v2, s0.data.toList) ⟨Nat.zero_le _, by dsimp only; rw [size_list]; omega, .inl rfl⟩ sUB eNT (fun x hx => ?_)
    obtain ⟨j, v3, l⟩ := x
    obtain ⟨hj, hl, hne⟩ := hx
    try dsimp only at hj hl hne ⊢
    by_cases hjlt : j < k - 1
    · obtain ⟨b2, o2, s1, rfl, hs1, hcell⟩ := str_at hG hv' hjlt
      have hlen : (l ++ slash1.data.toList).length = l.length + 1 := by rw [List.length_append, size_list, hz]
      have hw1 := bl_write b (pt0 b) v3 [] tBld (.inr rfl) bld_self l slash1 (by omega)
      have hw2 := fun v => bl_write b (pt0 b) v [] tBld (.inr rfl) bld_self (l ++ slash1.data.toList) s1 (by omega)
      (refine go ?_; intros)
      (show wpO _ _ ⟨_, .call _, _, _, _, _⟩ _ _ _ _ _ _; refine o_callA (hw1) (fun v4 _ => ?_); try simp only [List.cons_append, List.nil_append])
      (refine go ?_; intros)
      (show wpO _ _ ⟨_, .call _, _, _, _, _⟩ _ _ _ _ _ _; refine o_callA (hw2 v4) (fun v5 _ => ?_); try simp only [List.cons_append, List.nil_append])
      (refine go ?_; intros)
      exact q_round (j + 1, v5, (l ++ slash1.data.toList) ++ s1.data.toList) ⟨hjlt, by show ((l ++ slash1.data.toList) ++ s1.data.toList).length ≤ 65536 + (j + 1) * 65537; rw [List.length_append, hlen, size_list]; omega, .inr (fun e => by have := congrArg List.length e; rw [List.length_append, hlen] at this; simp at this)⟩ (by show k - 1 - (j + 1) < k - 1 - j; omega) sUB eNT
    · have hne2 : l ≠ [] := hne.resolve_left (by omega)
      refine wpC_ent (Ent.frOfSl rfl (.inr hne2) pK (Ent.refl _)) ?_
      have hs := bl_string b (pt0 b) v3 [] tBld l (by omega)
      (refine go ?_; intros)
      (show wpO _ _ ⟨_, .call _, _, _, _, _⟩ _ _ _ _ _ _; refine o_callA (hs) (fun _ _ => ?_); try simp only [List.cons_append, List.nil_append])
      (refine go ?_; intros)
      exact q_ret1 rfl rfl (txt l) rfl trivial eNT
theorem lv_join {G : Rg} (hG : okG G) {v : Value} {k : Nat} (hv : slG G tStr v k) (h2 : 2 ≤ k) (hk : k ≤ 16) : FnDoes Tryz.prog 167 [v] [rgH G] (fun _ : ByteArray => True) (fun s => .string s) (fun _ => [rgH G]) := by
  have hj := st_join hG hv h2 hk
  refine does_of Tryz.func167 rfl rfl Tryz.ntmps167 rfl eNUM (fun c => ?_)
  (refine go ?_; intros)
  (show wpO _ _ ⟨_, .call _, _, _, _, _⟩ _ _ _ _ _ _; refine o_callA (hj) (fun s _ => ?_); try simp only [List.cons_append, List.nil_append])
  (refine go ?_; intros)
  exact q_ret1 rfl rfl s rfl trivial eNT
end Go.Proofs.YtnaabpfpldelmaaGreatDoor
set_option linter.unusedSimpArgs false
set_option linter.unusedVariables false
namespace Go.Sx
open Go Go.Conc
theorem qE_regNew {S : Shp} {ρ : Rho} {H : PHeap} {Q : Exit → Act → World → Prop} {c : Cx} {n : Nat} {L : Env} {M R R1 : List HProp} {ex : Exit} {b m : Nat} {e : TypeId} {xs : List Value} (hW : WT S ρ H) (hx : okRows S ρ e xs m) (h : ∀ ρ' H', WT S ρ' H' → Gr ρ H ρ' H' → okSl S ρ' e (.slice (some ⟨b, 0, none⟩) m m) m → qE Q ex c n L (own H' :: R))
    (p : Pick M (pts b (.cells xs.toArray e (0, 0))) R1 := by (repeat (first | exact Pick.head | apply Pick.tail))) (q : Pick R1 (own H) R := by (repeat (first | exact Pick.head | apply Pick.tail))) : qE Q ex c n L M := fun T w s => by
  obtain ⟨ρ', H', h1, h2, h3, h4⟩ := hst_regNew (junk := []) (m := m) (by rw [List.append_nil]; exact HSt.ent (Ent.cons p (Ent.cons q (Ent.refl _))) s.heap) hW hx (by rw [List.append_nil]; exact hx.1) (Nat.le_refl _) rfl
  exact h ρ' H' h1 h2 (okSl.ofNew h3 (Nat.le_refl _) (Nat.le_refl _)) T w ⟨s.size, s.slots, h4⟩
end Go.Sx
set_option maxRecDepth 20000
namespace Go.Proofs.YtnaabpfpldelmaaGreatDoor
open Go Go.Sx
def spG (G : Rg) : Prop := G.1 1 = none ∧ ∃ (ws : List ByteArray) (e : TypeId) (f : Nat × Nat), ws.length = 10 ∧ (∀ s ∈ ws, s.size ≤ 65536) ∧ G.2 1 = some (.cells (ws.map Value.string).toArray e f)
theorem spG.up {G G' : Rg} (h : spG G) (g : grG G G') : spG G' := by
  obtain ⟨h1, ws, e, f, h2, h3, h4⟩ := h
  obtain ⟨k1, k2⟩ := g.keep _ _ h4 h1
  exact ⟨k1, ws, e, f, h2, h3, k2⟩
theorem spG.at {G : Rg} (h : spG G) {i : Nat} (hi : i < 10) : ∃ s : ByteArray, s.size ≤ 65536 ∧ G.2.cell? ⟨1, 0 + i * 1, none⟩ = some (.string s) := by
  obtain ⟨_, ws, e, f, h2, h3, h4⟩ := h
  have hl : i < ws.length := by omega
  refine ⟨ws[i], h3 _ (List.getElem_mem hl), ?_⟩
  simp [PHeap.cell?, h4, hl]
structure EnvG (G : Rg) : Prop where
  ok : okG G
  v : vG G
  sp : spG G
theorem EnvG.up {G G' : Rg} (h : EnvG G) (k : okG G') (g : grG G G') : EnvG G' := ⟨k, h.v.up g, h.sp.up g⟩
structure SpotS where
  k : Nat
  g : ByteArray
  n : ByteArray
  d : ByteArray
structure SpotOk (s : SpotS) : Prop where
  k : s.k ≤ 9
  g : s.g.size ≤ 65536
  n : s.n.size ≤ 65536
  d : s.d.size ≤ 65536
abbrev spotC (s : SpotS) : List Value := [nat64 s.k, .string s.g, .string s.n, .string s.d]
theorem str_rows : ∀ {l : List ByteArray}, (∀ s ∈ l, s.size ≤ 65536) → okRows shp ρ0 tStr (l.map Value.string) l.length
  | [], _ => okRows.nil
  | s :: l, h => by
    have := (str_row (ρ := ρ0) (h s (List.mem_cons_self ..))).app (str_rows fun x hx => h x (List.mem_cons_of_mem _ hx))
    rw [Nat.add_comm] at this
    simpa using this
attribute [local irreducible] MidQ wpE wpO wpC qE wpQ wpQO wpH wpHO wpD wpDO wpZ Ev own emp exI sl ch PostS LoopQ Rd rowsAt
theorem sp_word {G : Rg} (E : EnvG G) (k : Nat) (hk : k ≤ 9) : FnDoes Tryz.prog 230 [nat64 k] [rgH G] (fun s : ByteArray => s.size ≤ 65536) (fun s => .string s) (fun _ => [rgH G]) := by
  obtain ⟨s, hs, hc⟩ := E.sp.at (i := k) (by omega)
  refine does_of Tryz.func230 rfl rfl Tryz.ntmps230 rfl eNUM (fun c => ?_)
  (refine go ?_; intros)
  exact q_ret1 rfl rfl s rfl hs eNT
theorem sp_kind {G : Rg} (E : EnvG G) (w : ByteArray) : FnDoes Tryz.prog 219 [.string w] [rgH G] (fun k : Nat => k ≤ 9) (fun k => nat64 k) (fun _ => [rgH G]) := by
  refine does_of Tryz.func219 rfl rfl Tryz.ntmps219 rfl eNUM (fun c => ?_)
  (refine go ?_; intros)
  refine wpC_loop (σ := Nat) (fun k => 1 ≤ k ∧ k ≤ 10) (fun k => [(0, .string w), (3, nat64 k)]) (fun _ => [rgH G]) (fun k => 10 - k) 1 ⟨Nat.le_refl _, by omega⟩ sUB eNT (fun k hk => ?_)
  by_cases hlt : k ≤ 9
  · obtain ⟨s, hs, hc⟩ := E.sp.at (i := k) (by omega)
    (refine go ?_; intros)
    refine o_strS (fun e => ?_) (fun e => ?_)
    · (refine go ?_; intros)
      exact q_ret1 rfl rfl k rfl hlt eNT
    · (refine go ?_; intros)
      exact q_round (k + 1) ⟨by omega, by omega⟩ (by omega) sUB eNT
  · (refine go ?_; intros)
    exact q_ret1 rfl rfl 0 rfl (Nat.zero_le _) eNT
def widthN (k : Nat) : Nat := if k = 9 then 3 else if 5 ≤ k then 5 else 4
theorem sp_width (k : Nat) : FnDoes Tryz.prog 164 [nat64 k] [] (fun _ : Unit => True) (fun _ => nat64 (widthN k)) (fun _ => []) := by
  refine does_of Tryz.func164 rfl rfl Tryz.ntmps164 rfl eNUM (fun c => ?_)
  unfold widthN
  by_cases h9 : k = 9
  · rw [if_pos h9]
    (refine go ?_; intros)
    exact q_ret1 rfl rfl () rfl trivial eNT
  · rw [if_neg h9]
    by_cases h5 : 5 ≤ k
    · rw [if_pos h5]
      (refine go ?_; intros)
      exact q_ret1 rfl rfl () rfl trivial eNT
    · rw [if_neg h5]
      (refine go ?_; intros)
      exact q_ret1 rfl rfl () rfl trivial eNT
theorem sp_part {G : Rg} (E : EnvG G) (s : ByteArray) : FnDoes Tryz.prog 166 [.string s] [rgH G] (fun _ : Bool => True) (fun r => .bool r) (fun _ => [rgH G]) := by
  have hn := lv_name E.ok E.v s
  have hh := st_has s
  refine does_of Tryz.func166 rfl rfl Tryz.ntmps166 rfl eNUM (fun c => ?_)
  (refine go ?_; intros)
  (show wpO _ _ ⟨_, .call _, _, _, _, _⟩ _ _ _ _ _ _; refine o_callA (hn) (fun r _ => ?_); try simp only [List.cons_append, List.nil_append])
  cases r with
  | false =>
    (refine go ?_; intros)
    exact q_ret1 rfl rfl false rfl trivial eNT
  | true =>
    (refine go ?_; intros)
    (show wpO _ _ ⟨_, .call _, _, _, _, _⟩ _ _ _ _ _ _; refine o_callA (hh) (fun r _ => ?_); try simp only [List.cons_append, List.nil_append])
    (refine go ?_; intros)
    exact q_ret1 rfl rfl _ rfl trivial eNT
def PartsOk (G : Rg) (y : Rg × Value × Nat × Value × Nat) : Prop := okG y.1 ∧ grG G y.1 ∧ slG y.1 tStr y.2.1 y.2.2.1 ∧ 3 ≤ y.2.2.1 ∧ y.2.2.1 ≤ 5 ∧ slG y.1 tStr y.2.2.2.1 y.2.2.2.2 ∧ y.2.2.2.2 ≤ 3
set_option maxHeartbeats 2000000 in
theorem sp_parts {G : Rg} (E : EnvG G) (w : SpotS) (hw : SpotOk w) : FnDoes Tryz.prog 165 [.agg (spotC w).toArray] [rgH G] (PartsOk G) (fun y => .tuple #[y.2.1, y.2.2.2.1]) (fun y => [rgH y.1]) := by
  obtain ⟨k, g, nn, d⟩ := w
  obtain ⟨o1, o2, o3, o4⟩ := hw
  try dsimp only at o1 o2 o3 o4 ⊢
  have hwd := sp_width k
  have hwo := sp_word E k o1
  have z1 : (⟨#[115, 112, 66, 118, 49, 46, 48]⟩ : ByteArray).size = 7 := rfl
  have z2 : (⟨#[83, 84, 65, 84, 69]⟩ : ByteArray).size = 5 := rfl
  refine does_of Tryz.func165 rfl rfl Tryz.ntmps165 rfl eNUM (fun c => ?_)
  (refine go ?_; intro c1)
  (show wpO _ _ ⟨_, .call _, _, _, _, _⟩ _ _ _ _ _ _; refine o_callA (hwd) (fun _ _ => ?_); try simp only [List.cons_append, List.nil_append])
  unfold widthN
  by_cases h9 : k = 9
  · rw [if_pos h9]
    (refine go ?_; intros)
    refine wpC_drawnA [pts c1 (.cells (spotC ⟨k, g, nn, d⟩).toArray 221 (0, 0))] 7 ?_
    ((first | refine dt 0 ?_ | refine dts 0 ?_); (first | refine dt 1 ?_ | refine dts 1 ?_); (first | refine dt 3 ?_ | refine dts 3 ?_); (first | refine dt 4 ?_ | refine dts 4 ?_))
    refine wpD_two 2 5 ?_ ?_
    focus
      refine d1_val ?_
      show OVL _ ⟨_, .buildSlice _ _ _, _, _, _, _⟩ _ _ _ _ _ _
      refine x_buildSliceN (l := [.string ⟨#[115, 112, 66, 118, 49, 46, 48]⟩, .string ⟨#[83, 84, 65, 84, 69]⟩, .string nn]) rfl rfl rfl rfl rfl rfl rfl rfl (fun b1 => ⟨eNT, ?_⟩)
      ((first | refine dt 6 ?_ | refine dts 6 ?_))
      (refine wpD_eff 5 rfl rfl (by kernel_rfl) rfl rfl ?_; show OVL _ ⟨_, .buildSlice _ _ _, _, _, _, _⟩ _ _ _ _ _ _)
      refine x_buildSlice1 (by rfl) (by rfl) (by rfl) (by rfl) (by rfl) (by rfl) (by rfl) (by rfl) (fun b2 => ⟨eNT, ?_⟩)
      (refine dl ?_)
    rotate_left
    focus
      refine d1_val ?_
      show OVL _ ⟨_, .buildSlice _ _ _, _, _, _, _⟩ _ _ _ _ _ _
      refine x_buildSlice1 (by rfl) (by rfl) (by rfl) (by rfl) (by rfl) (by rfl) (by rfl) (by rfl) (fun b2 => ⟨eNT, ?_⟩)
      (refine wpD_eff 2 rfl rfl (by kernel_rfl) rfl rfl ?_; show OVL _ ⟨_, .buildSlice _ _ _, _, _, _, _⟩ _ _ _ _ _ _)
      refine x_buildSliceN (l := [.string ⟨#[115, 112, 66, 118, 49, 46, 48]⟩, .string ⟨#[83, 84, 65, 84, 69]⟩, .string nn]) rfl rfl rfl rfl rfl rfl rfl rfl (fun b1 => ⟨eNT, ?_⟩)
      ((first | refine df 6 ?_ | refine dfs 6 ?_); refine dl ?_)
    rotate_left
    all_goals
      (refine go ?_; intros)
      refine qE_regNew (b := b1) (xs := ([⟨#[115, 112, 66, 118, 49, 46, 48]⟩, ⟨#[83, 84, 65, 84, 69]⟩, nn] : List ByteArray).map Value.string) (m := 3) E.ok ((str_rows (l := [⟨#[115, 112, 66, 118, 49, 46, 48]⟩, ⟨#[83, 84, 65, 84, 69]⟩, nn]) (by simp; omega)).mono le0) (fun ρ1 H1 x1 x2 x3 => ?_)
      refine qE_regNew (b := b2) (xs := ([nn] : List ByteArray).map Value.string) (m := 1) x1 ((str_rows (l := [nn]) (by simp; omega)).mono le0) (fun ρ2 H2 x4 x5 x6 => ?_)
      exact q_ret2 rfl rfl rfl ((ρ2, H2), _, 3, _, 1) rfl ⟨x4, x2.trans x5, x3.mono x5.le, by dsimp only; omega, by dsimp only; omega, x6, by dsimp only; omega⟩ eNT
  rw [if_neg h9]
  by_cases h5 : 5 ≤ k
  · rw [if_pos h5]
    (refine go ?_; intros)
    refine wpC_drawnA [pts c1 (.cells (spotC ⟨k, g, nn, d⟩).toArray 221 (0, 0))] 18 ?_
    ((first | refine dt 0 ?_ | refine dts 0 ?_); (first | refine dt 1 ?_ | refine dts 1 ?_); (first | refine dt 2 ?_ | refine dts 2 ?_); (first | refine dt 3 ?_ | refine dts 3 ?_); (first | refine dt 5 ?_ | refine dts 5 ?_); (first | refine dt 6 ?_ | refine dts 6 ?_); (first | refine dt 7 ?_ | refine dts 7 ?_); (first | refine dt 8 ?_ | refine dts 8 ?_); (first | refine dt 10 ?_ | refine dts 10 ?_); (first | refine dt 11 ?_ | refine dts 11 ?_); (first | refine dt 12 ?_ | refine dts 12 ?_); (first | refine dt 13 ?_ | refine dts 13 ?_); (first | refine dt 14 ?_ | refine dts 14 ?_); (first | refine dt 15 ?_ | refine dts 15 ?_))
    refine wpD_two 4 16 ?_ ?_
    focus
      refine d1_call hwo (fun wd hwd => ?_)
      simp only [List.cons_append, List.nil_append]
      refine wpD_two 9 16 ?_ ?_
      focus
        refine d1_val ?_
        show OVL _ ⟨_, .buildSlice _ _ _, _, _, _, _⟩ _ _ _ _ _ _
        refine x_buildSliceN (l := [.string ⟨#[115, 112, 66, 118, 49, 46, 48]⟩, .string g, .string wd, .string nn, .string d]) (by rfl) (by rfl) (by rfl) (by rfl) (by rfl) (by rfl) (by rfl) (by rfl) (fun b1 => ⟨eNT, ?_⟩)
        ((first | refine dt 17 ?_ | refine dts 17 ?_))
        (refine wpD_eff 16 rfl rfl (by kernel_rfl) rfl rfl ?_; show OVL _ ⟨_, .buildSlice _ _ _, _, _, _, _⟩ _ _ _ _ _ _)
        refine x_buildSliceN (l := [.string g, .string nn, .string d]) (by rfl) (by rfl) (by rfl) (by rfl) (by rfl) (by rfl) (by rfl) (by rfl) (fun b2 => ⟨eNT, ?_⟩)
        (refine dl ?_)
      rotate_left
      focus
        refine d1_val ?_
        show OVL _ ⟨_, .buildSlice _ _ _, _, _, _, _⟩ _ _ _ _ _ _
        refine x_buildSliceN (l := [.string g, .string nn, .string d]) (by rfl) (by rfl) (by rfl) (by rfl) (by rfl) (by rfl) (by rfl) (by rfl) (fun b2 => ⟨eNT, ?_⟩)
        (refine wpD_eff 9 rfl rfl (by kernel_rfl) rfl rfl ?_; show OVL _ ⟨_, .buildSlice _ _ _, _, _, _, _⟩ _ _ _ _ _ _)
        refine x_buildSliceN (l := [.string ⟨#[115, 112, 66, 118, 49, 46, 48]⟩, .string g, .string wd, .string nn, .string d]) (by rfl) (by rfl) (by rfl) (by rfl) (by rfl) (by rfl) (by rfl) (by rfl) (fun b1 => ⟨eNT, ?_⟩)
        ((first | refine df 17 ?_ | refine dfs 17 ?_); refine dl ?_)
      rotate_left
    rotate_left 2
    focus
      refine d1_val ?_
      show OVL _ ⟨_, .buildSlice _ _ _, _, _, _, _⟩ _ _ _ _ _ _
      refine x_buildSliceN (l := [.string g, .string nn, .string d]) (by rfl) (by rfl) (by rfl) (by rfl) (by rfl) (by rfl) (by rfl) (by rfl) (fun b2 => ⟨eNT, ?_⟩)
      refine dcall 4 hwo (fun wd hwd => ?_)
      simp only [List.cons_append, List.nil_append]
      (refine wpD_eff 9 rfl rfl (by kernel_rfl) rfl rfl ?_; show OVL _ ⟨_, .buildSlice _ _ _, _, _, _, _⟩ _ _ _ _ _ _)
      refine x_buildSliceN (l := [.string ⟨#[115, 112, 66, 118, 49, 46, 48]⟩, .string g, .string wd, .string nn, .string d]) (by rfl) (by rfl) (by rfl) (by rfl) (by rfl) (by rfl) (by rfl) (by rfl) (fun b1 => ⟨eNT, ?_⟩)
      ((first | refine df 17 ?_ | refine dfs 17 ?_); refine dl ?_)
    rotate_left
    all_goals
      (refine go ?_; intros)
      refine qE_regNew (b := b1) (xs := ([⟨#[115, 112, 66, 118, 49, 46, 48]⟩, g, wd, nn, d] : List ByteArray).map Value.string) (m := 5) E.ok ((str_rows (l := [⟨#[115, 112, 66, 118, 49, 46, 48]⟩, g, wd, nn, d]) (by simp; omega)).mono le0) (fun ρ1 H1 x1 x2 x3 => ?_)
      refine qE_regNew (b := b2) (xs := ([g, nn, d] : List ByteArray).map Value.string) (m := 3) x1 ((str_rows (l := [g, nn, d]) (by simp; omega)).mono le0) (fun ρ2 H2 x4 x5 x6 => ?_)
      exact q_ret2 rfl rfl rfl ((ρ2, H2), _, 5, _, 3) rfl ⟨x4, x2.trans x5, x3.mono x5.le, by dsimp only; omega, by dsimp only; omega, x6, by dsimp only; omega⟩ eNT
  · rw [if_neg h5]
    (refine go ?_; intros)
    refine wpC_drawnA [pts c1 (.cells (spotC ⟨k, g, nn, d⟩).toArray 221 (0, 0))] 14 ?_
    ((first | refine dt 0 ?_ | refine dts 0 ?_); (first | refine dt 1 ?_ | refine dts 1 ?_); (first | refine dt 2 ?_ | refine dts 2 ?_); (first | refine dt 3 ?_ | refine dts 3 ?_); (first | refine dt 5 ?_ | refine dts 5 ?_); (first | refine dt 6 ?_ | refine dts 6 ?_); (first | refine dt 8 ?_ | refine dts 8 ?_); (first | refine dt 9 ?_ | refine dts 9 ?_); (first | refine dt 10 ?_ | refine dts 10 ?_); (first | refine dt 11 ?_ | refine dts 11 ?_))
    refine wpD_two 4 12 ?_ ?_
    focus
      refine d1_call hwo (fun wd hwd => ?_)
      simp only [List.cons_append, List.nil_append]
      refine wpD_two 7 12 ?_ ?_
      focus
        refine d1_val ?_
        show OVL _ ⟨_, .buildSlice _ _ _, _, _, _, _⟩ _ _ _ _ _ _
        refine x_buildSliceN (l := [.string ⟨#[115, 112, 66, 118, 49, 46, 48]⟩, .string g, .string wd, .string nn]) (by rfl) (by rfl) (by rfl) (by rfl) (by rfl) (by rfl) (by rfl) (by rfl) (fun b1 => ⟨eNT, ?_⟩)
        ((first | refine dt 13 ?_ | refine dts 13 ?_))
        (refine wpD_eff 12 rfl rfl (by kernel_rfl) rfl rfl ?_; show OVL _ ⟨_, .buildSlice _ _ _, _, _, _, _⟩ _ _ _ _ _ _)
        refine x_buildSliceN (l := [.string g, .string nn]) (by rfl) (by rfl) (by rfl) (by rfl) (by rfl) (by rfl) (by rfl) (by rfl) (fun b2 => ⟨eNT, ?_⟩)
        (refine dl ?_)
      rotate_left
      focus
        refine d1_val ?_
        show OVL _ ⟨_, .buildSlice _ _ _, _, _, _, _⟩ _ _ _ _ _ _
        refine x_buildSliceN (l := [.string g, .string nn]) (by rfl) (by rfl) (by rfl) (by rfl) (by rfl) (by rfl) (by rfl) (by rfl) (fun b2 => ⟨eNT, ?_⟩)
        (refine wpD_eff 7 rfl rfl (by kernel_rfl) rfl rfl ?_; show OVL _ ⟨_, .buildSlice _ _ _, _, _, _, _⟩ _ _ _ _ _ _)
        refine x_buildSliceN (l := [.string ⟨#[115, 112, 66, 118, 49, 46, 48]⟩, .string g, .string wd, .string nn]) (by rfl) (by rfl) (by rfl) (by rfl) (by rfl) (by rfl) (by rfl) (by rfl) (fun b1 => ⟨eNT, ?_⟩)
        ((first | refine df 13 ?_ | refine dfs 13 ?_); refine dl ?_)
      rotate_left
    rotate_left 2
    focus
      refine d1_val ?_
      show OVL _ ⟨_, .buildSlice _ _ _, _, _, _, _⟩ _ _ _ _ _ _
      refine x_buildSliceN (l := [.string g, .string nn]) (by rfl) (by rfl) (by rfl) (by rfl) (by rfl) (by rfl) (by rfl) (by rfl) (fun b2 => ⟨eNT, ?_⟩)
      refine dcall 4 hwo (fun wd hwd => ?_)
      simp only [List.cons_append, List.nil_append]
      (refine wpD_eff 7 rfl rfl (by kernel_rfl) rfl rfl ?_; show OVL _ ⟨_, .buildSlice _ _ _, _, _, _, _⟩ _ _ _ _ _ _)
      refine x_buildSliceN (l := [.string ⟨#[115, 112, 66, 118, 49, 46, 48]⟩, .string g, .string wd, .string nn]) (by rfl) (by rfl) (by rfl) (by rfl) (by rfl) (by rfl) (by rfl) (by rfl) (fun b1 => ⟨eNT, ?_⟩)
      ((first | refine df 13 ?_ | refine dfs 13 ?_); refine dl ?_)
    rotate_left
    all_goals
      (refine go ?_; intros)
      refine qE_regNew (b := b1) (xs := ([⟨#[115, 112, 66, 118, 49, 46, 48]⟩, g, wd, nn] : List ByteArray).map Value.string) (m := 4) E.ok ((str_rows (l := [⟨#[115, 112, 66, 118, 49, 46, 48]⟩, g, wd, nn]) (by simp; omega)).mono le0) (fun ρ1 H1 x1 x2 x3 => ?_)
      refine qE_regNew (b := b2) (xs := ([g, nn] : List ByteArray).map Value.string) (m := 2) x1 ((str_rows (l := [g, nn]) (by simp; omega)).mono le0) (fun ρ2 H2 x4 x5 x6 => ?_)
      exact q_ret2 rfl rfl rfl ((ρ2, H2), _, 4, _, 2) rfl ⟨x4, x2.trans x5, x3.mono x5.le, by dsimp only; omega, by dsimp only; omega, x6, by dsimp only; omega⟩ eNT
end Go.Proofs.YtnaabpfpldelmaaGreatDoor
set_option linter.unusedSimpArgs false
set_option linter.unusedVariables false
set_option maxRecDepth 20000
namespace Go.Proofs.YtnaabpfpldelmaaGreatDoor
open Go Go.Sx
attribute [local irreducible] MidQ wpE wpO wpC qE wpQ wpQO wpH wpHO wpD wpDO wpZ Ev own emp exI sl ch PostS LoopQ Rd rowsAt
set_option maxHeartbeats 1000000 in
theorem sp_put {G : Rg} (E : EnvG G) (w : SpotS) (hw : SpotOk w) : FnDoes Tryz.prog 114 [.agg (spotC w).toArray] [rgH G] (fun y : Rg × ByteArray × Nat => EnvG y.1 ∧ grG G y.1) (fun y => .tuple #[.string y.2.1, nat64 y.2.2]) (fun y => [rgH y.1]) := by
  have hp := sp_parts E w hw
  obtain ⟨k, g, nn, d⟩ := w
  obtain ⟨o1, o2, o3, o4⟩ := hw
  try dsimp only at o1 o2 o3 o4 hp ⊢
  have hwd := sp_width k
  refine does_of Tryz.func114 rfl rfl Tryz.ntmps114 rfl eNUM (fun c => ?_)
  by_cases h0 : k = 0
  · subst h0
    (refine go ?_; intro c1)
    exact q_ret2 rfl rfl rfl (G, ⟨#[]⟩, 11) rfl ⟨E, Gr.refl _ _⟩ eNT
  · have fin : 3 ≤ widthN k ∧ widthN k ≤ 5 := by unfold widthN; split <;> (try split) <;> omega
    (refine go ?_; intro c1)
    (show wpO _ _ ⟨_, .call _, _, _, _, _⟩ _ _ _ _ _ _; refine o_callA (hwd) (fun _ _ => ?_); try simp only [List.cons_append, List.nil_append])
    generalize widthN k = wd at fin
    (repeat' (first | (refine go1 ?_; intros) | (first | (refine o_cmpS ?_ ?_ <;> (intro h_; simp only [cmpP] at h_)) | (refine o_strS ?_ ?_ <;> intro h_) | (refine o_strN ?_ ?_ <;> intro h_) | (refine wpC_condS ?_ ?_ <;> (intro h_; first | subst h_ | skip))) | (first | exact q_ret1 rfl rfl () rfl trivial eNT | exact q_ret2 rfl rfl rfl () rfl trivial eNT | exact q_ret3 rfl rfl rfl rfl () rfl trivial eNT | exact q_ret0 rfl () rfl trivial eNT _ (by first | exact .inl rfl | exact .inr rfl)) | (exact q_ret2 rfl rfl rfl (G, ⟨#[]⟩, 4) rfl ⟨E, Gr.refl _ _⟩ eNT)))
    all_goals
      (show wpO _ _ ⟨_, .call _, _, _, _, _⟩ _ _ _ _ _ _; refine o_callA (hp) (fun ⟨G1, v1, k1, v2, k2⟩ ⟨x1, x2, x3, x4, x5, x6, x7⟩ => ?_); try simp only [List.cons_append, List.nil_append])
      try dsimp only at x1 x2 x3 x4 x5 x6 x7 ⊢
      have E1 := E.up x1 x2
      have y1 := x3.one
      have hj := lv_join x1 x3 (by omega) (by omega)
      obtain ⟨a2, cap2, rfl, hc2⟩ := x6.isSlice
      have y2 := x6.one
      (refine go ?_; intros)
      refine wpC_loop (σ := Nat) (fun i => i ≤ k2) (fun i => [(2, .string ⟨#[]⟩), (3, nat64 0), (4, v1), (39, .slice a2 k2 cap2), (40, nat64 k2), (41, nat64 i)]) (fun _ => [rgH G1]) (fun i => k2 - i) 0 (Nat.zero_le _) sUB eNT (fun i hi => ?_)
      by_cases hlt : i < k2
      · obtain ⟨b, o, s, rfl, hs, hcell⟩ := str_at x1 x6 hlt
        have hpt := sp_part E1 s
        (refine go ?_; intros)
        (show wpO _ _ ⟨_, .call _, _, _, _, _⟩ _ _ _ _ _ _; refine o_callA (hpt) (fun r _ => ?_); try simp only [List.cons_append, List.nil_append])
        cases r with
        | true =>
          (refine go ?_; intros)
          exact q_round (i + 1) hlt (by omega) sUB eNT
        | false =>
          (refine go ?_; intros)
          exact q_ret2 rfl rfl rfl (G1, ⟨#[]⟩, 13) rfl ⟨E1, x2⟩ eNT
      · (refine go ?_; intros)
        (show wpO _ _ ⟨_, .call _, _, _, _, _⟩ _ _ _ _ _ _; refine o_callA (hj) (fun t _ => ?_); try simp only [List.cons_append, List.nil_append])
        have hn := lv_name x1 E1.v t
        (refine go ?_; intros)
        (show wpO _ _ ⟨_, .call _, _, _, _, _⟩ _ _ _ _ _ _; refine o_callA (hn) (fun r _ => ?_); try simp only [List.cons_append, List.nil_append])
        cases r with
        | true =>
          (refine go ?_; intros)
          exact q_ret2 rfl rfl rfl (G1, t, 0) rfl ⟨E1, x2⟩ eNT
        | false =>
          (refine go ?_; intros)
          exact q_ret2 rfl rfl rfl (G1, ⟨#[]⟩, 13) rfl ⟨E1, x2⟩ eNT
set_option maxHeartbeats 1000000 in
theorem sp_guess {G : Rg} (E : EnvG G) {v : Value} {k : Nat} (hv : slG G tStr v k) : FnDoes Tryz.prog 157 [v] [rgH G] SpotOk (fun y => .agg (spotC y).toArray) (fun _ => [rgH G]) := by
  have hsz : ∀ s : ByteArray, s = (⟨#[]⟩ : ByteArray) → s.size ≤ 65536 := fun s e => by subst e; decide
  obtain ⟨a, cap, rfl, hc⟩ := hv.isSlice
  refine does_of Tryz.func157 rfl rfl Tryz.ntmps157 rfl eNUM (fun c => ?_)
  by_cases h3 : k = 3
  · subst h3
    obtain ⟨b, o, s2, rfl, hs2, hc2⟩ := str_at E.ok hv (i := 2) (by omega)
    (refine go ?_; intro c2)
    refine o_evB (ev_indexS 1 (i := 2) rfl rfl rfl rfl rfl rfl (by omega)) ?_
    (refine go ?_; intros)
    exact q_retCell (l := spotC ⟨9, ⟨#[]⟩, s2, ⟨#[]⟩⟩) rfl rfl rfl rfl rfl pK rfl ⟨9, ⟨#[]⟩, s2, ⟨#[]⟩⟩ rfl ⟨Nat.le_refl _, hsz _ rfl, hs2, hsz _ rfl⟩ eNT
  · by_cases h4 : k = 4
    · subst h4
      obtain ⟨b, o, s2, rfl, hs2, hc2⟩ := str_at E.ok hv (i := 2) (by omega)
      obtain ⟨b', o', s1, e1, hs1, hc1⟩ := str_at E.ok hv (i := 1) (by omega)
      cases e1
      obtain ⟨b', o', s3, e1, hs3, hc3⟩ := str_at E.ok hv (i := 3) (by omega)
      cases e1
      have hk := sp_kind E s2
      (refine go ?_; intro c2)
      refine wpC_drawnA [rgH G] 11 ?_
      ((first | refine dt 0 ?_ | refine dts 0 ?_))
      refine dtB 1 rfl (ev_indexS 1 (i := 2) rfl rfl rfl rfl rfl rfl (by omega)) ?_
      ((first | refine dt 2 ?_ | refine dts 2 ?_); (first | refine dt 4 ?_ | refine dts 4 ?_))
      refine dtB 5 rfl (ev_indexS 1 (i := 1) rfl rfl rfl rfl rfl rfl (by omega)) ?_
      ((first | refine dt 6 ?_ | refine dts 6 ?_); (first | refine dt 7 ?_ | refine dts 7 ?_))
      refine dtB 8 rfl (ev_indexS 1 (i := 3) rfl rfl rfl rfl rfl rfl (by omega)) ?_
      ((first | refine dt 9 ?_ | refine dts 9 ?_))
      refine dcall 3 hk (fun kd hkd => ?_)
      simp only [List.cons_append, List.nil_append]
      ((first | refine df 10 ?_ | refine dfs 10 ?_))
      (refine wpD_lastU rfl rfl (by kernel_rfl) (by kernel_rfl) rfl ?_; show OUL _ ⟨_, .store _ _ _, _, _, _, _⟩ _ _ _ _ _)
      refine x_storeP (vs := spotC ⟨kd, s1, s3, ⟨#[]⟩⟩) (by rfl) (by rfl) (by rfl) (by rfl) (by rfl) (by rfl) pK (by simp) rfl ?_
      (refine go ?_; intros)
      exact q_retCell (l := spotC ⟨kd, s1, s3, ⟨#[]⟩⟩) rfl rfl rfl rfl rfl pK rfl ⟨kd, s1, s3, ⟨#[]⟩⟩ rfl ⟨hkd, hs1, hs3, hsz _ rfl⟩ eNT
    · by_cases h5 : k = 5
      · subst h5
        obtain ⟨b, o, s2, rfl, hs2, hc2⟩ := str_at E.ok hv (i := 2) (by omega)
        obtain ⟨b', o', s1, e1, hs1, hc1⟩ := str_at E.ok hv (i := 1) (by omega)
        cases e1
        obtain ⟨b', o', s3, e1, hs3, hc3⟩ := str_at E.ok hv (i := 3) (by omega)
        cases e1
        obtain ⟨b', o', s4, e1, hs4, hc4⟩ := str_at E.ok hv (i := 4) (by omega)
        cases e1
        have hk := sp_kind E s2
        (refine go ?_; intro c2)
        refine wpC_drawnA [rgH G] 14 ?_
        ((first | refine dt 0 ?_ | refine dts 0 ?_))
        refine dtB 1 rfl (ev_indexS 1 (i := 2) rfl rfl rfl rfl rfl rfl (by omega)) ?_
        ((first | refine dt 2 ?_ | refine dts 2 ?_); (first | refine dt 4 ?_ | refine dts 4 ?_))
        refine dtB 5 rfl (ev_indexS 1 (i := 1) rfl rfl rfl rfl rfl rfl (by omega)) ?_
        ((first | refine dt 6 ?_ | refine dts 6 ?_); (first | refine dt 7 ?_ | refine dts 7 ?_))
        refine dtB 8 rfl (ev_indexS 1 (i := 3) rfl rfl rfl rfl rfl rfl (by omega)) ?_
        ((first | refine dt 9 ?_ | refine dts 9 ?_); (first | refine dt 10 ?_ | refine dts 10 ?_))
        refine dtB 11 rfl (ev_indexS 1 (i := 4) rfl rfl rfl rfl rfl rfl (by omega)) ?_
        ((first | refine dt 12 ?_ | refine dts 12 ?_))
        refine dcall 3 hk (fun kd hkd => ?_)
        simp only [List.cons_append, List.nil_append]
        ((first | refine df 13 ?_ | refine dfs 13 ?_))
        (refine wpD_lastU rfl rfl (by kernel_rfl) (by kernel_rfl) rfl ?_; show OUL _ ⟨_, .store _ _ _, _, _, _, _⟩ _ _ _ _ _)
        refine x_storeP (vs := spotC ⟨kd, s1, s3, s4⟩) (by rfl) (by rfl) (by rfl) (by rfl) (by rfl) (by rfl) pK (by simp) rfl ?_
        (refine go ?_; intros)
        exact q_retCell (l := spotC ⟨kd, s1, s3, s4⟩) rfl rfl rfl rfl rfl pK rfl ⟨kd, s1, s3, s4⟩ rfl ⟨hkd, hs1, hs3, hs4⟩ eNT
      · (refine go ?_; intro c2)
        exact q_retCell (l := spotC ⟨0, ⟨#[]⟩, ⟨#[]⟩, ⟨#[]⟩⟩) rfl rfl rfl rfl rfl pK rfl ⟨0, ⟨#[]⟩, ⟨#[]⟩, ⟨#[]⟩⟩ rfl ⟨Nat.zero_le _, hsz _ rfl, hsz _ rfl, hsz _ rfl⟩ eNT
set_option maxHeartbeats 1000000 in
theorem sp_of {G : Rg} (E : EnvG G) (t : ByteArray) (ht : t.size ≤ 65536) : FnDoes Tryz.prog 112 [.string t] [rgH G] (fun y : Rg × SpotS => EnvG y.1 ∧ grG G y.1 ∧ SpotOk y.2) (fun y => .agg (spotC y.2).toArray) (fun y => [rgH y.1]) := by
  have hsz : ∀ s : ByteArray, s = (⟨#[]⟩ : ByteArray) → s.size ≤ 65536 := fun s e => by subst e; decide
  have hs := lv_split E.ok t ht
  refine does_of Tryz.func112 rfl rfl Tryz.ntmps112 rfl eNUM (fun c => ?_)
  (refine go ?_; intro c2)
  (show wpO _ _ ⟨_, .call _, _, _, _, _⟩ _ _ _ _ _ _; refine o_callA (hs) (fun ⟨G1, v, k⟩ ⟨x1, x2, x3, x4, x5⟩ => ?_); try simp only [List.cons_append, List.nil_append])
  try dsimp only at x1 x2 x3 x4 x5 ⊢
  have E1 := E.up x1 x2
  have y1 := x3.one
  have hg := sp_guess E1 x3
  (refine go ?_; intros)
  (show wpO _ _ ⟨_, .call _, _, _, _, _⟩ _ _ _ _ _ _; refine o_callA (hg) (fun w hw => ?_); try simp only [List.cons_append, List.nil_append])
  obtain ⟨k, g, nn, d⟩ := w
  have hp := sp_put E1 ⟨k, g, nn, d⟩ hw
  (refine go ?_; intro c3)
  (show wpO _ _ ⟨_, .call _, _, _, _, _⟩ _ _ _ _ _ _; refine o_callA (hp) (fun ⟨G2, r, e⟩ ⟨x6, x7⟩ => ?_); try simp only [List.cons_append, List.nil_append])
  try dsimp only at x6 x7 ⊢
  (repeat' (first | (refine go1 ?_; intros) | (first | (refine o_cmpS ?_ ?_ <;> (intro h_; simp only [cmpP] at h_)) | (refine o_strS ?_ ?_ <;> intro h_) | (refine o_strN ?_ ?_ <;> intro h_) | (refine wpC_condS ?_ ?_ <;> (intro h_; first | subst h_ | skip))) | (first | exact q_ret1 rfl rfl () rfl trivial eNT | exact q_ret2 rfl rfl rfl () rfl trivial eNT | exact q_ret3 rfl rfl rfl rfl () rfl trivial eNT | exact q_ret0 rfl () rfl trivial eNT _ (by first | exact .inl rfl | exact .inr rfl)) | (exact q_retCell (l := spotC ⟨0, ⟨#[]⟩, ⟨#[]⟩, ⟨#[]⟩⟩) rfl rfl rfl rfl rfl pK rfl (G2, ⟨0, ⟨#[]⟩, ⟨#[]⟩, ⟨#[]⟩⟩) rfl ⟨x6, x2.trans x7, Nat.zero_le _, hsz _ rfl, hsz _ rfl, hsz _ rfl⟩ eNT) | (exact q_retCell (l := spotC ⟨k, g, nn, d⟩) rfl rfl rfl rfl rfl pK rfl (G2, ⟨k, g, nn, d⟩) rfl ⟨x6, x2.trans x7, hw⟩ eNT)))
end Go.Proofs.YtnaabpfpldelmaaGreatDoor
