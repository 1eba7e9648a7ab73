/-
  Who comes, read: the whole of it.
  Numbers of as many bytes as they need; numbers of a fixed width: read.
  The shapes of the rows that payloads are read into.
-/
import Derived.Test.YtnaabpfpldelmaaGreatDoorM13
import Derived.Test.YtnaabpfpldelmaaGreatDoorM11
set_option linter.unusedSimpArgs false
set_option linter.unusedVariables false
set_option maxRecDepth 20000
namespace Go.Proofs.YtnaabpfpldelmaaGreatDoor
open Go Go.Sx
def errI (e : Nat) (x : Nat) : HProp := pts e (.cells [nat64 x].toArray 36 (0, 0))
def rpI (b r : Nat) : HProp := pts b (.cells [pt0 r].toArray 507 (0, 0))
attribute [local irreducible] MidQ wpE wpO wpC qE wpQ wpQO wpH wpHO wpD wpDO wpZ Ev own emp exI sl ch PostS LoopQ Rd rowsAt
theorem of_last (rc ec cc r : Nat) (v : Value) (z : Rdr) (c0 c1 c2 c3 c4 c5 c6 c7 c8 c9 c10 c11 c12 : Value) :
    DefDoes Tryz.prog 336 [pt0 rc, pt0 ec, pt0 cc] [rpI rc r, rdI r v z, errI ec 0, connI cc [c0, c1, c2, c3, c4, c5, c6, c7, c8, c9, c10, c11, c12]] (fun _ : Unit => True)
      (fun _ => [rpI rc r, rdI r v z, errI ec z.e, connI cc (if z.e = 0 then [c0, c1, c2, c3, c4, c5, c6, c7, c8, c9, c10, c11, c12] else conn0 (.int .i64 0))]) := by
  refine defers_of (val := fun _ => .tuple #[]) Tryz.func336 rfl rfl Tryz.ntmps336 rfl eNUM (fun c hrnd hds => ?_)
  unfold rpI rdI errI connI
  by_cases h : z.e = 0
  · have h1 : ((z.e : Nat) : Int) = 0 := by omega
    have h2 : ¬ ((z.e : Nat) : Int) ≠ 0 := by omega
    rw [if_pos h]
    (refine go ?_; intros)
    exact qm_ret0 hds (.inr rfl) (q_ret0 rfl () rfl trivial eNT _ (.inr rfl))
  · have h1 : ((z.e : Nat) : Int) ≠ 0 := by omega
    rw [if_neg h]
    unfold conn0
    (refine go ?_; intros)
    exact qm_ret0 hds (.inr rfl) (q_ret0 rfl () rfl trivial eNT _ (.inr rfl))
def of0 (l : List UInt8) : ByteArray × Rdr := rTextF getF l ⟨0, 0⟩ true
def mqtt : ByteArray := ⟨#[77, 81, 84, 84]⟩
def of1 (l : List UInt8) : Nat × Rdr := rOne l (of0 l).2
def ofZ (l : List UInt8) : Rdr := if (of0 l).1 ≠ mqtt then rFail (of0 l).2 15 else if (of1 l).1 = 4 then rs8 l (of1 l).2 else (of1 l).2
def ofC (l : List UInt8) : List Value := if (of0 l).1 ≠ mqtt then conn0 (.int .i64 0) else if (of1 l).1 = 4 then restC l (of1 l).2 (.int .i64 (of1 l).1) else conn0 (.int .i64 (of1 l).1)
def ofV (l : List UInt8) : Value := .tuple #[.agg (if (ofZ l).e = 0 then ofC l else conn0 (.int .i64 0)).toArray, nat64 (ofZ l).e]
theorem conn_of (H : PHeap) (V : ∀ s : ByteArray, s.size ≤ 65535 → FnDoes Tryz.prog 275 [.string s] [own H] (fun _ : Unit => True) (fun _ => .bool (Lib.validD s.data.toList)) (fun _ => [own H]))
    (s : ByteArray) (hl : s.size ≤ 4611686018427387904) : FnDoes Tryz.prog 268 [.string s] [own H] (fun _ : Unit => True) (fun _ => ofV s.data.toList) (fun _ => [own H]) := by
  generalize hs : s.data.toList = l
  have hl' : l.length ≤ 4611686018427387904 := by rw [← hs]; exact hl
  refine does_ofM Tryz.func268 rfl rfl Tryz.ntmps268 rfl eNUM (fun c hrnd hds => ?_)
  (refine go ?_; intro t2 t3)
  refine o_bytesOf rfl rfl rfl rfl rfl (fun v => ?_)
  rw [hs]
  refine wpE_fact (Bs.ofBsI.isSlice .head) (fun hv1 => ?_)
  obtain ⟨a, cap, rfl, ha⟩ := hv1
  (refine go ?_; intro r t4)
  refine o_evB (ev_makeFunc (vb := []) (vf := [pt0 t4, pt0 t3, pt0 t2]) rfl rfl) ?_
  (refine go ?_; intros)
  refine o_defer hrnd rfl rfl ?_
  (refine go ?_; intros)
  (show wpO _ _ ⟨_, .call _, _, _, _, _⟩ _ _ _ _ _ _; refine o_callA (rd_textG H V Bs.ofBsI hl' r ⟨0, 0⟩ true (Nat.zero_le _)) (fun _ _ => ?_); try simp only [List.cons_append, List.nil_append])
  by_cases hm : (of0 l).1 = mqtt
  · have o1 : (of1 l).2.at' ≤ l.length := rOne_le l _ (rTextF_le getF_le l ⟨0, 0⟩ true (Nat.zero_le _))
    (refine go ?_; intros)
    (show wpO _ _ ⟨_, .call _, _, _, _, _⟩ _ _ _ _ _ _; refine o_callA (rd_one Bs.ofBsI r (of0 l).2 hl') (fun _ _ => ?_); try simp only [List.cons_append, List.nil_append])
    by_cases h4 : (of1 l).1 = 4
    · have h4' : (((rOne l (of0 l).2).1 : Nat) : Int) = 4 := by have := h4; unfold of1 at this; omega
      have e1 : ofZ l = rs8 l (of1 l).2 := by unfold ofZ; rw [if_neg (fun h => h hm), if_pos h4]
      have e2 : ofC l = restC l (of1 l).2 (.int .i64 (of1 l).1) := by unfold ofC; rw [if_neg (fun h => h hm), if_pos h4]
      (refine go ?_; intros)
      (show wpO _ _ ⟨_, .call _, _, _, _, _⟩ _ _ _ _ _ _; refine o_callA (rd_rest H V Bs.ofBsI hl' r t2 (of1 l).2 o1 (of1 l).1) (fun _ _ => ?_); try simp only [List.cons_append, List.nil_append])
      (refine go ?_; intros)
      refine qm_defer (of_last t4 t3 t2 r _ (rs8 l (of1 l).2) _ _ _ _ _ _ _ _ _ _ _ _ _) (Picks.ent pKS) (.inl rfl) (fun _ _ => ?_)
      simp only [List.cons_append, List.nil_append]
      refine qm_ret0 hds (.inl rfl) (q_retAC rfl rfl rfl rfl rfl rfl ?_ rfl rfl pK pK () ?_ trivial eNT)
      · split <;> rfl
      · unfold ofV; rw [e1, e2]; rfl
    · have h4' : ¬ (((rOne l (of0 l).2).1 : Nat) : Int) = 4 := by have := h4; unfold of1 at this; omega
      have e1 : ofZ l = (of1 l).2 := by unfold ofZ; rw [if_neg (fun h => h hm), if_neg h4]
      have e2 : ofC l = conn0 (.int .i64 (of1 l).1) := by unfold ofC; rw [if_neg (fun h => h hm), if_neg h4]
      (refine go ?_; intros)
      refine qm_defer (of_last t4 t3 t2 r _ (of1 l).2 _ _ _ _ _ _ _ _ _ _ _ _ _) (Picks.ent pKS) (.inl rfl) (fun _ _ => ?_)
      simp only [List.cons_append, List.nil_append]
      refine qm_ret0 hds (.inl rfl) (q_retAC rfl rfl rfl rfl rfl rfl ?_ rfl rfl pK pK () ?_ trivial eNT)
      · split <;> rfl
      · unfold ofV; rw [e1, e2]; rfl
  · have e1 : ofZ l = rFail (of0 l).2 15 := by unfold ofZ; rw [if_pos hm]
    have e2 : ofC l = conn0 (.int .i64 0) := by unfold ofC; rw [if_pos hm]
    (refine go ?_; intros)
    (show wpO _ _ ⟨_, .call _, _, _, _, _⟩ _ _ _ _ _ _; refine o_callA (rd_fail r _ (of0 l).2 15) (fun _ _ => ?_); try simp only [List.cons_append, List.nil_append])
    (refine go ?_; intros)
    refine qm_defer (of_last t4 t3 t2 r _ (rFail (of0 l).2 15) _ _ _ _ _ _ _ _ _ _ _ _ _) (Picks.ent pKS) (.inl rfl) (fun _ _ => ?_)
    simp only [List.cons_append, List.nil_append]
    refine qm_ret0 hds (.inl rfl) (q_retAC rfl rfl rfl rfl rfl rfl ?_ rfl rfl pK pK () ?_ trivial eNT)
    · split <;> rfl
    · unfold ofV; rw [e1, e2]; rfl
end Go.Proofs.YtnaabpfpldelmaaGreatDoor
set_option linter.unusedSimpArgs false
set_option linter.unusedVariables false
namespace Go.Sx
open Go Go.Conc
def sepE (l : List UInt8) : List (List Value) := (List.range (min l.length 10)).map fun i => [nat64 (7 * i), .int .u8 (at8 l i)]
theorem sepE_len (l : List UInt8) : (sepE l).length = min l.length 10 := by simp [sepE]
theorem sepE_get (l : List UInt8) (i : Nat) (h : i < (sepE l).length) : (sepE l)[i] = [nat64 (7 * i), .int .u8 (at8 l i)] := by simp [sepE]
end Go.Sx
set_option maxRecDepth 20000
namespace Go.Proofs.YtnaabpfpldelmaaGreatDoor
open Go Go.Sx
abbrev bbC (b : Nat) (v : Value) : HProp := pts b (.cells [v].toArray 33 (0, 0))
attribute [local irreducible] MidQ wpE wpO wpC qE wpQ wpQO wpH wpHO wpD wpDO wpZ Ev own emp exI sl ch PostS LoopQ Rd rowsAt
theorem vi_septets (v : Value) (h1 : v.oneCell' = true) : FnDoes Tryz.prog 531 [v] [] (fun _ : Nat => True) (fun b => .func (.func 546) #[] [pt0 b].toArray) (fun b => [bbC b v]) := by
  have hv : v.cells = [v].toArray := by cases v <;> first | rfl | cases h1
  refine does_of Tryz.func531 rfl rfl Tryz.ntmps531 rfl eNUM (fun c => ?_)
  refine wpC_seq ?_
  refine wpC_region ?_
  refine g_none rfl ?_
  refine o_box rfl hv rfl (fun b => ?_)
  (refine go ?_; intros)
  refine o_evB (ev_makeFunc (vb := []) (vf := [pt0 b]) rfl rfl) ?_
  (refine go ?_; intros)
  exact q_ret1 rfl rfl b rfl trivial eNT
theorem vi_seq {X : HProp} {v : Value} {l : List UInt8} (hX : Bs X v l) (b : Nat) (hl : l.length ≤ 4096) : SeqDoes Tryz.prog 546 [pt0 b] (sepE l) [bbC b v, X] := fun j J Z hY => by
  rw [sepE_len]
  refine does_of Tryz.func546 rfl rfl Tryz.ntmps546 rfl eNUM (fun c => ?_)
  simp only [List.cons_append, List.nil_append]
  refine wpC_fact (hX.isSlice (.tail .head)) (fun hs => ?_)
  obtain ⟨a, cap, rfl, ha⟩ := hs
  (refine go ?_; intros)
  refine o_evB (ev_min (r := ((min l.length 10 : Nat) : Int)) rfl rfl (by omega)) ?_
  (refine go ?_; intros)
  refine wpC_loop (σ := Nat) (fun i => i ≤ min l.length 10) (fun i => [(0, .func (.yield j) #[] #[]), (1, pt0 b), (6, nat64 (min l.length 10)), (7, nat64 i)]) (fun i => [bbC b (.slice a l.length cap), X, J i]) (fun i => min l.length 10 - i) 0 (Nat.zero_le _) sUB eNT (fun i hi => ?_)
  by_cases hc : i < min l.length 10
  · have hY' := hY i (by rw [sepE_len]; exact hc)
    rw [sepE_get] at hY'
    obtain ⟨bb, off, rfl, hcap⟩ := ha (by omega)
    have c0 := at8_get (l := l) (i := i) (by omega)
    (refine go ?_; intros)
    refine o_evB (ev_load_rd rfl rfl rfl hX pK rfl (by rw [Nat.mul_one]; exact c0)) ?_
    (refine go ?_; intros)
    (show wpO _ _ ⟨_, .call _, _, _, _, _⟩ _ _ _ _ _ _; refine o_callYA (hY') (fun yb _ => ?_); try simp only [List.cons_append, List.nil_append])
    cases yb with
    | true =>
      (refine go ?_; intros)
      exact q_round (i + 1) hc (by omega) sUB eNT
    | false =>
      (refine go ?_; intros)
      exact q_ret0 rfl false rfl trivial eNT _ (.inl rfl)
  · obtain rfl : i = min l.length 10 := by omega
    (refine go ?_; intros)
    exact q_ret0 rfl true rfl trivial eNT _ (.inr rfl)
theorem fx_cut {X : HProp} {v : Value} {l : List UInt8} (hX : Bs X v l) (i k : Nat) (hi : i ≤ l.length) (hl : l.length ≤ 4096) (hk : k ≤ 8) : FnDoes Tryz.prog 553 [v, nat64 i, nat64 k] [X] (fun y : Value × Nat => if i + k ≤ l.length then y.2 = 0 ∧ Bs X y.1 ((l.drop i).take k) else y.2 ≠ 0 ∧ y.1 = .slice none 0 0)
    (fun y => .tuple #[y.1, nat64 y.2]) (fun _ => [X]) := by
  refine does_of Tryz.func553 rfl rfl Tryz.ntmps553 rfl eNUM (fun c => ?_)
  refine wpC_fact (hX.isSlice .head) (fun hs => ?_)
  obtain ⟨a, cap, rfl, ha⟩ := hs
  by_cases h : i + k ≤ l.length
  · have hh : (i : Int) + k = ((i + k : Nat) : Int) := by omega
    (refine go ?_; intros)
    refine o_evB (ev_slcLoHi (l := i) (m := k) 1 rfl rfl rfl rfl rfl rfl rfl hh (by omega)) ?_
    (refine go ?_; intros)
    exact q_ret2 rfl rfl rfl (_, 0) rfl (by rw [if_pos h]; exact ⟨rfl, Bs.part hX h⟩) eNT
  · (refine go ?_; intros)
    exact q_ret2 rfl rfl rfl (.slice none 0 0, 2) rfl (by rw [if_neg h]; exact ⟨by simp, rfl⟩) eNT
theorem fx_raise64 {X : HProp} {v : Value} {l : List UInt8} (hX : Bs X v l) (hl : l.length ≤ 8) : FnDoes Tryz.prog 554 [v] [X] (fun y : Int => inK .u64 y) (fun y => .int .u64 y) (fun _ => [X]) := by
  refine does_of Tryz.func554 rfl rfl Tryz.ntmps554 rfl eNUM (fun c => ?_)
  refine wpC_fact (hX.isSlice .head) (fun hs => ?_)
  obtain ⟨a, cap, rfl, ha⟩ := hs
  (refine go ?_; intros)
  refine wpC_loop (σ := Nat × Int) (fun s => s.1 ≤ l.length ∧ inK .u64 s.2) (fun s => [(0, .slice a l.length cap), (3, .int .u64 s.2), (6, nat64 l.length), (7, nat64 s.1)]) (fun _ => [X]) (fun s => l.length - s.1) (0, 0) ⟨Nat.zero_le _, inK0 _⟩ sUB eNT (fun s hs => ?_)
  obtain ⟨i, y⟩ := s
  obtain ⟨hi, hy⟩ := hs
  dsimp only at hi hy
  by_cases hc : i < l.length
  · obtain ⟨bb, off, rfl, hcap⟩ := ha (by omega)
    have c0 := at8_get (l := l) (i := i) hc
    have hm : (8 : Int) * i = ((8 * i : Nat) : Int) := by omega
    (refine go ?_; intros)
    refine o_evB (ev_load_rd rfl rfl rfl hX pK rfl (by rw [Nat.mul_one]; exact c0)) ?_
    (refine go ?_; intros)
    refine o_evI (ev_conv_int rfl rfl rfl rfl) (wrap_in _ _) (fun c1 hc1 => ?_)
    (refine go ?_; intros)
    rw [hm]
    refine o_evI (ev_shl rfl rfl (by show 8 * i ≤ 64; omega) rfl) (wrap_in _ _) (fun c2 hc2 => ?_)
    (refine go ?_; intros)
    refine o_evI (ev_or rfl rfl rfl) (wrap_in _ _) (fun c3 hc3 => ?_)
    (refine go ?_; intros)
    exact q_round (i + 1, c3) ⟨hc, hc3⟩ (by show l.length - (i + 1) < l.length - i; omega) sUB eNT
  · (refine go ?_; intros)
    exact q_ret1 rfl rfl y rfl hy eNT
theorem fx_raise32 {X : HProp} {v : Value} {l : List UInt8} (hX : Bs X v l) (hl : l.length ≤ 4) : FnDoes Tryz.prog 555 [v] [X] (fun y : Int => inK .u32 y) (fun y => .int .u32 y) (fun _ => [X]) := by
  refine does_of Tryz.func555 rfl rfl Tryz.ntmps555 rfl eNUM (fun c => ?_)
  refine wpC_fact (hX.isSlice .head) (fun hs => ?_)
  obtain ⟨a, cap, rfl, ha⟩ := hs
  (refine go ?_; intros)
  refine wpC_loop (σ := Nat × Int) (fun s => s.1 ≤ l.length ∧ inK .u32 s.2) (fun s => [(0, .slice a l.length cap), (3, .int .u32 s.2), (6, nat64 l.length), (7, nat64 s.1)]) (fun _ => [X]) (fun s => l.length - s.1) (0, 0) ⟨Nat.zero_le _, inK0 _⟩ sUB eNT (fun s hs => ?_)
  obtain ⟨i, y⟩ := s
  obtain ⟨hi, hy⟩ := hs
  dsimp only at hi hy
  by_cases hc : i < l.length
  · obtain ⟨bb, off, rfl, hcap⟩ := ha (by omega)
    have c0 := at8_get (l := l) (i := i) hc
    have hm : (8 : Int) * i = ((8 * i : Nat) : Int) := by omega
    (refine go ?_; intros)
    refine o_evB (ev_load_rd rfl rfl rfl hX pK rfl (by rw [Nat.mul_one]; exact c0)) ?_
    (refine go ?_; intros)
    refine o_evI (ev_conv_int rfl rfl rfl rfl) (wrap_in _ _) (fun c1 hc1 => ?_)
    (refine go ?_; intros)
    rw [hm]
    refine o_evI (ev_shl rfl rfl (by show 8 * i ≤ 32; omega) rfl) (wrap_in _ _) (fun c2 hc2 => ?_)
    (refine go ?_; intros)
    refine o_evI (ev_or rfl rfl rfl) (wrap_in _ _) (fun c3 hc3 => ?_)
    (refine go ?_; intros)
    exact q_round (i + 1, c3) ⟨hc, hc3⟩ (by show l.length - (i + 1) < l.length - i; omega) sUB eNT
  · (refine go ?_; intros)
    exact q_ret1 rfl rfl y rfl hy eNT
theorem fx_read64 {X : HProp} {v : Value} {l : List UInt8} (hX : Bs X v l) (i k : Nat) (hi : i ≤ l.length) (hl : l.length ≤ 4096) (hk : k ≤ 8) : FnDoes Tryz.prog 547 [v, nat64 i, nat64 k] [X] (fun y : Int × Nat × Nat => inK .u64 y.1 ∧ (y.2.2 = 0 → y.2.1 = i + k ∧ i + k ≤ l.length))
    (fun y => .tuple #[.int .u64 y.1, nat64 y.2.1, nat64 y.2.2]) (fun _ => [X]) := by
  refine does_of Tryz.func547 rfl rfl Tryz.ntmps547 rfl eNUM (fun c => ?_)
  refine wpC_fact (Rd.one1 hX .head) (fun h1v => ?_)
  (refine go ?_; intros)
  (show wpO _ _ ⟨_, .call _, _, _, _, _⟩ _ _ _ _ _ _; refine o_callA (fx_cut hX i k hi hl (by omega)) (fun ⟨w, e⟩ hy => ?_); try simp only [List.cons_append, List.nil_append])
  try dsimp only at hy ⊢
  by_cases h : i + k ≤ l.length
  · rw [if_pos h] at hy
    obtain ⟨rfl, hw⟩ := hy
    (refine go ?_; intros)
    (show wpO _ _ ⟨_, .call _, _, _, _, _⟩ _ _ _ _ _ _; refine o_callA (fx_raise64 hw (by rw [List.length_take, List.length_drop]; omega)) (fun m hm => ?_); try simp only [List.cons_append, List.nil_append])
    (refine go ?_; intros)
    exact q_ret3 rfl rfl rfl rfl (m, i + k, 0) rfl ⟨hm, fun _ => ⟨rfl, h⟩⟩ eNT
  · rw [if_neg h] at hy
    obtain ⟨he, rfl⟩ := hy
    have he' : (e : Int) ≠ 0 := by omega
    (refine go ?_; intros)
    exact q_ret3 rfl rfl rfl rfl (0, 0, e) rfl ⟨inK0 _, fun h => absurd h he⟩ eNT
theorem fx_read32 {X : HProp} {v : Value} {l : List UInt8} (hX : Bs X v l) (i k : Nat) (hi : i ≤ l.length) (hl : l.length ≤ 4096) (hk : k ≤ 4) : FnDoes Tryz.prog 548 [v, nat64 i, nat64 k] [X] (fun y : Int × Nat × Nat => inK .u32 y.1 ∧ (y.2.2 = 0 → y.2.1 = i + k ∧ i + k ≤ l.length))
    (fun y => .tuple #[.int .u32 y.1, nat64 y.2.1, nat64 y.2.2]) (fun _ => [X]) := by
  refine does_of Tryz.func548 rfl rfl Tryz.ntmps548 rfl eNUM (fun c => ?_)
  refine wpC_fact (Rd.one1 hX .head) (fun h1v => ?_)
  (refine go ?_; intros)
  (show wpO _ _ ⟨_, .call _, _, _, _, _⟩ _ _ _ _ _ _; refine o_callA (fx_cut hX i k hi hl (by omega)) (fun ⟨w, e⟩ hy => ?_); try simp only [List.cons_append, List.nil_append])
  try dsimp only at hy ⊢
  by_cases h : i + k ≤ l.length
  · rw [if_pos h] at hy
    obtain ⟨rfl, hw⟩ := hy
    (refine go ?_; intros)
    (show wpO _ _ ⟨_, .call _, _, _, _, _⟩ _ _ _ _ _ _; refine o_callA (fx_raise32 hw (by rw [List.length_take, List.length_drop]; omega)) (fun m hm => ?_); try simp only [List.cons_append, List.nil_append])
    (refine go ?_; intros)
    exact q_ret3 rfl rfl rfl rfl (m, i + k, 0) rfl ⟨hm, fun _ => ⟨rfl, h⟩⟩ eNT
  · rw [if_neg h] at hy
    obtain ⟨he, rfl⟩ := hy
    have he' : (e : Int) ≠ 0 := by omega
    (refine go ?_; intros)
    exact q_ret3 rfl rfl rfl rfl (0, 0, e) rfl ⟨inK0 _, fun h => absurd h he⟩ eNT
theorem fx_get8 {X : HProp} {v : Value} {l : List UInt8} (hX : Bs X v l) (i : Nat) (hi : i ≤ l.length) (hl : l.length ≤ 4096) : FnDoes Tryz.prog 532 [v, nat64 i] [X] (fun y : Int × Nat × Nat => inK .u64 y.1 ∧ (y.2.2 = 0 → y.2.1 = i + 8 ∧ i + 8 ≤ l.length))
    (fun y => .tuple #[.int .u64 y.1, nat64 y.2.1, nat64 y.2.2]) (fun _ => [X]) := by
  refine does_of Tryz.func532 rfl rfl Tryz.ntmps532 rfl eNUM (fun c => ?_)
  (refine go ?_; intros)
  (show wpO _ _ ⟨_, .call _, _, _, _, _⟩ _ _ _ _ _ _; refine o_callA (fx_read64 hX i 8 hi hl (by omega)) (fun ⟨w, to, e⟩ hy => ?_); try simp only [List.cons_append, List.nil_append])
  try dsimp only
  (refine go ?_; intros)
  exact q_ret3 rfl rfl rfl rfl (w, to, e) rfl hy eNT
theorem fx_get4 {X : HProp} {v : Value} {l : List UInt8} (hX : Bs X v l) (i : Nat) (hi : i ≤ l.length) (hl : l.length ≤ 4096) : FnDoes Tryz.prog 533 [v, nat64 i] [X] (fun y : Int × Nat × Nat => inK .u32 y.1 ∧ (y.2.2 = 0 → y.2.1 = i + 4 ∧ i + 4 ≤ l.length))
    (fun y => .tuple #[.int .u32 y.1, nat64 y.2.1, nat64 y.2.2]) (fun _ => [X]) := by
  refine does_of Tryz.func533 rfl rfl Tryz.ntmps533 rfl eNUM (fun c => ?_)
  (refine go ?_; intros)
  (show wpO _ _ ⟨_, .call _, _, _, _, _⟩ _ _ _ _ _ _; refine o_callA (fx_read32 hX i 4 hi hl (by omega)) (fun ⟨w, to, e⟩ hy => ?_); try simp only [List.cons_append, List.nil_append])
  try dsimp only
  (refine go ?_; intros)
  exact q_ret3 rfl rfl rfl rfl (w, to, e) rfl hy eNT
set_option maxHeartbeats 1000000 in
theorem vi_get {X : HProp} {v : Value} {l : List UInt8} (hX : Bs X v l) (i : Nat) (hi : i ≤ l.length) (hl : l.length ≤ 4096) : FnDoes Tryz.prog 491 [v, nat64 i] [X] (fun y : Int × Nat × Nat => inK .u64 y.1 ∧ (y.2.2 = 0 → i < y.2.1 ∧ y.2.1 ≤ l.length))
    (fun y => .tuple #[.int .u64 y.1, nat64 y.2.1, nat64 y.2.2]) (fun _ => [X]) := by
  refine does_ofM Tryz.func491 rfl rfl Tryz.ntmps491 rfl eNUM (fun c hrnd hds => ?_)
  refine wpC_fact (hX.isSlice .head) (fun hs => ?_)
  obtain ⟨a, cap, rfl, ha⟩ := hs
  have hX' := Bs.from hX hi
  have hdl : (l.drop i).length = l.length - i := List.length_drop
  rw [← hdl] at hX'
  generalize hl' : l.drop i = l' at hX' hdl
  (refine go ?_; intros)
  refine wpC_scope1 ?_
  (refine go ?_; intro c7 c8 c9)
  refine wpC_label ?_
  (refine go ?_; intros)
  refine o_evB (ev_slcLo 1 (l := i) rfl rfl rfl rfl rfl rfl hi) ?_
  rw [← hdl]
  (refine go ?_; intros)
  (show wpO _ _ ⟨_, .call _, _, _, _, _⟩ _ _ _ _ _ _; refine o_callA (vi_septets _ rfl) (fun b _ => ?_); try simp only [List.cons_append, List.nil_append])
  (refine go ?_; intros)
  refine wpC_rangeFunc (ps := [24, 25]) (σ := Unit) (R := []) (fun _ _ => True) (fun k _ => [(7, pt0 c7), (8, pt0 c8), (9, pt0 c9), (10, nat64 (7 * k)), (11, .int .u8 (at8 l' k))])
    (fun k _ => [exI (σ := Int) (inK .u64) (fun y => [pts c7 (.cells [.int .u64 y].toArray 294 (0, 0)), pts c8 (.cells [nat64 k].toArray 3 (0, 0)), pts c9 (.cells [.bool false].toArray 4 (0, 0))])])
    (fun k => [exI (σ := Int) (inK .u64) (fun y => [pts c7 (.cells [.int .u64 y].toArray 294 (0, 0)), pts c8 (.cells [nat64 k].toArray 3 (0, 0)), pts c9 (.cells [.bool false].toArray 4 (0, 0))])])
    (fun j => [exI (σ := Int × Nat × Bool) (fun y => j = some 0 ∧ inK .u64 y.1 ∧ y.2.1 ≤ 10 ∧ (y.2.2 = true → 1 ≤ y.2.1 ∧ y.2.1 ≤ l'.length)) (fun y => [pts c7 (.cells [.int .u64 y.1].toArray 294 (0, 0)), pts c8 (.cells [nat64 y.2.1].toArray 3 (0, 0)), pts c9 (.cells [.bool y.2.2].toArray 4 (0, 0))])])
    hrnd (vi_seq hX' b (by omega)) rfl rfl ?_ ?_ ?_ ?_ ?_ ?_
  · intro e he; obtain ⟨x, _, rfl⟩ := List.mem_map.1 he; rfl
  · exact Ent.cons pK (Ent.cons pK (Ent.fold (σ := Int) 0 (inK0 _) eNT))
  · intro l1 c' hr' hd' k hk
    rw [sepE_get]
    (refine go ?_; intros)
    exact q_mid () trivial sUB eNT
  · intro l1 c' hr' hd' k hk _ _
    rw [sepE_len] at hk
    have b8 := at8_lt l' k
    refine wpC_unfold .head (fun y hy => ?_)
    simp only [List.cons_append, List.nil_append]
    have key : (k + 1 = 10 ∧ at8 l' k > 1) ∨ (k + 1 = 10 ∧ ¬ at8 l' k > 1) ∨ k + 1 ≠ 10 := by omega
    rcases key with ⟨h10, hc1⟩ | ⟨h10, hc1⟩ | h10
    focus
      have h10' : (k : Int) + 1 = 10 := by omega
      (refine go ?_; intros)
      exact q_roundX (some 0) (Ent.fold (σ := Int × Nat × Bool) (y, k + 1, false) ⟨rfl, hy, by dsimp only; omega, fun h => by cases h⟩ eNT)
    all_goals
      (refine go ?_; intros)
      refine wpC_drawnA [pts c7 (.cells [.int .u64 y].toArray 294 (0, 0))] 7 ?_
      ((first | refine dt 0 ?_ | refine dts 0 ?_); (first | refine dt 1 ?_ | refine dts 1 ?_))
      refine dtB 2 rfl (ev_and rfl rfl rfl) ?_
      refine dtB 3 rfl (ev_conv_int rfl rfl rfl rfl) ?_
      ((first | refine df 4 ?_ | refine dfs 4 ?_))
      refine dfB 5 rfl (ev_shl (m := 7 * k) rfl rfl (by show 7 * k ≤ 64; omega) rfl) ?_
      refine dfB 6 rfl (ev_or rfl rfl rfl) ?_
      (refine wpD_lastU rfl rfl (by kernel_rfl) (by kernel_rfl) rfl ?_; show OUL _ ⟨_, .store _ _ _, _, _, _, _⟩ _ _ _ _ _)
      refine x_store (by rfl) (by rfl) (by rfl) (by rfl) rfl pK (Upd1.of (by simp)) ?_
      by_cases h128 : at8 l' k < 128
      · (refine go ?_; intros)
        exact q_roundX (some 0) (Ent.fold (σ := Int × Nat × Bool) (IntKind.u64.wrap _, k + 1, true) ⟨rfl, wrap_in _ _, by dsimp only; omega, fun _ => ⟨by dsimp only; omega, by dsimp only; omega⟩⟩ eNT)
      · first
          | (exfalso; omega)
          | ((refine go ?_; intros)
             exact q_round1 (Ent.fold (σ := Int) (IntKind.u64.wrap _) (wrap_in _ _) eNT))
  · intro D
    rw [sepE_len]
    simp only [List.cons_append, List.nil_append]
    refine q_block_normal ?_
    refine q_then ?_
    refine wpC_unfold (.tail (.tail (.tail .head))) (fun y hy => ?_)
    simp only [List.cons_append, List.nil_append]
    by_cases h10 : ((min l'.length 10 : Nat) : Int) = 10
    · (refine go ?_; intros)
      exact q_ng (qm_ret1 hds pK (.inl rfl) (q_ret3 rfl rfl rfl rfl (0, 0, 3) rfl ⟨inK0 _, fun h => by cases h⟩ eNT))
    · (refine go ?_; intros)
      exact q_ng (qm_ret1 hds pK (.inl rfl) (q_ret3 rfl rfl rfl rfl (0, 0, 2) rfl ⟨inK0 _, fun h => by cases h⟩ eNT))
  · intro D jj
    simp only [List.cons_append, List.nil_append]
    refine q_unfoldP (.tail (.tail (.tail .head))) (fun y hy => ?_)
    obtain ⟨y, m, bb⟩ := y
    obtain ⟨rfl, hy1, hy2, hy3⟩ := hy
    dsimp only at hy1 hy2 hy3 ⊢
    simp only [List.cons_append, List.nil_append]
    refine q_block_hit ?_
    refine q_then ?_
    cases bb with
    | true =>
      have hy4 := hy3 rfl
      (refine go ?_; intros)
      refine wpC_drawnA [pts c7 (.cells [.int .u64 y].toArray 294 (0, 0)), pts c8 (.cells [nat64 m].toArray 3 (0, 0))] 6 ?_
      ((first | refine dt 0 ?_ | refine dts 0 ?_); (first | refine dt 1 ?_ | refine dts 1 ?_); (first | refine dt 2 ?_ | refine dts 2 ?_); (first | refine dt 3 ?_ | refine dts 3 ?_); (first | refine df 4 ?_ | refine dfs 4 ?_); (first | refine df 5 ?_ | refine dfs 5 ?_); refine dl ?_)
      (refine go ?_; intros)
      exact q_ng (qm_ret1 hds pK (.inl rfl) (q_ret3 rfl rfl rfl rfl (y, i + m, 0) rfl ⟨hy1, fun _ => by dsimp only; omega⟩ eNT))
    | false =>
      by_cases h10 : (m : Int) = 10
      · (refine go ?_; intros)
        exact q_ng (qm_ret1 hds pK (.inl rfl) (q_ret3 rfl rfl rfl rfl (0, 0, 3) rfl ⟨inK0 _, fun h => by cases h⟩ eNT))
      · (refine go ?_; intros)
        exact q_ng (qm_ret1 hds pK (.inl rfl) (q_ret3 rfl rfl rfl rfl (0, 0, 2) rfl ⟨inK0 _, fun h => by cases h⟩ eNT))
end Go.Proofs.YtnaabpfpldelmaaGreatDoor
set_option linter.unusedSimpArgs false
set_option linter.unusedVariables false
set_option maxRecDepth 20000
namespace Go.Proofs.YtnaabpfpldelmaaGreatDoor
open Go Go.Sx
def shp (t : TypeId) : List CT :=
  bif Nat.beq t 363 then [.pos, .int .i64, .int .u64, .str] else
  bif Nat.beq t 3 then [.int .i64] else
  bif Nat.beq t 9 then [.str] else
  bif Nat.beq t 293 then [.one] else
  bif Nat.beq t 762 then [.one] else
  bif Nat.beq t 296 then [.one, .one, .one] else
  bif Nat.beq t 736 then [.one, .one, .one, .one, .one, .one, .one] else
  bif Nat.beq t 734 then [.one, .one, .one, .one, .one, .one, .one, .one] else
  bif Nat.beq t 740 then [.one, .one, .one] else
  bif Nat.beq t 743 then [.one, .one, .one, .one, .one] else
  bif Nat.beq t 827 then [.one, .one, .one, .one, .one] else
  bif Nat.beq t 302 then [.str, .bool, .int .u64, .one, .one, .one, .one, .bool, .one, .one, .int .i64, .int .u64, .one, .one, .one] else
  bif Nat.beq t 669 then [.str, .bool, .int .u64, .one, .one, .one, .one, .one] else []
theorem shp_fld : shp 363 = [.pos, .int .i64, .int .u64, .str] := by kernel_rfl
theorem shp_int : shp 3 = [.int .i64] := by kernel_rfl
theorem shp_str : shp 9 = [.str] := by kernel_rfl
abbrev Rg := Rho × PHeap
abbrev rgH (G : Rg) : HProp := own G.2
abbrev okG (G : Rg) : Prop := WT shp G.1 G.2
abbrev grG (G G' : Rg) : Prop := Gr G.1 G.2 G'.1 G'.2
abbrev slG (G : Rg) (e : TypeId) (v : Value) (n : Nat) : Prop := okSl shp G.1 e v n
abbrev tFld : TypeId := 363
abbrev fldC (a b c : Int) (s : ByteArray) : List Value := [.int .i64 a, .int .i64 b, .int .u64 c, .string s]
abbrev tInt : TypeId := 3
abbrev ρ0 : Rho := fun _ => none
abbrev flI (q : Value) (k : Nat) (xs : List Value) : HProp := sl tFld 4 q k xs
abbrev inI (q : Value) (k : Nat) (xs : List Value) : HProp := sl tInt 1 q k xs
abbrev fldOk (xs : List Value) (k : Nat) : Prop := okRows shp ρ0 tFld xs k
abbrev intOk (xs : List Value) (k : Nat) : Prop := okRows shp ρ0 tInt xs k
def FldP (a b c : Int) (s : ByteArray) : Prop := (1 ≤ a ∧ a ≤ 536870911) ∧ inK .i64 b ∧ inK .u64 c ∧ s.size ≤ 65536
theorem fld_ok {a b c : Int} {s : ByteArray} (h : FldP a b c s) : okR shp ρ0 (shp tFld) (fldC a b c s) := by
  rw [shp_fld]; exact ⟨⟨_, rfl, h.1⟩, ⟨_, rfl, h.2.1⟩, ⟨_, rfl, h.2.2.1⟩, ⟨_, rfl, h.2.2.2⟩, trivial⟩
theorem fld_one {a b c : Int} {s : ByteArray} (h : FldP a b c s) : fldOk (fldC a b c s) 1 := okRows.one (fld_ok h)
theorem okRows_row {S : Shp} {ρ : Rho} {e : TypeId} {xs : List Value} {k i : Nat} {cts : List CT} (h : okRows S ρ e xs k) (he : S e = cts) (hi : i < k) : ∃ vs, rowOf xs cts.length i = vs ∧ okR S ρ cts vs := by subst he; exact ⟨_, rfl, h.2 i hi⟩
theorem okR_cons {S : Shp} {ρ : Rho} {c : CT} {cs : List CT} {vs : List Value} (h : okR S ρ (c :: cs) vs) : ∃ v vs', vs = v :: vs' ∧ okC S ρ c v ∧ okR S ρ cs vs' := by
  cases vs with
  | nil => exact h.elim
  | cons v vs' => exact ⟨v, vs', rfl, h.1, h.2⟩
theorem okR_nil {S : Shp} {ρ : Rho} {vs : List Value} (h : okR S ρ [] vs) : vs = [] := by
  cases vs with
  | nil => rfl
  | cons v vs' => exact h.elim
theorem int_one {a : Int} (h : inK .i64 a) : intOk [.int .i64 a] 1 := okRows.one (by rw [shp_int]; exact ⟨⟨_, rfl, h⟩, trivial⟩)
theorem row_get {xs vs : List Value} {sz i : Nat} (e : rowOf xs sz i = vs) : ∀ j u, vs[j]? = some u → xs[i * sz + j]? = some u := fun j u hu => by
  subst e
  rw [List.getElem?_take] at hu
  split at hu
  · rw [List.getElem?_drop] at hu; exact hu
  · cases hu
theorem fld_inv {S : Shp} {ρ : Rho} {vs : List Value} (h : okR S ρ [.pos, .int .i64, .int .u64, .str] vs) : ∃ x y z s, FldP x y z s ∧ vs = fldC x y z s := by
  obtain ⟨_, _, rfl, ⟨x, rfl, hx⟩, h1⟩ := okR_cons h
  obtain ⟨_, _, rfl, ⟨y, rfl, hy⟩, h2⟩ := okR_cons h1
  obtain ⟨_, _, rfl, ⟨z, rfl, hz⟩, h3⟩ := okR_cons h2
  obtain ⟨_, _, rfl, ⟨s, rfl, hs⟩, h4⟩ := okR_cons h3
  obtain rfl := okR_nil h4
  exact ⟨x, y, z, s, ⟨hx, hy, hz, hs⟩, rfl⟩
theorem fld_row {xs : List Value} {k i : Nat} (h : fldOk xs k) (hi : i < k) : ∃ x y z s, FldP x y z s ∧ ∀ j u, (fldC x y z s)[j]? = some u → xs[i * 4 + j]? = some u := by
  obtain ⟨vs, e, h2⟩ := okRows_row h shp_fld hi
  obtain ⟨x, y, z, s, h3, rfl⟩ := fld_inv h2
  exact ⟨x, y, z, s, h3, row_get e⟩
theorem int_row {xs : List Value} {k i : Nat} (h : intOk xs k) (hi : i < k) : ∃ x, inK .i64 x ∧ xs[i * 1]? = some (.int .i64 x) := by
  obtain ⟨vs, e, h2⟩ := okRows_row h shp_int hi
  obtain ⟨_, _, rfl, ⟨x, rfl, hx⟩, h3⟩ := okR_cons h2
  obtain rfl := okR_nil h3
  exact ⟨x, hx, row_get e 0 _ rfl⟩
theorem Ent.slTake {e sz j k cap : Nat} {a : Option Addr} {xs : List Value} {M R : List HProp} (hj : j ≤ k) (p : Pick M (sl e sz (.slice a k cap) k xs) R) : Ent M (sl e sz (.slice a j cap) j (xs.take (j * sz)) :: R) := fun h s => by
  obtain ⟨h1, h2, ⟨a1, a2, a3⟩, r, d, l1, l2⟩ := p.sep s
  have hle : j * sz ≤ k * sz := Nat.mul_le_mul_right _ hj
  refine ⟨h1, h2, ⟨by rw [List.length_take, a1]; omega, all_take _ a2, ?_⟩, r, d, l1, l2⟩
  rcases a3 with ⟨a3, a4⟩ | ⟨b, cap', junk, a3, b1, b2, b3, b4⟩
  · cases a3
    obtain rfl : j = 0 := by omega
    exact .inl ⟨rfl, rfl⟩
  · cases a3
    refine .inr ⟨b, _, xs.drop (j * sz) ++ junk, rfl, by omega, b2, by rw [← List.append_assoc, List.take_append_drop]; exact b3, by rw [← List.append_assoc, List.take_append_drop]; exact b4⟩
end Go.Proofs.YtnaabpfpldelmaaGreatDoor
