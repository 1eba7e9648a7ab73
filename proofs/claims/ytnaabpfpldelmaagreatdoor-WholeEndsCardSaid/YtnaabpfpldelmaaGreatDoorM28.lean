/-
  Fields laid as bytes: numbers and texts.
  Fields laid as bytes: all of them.
  The metric that asks for a birth anew: its fields.
-/
import Derived.Test.YtnaabpfpldelmaaGreatDoorM27
set_option linter.unusedSimpArgs false
set_option linter.unusedVariables false
namespace Go.Sx
open Go Go.Conc
section
variable {P : Program} {ops : Array Oper} {Q : Exit → Act → World → Prop} {c : Cx} {n : Nat} {L : Env} {M : List HProp} {rest : List Oper}
variable {ty : TypeId} {pos : String} {after : Array Edge} {g : Option (Nat × Bool)}
theorem o_makeSlice0 {d l : Nat} {t e : TypeId} {i : TypeInfo} {z : Value} {x y : Operand} (hb : l * i.bytes ≤ 140737488355328) (hl : l ≤ 10000000)
    (h : ∀ v, wpE P ops rest Q c n ((d, v) :: L) (sl e 1 v 0 [] :: M)) (hx : opnd L x = some (.int .i64 0) := by rfl) (hy : opnd L y = some (.int .i64 l) := by rfl) (hu : P.underlying t = some (.slice e) := by rfl) (hi : P.info? e = some i := by rfl) (hz : i.zero = some z := by rfl)
    (hsz : Nat.beq i.size 1 = true := by rfl) (hzs : Nat.beq z.cells.size 1 = true := by rfl) (hd : Nat.blt d n = true := by rfl) : wpO P ops ⟨some d, .makeSlice t x y, ty, pos, after, g⟩ rest Q c n L M := o_val rfl hd fun T w s => by
  have hsz' : i.size = 1 := Nat.eq_of_beq_eq_true hsz
  have hzs' : z.cells.size = 1 := Nat.eq_of_beq_eq_true hzs
  have wl : IntKind.i64.wrap (l : Int) = l := by rw [IntKind.wrap_i64]; omega
  have w0 : IntKind.i64.wrap 0 = 0 := by decide
  have n1 : ¬ (l : Int) < 0 := by omega
  have n2 : ¬ (281474976710656 < (i.bytes : Int) * l) := by
    have : (i.bytes : Int) * l = ((l * i.bytes : Nat) : Int) := by push_cast; rw [Int.mul_comm]
    omega
  have n5 : ¬ (140737488355328 < l * i.bytes) := by omega
  have n6 : ¬ (16777216 < l * i.size) := by rw [hsz']; omega
  have h0 := HSt.new (w' := { w with heap := w.heap.push (.cells (Builtin.zeroCells z.cells l).toList.toArray e (0, 0)) }) s.heap (.cells (Builtin.zeroCells z.cells l).toList.toArray e (0, 0)) rfl rfl rfl rfl
  have hlen : (Builtin.zeroCells z.cells l).toList.length = l := by rw [Array.length_toList, size_zeroCells, hzs']; omega
  have h1 := HSt.ent (Ent.slOfBlk (by rw [hlen]; simp only [maxLen]; omega) .head) h0
  rw [hlen] at h1
  refine ⟨.slice (some ⟨w.heap.size, 0, none⟩) 0 l, _, _, _, ?_, h1, rfl, h _⟩
  simp [execOp, opnd_eval s.slots hx, opnd_eval s.slots hy, Instr.makeSlice, run_underlying hu, asInt, asIntOf, typeInfo, hi, sizeOf, zeroValue, hz, wl, w0, n1, n2, n5, n6, newRow, newObj, askRoom, roomBytes, Sem.run, Builtin.zeroCells, hzs', hsz']
  have e3 : (List.map (fun x => z.cells[x % 1]!) (List.range l)).toArray = Array.map (fun x => z.cells[x % 1]!) (Array.range l) := by apply Array.ext'; simp
  split
  · rename_i h0
    have e0 : ∀ f : Nat → Value, Array.map f (Array.range 0) = #[] := fun f => by apply Array.ext' ; simp
    simp [h0, e0]
  · rw [← e3]
theorem o_makeSliceB {d l : Nat} {t e : TypeId} {i : TypeInfo} {z : Value} {x : Operand} (hx : opnd L x = some (.int .i64 l)) (hu : P.underlying t = some (.slice e)) (hi : P.info? e = some i) (hz : i.zero = some z) (hsz : i.size = 1)
    (hzc : z.cells = #[z]) (h0 : 0 < l) (hb : l * i.bytes ≤ 140737488355328) (hl : l ≤ 1000000) (hd : Nat.blt d n = true)
    (h : ∀ b, wpE P ops rest Q c n ((d, .slice (some ⟨b, 0, none⟩) l l) :: L) (pts b (.cells (List.replicate l z).toArray e (0, 0)) :: M)) : wpO P ops ⟨some d, .makeSlice t x x, ty, pos, after, g⟩ rest Q c n L M := o_val rfl hd fun T w s => by
  have wl : IntKind.i64.wrap (l : Int) = l := by rw [IntKind.wrap_i64]; omega
  have n1 : ¬ (l : Int) < 0 := by omega
  have n2 : ¬ (281474976710656 < (i.bytes : Int) * l) := by
    have : (i.bytes : Int) * l = ((l * i.bytes : Nat) : Int) := by push_cast; rw [Int.mul_comm]
    omega
  have n5 : ¬ (140737488355328 < l * i.bytes) := by omega
  have hn : l ≠ 0 := by omega
  refine ⟨.slice (some ⟨w.heap.size, 0, none⟩) l l, _, _, _, ?_, HSt.new (w' := { w with heap := w.heap.push (.cells (List.replicate l z).toArray e (0, 0)) }) s.heap (.cells (List.replicate l z).toArray e (0, 0)) rfl rfl rfl rfl, rfl, h _⟩
  simp [execOp, opnd_eval s.slots hx, Instr.makeSlice, run_underlying hu, asInt, asIntOf, typeInfo, hi, sizeOf, zeroValue, hz, wl, n1, n2, n5, hn, hsz, hzc, newRow, newObj, askRoom, roomBytes, Sem.run]
  have hr : Array.map (fun k => ([z] : List Value)[k % 1]?.getD default) (Array.range l) = Array.replicate l z := by
    apply Array.ext
    · simp
    · intro k h1 h2; simp [Nat.mod_one]
  rw [hr]
end
theorem u8_rep (w : Nat) : u8s (List.replicate w 0) = List.replicate w (Value.int .u8 0) := by simp [u8s]
theorem u8_set (l : List UInt8) (i : Nat) (x : UInt8) : (u8s l).set i (.int .u8 (x.toNat : Int)) = u8s (l.set i x) := by simp [u8s, List.map_set]
theorem ev_or10 {P : Program} {c : Cx} {n : Nat} {L : Env} {M : List HProp} {dst : Option Nat} {ty : TypeId} {pos : String} {after : Array Edge} {g : Option (Nat × Bool)} {t t' : TypeId} {x y : Operand} {a b : Nat} (hx : opnd L x = some (.int .u64 (a : Int))) (hy : opnd L y = some (.int .u64 (b : Int))) (ha : a < 2 ^ 10) (hb : b < 2 ^ 10) :
    Ev P ⟨dst, .binOp .or t x y t', ty, pos, after, g⟩ c n L M (.int .u64 ((a ||| b : Nat) : Int)) := ev_or hx hy (by
  have h := Nat.or_lt_two_pow ha hb
  rw [BitVec.toNat_or, bv_nat (k := IntKind.u64.bits) (Nat.lt_of_lt_of_le ha (by decide)), bv_nat (k := IntKind.u64.bits) (Nat.lt_of_lt_of_le hb (by decide))]
  exact inK_u64.2 ⟨by omega, by omega⟩)
theorem u8_of {m : Int} (h : inK .u8 m) : ∃ b : UInt8, m = (b.toNat : Int) := by
  have := inK_u8.1 h
  refine ⟨UInt8.ofNat m.toNat, ?_⟩
  rw [UInt8.toNat_ofNat']
  omega
end Go.Sx
set_option maxRecDepth 20000
namespace Go.Proofs.YtnaabpfpldelmaaGreatDoor
open Go Go.Sx
abbrev bytI (v : Value) (l : List UInt8) : HProp := sl tU8 1 v l.length (u8s l)
attribute [local irreducible] MidQ wpE wpO wpC qE wpQ wpQO wpH wpHO wpD wpDO wpZ Ev own emp exI sl ch PostS LoopQ Rd rowsAt
theorem vi_size (m : Nat) (hm : m ≤ 100000) : FnDoes Tryz.prog 470 [.int .u64 m] [] (fun k : Nat => k ≤ 100001) (fun k => nat64 k) (fun _ => []) := by
  refine does_of Tryz.func470 rfl rfl Tryz.ntmps470 rfl eNUM (fun c => ?_)
  (refine go ?_; intros)
  refine o_evB (ev_shr (m := 7) (r := ((m / 128 : Nat) : Int)) rfl rfl (by decide) (by simp)) ?_
  (refine go ?_; intros)
  refine wpC_loop (σ := Nat × Nat) (fun s => s.1 + s.2 ≤ 100001 ∧ s.1 ≤ 100000) (fun s => [(0, .int .u64 s.1), (3, nat64 s.2)]) (fun _ => []) (fun s => s.1) (m / 128, 1) ⟨by dsimp only; omega, by dsimp only; omega⟩ sUB eNT (fun s hs => ?_)
  obtain ⟨a, k⟩ := s
  obtain ⟨h1, h2⟩ := hs
  try dsimp only at h1 h2 ⊢
  by_cases h0 : a = 0
  · subst h0
    (refine go ?_; intros)
    exact q_ret1 rfl rfl k rfl (by omega) eNT
  · have h0' : (a : Int) ≠ 0 := by omega
    (refine go ?_; intros)
    refine o_evB (ev_shr (m := 7) (r := ((a / 128 : Nat) : Int)) rfl rfl (by decide) (by simp)) ?_
    (refine go ?_; intros)
    exact q_round (a / 128, k + 1) ⟨by dsimp only; omega, by dsimp only; omega⟩ (by dsimp only; omega) sUB eNT
set_option maxHeartbeats 1000000 in
theorem vi_put (m : Nat) (hm : m ≤ 100000) : FnDoes Tryz.prog 387 [.int .u64 m] [] (fun y : Value × List UInt8 => y.2.length ≤ 100002) (fun y => y.1) (fun y => [bytI y.1 y.2]) := by
  have hs := vi_size m hm
  have hb : Tryz.prog.types[5].bytes ≤ 1000 := by decide +kernel
  refine does_of Tryz.func387 rfl rfl Tryz.ntmps387 rfl eNUM (fun c => ?_)
  (refine go ?_; intros)
  (show wpO _ _ ⟨_, .call _, _, _, _, _⟩ _ _ _ _ _ _; refine o_callA (hs) (fun k hk => ?_); try simp only [List.cons_append, List.nil_append])
  (refine go ?_; intros)
  refine o_makeSlice0 (l := k) ?_ (by omega) (fun v => ?_)
  · have := Nat.mul_le_mul hk hb
    omega
  refine wpE_fact (sl_one pK) (fun h1 => ?_)
  (refine go ?_; intros)
  refine wpC_loop (σ := Nat × Value × List UInt8) (fun s => s.1 + s.2.2.length ≤ 100001 ∧ s.1 ≤ 100000 ∧ s.2.1.oneCell' = true) (fun s => [(0, .int .u64 s.1), (3, s.2.1)]) (fun s => [bytI s.2.1 s.2.2]) (fun s => s.1) (m, v, []) ⟨by dsimp only [List.length_nil]; omega, by dsimp only; omega, h1⟩ sUB eNT (fun s hs => ?_)
  obtain ⟨a, v1, l⟩ := s
  obtain ⟨h2, h3, h4⟩ := hs
  try dsimp only at h2 h3 h4 ⊢
  by_cases h0 : a > 127
  · (refine go ?_; intros)
    refine o_evI (ev_conv_int rfl rfl rfl rfl) (wrap_in _ _) (fun m1 hm1 => ?_)
    (refine go ?_; intros)
    refine o_evI (ev_or rfl rfl rfl) (wrap_in _ _) (fun m2 hm2 => ?_)
    obtain ⟨b, rfl⟩ := u8_of hm2
    (refine go ?_; intro bb)
    refine o_append (m := 1) (news := u8s [b]) (sz := 1) rfl rfl rfl rfl rfl rfl rfl rfl pK (src_pts rfl pK rfl rfl rfl) ?_ rfl (fun v' => ?_)
    · have := Nat.mul_le_mul (show l.length + 1 ≤ 100002 by omega) hb
      omega
    rw [← u8s_append, show l.length + 1 = (l ++ [b]).length by simp]
    refine wpE_fact (sl_one pK) (fun h5 => ?_)
    (refine go ?_; intros)
    refine o_evB (ev_shr (m := 7) (r := ((a / 128 : Nat) : Int)) rfl rfl (by decide) (by simp)) ?_
    (refine go ?_; intros)
    exact q_round (a / 128, v', l ++ [b]) ⟨by dsimp only; rw [List.length_append]; simp only [List.length_cons, List.length_nil]; omega, by dsimp only; omega, h5⟩ (by dsimp only; omega) sUB eNT
  · obtain ⟨b, hb1⟩ := u8_of (m := (a : Int)) (inK_u8.2 ⟨by omega, by omega⟩)
    obtain rfl : a = b.toNat := by omega
    (refine go ?_; intro bb)
    refine o_append (m := 1) (news := u8s [b]) (sz := 1) rfl rfl rfl rfl rfl rfl rfl rfl pK (src_pts rfl pK rfl rfl rfl) ?_ rfl (fun v' => ?_)
    · have := Nat.mul_le_mul (show l.length + 1 ≤ 100002 by omega) hb
      omega
    rw [← u8s_append, show l.length + 1 = (l ++ [b]).length by simp]
    (refine go ?_; intros)
    exact q_ret1 rfl rfl (v', l ++ [b]) rfl (by dsimp only; rw [List.length_append]; simp only [List.length_cons, List.length_nil]; omega) eNT
structure PfdS where
  a : Nat
  b : Int
  c : Nat
  s : ByteArray
structure PfdOk (f : PfdS) : Prop where
  a : f.a ≤ 100
  c : f.c ≤ 100000
  s : f.s.size ≤ 100000
abbrev kdOk (b : Int) : Prop := b = 0 ∨ b = 1 ∨ b = 2 ∨ b = 5
abbrev pfdD (f : PfdS) : List Value := fldC f.a f.b f.c f.s
theorem wi_laid (b : Int) : FnDoes Tryz.prog 386 [.int .i64 b] [] (fun _ : Unit => True) (fun _ => .bool (decide (kdOk b))) (fun _ => []) := by
  refine does_of Tryz.func386 rfl rfl Tryz.ntmps386 rfl eNUM (fun c => ?_)
  by_cases h0 : b = 0
  · rw [decide_eq_true (.inl h0)]
    (refine go ?_; intros)
    exact q_ret1 rfl rfl () rfl trivial eNT
  by_cases h1 : b = 1
  · rw [decide_eq_true (.inr (.inl h1))]
    (refine go ?_; intros)
    exact q_ret1 rfl rfl () rfl trivial eNT
  by_cases h2 : b = 2
  · rw [decide_eq_true (.inr (.inr (.inl h2)))]
    (refine go ?_; intros)
    exact q_ret1 rfl rfl () rfl trivial eNT
  by_cases h5 : b = 5
  · rw [decide_eq_true (.inr (.inr (.inr h5)))]
    (refine go ?_; intros)
    exact q_ret1 rfl rfl () rfl trivial eNT
  · rw [decide_eq_false (by omega)]
    (refine go ?_; intros)
    exact q_ret1 rfl rfl () rfl trivial eNT
set_option maxHeartbeats 2000000 in
theorem wi_wrong (f : PfdS) (hf : PfdOk f) : FnDoes Tryz.prog 301 [.agg (pfdD f).toArray] [] (fun y : Nat => y ≤ 255 ∧ (y = 0 → kdOk f.b)) (fun y => nat64 y) (fun _ => []) := by
  have hl := wi_laid f.b
  obtain ⟨a, b, c, s⟩ := f
  obtain ⟨ha, hc, hs⟩ := hf
  try dsimp only at ha hc hs hl ⊢
  refine does_of Tryz.func301 rfl rfl Tryz.ntmps301 rfl eNUM (fun c => ?_)
  by_cases ha1 : a < 1
  · by_cases h2 : b = 2
    · (refine go ?_; intros)
      exact q_ret1 rfl rfl 5 rfl ⟨by decide, fun h => by cases h⟩ eNT
    · (refine go ?_; intros)
      exact q_ret1 rfl rfl 5 rfl ⟨by decide, fun h => by cases h⟩ eNT
  · by_cases hk : kdOk b
    · rw [decide_eq_true hk] at hl
      have hk' := hk
      rcases hk' with rfl | rfl | rfl | rfl
      all_goals
        (refine go ?_; intros)
        (show wpO _ _ ⟨_, .call _, _, _, _, _⟩ _ _ _ _ _ _; refine o_callA (hl) (fun _ _ => ?_); try simp only [List.cons_append, List.nil_append])
        (repeat' (first | (refine go1 ?_; intros) | (first | (refine o_cmpS ?_ ?_ <;> (intro h_; simp only [cmpP] at h_)) | (refine o_strS ?_ ?_ <;> intro h_) | (refine o_strN ?_ ?_ <;> intro h_) | (refine wpC_condS ?_ ?_ <;> (intro h_; first | subst h_ | skip))) | (first | exact q_ret1 rfl rfl () rfl trivial eNT | exact q_ret2 rfl rfl rfl () rfl trivial eNT | exact q_ret3 rfl rfl rfl rfl () rfl trivial eNT | exact q_ret0 rfl () rfl trivial eNT _ (by first | exact .inl rfl | exact .inr rfl)) | (exact q_ret1 rfl rfl 0 rfl ⟨by decide, fun _ => hk⟩ eNT) | (exact q_ret1 rfl rfl 4 rfl ⟨by decide, fun h => by cases h⟩ eNT) | (exact q_ret1 rfl rfl 5 rfl ⟨by decide, fun h => by cases h⟩ eNT)))
    · rw [decide_eq_false hk] at hl
      have h2 : ¬ b = 2 := fun h => hk (.inr (.inr (.inl h)))
      (refine go ?_; intros)
      (show wpO _ _ ⟨_, .call _, _, _, _, _⟩ _ _ _ _ _ _; refine o_callA (hl) (fun _ _ => ?_); try simp only [List.cons_append, List.nil_append])
      (refine go ?_; intros)
      exact q_ret1 rfl rfl 11 rfl ⟨by decide, fun h => by cases h⟩ eNT
theorem fx_layL (m w : Nat) (hw : 0 < w ∧ w * 8 ≤ 64) : FnDoes Tryz.prog 471 [.int .u64 m, nat64 w] [] (fun y : Value × List UInt8 => y.2.length ≤ 8) (fun y => y.1) (fun y => [bytI y.1 y.2]) := by
  have hb : Tryz.prog.types[5].bytes ≤ 1000 := by decide +kernel
  refine does_of Tryz.func471 rfl rfl Tryz.ntmps471 rfl eNUM (fun c => ?_)
  (refine go ?_; intros)
  refine o_makeSliceB (l := w) rfl rfl rfl rfl rfl rfl hw.1 ?_ (by omega) rfl (fun b => ?_)
  · have := Nat.mul_le_mul (show w ≤ 8 by omega) hb
    omega
  (refine go ?_; intros)
  rw [← u8_rep]
  refine wpC_loop (σ := Nat × List UInt8) (fun s => s.1 ≤ w ∧ s.2.length = w) (fun s => [(0, .int .u64 m), (5, .slice (some ⟨b, 0, none⟩) w w), (9, nat64 w), (10, nat64 s.1)]) (fun s => [pts b (.cells (u8s s.2).toArray tU8 (0, 0))]) (fun s => w - s.1) (0, List.replicate w 0) ⟨Nat.zero_le _, List.length_replicate⟩ sUB eNT (fun s hs => ?_)
  obtain ⟨i, bs⟩ := s
  obtain ⟨hi, hlen⟩ := hs
  try dsimp only at hi hlen ⊢
  by_cases hlt : i < w
  · (refine go ?_; intros)
    refine o_evB (ev_shr (m := 8 * i) (r := ((m / 2 ^ (8 * i) : Nat) : Int)) rfl rfl (by show 8 * i ≤ 64; omega) (by push_cast; rfl)) ?_
    (refine go ?_; intros)
    refine o_evI (ev_conv_int rfl rfl rfl rfl) (wrap_in _ _) (fun m1 hm1 => ?_)
    obtain ⟨x, rfl⟩ := u8_of hm1
    (refine go ?_; intros)
    refine o_storeS rfl rfl rfl rfl rfl pK (by rw [show (u8s bs).length = bs.length by simp [u8s]]; omega) ?_
    rw [show 0 + i * 1 = i by omega, u8_set]
    (refine go ?_; intros)
    exact q_round (i + 1, bs.set i x) ⟨hlt, by simp [hlen]⟩ (by dsimp only; omega) sUB eNT
  · subst hlen
    (refine go ?_; intros)
    exact q_ret1 rfl rfl (.slice (some ⟨b, 0, none⟩) bs.length bs.length, bs) rfl (by dsimp only; omega) (Ent.slClose (junk := []) (by rw [List.append_nil]; exact .head) (by simp [u8s]) (by simp [u8s, Value.oneCell']) (Nat.le_refl _) (by unfold maxLen; omega) (by simp [u8s]) Ent.nil)
theorem fx_layS (m w : Nat) (hw : 0 < w ∧ w * 8 ≤ 32) : FnDoes Tryz.prog 472 [.int .u32 m, nat64 w] [] (fun y : Value × List UInt8 => y.2.length ≤ 8) (fun y => y.1) (fun y => [bytI y.1 y.2]) := by
  have hb : Tryz.prog.types[5].bytes ≤ 1000 := by decide +kernel
  refine does_of Tryz.func472 rfl rfl Tryz.ntmps472 rfl eNUM (fun c => ?_)
  (refine go ?_; intros)
  refine o_makeSliceB (l := w) rfl rfl rfl rfl rfl rfl hw.1 ?_ (by omega) rfl (fun b => ?_)
  · have := Nat.mul_le_mul (show w ≤ 8 by omega) hb
    omega
  (refine go ?_; intros)
  rw [← u8_rep]
  refine wpC_loop (σ := Nat × List UInt8) (fun s => s.1 ≤ w ∧ s.2.length = w) (fun s => [(0, .int .u32 m), (5, .slice (some ⟨b, 0, none⟩) w w), (9, nat64 w), (10, nat64 s.1)]) (fun s => [pts b (.cells (u8s s.2).toArray tU8 (0, 0))]) (fun s => w - s.1) (0, List.replicate w 0) ⟨Nat.zero_le _, List.length_replicate⟩ sUB eNT (fun s hs => ?_)
  obtain ⟨i, bs⟩ := s
  obtain ⟨hi, hlen⟩ := hs
  try dsimp only at hi hlen ⊢
  by_cases hlt : i < w
  · (refine go ?_; intros)
    refine o_evB (ev_shr (m := 8 * i) (r := ((m / 2 ^ (8 * i) : Nat) : Int)) rfl rfl (by show 8 * i ≤ 32; omega) (by push_cast; rfl)) ?_
    (refine go ?_; intros)
    refine o_evI (ev_conv_int rfl rfl rfl rfl) (wrap_in _ _) (fun m1 hm1 => ?_)
    obtain ⟨x, rfl⟩ := u8_of hm1
    (refine go ?_; intros)
    refine o_storeS rfl rfl rfl rfl rfl pK (by rw [show (u8s bs).length = bs.length by simp [u8s]]; omega) ?_
    rw [show 0 + i * 1 = i by omega, u8_set]
    (refine go ?_; intros)
    exact q_round (i + 1, bs.set i x) ⟨hlt, by simp [hlen]⟩ (by dsimp only; omega) sUB eNT
  · subst hlen
    (refine go ?_; intros)
    exact q_ret1 rfl rfl (.slice (some ⟨b, 0, none⟩) bs.length bs.length, bs) rfl (by dsimp only; omega) (Ent.slClose (junk := []) (by rw [List.append_nil]; exact .head) (by simp [u8s]) (by simp [u8s, Value.oneCell']) (Nat.le_refl _) (by unfold maxLen; omega) (by simp [u8s]) Ent.nil)
theorem fx_put8 (m : Nat) : FnDoes Tryz.prog 388 [.int .u64 m] [] (fun y : Value × List UInt8 => y.2.length ≤ 8) (fun y => y.1) (fun y => [bytI y.1 y.2]) := by
  have h := fx_layL m 8 ⟨by decide, by decide⟩
  refine does_of Tryz.func388 rfl rfl Tryz.ntmps388 rfl eNUM (fun c => ?_)
  (refine go ?_; intros)
  (show wpO _ _ ⟨_, .call _, _, _, _, _⟩ _ _ _ _ _ _; refine o_callA (h) (fun y hy => ?_); try simp only [List.cons_append, List.nil_append])
  refine wpE_fact (sl_one (v := y.1) .head) (fun h1 => ?_)
  (refine go ?_; intros)
  exact q_ret1 rfl rfl y rfl hy eNT
theorem fx_put4 (m : Nat) : FnDoes Tryz.prog 389 [.int .u32 m] [] (fun y : Value × List UInt8 => y.2.length ≤ 8) (fun y => y.1) (fun y => [bytI y.1 y.2]) := by
  have h := fx_layS m 4 ⟨by decide, by decide⟩
  refine does_of Tryz.func389 rfl rfl Tryz.ntmps389 rfl eNUM (fun c => ?_)
  (refine go ?_; intros)
  (show wpO _ _ ⟨_, .call _, _, _, _, _⟩ _ _ _ _ _ _; refine o_callA (h) (fun y hy => ?_); try simp only [List.cons_append, List.nil_append])
  refine wpE_fact (sl_one (v := y.1) .head) (fun h1 => ?_)
  (refine go ?_; intros)
  exact q_ret1 rfl rfl y rfl hy eNT
set_option maxHeartbeats 2000000 in
theorem wi_put (f : PfdS) (hf : PfdOk f) (hk : kdOk f.b) (v : Value) (l : List UInt8) (hl : l.length ≤ 1000000) : FnDoes Tryz.prog 302 [v, .agg (pfdD f).toArray] [bytI v l] (fun y : Value × List UInt8 => y.2.length ≤ l.length + 400000) (fun y => y.1) (fun y => [bytI y.1 y.2]) := by
  obtain ⟨a, b, cc, s⟩ := f
  obtain ⟨ha, hc, hs⟩ := hf
  obtain ⟨b, hb, rfl⟩ : ∃ k : Nat, (k = 0 ∨ k = 1 ∨ k = 2 ∨ k = 5) ∧ b = (k : Int) := by
    rcases hk with h | h | h | h
    · exact ⟨0, .inl rfl, h⟩
    · exact ⟨1, .inr (.inl rfl), h⟩
    · exact ⟨2, .inr (.inr (.inl rfl)), h⟩
    · exact ⟨5, .inr (.inr (.inr rfl)), h⟩
  clear hk
  unfold pfdD fldC
  try dsimp only at ha hc hs ⊢
  have hbb : Tryz.prog.types[5].bytes ≤ 1000 := by decide +kernel
  refine does_of Tryz.func302 rfl rfl Tryz.ntmps302 rfl eNUM (fun c => ?_)
  refine wpC_fact (sl_one pK) (fun h1 => ?_)
  have hor : (a * 8 ||| b) < 2 ^ 10 := Nat.or_lt_two_pow (by omega) (by omega)
  have hv1 := vi_put (a * 8 ||| b) (by omega)
  have hv2 := vi_put cc (by omega)
  have hv3 := vi_put s.size (by omega)
  have hv8 := fx_put8 cc
  have hv4 := fx_put4 cc
  (refine go ?_; intros)
  refine o_evB (ev_shl (m := 3) (r := ((a * 8 : Nat) : Int)) rfl rfl (by decide) (by show IntKind.u64.wrap ((a : Int) * 8) = _; rw [show ((a : Int) * 8) = ((a * 8 : Nat) : Int) by omega]; exact inK_u64.2 ⟨by omega, by omega⟩)) ?_
  (refine go ?_; intros)
  refine o_evB (ev_or10 (a := a * 8) (b := b) rfl rfl (by omega) (by omega)) ?_
  (refine go ?_; intros)
  (show wpO _ _ ⟨_, .call _, _, _, _, _⟩ _ _ _ _ _ _; refine o_callA (hv1) (fun y hy => ?_); try simp only [List.cons_append, List.nil_append])
  refine wpE_fact (sl_one (v := y.1) (.head)) (fun y1 => ?_)
  (refine go ?_; intros)
  refine o_append (m := y.2.length) (news := u8s y.2) (sz := 1) rfl rfl rfl rfl rfl rfl rfl rfl pK (src_sl rfl pK) ?_ rfl (fun v1 => ?_)
  · have := Nat.mul_le_mul (show l.length + y.2.length ≤ 1100002 by omega) hbb
    omega
  rw [← u8s_append, ← List.length_append]
  refine wpE_fact (sl_one (v := v1) (.head)) (fun h2 => ?_)
  have hlen : (l ++ y.2).length = l.length + y.2.length := List.length_append
  rcases hb with rfl | rfl | rfl | rfl
  · (refine go ?_; intros)
    (show wpO _ _ ⟨_, .call _, _, _, _, _⟩ _ _ _ _ _ _; refine o_callA (hv2) (fun z hz => ?_); try simp only [List.cons_append, List.nil_append])
    refine wpE_fact (sl_one (v := z.1) (.head)) (fun z1 => ?_)
    (refine go ?_; intros)
    refine o_append (m := z.2.length) (news := u8s z.2) (sz := 1) rfl rfl rfl rfl rfl rfl rfl rfl pK (src_sl rfl pK) ?_ rfl (fun v2 => ?_)
    · have := Nat.mul_le_mul (show (l ++ y.2).length + z.2.length ≤ 1200004 by omega) hbb
      omega
    rw [← u8s_append, ← List.length_append]
    (refine go ?_; intros)
    exact q_ret1 rfl rfl (v2, (l ++ y.2) ++ z.2) rfl (by dsimp only; rw [List.length_append]; omega) eNT
  · (refine go ?_; intros)
    (show wpO _ _ ⟨_, .call _, _, _, _, _⟩ _ _ _ _ _ _; refine o_callA (hv8) (fun z hz => ?_); try simp only [List.cons_append, List.nil_append])
    refine wpE_fact (sl_one (v := z.1) (.head)) (fun z1 => ?_)
    (refine go ?_; intros)
    refine o_append (m := z.2.length) (news := u8s z.2) (sz := 1) rfl rfl rfl rfl rfl rfl rfl rfl pK (src_sl rfl pK) ?_ rfl (fun v2 => ?_)
    · have := Nat.mul_le_mul (show (l ++ y.2).length + z.2.length ≤ 1200004 by omega) hbb
      omega
    rw [← u8s_append, ← List.length_append]
    (refine go ?_; intros)
    exact q_ret1 rfl rfl (v2, (l ++ y.2) ++ z.2) rfl (by dsimp only; rw [List.length_append]; omega) eNT
  · (refine go ?_; intros)
    (show wpO _ _ ⟨_, .call _, _, _, _, _⟩ _ _ _ _ _ _; refine o_callA (hv3) (fun z hz => ?_); try simp only [List.cons_append, List.nil_append])
    refine wpE_fact (sl_one (v := z.1) (.head)) (fun z1 => ?_)
    (refine go ?_; intros)
    refine o_append (m := z.2.length) (news := u8s z.2) (sz := 1) rfl rfl rfl rfl rfl rfl rfl rfl pK (src_sl rfl pK) ?_ rfl (fun v2 => ?_)
    · have := Nat.mul_le_mul (show (l ++ y.2).length + z.2.length ≤ 1200004 by omega) hbb
      omega
    rw [← u8s_append, ← List.length_append]
    refine wpE_fact (sl_one (v := v2) (.head)) (fun h3 => ?_)
    have hlen2 : ((l ++ y.2) ++ z.2).length = l.length + y.2.length + z.2.length := by rw [List.length_append, hlen]
    (refine go ?_; intros)
    refine o_append (m := s.size) (news := u8s s.data.toList) (sz := 1) rfl rfl rfl rfl rfl rfl rfl rfl pK (src_str rfl) ?_ rfl (fun v3 => ?_)
    · have := Nat.mul_le_mul (show ((l ++ y.2) ++ z.2).length + s.size ≤ 1300006 by omega) hbb
      omega
    rw [← u8s_append, ← size_list s, ← List.length_append]
    (refine go ?_; intros)
    exact q_ret1 rfl rfl (v3, ((l ++ y.2) ++ z.2) ++ s.data.toList) rfl (by dsimp only; rw [List.length_append, size_list]; omega) eNT
  · (refine go ?_; intros)
    (show wpO _ _ ⟨_, .call _, _, _, _, _⟩ _ _ _ _ _ _; refine o_callA (hv4) (fun z hz => ?_); try simp only [List.cons_append, List.nil_append])
    refine wpE_fact (sl_one (v := z.1) (.head)) (fun z1 => ?_)
    (refine go ?_; intros)
    refine o_append (m := z.2.length) (news := u8s z.2) (sz := 1) rfl rfl rfl rfl rfl rfl rfl rfl pK (src_sl rfl pK) ?_ rfl (fun v2 => ?_)
    · have := Nat.mul_le_mul (show (l ++ y.2).length + z.2.length ≤ 1200004 by omega) hbb
      omega
    rw [← u8s_append, ← List.length_append]
    (refine go ?_; intros)
    exact q_ret1 rfl rfl (v2, (l ++ y.2) ++ z.2) rfl (by dsimp only; rw [List.length_append]; omega) eNT
end Go.Proofs.YtnaabpfpldelmaaGreatDoor
set_option linter.unusedSimpArgs false
set_option linter.unusedVariables false
set_option maxRecDepth 20000
namespace Go.Proofs.YtnaabpfpldelmaaGreatDoor
open Go Go.Sx
abbrev pfdL (l : List PfdS) : List Value := l.flatMap pfdD
theorem pfd_len : ∀ m : PfdS, (pfdD m).length = 4 := fun _ => rfl
attribute [local irreducible] MidQ wpE wpO wpC qE wpQ wpQO wpH wpHO wpD wpDO wpZ Ev own emp exI sl ch PostS LoopQ Rd rowsAt
set_option maxHeartbeats 2000000 in
theorem wi_Put {X : HProp} {v : Value} {l : List PfdS} (hX : Rd X 4 v l.length (pfdL l)) (hl : l.length ≤ 10) (hok : ∀ f ∈ l, PfdOk f) : FnDoes Tryz.prog 235 [v] [X] (fun y : Value × List UInt8 × Nat => y.2.1.length ≤ 4096) (fun y => .tuple #[y.1, nat64 y.2.2]) (fun y => [X, bytI y.1 y.2.1]) := by
  refine does_of Tryz.func235 rfl rfl Tryz.ntmps235 rfl eNUM (fun c => ?_)
  refine wpC_fact (hX.isSlice .head) (fun hs => ?_)
  obtain ⟨a, cap, rfl, hpos⟩ := hs
  (refine go ?_; intros)
  refine wpC_loop (σ := Nat) (fun i => i ≤ l.length ∧ ∀ (j : Nat) (h : j < l.length), j < i → kdOk l[j].b) (fun i => [(0, .slice a l.length cap), (10, .slice a l.length cap), (11, nat64 l.length), (12, nat64 i)]) (fun _ => [X]) (fun i => l.length - i) 0 ⟨Nat.zero_le _, fun j _ h => absurd h (Nat.not_lt_zero j)⟩ sUB eNT (fun i hi => ?_)
  obtain ⟨hi, hkd⟩ := hi
  by_cases hlt : i < l.length
  · have hrow := fm_get pfd_len l i hlt
    have hwr := wi_wrong l[i] (hok _ (List.getElem_mem hlt))
    obtain ⟨b, o, rfl, hcap⟩ := hpos (by omega)
    (refine go ?_; intros)
    refine o_evB (ev_load_rd_agg (vs := pfdD l[i]) rfl rfl rfl rfl hX pK rfl rfl hrow) ?_
    (refine go ?_; intros)
    (show wpO _ _ ⟨_, .call _, _, _, _, _⟩ _ _ _ _ _ _; refine o_callA (hwr) (fun e he => ?_); try simp only [List.cons_append, List.nil_append])
    by_cases h0 : e = 0
    · subst h0
      (refine go ?_; intros)
      exact q_round (i + 1) ⟨hlt, fun j h hj => if e : j < i then hkd j h e else by
        obtain rfl : j = i := by omega
        exact he.2 rfl⟩ (by omega) sUB eNT
    · have h1 : (e : Int) ≠ 0 := by omega
      (refine go ?_; intros)
      exact q_ret2 rfl rfl rfl (.slice none 0 0, [], e) rfl (Nat.zero_le _) (Ent.cons pK (Ent.slNil Ent.nil))
  · (refine go ?_; intros)
    refine wpC_ent (Ent.slNil (e := tU8) (size := 1) (Ent.refl _)) ?_
    refine wpC_loop (σ := Nat × Value × List UInt8) (fun s => s.1 ≤ l.length ∧ s.2.2.length ≤ 4096) (fun s => [(0, .slice a l.length cap), (7, s.2.1), (25, .slice a l.length cap), (26, nat64 l.length), (27, nat64 s.1)]) (fun s => [X, bytI s.2.1 s.2.2]) (fun s => l.length - s.1) (0, .slice none 0 0, []) ⟨Nat.zero_le _, by decide⟩ sUB eNT (fun s hs => ?_)
    obtain ⟨i2, v1, bs⟩ := s
    obtain ⟨hi2, hbs⟩ := hs
    try dsimp only at hi2 hbs ⊢
    by_cases hlt2 : i2 < l.length
    · have hrow := fm_get pfd_len l i2 hlt2
      have hok1 := hok _ (List.getElem_mem hlt2)
      have hput := wi_put l[i2] hok1 (hkd i2 hlt2 (by omega)) v1 bs (by omega)
      obtain ⟨b, o, rfl, hcap⟩ := hpos (by omega)
      have hs1 := hok1.s
      refine wpC_fact (sl_slice (v := v1) (.tail .head)) (fun hv => ?_)
      obtain ⟨a1, c1, rfl⟩ := hv
      (refine go ?_; intros)
      refine o_evB (ev_load_rd_agg (vs := pfdD l[i2]) rfl rfl rfl rfl hX pK rfl rfl hrow) ?_
      (refine go ?_; intros)
      refine o_cmpS (fun h1 => ?_) (fun h1 => ?_)
      · (refine go ?_; intros)
        exact q_ret2 rfl rfl rfl (.slice none 0 0, [], 3) rfl (Nat.zero_le _) (Ent.cons pK (Ent.slNil Ent.nil))
      · (refine go ?_; intros)
        (show wpO _ _ ⟨_, .call _, _, _, _, _⟩ _ _ _ _ _ _; refine o_callA (hput) (fun y hy => ?_); try simp only [List.cons_append, List.nil_append])
        obtain ⟨v2, bs2⟩ := y
        try dsimp only at hy ⊢
        refine wpE_fact (sl_slice (v := v2) (.head)) (fun hv => ?_)
        obtain ⟨a2, c2, rfl⟩ := hv
        by_cases hbig : bs2.length > 4096
        · (refine go ?_; intros)
          exact q_ret2 rfl rfl rfl (.slice none 0 0, [], 3) rfl (Nat.zero_le _) (Ent.cons pK (Ent.slNil Ent.nil))
        · (refine go ?_; intros)
          exact q_round (i2 + 1, .slice a2 bs2.length c2, bs2) ⟨hlt2, by dsimp only; omega⟩ (by dsimp only; omega) sUB eNT
    · refine wpC_fact (sl_slice (v := v1) (.tail .head)) (fun hv => ?_)
      obtain ⟨a1, c1, rfl⟩ := hv
      (refine go ?_; intros)
      exact q_ret2 rfl rfl rfl (.slice a1 bs.length c1, bs, 0) rfl hbs eNT
end Go.Proofs.YtnaabpfpldelmaaGreatDoor
set_option linter.unusedSimpArgs false
set_option linter.unusedVariables false
set_option maxRecDepth 20000
namespace Go.Proofs.YtnaabpfpldelmaaGreatDoor
open Go Go.Sx
abbrev tLst : TypeId := 746
abbrev lstI (b : Nat) (v : Value) : HProp := pts b (.cells [v].toArray tLst (0, 0))
abbrev pfI (v : Value) (l : List PfdS) : HProp := sl tFld 4 v l.length (pfdL l)
abbrev nmA : ByteArray := ⟨#[78, 111, 100, 101, 32, 67, 111, 110, 116, 114, 111, 108, 47, 82, 101, 98, 105, 114, 116, 104]⟩
abbrev mtA : List Value := [.string nmA, .bool false, .int .u64 0, .int .u64 0, .int .u32 11, .bool false, .bool false, .bool false, .slice none 0 0, .slice none 0 0, .int .i64 5, .int .u64 1, .string mt0, .slice none 0 0, .slice none 0 0]
abbrev vaA : List Value := [.int .i64 5, .int .u64 1, .string mt0]
theorem kn5 {G : Rg} (h : knG G) : ∃ x, G.2.cell? ⟨9, 0 + 5 * 1, none⟩ = some (.int .i64 x) := h.at (k := 5) (by decide)
theorem pfd_app {l : List PfdS} {f : PfdS} : pfdL l ++ pfdD f = pfdL (l ++ [f]) := by simp [pfdL]
theorem fld_by : Tryz.prog.types[363].bytes ≤ 1000 := by decide +kernel
attribute [local irreducible] MidQ wpE wpO wpC qE wpQ wpQO wpH wpHO wpD wpDO wpZ Ev own emp exI sl ch PostS LoopQ Rd rowsAt
set_option maxHeartbeats 1000000 in
theorem ml_bytes (b num : Nat) (v : Value) (l : List PfdS) (hl : l.length ≤ 1000) (bv : Value) (bs : List UInt8) : FnDoes Tryz.prog 609 [pt0 b, nat64 num, bv] [lstI b v, pfI v l, bsI bv bs] (fun _ : Value => True) (fun _ => .tuple #[]) (fun v' => [lstI b v', pfI v' (l ++ [⟨num, 2, 0, txt bs⟩])]) := by
  refine does_of Tryz.func609 rfl rfl Tryz.ntmps609 rfl eNUM (fun c => ?_)
  refine wpC_fact (Bs.ofBsI.isSlice (.tail (.tail .head))) (fun hv => ?_)
  obtain ⟨va, vc, rfl, _⟩ := hv
  refine wpC_fact (sl_one (v := v) (.tail .head)) (fun h1 => ?_)
  (refine go ?_; intros)
  refine wpC_drawnA [lstI b v, bsI (.slice va bs.length vc) bs] 11 ?_
  ((first | refine dt 0 ?_ | refine dts 0 ?_); (first | refine dt 1 ?_ | refine dts 1 ?_); (first | refine dt 2 ?_ | refine dts 2 ?_); (first | refine dt 3 ?_ | refine dts 3 ?_); (first | refine dt 4 ?_ | refine dts 4 ?_); (first | refine df 5 ?_ | refine dfs 5 ?_))
  refine dfB 6 rfl (ev_str rfl rfl rfl rfl Bs.ofBsI pK) ?_
  ((first | refine df 7 ?_ | refine dfs 7 ?_))
  (refine wpD_eff 8 rfl rfl (by kernel_rfl) rfl rfl ?_; show OVL _ ⟨_, .buildSlice _ _ _, _, _, _, _⟩ _ _ _ _ _ _)
  refine x_buildSlice1 (l := pfdD ⟨num, 2, 0, txt bs⟩) (by rfl) (by rfl) (by rfl) (by rfl) (by rfl) (by rfl) (by rfl) (by rfl) (fun bb => ⟨eNT, ?_⟩)
  (refine wpD_eff 9 rfl rfl (by kernel_rfl) rfl rfl ?_; show OVL _ ⟨_, .call { callee := .builtin .append, args := _, argTypes := _ }, _, _, _, _⟩ _ _ _ _ _ _)
  refine x_append (m := 1) (news := pfdD ⟨num, 2, 0, txt bs⟩) (sz := 4) (by rfl) (by rfl) (by rfl) (by rfl) (by rfl) (by rfl) (by rfl) (by rfl) pK (src_pts rfl pK rfl rfl rfl) ?_ (fun v' => ⟨eNT, ?_⟩)
  · have := Nat.mul_le_mul (show l.length + 1 ≤ 1001 by omega) fld_by
    omega
  rw [pfd_app, show l.length + 1 = (l ++ [(⟨num, 2, 0, txt bs⟩ : PfdS)]).length by simp]
  refine wpD_fact (sl_one (v := v') .head) (fun h2 => ?_)
  ((first | refine df 10 ?_ | refine dfs 10 ?_))
  (refine wpD_lastU rfl rfl (by kernel_rfl) (by kernel_rfl) rfl ?_; show OUL _ ⟨_, .store _ _ _, _, _, _, _⟩ _ _ _ _ _)
  refine x_store (by rfl) (by rfl) (by rfl) (by rfl) h2 pK (Upd1.of (by simp)) ?_
  (refine go ?_; intros)
  exact q_ret0 rfl v' rfl trivial eNT _ (.inr rfl)
theorem ml_text (b num : Nat) (v : Value) (l : List PfdS) (hl : l.length ≤ 1000) (s : ByteArray) (hs : s ≠ (⟨#[]⟩ : ByteArray)) : FnDoes Tryz.prog 604 [pt0 b, nat64 num, .string s] [lstI b v, pfI v l] (fun _ : Value => True) (fun _ => .tuple #[]) (fun v' => [lstI b v', pfI v' (l ++ [⟨num, 2, 0, txt s.data.toList⟩])]) := by
  refine does_of Tryz.func604 rfl rfl Tryz.ntmps604 rfl eNUM (fun c => ?_)
  (refine go ?_; intros)
  refine o_bytesOf rfl rfl rfl rfl rfl (fun bv => ?_)
  have hb := ml_bytes b num v l hl bv s.data.toList
  refine wpE_fact (Bs.ofBsI.isSlice .head) (fun hv => ?_)
  obtain ⟨va, vc, rfl, _⟩ := hv
  (refine go ?_; intros)
  (show wpO _ _ ⟨_, .call _, _, _, _, _⟩ _ _ _ _ _ _; refine o_callA (hb) (fun v' _ => ?_); try simp only [List.cons_append, List.nil_append])
  (refine go ?_; intros)
  exact q_ret0 rfl v' rfl trivial eNT _ (.inr rfl)
theorem ml_none (b num : Nat) (v : Value) : FnDoes Tryz.prog 605 [pt0 b, nat64 num, .int .u64 0] [] (fun _ : Unit => True) (fun _ => .tuple #[]) (fun _ => []) := by
  refine does_of Tryz.func605 rfl rfl Tryz.ntmps605 rfl eNUM (fun c => ?_)
  (refine go ?_; intros)
  exact q_ret0 rfl () rfl trivial eNT _ (.inr rfl)
theorem ml_flag (b num : Nat) : FnDoes Tryz.prog 606 [pt0 b, nat64 num, .bool false] [] (fun _ : Unit => True) (fun _ => .tuple #[]) (fun _ => []) := by
  refine does_of Tryz.func606 rfl rfl Tryz.ntmps606 rfl eNUM (fun c => ?_)
  (refine go ?_; intros)
  exact q_ret0 rfl () rfl trivial eNT _ (.inr rfl)
theorem ml_number (b num k : Nat) (hk : k ≠ 0) (v : Value) (l : List PfdS) (hl : l.length ≤ 1000) : FnDoes Tryz.prog 605 [pt0 b, nat64 num, .int .u64 k] [lstI b v, pfI v l] (fun _ : Value => True) (fun _ => .tuple #[]) (fun v' => [lstI b v', pfI v' (l ++ [⟨num, 0, k, mt0⟩])]) := by
  refine does_of Tryz.func605 rfl rfl Tryz.ntmps605 rfl eNUM (fun c => ?_)
  refine wpC_fact (sl_one (v := v) (.tail .head)) (fun h1 => ?_)
  have hk' : (k : Int) ≠ 0 := by omega
  (refine go ?_; intro bb)
  refine o_append (m := 1) (news := pfdD ⟨num, 0, k, mt0⟩) (sz := 4) rfl rfl rfl rfl rfl rfl rfl rfl pK (src_pts rfl pK rfl rfl rfl) ?_ rfl (fun v' => ?_)
  · have := Nat.mul_le_mul (show l.length + 1 ≤ 1001 by omega) fld_by
    omega
  rw [pfd_app, show l.length + 1 = (l ++ [(⟨num, 0, k, mt0⟩ : PfdS)]).length by simp]
  refine wpE_fact (sl_one (v := v') .head) (fun h2 => ?_)
  (refine go ?_; intros)
  exact q_ret0 rfl v' rfl trivial eNT _ (.inr rfl)
end Go.Proofs.YtnaabpfpldelmaaGreatDoor
