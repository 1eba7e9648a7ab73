/-
  Texts made piece by piece: what a strings.Builder rests on. No program in sight.
  strings.Builder, and what strings has in Go's own assembly.
  Levels of names: counted, split, looked at.
  More for builders. No program in sight.
-/
import Derived.Test.YtnaabpfpldelmaaGreatDoorM12
import Derived.Lib.Builder
import Derived.Lib.UnsafeStr
import Derived.Lib.MakeNoZero
import Derived.Test.YtnaabpfpldelmaaGreatDoorM14
import Derived.Test.YtnaabpfpldelmaaGreatDoorM22
import Derived.Lib.Bytealg
set_option linter.unusedSimpArgs false
set_option linter.unusedVariables false
namespace Go.Sx
open Go Go.Conc
variable {P : Program} {ops : Array Oper} {Q : Exit → Act → World → Prop} {c : Cx} {n : Nat} {L : Env} {M : List HProp} {rest : List Oper} {o : Oper}
variable {ty : TypeId} {pos : String} {after : Array Edge} {g : Option (Nat × Bool)} {dst : Option Nat}
theorem shape_pts {R : List HProp} {b : Nat} {l : List Value} {T : TypeId} {f : Nat × Nat} {w : World} (hp : Pick M (pts b (.cells l.toArray T f)) R) (s : HSt c M w) : w.shape? b = some (T, l.length) := by
  simp [World.shape?, s.pts hp]
theorem ev_toUnsafe {src d t T : TypeId} {x : Operand} {j : TypeInfo} {b off : Nat} {l : List Value} {f : Nat × Nat} {R : List HProp} (hx : opnd L x = some (.pointer (some ⟨b, off, none⟩))) (hs : P.underlying src = some (.pointer t)) (hd : P.underlying d = some .unsafePointer)
    (ht : P.info? t = some j) (hj : Nat.beq j.size 0 = false) (hp : Pick M (pts b (.cells l.toArray T f)) R) (hoff : off < l.length) : Ev P ⟨dst, .convert src d x, ty, pos, after, g⟩ c n L M (.pointer (some ⟨b, off, none⟩)) := fun T0 w s => by
  have hj' : j.size ≠ 0 := fun h => by rw [h] at hj; cases hj
  have := Lib.run_to_unsafe (P := P) (w := w) (src := src) (dst := d) ⟨b, off, none⟩ hs hd ht hj' (shape_pts hp s.heap) hoff
  simp only [execOp, opnd_eval s.slots hx, Sem.run_bind, this, Result.andThen_ok, Sem.run_pure]
theorem ev_fromUnsafe {src d u T : TypeId} {x : Operand} {j : TypeInfo} {b off : Nat} {l : List Value} {f : Nat × Nat} {R : List HProp} (hx : opnd L x = some (.pointer (some ⟨b, off, none⟩))) (hs : P.underlying src = some .unsafePointer) (hd : P.underlying d = some (.pointer u))
    (hu : P.info? u = some j) (hp : Pick M (pts b (.cells l.toArray T f)) R) (hlies : liesAt P P.depth T (l.length / P.cellsOf T) off u 1 = true) : Ev P ⟨dst, .convert src d x, ty, pos, after, g⟩ c n L M (.pointer (some ⟨b, off, none⟩)) := fun T0 w s => by
  have := Lib.run_from_unsafe (P := P) (w := w) (src := src) (dst := d) ⟨b, off, none⟩ hs hd hu (shape_pts hp s.heap) hlies
  simp only [execOp, opnd_eval s.slots hx, Sem.run_bind, this, Result.andThen_ok, Sem.run_pure]
def frI (e : TypeId) (v : Value) (l : List UInt8) : HProp := fun h => (v = .slice none 0 0 ∧ l = []) ∨ ∃ b cap junk f, v = .slice (some ⟨b, 0, none⟩) l.length cap ∧ (l.length ≤ cap ∧ cap ≠ 0) ∧ (u8s l ++ junk).length = cap ∧ h = single b (.cells (u8s l ++ junk).toArray e f)
theorem Ent.frOfSl {e : TypeId} {v : Value} {l : List UInt8} {k : Nat} {R N : List HProp} (hk : k = l.length) (h0 : v = .slice none 0 0 ∨ l ≠ []) (hp : Pick M (sl e 1 v k (u8s l)) R) (h : Ent R N) : Ent M (frI e v l :: N) := fun hh s => by
  subst hk
  obtain ⟨h1, h2, ⟨a1, a2, a3⟩, r, d, l1, l2⟩ := hp.sep s
  rcases a3 with ⟨a3, a4⟩ | ⟨b, cap, junk, a3, b1, b2, b3, b4⟩
  · exact ⟨h1, h2, .inl ⟨a3, List.eq_nil_of_length_eq_zero a4⟩, h _ r, d, l1, l2⟩
  · have hc : cap ≠ 0 := fun e => by
      rcases h0 with h0 | h0
      · rw [h0] at a3; cases a3
      · exact h0 (List.eq_nil_of_length_eq_zero (by omega))
    exact ⟨h1, h2, .inr ⟨b, cap, junk, (0, 0), a3, ⟨b1, hc⟩, by simpa using b3, b4⟩, h _ r, d, l1, l2⟩
theorem fr_one {e : TypeId} {v : Value} {l : List UInt8} {R : List HProp} (hp : Pick M (frI e v l) R) : ∀ w, HSt c M w → ∃ a cap, v = .slice a l.length cap ∧ ((a = none ∧ cap = 0 ∧ l = []) ∨ (cap ≠ 0 ∧ ∃ b, a = some ⟨b, 0, none⟩)) := fun w s => by
  obtain ⟨f, h, m, _, _⟩ := s
  obtain ⟨h1, h2, a, _⟩ := hp.sep m
  rcases a with ⟨rfl, rfl⟩ | ⟨b, cap, junk, f, rfl, ⟨_, hc⟩, _⟩
  · exact ⟨none, 0, rfl, .inl ⟨rfl, rfl, rfl⟩⟩
  · exact ⟨_, _, rfl, .inr ⟨hc, _, rfl⟩⟩
theorem fr_open {e : TypeId} {v : Value} {l : List UInt8} {R : List HProp} {w : World} (hp : Pick M (frI e v l) R) (s : HSt c M w) : (v = .slice none 0 0 ∧ l = []) ∨ ∃ b cap junk f, v = .slice (some ⟨b, 0, none⟩) l.length cap ∧ (l.length ≤ cap ∧ cap ≠ 0) ∧ (u8s l ++ junk).length = cap ∧ HSt c (pts b (.cells (u8s l ++ junk).toArray e f) :: R) w := by
  obtain ⟨f0, h, m, l0, d0⟩ := s
  obtain ⟨h1, h2, a, r, d, l1, l2⟩ := hp.sep m
  rcases a with h0 | ⟨b, cap, junk, f, a1, a2, a3, a4⟩
  · exact .inl h0
  · exact .inr ⟨b, cap, junk, f, a1, a2, a3, f0, h, ⟨h1, h2, a4, r, d, l1, l2⟩, l0, d0⟩
theorem fr_close {e : TypeId} {b cap : Nat} {l : List UInt8} {junk : List Value} {f : Nat × Nat} {R : List HProp} (h1 : l.length ≤ cap ∧ cap ≠ 0) (h2 : (u8s l ++ junk).length = cap) : Ent (pts b (.cells (u8s l ++ junk).toArray e f) :: R) (frI e (.slice (some ⟨b, 0, none⟩) l.length cap) l :: R) := fun h s => by
  obtain ⟨ha, hr, a, r, d, l1, l2⟩ := s
  exact ⟨ha, hr, .inr ⟨b, cap, junk, f, rfl, h1, h2, a⟩, r, d, l1, l2⟩
def frP (v : Value) (l : List UInt8) (p : Option Addr) : Prop := l = [] ∨ ∃ b cap, v = .slice (some ⟨b, 0, none⟩) l.length cap ∧ p = some ⟨b, 0, none⟩
theorem ev_sliceData {x : Operand} {ats : Array TypeId} {a : Option Addr} {len cap : Nat} (hx : opnd L x = some (.slice a len cap)) (h : a = none ∨ cap ≠ 0) : Ev P ⟨dst, .call { callee := .builtin .unsafeSliceData, args := #[x], argTypes := ats }, ty, pos, after, g⟩ c n L M (.pointer a) := fun T w s => by
  cases a with
  | none => simp [execOp, resolve, invoke, builtin, opnd_eval s.slots hx, Lib.run_unsafeSliceData_nil]
  | some a =>
    have hc : cap ≠ 0 := h.resolve_left (fun e => by cases e)
    simp [execOp, resolve, invoke, builtin, opnd_eval s.slots hx, Lib.run_unsafeSliceData_row w ats ty a len cap hc]
theorem x_unsafeString {K : Env → List HProp → Prop} {d : Nat} {x y : Operand} {e pt it : TypeId} {v : Value} {p : Option Addr} {l : List UInt8} {k : Nat} {R : List HProp} (hx : opnd L x = some (.pointer p)) (hy : opnd L y = some (.int .i64 k)) (hk : k = l.length) (hpt : P.underlying pt = some (.pointer e)) (hc : P.cellsOf e = 1)
    (hf : frP v l p) (hn : l.length ≤ 4611686018427387904) (hp : Pick M (frI e v l) R) (h : K ((d, .string (txt l)) :: L) (frI e v l :: R)) : OVL P ⟨some d, .call { callee := .builtin .unsafeString, args := #[x, y], argTypes := #[pt, it] }, ty, pos, after, g⟩ c n L M d K := fun T w s => by
  subst hk
  by_cases hl : l = []
  · subst hl
    refine ⟨_, w, _, frI e v [] :: R, ?_, HSt.ent (Ent.cons hp (Ent.refl _)) s.heap, rfl, h⟩
    have := Lib.run_unsafeString_none (P := P) w pt it ty p
    have e0 : opnd L y = some (.int .i64 0) := hy
    simp [execOp, resolve, invoke, builtin, opnd_eval s.slots hx, opnd_eval s.slots e0, this]
    rfl
  · rcases hf with hf | ⟨b, cap, rfl, rfl⟩
    · exact absurd hf hl
    rcases fr_open hp s.heap with ⟨h0, _⟩ | ⟨b', cap', junk, f, h0, h1, h2, h3⟩
    · cases h0
    · cases h0
      have hb := h3.pts .head
      have hlt : b < w.heap.size := (Array.getElem?_eq_some_iff.1 hb).1
      have hln : l.length ≠ 0 := fun e => hl (List.eq_nil_of_length_eq_zero e)
      have hr := Lib.run_unsafeString_row (P := P) (w := w) pt it ty e hpt hc b _ (shape_pts .head h3) l hl (by rw [List.length_append, u8s_length]; omega) (by omega) (fun j u hu => by
        rw [add_lit, cell_pts hb, Nat.zero_add, List.getElem?_append_left (by rw [u8s_length]; exact (List.getElem?_eq_some_iff.1 hu).1)]
        exact u8s_get hu)
      refine ⟨_, w.freeze ⟨b, 0, none⟩ l.length, _, frI e (.slice (some ⟨b, 0, none⟩) l.length cap) l :: R, ?_, ?_, rfl, h⟩
      · simp [execOp, resolve, invoke, builtin, opnd_eval s.slots hx, opnd_eval s.slots hy, hr]
      · refine HSt.ent (fr_close (f := (if f.1 == f.2 then ((0 : Nat), 0 + l.length) else (min f.1 0, max f.2 (0 + l.length)))) h1 h2) (HSt.put .head h3 (by simp [World.freeze, hln]) ?_ (fun k hk => ?_) (by simp [World.freeze, hln]) (by simp [World.freeze, hln]) (by simp [World.freeze, hln]))
        · obtain ⟨f1, f2⟩ := f
          simp [World.freeze, hln, Array.getElem?_modify, hb]
        · simp [World.freeze, hln, Array.getElem?_modify, Ne.symm hk]
section
variable {S : Shp} {ρ : Rho} {H : PHeap}
theorem o_makeSliceC {d l : Nat} {t e : TypeId} {i : TypeInfo} {z : Value} {x y : Operand} {R : List HProp} (hW : WT S ρ H) (hb : l * i.bytes ≤ 140737488355328) (hl : l ≤ 10000 ∨ i.size ≤ 1 ∧ l ≤ 10000000)
    (h : ∀ v ρ' H', WT S ρ' H' → Gr ρ H ρ' H' → okSl S ρ' e v 0 → wpE P ops rest Q c n ((d, v) :: L) (own H' :: R)) (hx : opnd L x = some (.int .i64 0) := by rfl) (hy : opnd L y = some (.int .i64 l) := by rfl) (hu : P.underlying t = some (.slice e) := by rfl) (hi : P.info? e = some i := by rfl) (hz : i.zero = some z := by rfl)
    (hsz : i.size = (S e).length := by rfl) (hs100 : Nat.ble i.size 1000 = true := by rfl) (hzr : ∀ ρ, okR S ρ (S e) z.cells.toList := by (intro _; exact okZ rfl)) (hp : Pick M (own H) R := by (repeat (first | exact Pick.head | apply Pick.tail))) (hd : Nat.blt d n = true := by rfl) : wpO P ops ⟨some d, .makeSlice t x y, ty, pos, after, g⟩ rest Q c n L M := o_val rfl hd fun T w s => by
  have wl : IntKind.i64.wrap (l : Int) = l := by rw [IntKind.wrap_i64]; omega
  have n1 : ¬ (l : Int) < 0 := by omega
  have n2 : ¬ (281474976710656 < (i.bytes : Int) * l) := by
    have : (i.bytes : Int) * l = ((l * i.bytes : Nat) : Int) := by push_cast; rw [Int.mul_comm]
    omega
  have n5 : ¬ (140737488355328 < l * i.bytes) := by omega
  have n6 : ¬ (16777216 < l * i.size) := by
    have h1 := Nat.le_of_ble_eq_true hs100
    rcases hl with hl | ⟨hl2, hl⟩
    · have := Nat.mul_le_mul hl h1
      omega
    · have := Nat.mul_le_mul hl hl2
      omega
  have sH : HSt c (own H :: R) w := s.heap.ent (Ent.cons hp (Ent.refl _))
  have hzs' : z.cells.size = i.size := by have := (hzr ρ).len; rw [hsz, ← this]; simp
  have h0 := HSt.new (w' := { w with heap := w.heap.push (.cells (Builtin.zeroCells z.cells l).toList.toArray e (0, 0)) }) sH (.cells (Builtin.zeroCells z.cells l).toList.toArray e (0, 0)) rfl rfl rfl rfl
  have hzz : okRows S ρ e (Builtin.zeroCells z.cells l).toList l := by rw [zeroCells_list]; exact okRows.reps (hzr ρ) l
  obtain ⟨ρ', H', a1, a2, a3, a4⟩ := hst_regNew (junk := []) (m := l) (by rw [List.append_nil]; exact h0) hW hzz (by rw [List.append_nil]; exact hzz.1) (Nat.le_refl _) rfl
  refine ⟨.slice (some ⟨w.heap.size, 0, none⟩) 0 l, _, _, _, ?_, a4, rfl, h _ ρ' H' a1 a2 (okSl.ofNew a3 (Nat.zero_le _) (Nat.le_refl _))⟩
  have w0 : IntKind.i64.wrap 0 = 0 := by decide
  simp [execOp, opnd_eval s.slots hx, opnd_eval s.slots hy, Instr.makeSlice, run_underlying hu, asInt, asIntOf, typeInfo, hi, sizeOf, zeroValue, hz, wl, w0, n1, n2, n5, n6, newRow, newObj, askRoom, roomBytes, Sem.run, Builtin.zeroCells, hzs']
  have e3 : (List.map (fun x => z.cells[x % i.size]!) (List.range (l * i.size))).toArray = Array.map (fun x => z.cells[x % i.size]!) (Array.range (l * i.size)) := by apply Array.ext'; simp
  rw [e3]
  split
  · rename_i h0
    have e0 : ∀ f : Nat → Value, Array.map f (Array.range 0) = #[] := fun f => by apply Array.ext' ; simp
    rw [h0, e0, e0]
  · rfl
end
theorem ev_strIndex {t : TypeId} {x i : Operand} {s : ByteArray} {j : Nat} {u : UInt8} (hx : opnd L x = some (.string s)) (hi : opnd L i = some (.int .i64 j)) (hu : P.underlying t = some .string) (hs : s[j]? = some u) : Ev P ⟨dst, .index t x i, ty, pos, after, g⟩ c n L M (.int .u8 u.toNat) := fun T w st => by
  simp [execOp, opnd_eval st.slots hx, opnd_eval st.slots hi, Instr.index, asIntOf, run_underlying hu, hs]
theorem ev_strTo {t : TypeId} {x hi : Operand} {s : ByteArray} {j : Nat} {k2 : IntKind} {j2 : Int} (hx : opnd L x = some (.string s)) (hh : opnd L hi = some (.int k2 j2)) (hj : j2 = j) (hu : P.underlying t = some .string) (hs : j ≤ s.size) : Ev P ⟨dst, .slice t x none (some hi) none, ty, pos, after, g⟩ c n L M (.string (s.extract 0 j)) := fun T w st => by
  have e2 : ∀ cd, (Instr.sliceBound (.int k2 j2) s.size cd).run P w = .ok j w := fun cd => run_bound hj hs
  simp only [execOp, opnd_eval st.slots hx, opnd_eval st.slots hh, Instr.sliceAt, Instr.slice, Instr.sliceBounds, Option.map_some, Option.map_none, Sem.run_bind, run_underlying hu, Sem.run_pure, Result.andThen_ok, e2, Option.isSome_none, Bool.false_eq_true, if_false]
theorem ev_strFrom {t : TypeId} {x lo : Operand} {s : ByteArray} {j : Nat} {k2 : IntKind} {j2 : Int} (hx : opnd L x = some (.string s)) (hl : opnd L lo = some (.int k2 j2)) (hj : j2 = j) (hu : P.underlying t = some .string) (hs : j ≤ s.size) : Ev P ⟨dst, .slice t x (some lo) none none, ty, pos, after, g⟩ c n L M (.string (s.extract j s.size)) := fun T w st => by
  have e2 : ∀ cd, (Instr.sliceBound (.int k2 j2) s.size cd).run P w = .ok j w := fun cd => run_bound hj hs
  simp only [execOp, opnd_eval st.slots hx, opnd_eval st.slots hl, Instr.sliceAt, Instr.slice, Instr.sliceBounds, Option.map_some, Option.map_none, Sem.run_bind, run_underlying hu, Sem.run_pure, Result.andThen_ok, e2, Option.isSome_none, Bool.false_eq_true, if_false]
theorem scopeQ_mono {σ : Type} {φ : σ → Prop} {Lx : σ → Env} {Mx : σ → List HProp} {μ : σ → Nat} {l m m' : Nat} (h : m ≤ m') : ∀ e a w, scopeQ φ Lx Mx μ l m c n Q e a w → scopeQ φ Lx Mx μ l m' c n Q e a w := fun e a w q => by
  cases e with
  | goto j =>
    have q' : if j = l then a.defers = c.ds ∧ ∃ x', φ x' ∧ μ x' < m ∧ St c n (Lx x') (Mx x') a.tmps w else False := q
    show if j = l then a.defers = c.ds ∧ ∃ x', φ x' ∧ μ x' < m' ∧ St c n (Lx x') (Mx x') a.tmps w else False
    by_cases hj : j = l
    · rw [if_pos hj] at q' ⊢
      obtain ⟨d, x', a1, a2, a3⟩ := q'
      exact ⟨d, x', a1, by omega, a3⟩
    · rw [if_neg hj] at q'; exact q'.elim
  | _ => exact q
theorem wpC_scopeJ {σ : Type} {body code : Code} (φ : σ → Prop) (Lx : σ → Env) (Mx : σ → List HProp) (μ : σ → Nat) (l m0 : Nat) (hl : findLabel body l = some (.seq .skip code)) (round : ∀ x, φ x → wpC P code (scopeQ φ Lx Mx μ l (μ x) c n Q) c n (Lx x) (Mx x))
    (h0 : (∀ x L' M', φ x → μ x ≤ m0 → Env.sub L' (Lx x) → Ent M' (Mx x) → wpC P code (scopeQ φ Lx Mx μ l m0 c n Q) c n L' M') → wpC P body (scopeQ φ Lx Mx μ l m0 c n Q) c n L M) : wpC P (.scope body) Q c n L M :=
  wpC_scope φ Lx Mx μ l m0 hl (h0 fun x L' M' hx hm hL hM T w s => cwp_mono (scopeQ_mono hm) (round x hx T w ⟨s.size, s.slots.sub hL, s.heap.ent hM⟩)) (fun x hx => wpC_seq (wpC_skip (q_then (round x hx))))
theorem x_ext {K : Env → List HProp → Prop} {d : Nat} {f : FuncId} {xs : List Operand} {ats : Array TypeId} {args : List Value} (hx : opnds L xs = some args)
    (h : ∀ w, HSt c M w → ∃ v w' M', (callFunc f args.toArray).run P w = .ok (.value v) w' ∧ HSt c M' w' ∧ K ((d, v) :: L) M') :
    OVL P ⟨some d, .call { callee := .value (.func f), args := xs.toArray, argTypes := ats }, ty, pos, after, g⟩ c n L M d K := fun T w s => by
  obtain ⟨v, w', M', h1, h2, h3⟩ := h w s.heap
  refine ⟨v, w', _, M', ?_, h2, rfl, h3⟩
  rw [execOp_call]
  have e1 := opnds_eval (ds := c.ds) s.slots hx
  rw [List.map_toArray, e1]
  simpa using h1
end Go.Sx
set_option linter.unusedSimpArgs false
set_option linter.unusedVariables false
set_option maxRecDepth 20000
namespace Go.Proofs.YtnaabpfpldelmaaGreatDoor
open Go Go.Sx
abbrev tBld : TypeId := 137
abbrev tU8 : TypeId := 5
def BldIn (T : TypeId) (k : Nat) : Prop := liesAt Tryz.prog Tryz.prog.depth T (k / Tryz.prog.cellsOf T) 0 tBld 1 = true
theorem bld_self : BldIn tBld 2 := by unfold BldIn; kernel_rfl
theorem r_noEsc (w : World) (v : Value) : (callFunc 413 [v].toArray).run Tryz.prog w = .ok (.value v) w := by kernel_rfl
abbrev bldC (b : Nat) (p v : Value) (tl : List Value) (T : TypeId) : HProp := pts b (.cells (p :: v :: tl).toArray T (0, 0))
def atOk (b : Nat) (p : Value) : Prop := p = .pointer none ∨ p = pt0 b
attribute [local irreducible] MidQ wpE wpO wpC qE wpQ wpQO wpH wpHO wpD wpDO wpZ Ev own emp exI sl ch PostS LoopQ Rd rowsAt
theorem bl_check (b : Nat) (p v : Value) (tl : List Value) (T : TypeId) (hp : atOk b p) (hl : BldIn T (tl.length + 2)) : FnDoes Tryz.prog 324 [pt0 b] [bldC b p v tl T] (fun _ : Unit => True) (fun _ => .tuple #[]) (fun _ => [bldC b (pt0 b) v tl T]) := by
  refine does_of Tryz.func324 rfl rfl Tryz.ntmps324 rfl eNUM (fun c => ?_)
  rcases hp with rfl | rfl
  · (refine go ?_; intros)
    refine o_evB (ev_toUnsafe rfl rfl rfl rfl rfl pK (by simp)) ?_
    (refine go ?_; intros)
    refine o_extP (fun w => r_noEsc w (pt0 b)) ?_
    (refine go ?_; intros)
    refine o_evB (ev_fromUnsafe (T := T) (l := .pointer none :: v :: tl) rfl rfl rfl rfl pK hl) ?_
    (refine go ?_; intros)
    exact q_ret0 rfl () rfl trivial eNT _ (.inr rfl)
  · (refine go ?_; intros)
    refine o_evB (ev_ptr_same rfl rfl rfl rfl rfl rfl) ?_
    (refine go ?_; intros)
    exact q_ret0 rfl () rfl trivial eNT _ (.inr rfl)
theorem bl_write (b : Nat) (p v : Value) (tl : List Value) (T : TypeId) (hp : atOk b p) (hl : BldIn T (tl.length + 2)) (l : List UInt8) (s : ByteArray) (hs : l.length + s.size ≤ 1000000000) : FnDoes Tryz.prog 252 [pt0 b, .string s] [bldC b p v tl T, sl tU8 1 v l.length (u8s l)]
    (fun _ : Value => True) (fun _ => .tuple #[nat64 s.size, .nilIface]) (fun v' => [bldC b (pt0 b) v' tl T, sl tU8 1 v' (l ++ s.data.toList).length (u8s (l ++ s.data.toList))]) := by
  rw [List.length_append, u8s_append, show s.data.toList.length = s.size from Array.length_toList]
  refine does_of Tryz.func252 rfl rfl Tryz.ntmps252 rfl eNUM (fun c => ?_)
  have hc := bl_check b p v tl T hp hl
  (refine go ?_; intros)
  (show wpO _ _ ⟨_, .call _, _, _, _, _⟩ _ _ _ _ _ _; refine o_callA (hc) (fun _ _ => ?_); try simp only [List.cons_append, List.nil_append])
  (refine go ?_; intros)
  refine o_append (m := s.size) (news := u8s s.data.toList) (sz := 1) rfl rfl rfl rfl rfl rfl rfl rfl pK (src_str rfl) ?_ rfl (fun v' => ?_)
  · have hb : Tryz.prog.types[5].bytes ≤ 1000 := by decide +kernel
    have := Nat.mul_le_mul hs hb
    omega
  refine wpE_fact (sl_one pK) (fun h1 => ?_)
  (refine go ?_; intros)
  exact q_ret2 rfl rfl rfl v' rfl trivial eNT
theorem bl_string (b : Nat) (p v : Value) (tl : List Value) (T : TypeId) (l : List UInt8) (hn : l.length ≤ 1000000000) : FnDoes Tryz.prog 51 [pt0 b] [bldC b p v tl T, frI tU8 v l]
    (fun _ : Unit => True) (fun _ => .string (txt l)) (fun _ => [bldC b p v tl T, frI tU8 v l]) := by
  refine does_of Tryz.func51 rfl rfl Tryz.ntmps51 rfl eNUM (fun c => ?_)
  refine wpC_fact (fr_one pK) (fun hv => ?_)
  obtain ⟨a, cap, rfl, hv⟩ := hv
  have hv1 : a = none ∨ cap ≠ 0 := by rcases hv with h | h; exact .inl h.1; exact .inr h.1
  have hv2 : frP (.slice a l.length cap) l a := by
    rcases hv with ⟨_, _, h⟩ | ⟨_, b', rfl⟩
    · exact .inl h
    · exact .inr ⟨_, _, rfl, rfl⟩
  (refine go ?_; intros)
  refine wpC_drawnZ [bldC b p (.slice a l.length cap) tl T] 10 2 10 ?_
  ((first | refine dt 0 ?_ | refine dts 0 ?_); (first | refine dt 1 ?_ | refine dts 1 ?_); (first | refine dt 2 ?_ | refine dts 2 ?_); (first | refine dt 3 ?_ | refine dts 3 ?_))
  refine dtB 4 rfl (ev_sliceData rfl hv1) ?_
  ((first | refine dt 5 ?_ | refine dts 5 ?_); (first | refine dt 6 ?_ | refine dts 6 ?_); (first | refine dt 7 ?_ | refine dts 7 ?_); (first | refine dt 8 ?_ | refine dts 8 ?_); (first | refine df 9 ?_ | refine dfs 9 ?_))
  refine dz ?_
  (refine wpZ_val 10 rfl rfl (by decide +kernel) rfl rfl ?_; show OVL _ ⟨_, .call _, _, _, _, _⟩ _ _ _ _ _ _)
  refine x_unsafeString (by rfl) (by rfl) rfl (by rfl) (by kernel_rfl) hv2 (by omega) pK ?_
  (refine zf 11 ?_)
  refine zend ?_
  (refine go ?_; intros)
  exact q_ret1 rfl rfl () rfl trivial eNT
end Go.Proofs.YtnaabpfpldelmaaGreatDoor
set_option linter.unusedSimpArgs false
set_option linter.unusedVariables false
set_option maxRecDepth 20000
namespace Go.Proofs.YtnaabpfpldelmaaGreatDoor
open Go Go.Sx Go.Extern
def vG (G : Rg) : Prop := ∀ G' : Rg, grG G G' → ∀ s : ByteArray, s.size ≤ 65535 → FnDoes Tryz.prog 275 [.string s] [rgH G'] (fun _ : Unit => True) (fun _ => .bool (Lib.validD s.data.toList)) (fun _ => [rgH G'])
theorem vG.up {G G' : Rg} (h : vG G) (g : grG G G') : vG G' := fun G2 g2 => h G2 (g.trans g2)
abbrev slash1 : ByteArray := ⟨#[47]⟩
theorem r_count (w : World) (s : ByteArray) (k : Int) : (callFunc 277 [.string s, .int .u8 k].toArray).run Tryz.prog w = .ok (.value (.int .i64 (Lib.countByte s.data.toList k.toNat.toUInt8))) w := by
  rw [run_callFunc_extern (e := BytealgCount.count) Tryz.func277 (by kernel_rfl) (by kernel_rfl) (by kernel_rfl) (by kernel_rfl)]
  rw [show [Value.string s, Value.int .u8 k].toArray = #[.string s, .int .u8 k] from rfl, Lib.run_countString]
  rfl
theorem r_index (w : World) (s : ByteArray) (k : Int) : (callFunc 488 [.string s, .int .u8 k].toArray).run Tryz.prog w = .ok (.value (.int .i64 (Lib.indexByte s.data.toList k.toNat.toUInt8))) w := by
  rw [run_callFunc_extern (e := BytealgIndexByte.indexByte) Tryz.func488 (by kernel_rfl) (by kernel_rfl) (by kernel_rfl) (by kernel_rfl)]
  rw [show [Value.string s, Value.int .u8 k].toArray = #[.string s, .int .u8 k] from rfl, Lib.run_indexByteString]
  rfl
attribute [local irreducible] MidQ wpE wpO wpC qE wpQ wpQO wpH wpHO wpD wpDO wpZ Ev own emp exI sl ch PostS LoopQ Rd rowsAt
theorem st_count (s : ByteArray) : FnDoes Tryz.prog 211 [.string s, .string slash1] [] (fun k : Nat => k ≤ s.size) (fun k => nat64 k) (fun _ => []) := by
  have hz : slash1.size = 1 := rfl
  refine does_of Tryz.func211 rfl rfl Tryz.ntmps211 rfl eNUM (fun c => ?_)
  (refine go ?_; intros)
  refine o_evB (ev_strIndex (u := 47) rfl rfl rfl rfl) ?_
  (refine go ?_; intros)
  refine o_extP (fun w => r_count w s 47) ?_
  (refine go ?_; intros)
  exact q_ret1 rfl rfl _ rfl (by show List.count _ _ ≤ _; have := List.count_le_length (a := (47 : Int).toNat.toUInt8) (l := s.data.toList); rw [size_list] at this; exact this) eNT
theorem st_has (s : ByteArray) : FnDoes Tryz.prog 231 [.string s, .string slash1] [] (fun _ : Bool => True) (fun r => .bool r) (fun _ => []) := by
  have h1 : FnDoes Tryz.prog 434 [.string s, .int .u8 47] [] (fun _ : Int => True) (fun r => .int .i64 r) (fun _ => []) := by
    refine does_of Tryz.func434 rfl rfl Tryz.ntmps434 rfl eNUM (fun c => ?_)
    (refine go ?_; intros)
    refine o_extP (fun w => r_index w s 47) ?_
    (refine go ?_; intros)
    exact q_ret1 rfl rfl _ rfl trivial eNT
  have h2 : FnDoes Tryz.prog 352 [.string s, .string slash1] [] (fun _ : Int => True) (fun r => .int .i64 r) (fun _ => []) := by
    have hz : slash1.size = 1 := rfl
    refine does_of Tryz.func352 rfl rfl Tryz.ntmps352 rfl eNUM (fun c => ?_)
    (refine go ?_; intros)
    refine o_strS (fun e => ?_) (fun e => ?_)
    · (refine go ?_; intros)
      exact q_ret1 rfl rfl 0 rfl trivial eNT
    (refine go ?_; intros)
    refine o_evB (ev_strIndex (u := 47) rfl rfl rfl rfl) ?_
    (refine go ?_; intros)
    (show wpO _ _ ⟨_, .call _, _, _, _, _⟩ _ _ _ _ _ _; refine o_callA (h1) (fun r _ => ?_); try simp only [List.cons_append, List.nil_append])
    (refine go ?_; intros)
    exact q_ret1 rfl rfl r rfl trivial eNT
  have h3 : FnDoes Tryz.prog 278 [.string s, .string slash1] [] (fun _ : Int => True) (fun r => .int .i64 r) (fun _ => []) := by
    refine does_of Tryz.func278 rfl rfl Tryz.ntmps278 rfl eNUM (fun c => ?_)
    (refine go ?_; intros)
    (show wpO _ _ ⟨_, .call _, _, _, _, _⟩ _ _ _ _ _ _; refine o_callA (h2) (fun r _ => ?_); try simp only [List.cons_append, List.nil_append])
    (refine go ?_; intros)
    exact q_ret1 rfl rfl r rfl trivial eNT
  refine does_of Tryz.func231 rfl rfl Tryz.ntmps231 rfl eNUM (fun c => ?_)
  (refine go ?_; intros)
  (show wpO _ _ ⟨_, .call _, _, _, _, _⟩ _ _ _ _ _ _; refine o_callA (h3) (fun r _ => ?_); try simp only [List.cons_append, List.nil_append])
  (refine go ?_; intros)
  by_cases h : r ≥ 0
  · (refine go ?_; intros)
    exact q_ret1 rfl rfl true rfl trivial eNT
  · (refine go ?_; intros)
    exact q_ret1 rfl rfl false rfl trivial eNT
theorem lv_hidden (s : ByteArray) : FnDoes Tryz.prog 152 [.string s] [] (fun _ : Bool => True) (fun r => .bool r) (fun _ => []) := by
  have h1 : FnDoes Tryz.prog 279 [.string s, .string ⟨#[36]⟩] [] (fun _ : Bool => True) (fun r => .bool r) (fun _ => []) := by
    have hz : (⟨#[36]⟩ : ByteArray).size = 1 := rfl
    refine does_of Tryz.func279 rfl rfl Tryz.ntmps279 rfl eNUM (fun c => ?_)
    by_cases h : s.size ≥ 1
    · have h' : (s.size : Int) ≥ 1 := by omega
      (refine go ?_; intros)
      refine o_evB (ev_strTo (j := 1) rfl rfl rfl rfl h) ?_
      (refine go ?_; intros)
      refine o_strS (fun e => ?_) (fun e => ?_)
      · (refine go ?_; intros)
        exact q_ret1 rfl rfl true rfl trivial eNT
      · (refine go ?_; intros)
        exact q_ret1 rfl rfl false rfl trivial eNT
    · have h' : ¬ (s.size : Int) ≥ 1 := by omega
      (refine go ?_; intros)
      exact q_ret1 rfl rfl false rfl trivial eNT
  have h2 : FnDoes Tryz.prog 213 [.string s, .string ⟨#[36]⟩] [] (fun _ : Bool => True) (fun r => .bool r) (fun _ => []) := by
    refine does_of Tryz.func213 rfl rfl Tryz.ntmps213 rfl eNUM (fun c => ?_)
    (refine go ?_; intros)
    (show wpO _ _ ⟨_, .call _, _, _, _, _⟩ _ _ _ _ _ _; refine o_callA (h1) (fun r _ => ?_); try simp only [List.cons_append, List.nil_append])
    (refine go ?_; intros)
    exact q_ret1 rfl rfl r rfl trivial eNT
  refine does_of Tryz.func152 rfl rfl Tryz.ntmps152 rfl eNUM (fun c => ?_)
  (refine go ?_; intros)
  (show wpO _ _ ⟨_, .call _, _, _, _, _⟩ _ _ _ _ _ _; refine o_callA (h2) (fun r _ => ?_); try simp only [List.cons_append, List.nil_append])
  (refine go ?_; intros)
  exact q_ret1 rfl rfl r rfl trivial eNT
theorem lv_wild (s : ByteArray) : FnDoes Tryz.prog 148 [.string s] [] (fun _ : Bool => True) (fun r => .bool r) (fun _ => []) := by
  refine does_of Tryz.func148 rfl rfl Tryz.ntmps148 rfl eNUM (fun c => ?_)
  (refine go ?_; intros)
  refine o_range rfl Tryz.underlying9 rfl (fun b => ?_)
  (refine go ?_; intros)
  refine wpC_loop (σ := Nat) (fun i => i ≤ s.size) (fun i => [(0, .string s), (6, pt0 b)]) (fun i => [pts b (.stringIter s i)]) (fun i => s.size - i) 0 (Nat.zero_le _) sUB eNT (fun i hi => ?_)
  by_cases hlt : i < s.size
  · have hne := drop_ne hlt
    have hd := Lib.decodeL_drop s i
    have hw := Lib.decodeL_width (s.data.toList.drop i)
    have hle := Lib.decodeL_le (s.data.toList.drop i) hne
    rw [List.length_drop, size_list] at hle
    rw [hd] at hw hle
    (refine go ?_; intros)
    refine o_next rfl pK hlt rfl ?_
    by_cases h43 : ((Utf8.decode s i).1 : Int) = 43
    · (refine go ?_; intros)
      exact q_ret1 rfl rfl true rfl trivial eNT
    · by_cases h35 : ((Utf8.decode s i).1 : Int) = 35
      · (refine go ?_; intros)
        exact q_ret1 rfl rfl true rfl trivial eNT
      · (refine go ?_; intros)
        exact q_round (i + (Utf8.decode s i).2) (by omega) (by omega) sUB eNT
  · (refine go ?_; intros)
    refine o_nextEnd rfl pK hlt rfl ?_
    (refine go ?_; intros)
    exact q_ret1 rfl rfl false rfl trivial eNT
theorem lv_sized {G : Rg} (hG : okG G) (hV : vG G) (s : ByteArray) : FnDoes Tryz.prog 147 [.string s] [rgH G] (fun _ : Bool => True) (fun r => .bool r) (fun _ => [rgH G]) := by
  have hr := utf_right G.2 (hV G (Gr.refl _ _)) s
  have hc := st_count s
  have fin : ∀ (c0 : ByteArray), c0 = s → True := fun _ _ => trivial
  refine does_of Tryz.func147 rfl rfl Tryz.ntmps147 rfl eNUM (fun c => ?_)
  by_cases h0 : s = (⟨#[]⟩ : ByteArray)
  · (refine go ?_; intros)
    exact q_ret1 rfl rfl false rfl trivial eNT
  · by_cases h1 : (s.size : Int) > 96
    · (refine go ?_; intros)
      exact q_ret1 rfl rfl false rfl trivial eNT
    · (refine go ?_; intros)
      (show wpO _ _ ⟨_, .call _, _, _, _, _⟩ _ _ _ _ _ _; refine o_callA (hr) (fun _ _ => ?_); try simp only [List.cons_append, List.nil_append])
      cases rightD s with
      | false =>
        (refine go ?_; intros)
        exact q_ret1 rfl rfl false rfl trivial eNT
      | true =>
        (refine go ?_; intros)
        (show wpO _ _ ⟨_, .call _, _, _, _, _⟩ _ _ _ _ _ _; refine o_callA (hc) (fun k hk => ?_); try simp only [List.cons_append, List.nil_append])
        (refine go ?_; intros)
        refine o_cmpS (fun h => ?_) (fun h => ?_)
        · (refine go ?_; intros)
          exact q_ret1 rfl rfl true rfl trivial eNT
        · (refine go ?_; intros)
          exact q_ret1 rfl rfl false rfl trivial eNT
theorem lv_name {G : Rg} (hG : okG G) (hV : vG G) (s : ByteArray) : FnDoes Tryz.prog 108 [.string s] [rgH G] (fun _ : Bool => True) (fun r => .bool r) (fun _ => [rgH G]) := by
  have hr := lv_sized hG hV s
  have hw := lv_wild s
  refine does_of Tryz.func108 rfl rfl Tryz.ntmps108 rfl eNUM (fun c => ?_)
  (refine go ?_; intros)
  (show wpO _ _ ⟨_, .call _, _, _, _, _⟩ _ _ _ _ _ _; refine o_callA (hr) (fun r _ => ?_); try simp only [List.cons_append, List.nil_append])
  cases r with
  | false =>
    (refine go ?_; intros)
    exact q_ret1 rfl rfl false rfl trivial eNT
  | true =>
    (refine go ?_; intros)
    (show wpO _ _ ⟨_, .call _, _, _, _, _⟩ _ _ _ _ _ _; refine o_callA (hw) (fun r _ => ?_); try simp only [List.cons_append, List.nil_append])
    (refine go ?_; intros)
    exact q_ret1 rfl rfl _ rfl trivial eNT
set_option maxHeartbeats 1000000 in
theorem lv_split {G : Rg} (hG : okG G) (s : ByteArray) (hs : s.size ≤ 65536) : FnDoes Tryz.prog 151 [.string s] [rgH G] (fun y : Rg × Value × Nat => okG y.1 ∧ grG G y.1 ∧ slG y.1 tStr y.2.1 y.2.2 ∧ 1 ≤ y.2.2 ∧ y.2.2 ≤ 65537) (fun y => y.2.1) (fun y => [rgH y.1]) := by
  have hc := st_count s
  refine does_of Tryz.func151 rfl rfl Tryz.ntmps151 rfl eNUM (fun c => ?_)
  (refine go ?_; intros)
  refine wpC_scopeJ (σ := ByteArray × Rg × Value × Nat) (fun x => okG x.2.1 ∧ grG G x.2.1 ∧ slG x.2.1 tStr x.2.2.1 x.2.2.2 ∧ x.2.2.2 + x.1.size ≤ s.size) (fun x => [(0, .string x.1), (3, x.2.2.1)]) (fun x => [rgH x.2.1]) (fun x => x.1.size) 0 s.size rfl (fun x hx => ?_) (fun J => ?_)
  · obtain ⟨s', G1, v, m⟩ := x
    obtain ⟨hG1, hgr, hv, hm⟩ := hx
    try dsimp only at hG1 hgr hv hm ⊢
    (refine go ?_; intros)
    refine o_range rfl Tryz.underlying9 rfl (fun b => ?_)
    (refine go ?_; intros)
    refine wpC_loop (σ := Nat) (fun i => i ≤ s'.size) (fun i => [(0, .string s'), (3, v), (11, pt0 b)]) (fun i => [rgH G1, pts b (.stringIter s' i)]) (fun i => s'.size - i) 0 (Nat.zero_le _) sUB eNT (fun i hi => ?_)
    by_cases hlt : i < s'.size
    · have hne := drop_ne hlt
      have hd := Lib.decodeL_drop s' i
      have hw := Lib.decodeL_width (s'.data.toList.drop i)
      have hle := Lib.decodeL_le (s'.data.toList.drop i) hne
      rw [List.length_drop, size_list] at hle
      rw [hd] at hw hle
      (refine go ?_; intros)
      refine o_next rfl pK hlt rfl ?_
      by_cases h43 : ((Utf8.decode s' i).1 : Int) = 47
      · have hi1 : (i : Int) + 1 ≤ 2 ^ 63 - 1 := by omega
        have hx1 : (s'.extract 0 i).size ≤ 65536 := by rw [ByteArray.size_extract]; omega
        have hx2 : (s'.extract (i + 1) s'.size).size = s'.size - (i + 1) := by rw [ByteArray.size_extract]; omega
        (refine go ?_; intros)
        refine wpC_drawnT ?_
        (refine zt 0 ?_; refine zt 1 ?_; refine zt 2 ?_)
        refine wpZ_take 3 rfl (fun _ => ev_strTo (j := i) rfl rfl rfl rfl hi) ?_ rfl (by kernel_rfl) (by kernel_rfl) (by decide +kernel) rfl rfl
        (refine zt 6 ?_; refine zt 7 ?_)
        refine wpZ_take 8 rfl (fun _ => ev_arith rfl rfl rfl (wrap64_of (by omega) (by omega))) ?_ rfl (by kernel_rfl) (by kernel_rfl) (by decide +kernel) rfl rfl
        refine wpZ_take 9 rfl (fun _ => ev_strFrom (j := i + 1) rfl rfl (by omega) rfl (by omega)) ?_ rfl (by kernel_rfl) (by kernel_rfl) (by decide +kernel) rfl rfl
        (refine wpZ_val 4 rfl rfl (by decide +kernel) rfl rfl ?_; show OVL _ ⟨_, .buildSlice _ _ _, _, _, _, _⟩ _ _ _ _ _ _)
        refine x_buildSlice1 (by rfl) (by rfl) (by rfl) (by rfl) (by rfl) (by rfl) (by rfl) (by rfl) (fun bb => ?_)
        (refine wpZ_val 5 rfl rfl (by decide +kernel) rfl rfl ?_; show OVL _ ⟨_, .call { callee := .builtin .append, args := _, argTypes := _ }, _, _, _, _⟩ _ _ _ _ _ _)
        refine x_appendR (S := shp) (m := 1) (news := [.string (s'.extract 0 i)]) pK hG1 hv (str_row hx1) ?_ (fun v' ρ' H' w1 w2 w3 => ?_) (src_pts rfl pK rfl rfl rfl)
        · show (m + 1) * 16 ≤ 140737488355328
          omega
        have hv1 := w3.one
        (refine zf 10 ?_; refine zf 11 ?_)
        refine zend ?_
        (refine go ?_; intros)
        first | refine wpC_goto ?_ | skip
        repeat (first | refine q_then_goto ?_ | refine q_block_goto ?_)
        exact q_goto (s'.extract (i + 1) s'.size, (ρ', H'), v', m + 1) ⟨w1, hgr.trans w2, w3, by dsimp only; omega⟩ (by dsimp only; omega) sUB eNT
      · (refine go ?_; intros)
        exact q_round (i + (Utf8.decode s' i).2) (by omega) (by omega) sUB eNT
    · (refine go ?_; intros)
      refine o_nextEnd rfl pK hlt rfl ?_
      (refine go ?_; intro bb)
      refine o_appendR (S := shp) (m := 1) (news := [.string s']) hG1 hv (str_row (by omega)) ?_ (fun v' ρ' H' w1 w2 w3 => ?_) (src_pts rfl pK rfl rfl rfl)
      · show (m + 1) * 16 ≤ 140737488355328
        omega
      have hv1 := w3.one
      (refine go ?_; intros)
      exact q_scope (fun _ h => by cases h) (q_ret1 rfl rfl ((ρ', H'), v', m + 1) rfl ⟨w1, hgr.trans w2, w3, by dsimp only; omega, by dsimp only; omega⟩ eNT)
  · (refine go ?_; intros)
    (show wpO _ _ ⟨_, .call _, _, _, _, _⟩ _ _ _ _ _ _; refine o_callA (hc) (fun k hk => ?_); try simp only [List.cons_append, List.nil_append])
    (refine go ?_; intros)
    refine o_makeSliceC (S := shp) hG (l := k + 1) ?_ (.inr ⟨?_, by omega⟩) (fun v ρ' H' w1 w2 w3 => ?_)
    · have hb : Tryz.prog.types[9].bytes ≤ 1000 := by decide +kernel
      have := Nat.mul_le_mul (show k + 1 ≤ 65537 by omega) hb
      omega
    · decide +kernel
    have hv1 := w3.one
    (refine go ?_; intros)
    refine wpC_label ?_
    exact q_then (J (s, (ρ', H'), v, 0) _ _ ⟨w1, w2, w3, by dsimp only; omega⟩ (Nat.le_refl _) sUB eNT)
end Go.Proofs.YtnaabpfpldelmaaGreatDoor
set_option linter.unusedSimpArgs false
set_option linter.unusedVariables false
namespace Go.Sx
open Go Go.Conc
variable {P : Program} {ops : Array Oper} {Q : Exit → Act → World → Prop} {c : Cx} {n : Nat} {L : Env} {M : List HProp} {rest : List Oper} {o : Oper}
variable {ty : TypeId} {pos : String} {after : Array Edge} {g : Option (Nat × Bool)} {dst : Option Nat}
theorem ev_copy0 {t tx e : TypeId} {x y : Operand} {i : TypeInfo} {a : Option Addr} {dl dc : Nat} (hx : opnd L x = some (.slice a dl dc)) (hy : opnd L y = some (.slice none 0 0)) (hu : P.underlying t = some (.slice e)) (hi : P.info? e = some i) : Ev P ⟨dst, .call { callee := .builtin .copy, args := #[x, y], argTypes := #[t, tx] }, ty, pos, after, g⟩ c n L M (.int .i64 0) := fun T w s => by
  have h0 := run_firstCells_none w i.size 0 0 0 (P := P)
  have hm : Nat.min 0 dl = 0 := Nat.zero_min _
  cases a with
  | none => simp [execOp, resolve, invoke, builtin, opnd_eval s.slots hx, opnd_eval s.slots hy, Builtin.copy_, run_underlying hu, Builtin.lenOf, sizeOf, typeInfo, hi, hm, h0, goInt]
  | some a => simp [execOp, resolve, invoke, builtin, opnd_eval s.slots hx, opnd_eval s.slots hy, Builtin.copy_, run_underlying hu, Builtin.lenOf, sizeOf, typeInfo, hi, hm, h0, goInt, storeCells]
theorem Ent.slOfBlk {e : TypeId} {b : Nat} {cs : List Value} {M R : List HProp} (h : cs.length ≤ maxLen) (p : Pick M (pts b (.cells cs.toArray e (0, 0))) R) : Ent M (sl e 1 (.slice (some ⟨b, 0, none⟩) 0 cs.length) 0 [] :: R) := fun hh s => by
  obtain ⟨h1, h2, a, r, d, l1, l2⟩ := p.sep s
  exact ⟨h1, h2, ⟨rfl, rfl, .inr ⟨b, cs.length, cs, rfl, Nat.zero_le _, h, by simp, a⟩⟩, r, d, l1, l2⟩
theorem ev_cap_slice {x : Operand} {t e : TypeId} {a : Option Addr} {len cap : Nat} (hx : opnd L x = some (.slice a len cap)) (hu : P.underlying t = some (.slice e)) : Ev P ⟨dst, .call { callee := .builtin .cap, args := #[x], argTypes := #[t] }, ty, pos, after, g⟩ c n L M (.int .i64 cap) := fun T w s => by
  simp [execOp, resolve, invoke, builtin, opnd_eval s.slots hx, Builtin.cap_, run_underlying hu, goInt]
end Go.Sx
