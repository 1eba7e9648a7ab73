/-
  Arrays, parts of rows, copying, shifts. No program in sight.
-/
import Derived.Test.YtmlcikcdegodaaaDoorSxI
set_option linter.unusedSimpArgs false
set_option linter.unusedVariables false
namespace Go.Sx
open Go Go.Conc

variable {P : Program} {ops : Array Oper} {Q : Exit → Act → World → Prop} {c : Cx} {n : Nat} {L : Env} {M : List HProp} {rest : List Oper}
variable {dst : Option Nat} {ty : TypeId} {pos : String} {after : Array Edge} {g : Option (Nat × Bool)}

theorem ev_indexArr {t e : TypeId} {x y : Operand} {b o m i : Nat} {kk : IntKind} {j : Int} {ei : TypeInfo} (s : Nat) (hx : opnd L x = some (.pointer (some ⟨b, o, none⟩))) (hy : opnd L y = some (.int kk j)) (hu : P.underlying t = some (.array m e))
    (hi : P.info? e = some ei) (hs : Nat.beq ei.size s = true) (hj : j = (i : Int)) (hl : i < m) : Ev P ⟨dst, .indexAddr t x y, ty, pos, after, g⟩ c n L M (.pointer (some ⟨b, o + i * s, none⟩)) := fun T w st => by
  have h1 : 0 ≤ j ∧ j < (m : Int) := by omega
  have h2 : j.toNat = i := by omega
  have h3 := Nat.eq_of_beq_eq_true hs
  simp only [execOp, opnd_eval st.slots hx, opnd_eval st.slots hy, Instr.indexAt, Instr.sureAddr, asIntOf, Sem.run_bind, run_underlying hu, Sem.run_pure, Result.andThen_ok, sizeOf, typeInfo, run_program, hi, h1, and_self, if_true, h2, h3, add_lit]

/-- Where a part begins that starts at l of n. -/
def cutOff (off n l sz : Nat) : Nat := if n = l then off else off + l * sz
theorem cutOff_lt {off n l sz : Nat} (h : l < n) : cutOff off n l sz = off + l * sz := by unfold cutOff; rw [if_neg (by omega)]
theorem addr_cut (b off n l sz : Nat) : (if n = l then (⟨b, off, none⟩ : Addr) else (⟨b, off, none⟩ : Addr).add (l * sz)) = ⟨b, cutOff off n l sz, none⟩ := by
  unfold cutOff; split <;> simp [add_lit]
section
variable {t e : TypeId} {x lo hi : Operand} {b off m l h len cap : Nat} {k1 k2 : IntKind} {j1 j2 : Int} {ei : TypeInfo} {a : Option Addr}
theorem run_bound {k : IntKind} {j : Int} {i y : Nat} {code : BoundsCode} {w : World} (hj : j = (i : Int)) (hy : i ≤ y) : (Instr.sliceBound (.int k j) y code).run P w = .ok i w := by
  have h1 : 0 ≤ j ∧ j ≤ (y : Int) := by omega
  have h2 : j.toNat = i := by omega
  simp only [Instr.sliceBound, asIntOf, Sem.run_bind, Sem.run_pure, Result.andThen_ok, h1, and_self, if_true, h2]
theorem ev_arrHi (hx : opnd L x = some (.pointer (some ⟨b, off, none⟩))) (hh : opnd L hi = some (.int k2 j2)) (hu : P.underlying t = some (.array m e)) (he : P.info? e = some ei) (hj2 : j2 = (h : Int)) (h2 : h ≤ m) :
    Ev P ⟨dst, .slice t x none (some hi) none, ty, pos, after, g⟩ c n L M (.slice (some ⟨b, off, none⟩) h m) := fun T w s => by
  have e2 : ∀ cd, (Instr.sliceBound (.int k2 j2) m cd).run P w = .ok h w := fun cd => run_bound hj2 h2
  simp only [execOp, opnd_eval s.slots hx, opnd_eval s.slots hh, Instr.sliceAt, Instr.sureAddr, Instr.sliceBounds, Option.map_some, Option.map_none, Sem.run_bind, run_underlying hu, Sem.run_pure, Result.andThen_ok, e2, sizeOf, typeInfo, run_program, he, Nat.zero_mul, Nat.sub_zero, add_lit, Nat.add_zero, ite_self]
theorem ev_arrLo (s : Nat) (hx : opnd L x = some (.pointer (some ⟨b, off, none⟩))) (hl : opnd L lo = some (.int k1 j1)) (hu : P.underlying t = some (.array m e)) (he : P.info? e = some ei) (hs : Nat.beq ei.size s = true) (hj1 : j1 = (l : Int)) (h1 : l ≤ m) :
    Ev P ⟨dst, .slice t x (some lo) none none, ty, pos, after, g⟩ c n L M (.slice (some ⟨b, cutOff off m l s, none⟩) (m - l) (m - l)) := fun T w st => by
  obtain rfl : ei.size = s := Nat.eq_of_beq_eq_true hs
  have e1 : ∀ cd, (Instr.sliceBound (.int k1 j1) m cd).run P w = .ok l w := fun cd => run_bound hj1 h1
  simp only [execOp, opnd_eval st.slots hx, opnd_eval st.slots hl, Instr.sliceAt, Instr.sureAddr, Instr.sliceBounds, Option.map_some, Option.map_none, Sem.run_bind, run_underlying hu, Sem.run_pure, Result.andThen_ok, e1, sizeOf, typeInfo, run_program, he, addr_cut, Option.isSome_none, Bool.false_eq_true, if_false]
theorem ev_arrLoHi (s : Nat) (hx : opnd L x = some (.pointer (some ⟨b, off, none⟩))) (hl : opnd L lo = some (.int k1 j1)) (hh : opnd L hi = some (.int k2 j2)) (hu : P.underlying t = some (.array m e)) (he : P.info? e = some ei) (hs : Nat.beq ei.size s = true) (hj1 : j1 = (l : Int)) (hj2 : j2 = (h : Int)) (h1 : l ≤ h) (h2 : h ≤ m) :
    Ev P ⟨dst, .slice t x (some lo) (some hi) none, ty, pos, after, g⟩ c n L M (.slice (some ⟨b, cutOff off m l s, none⟩) (h - l) (m - l)) := fun T w st => by
  obtain rfl : ei.size = s := Nat.eq_of_beq_eq_true hs
  have e1 : ∀ cd, (Instr.sliceBound (.int k1 j1) h cd).run P w = .ok l w := fun cd => run_bound hj1 h1
  have e2 : ∀ cd, (Instr.sliceBound (.int k2 j2) m cd).run P w = .ok h w := fun cd => run_bound hj2 h2
  simp only [execOp, opnd_eval st.slots hx, opnd_eval st.slots hl, opnd_eval st.slots hh, Instr.sliceAt, Instr.sureAddr, Instr.sliceBounds, Option.map_some, Option.map_none, Sem.run_bind, run_underlying hu, Sem.run_pure, Result.andThen_ok, e1, e2, sizeOf, typeInfo, run_program, he, addr_cut, Option.isSome_none, Bool.false_eq_true, if_false]
theorem ev_slcHi (hx : opnd L x = some (.slice a len cap)) (hh : opnd L hi = some (.int k2 j2)) (hu : P.underlying t = some (.slice e)) (he : P.info? e = some ei) (hj2 : j2 = (h : Int)) (h2 : h ≤ cap) :
    Ev P ⟨dst, .slice t x none (some hi) none, ty, pos, after, g⟩ c n L M (.slice a h cap) := fun T w s => by
  have e2 : ∀ cd, (Instr.sliceBound (.int k2 j2) cap cd).run P w = .ok h w := fun cd => run_bound hj2 h2
  have e3 : a.map (fun x => x.add 0) = a := by cases a <;> simp [Addr.add]
  simp only [execOp, opnd_eval s.slots hx, opnd_eval s.slots hh, Instr.sliceAt, Instr.slice, Instr.sliceBounds, Option.map_some, Option.map_none, Sem.run_bind, run_underlying hu, Sem.run_pure, Result.andThen_ok, e2, sizeOf, typeInfo, run_program, he, Nat.zero_mul, Nat.sub_zero, e3, ite_self]
theorem ev_slcLo (s : Nat) (hx : opnd L x = some (.slice a len cap)) (hl : opnd L lo = some (.int k1 j1)) (hu : P.underlying t = some (.slice e)) (he : P.info? e = some ei) (hs : Nat.beq ei.size s = true) (hj1 : j1 = (l : Int)) (h1 : l ≤ len) :
    Ev P ⟨dst, .slice t x (some lo) none none, ty, pos, after, g⟩ c n L M (.slice (if cap = l then a else a.map fun x => x.add (l * s)) (len - l) (cap - l)) := fun T w st => by
  obtain rfl : ei.size = s := Nat.eq_of_beq_eq_true hs
  have e1 : ∀ cd, (Instr.sliceBound (.int k1 j1) len cd).run P w = .ok l w := fun cd => run_bound hj1 h1
  simp only [execOp, opnd_eval st.slots hx, opnd_eval st.slots hl, Instr.sliceAt, Instr.slice, Instr.sliceBounds, Option.map_some, Option.map_none, Sem.run_bind, run_underlying hu, Sem.run_pure, Result.andThen_ok, e1, sizeOf, typeInfo, run_program, he, Option.isSome_none, Bool.false_eq_true, if_false]
end

theorem add_add (a : Addr) (x y : Nat) : (a.add x).add y = a.add (x + y) := by
  unfold Addr.add
  by_cases hx : x = 0 <;> by_cases hy : y = 0 <;> simp [hx, hy, Nat.add_assoc]
theorem Rd.take {X : HProp} {sz m cap k : Nat} {a : Option Addr} {xs : List Value} (hr : Rd X sz (.slice a m cap) m xs) (hk : k ≤ m) : Rd X sz (.slice a k cap) k (xs.take (k * sz)) := fun h hh => by
  obtain ⟨e1, e2, e3⟩ := hr h hh
  have hle : k * sz ≤ m * sz := Nat.mul_le_mul_right _ hk
  refine ⟨by rw [List.length_take, e1]; omega, ?_, ?_⟩
  · simp only [List.all_eq_true] at e2 ⊢
    exact fun x hx => e2 x (List.mem_of_mem_take hx)
  · rcases e3 with ⟨e, rfl⟩ | ⟨a0, c0, e, hc, hsp, hcell⟩
    · cases e
      obtain rfl : k = 0 := by omega
      exact .inl ⟨rfl, rfl⟩
    · cases e
      exact .inr ⟨a0, _, rfl, by omega, fun h0 => hsp (by omega), fun j u hu => hcell j u (by
        rw [List.getElem?_take] at hu
        split at hu
        · exact hu
        · cases hu)⟩
theorem Rd.drop {X : HProp} {sz m cap k : Nat} {a : Option Addr} {xs : List Value} (hr : Rd X sz (.slice a m cap) m xs) (hk : k ≤ m) : Rd X sz (.slice (if cap = k then a else a.map fun x => x.add (k * sz)) (m - k) (cap - k)) (m - k) (xs.drop (k * sz)) := fun h hh => by
  obtain ⟨e1, e2, e3⟩ := hr h hh
  have hl : (xs.drop (k * sz)).length = (m - k) * sz := by rw [List.length_drop, e1, Nat.sub_mul]
  refine ⟨hl, ?_, ?_⟩
  · simp only [List.all_eq_true] at e2 ⊢
    exact fun x hx => e2 x (List.mem_of_mem_drop hx)
  · rcases e3 with ⟨e, rfl⟩ | ⟨a0, c0, e, hc, hsp, hcell⟩
    · cases e
      obtain rfl : k = 0 := by omega
      exact .inl ⟨rfl, rfl⟩
    · cases e
      by_cases hck : cap = k
      · rw [if_pos hck]
        refine .inr ⟨a0, _, rfl, by omega, fun h0 => by omega, fun j u hu => ?_⟩
        have h1 : j < (xs.drop (k * sz)).length := (List.getElem?_eq_some_iff.1 hu).1
        have h2 : m - k = 0 := by omega
        rw [hl, h2, Nat.zero_mul] at h1
        omega
      · rw [if_neg hck]
        refine .inr ⟨a0.add (k * sz), _, rfl, by omega, fun h0 => ?_, fun j u hu => ?_⟩
        · unfold Addr.add
          split
          · exact hsp (by omega)
          · rfl
        · rw [add_add]
          rw [List.getElem?_drop] at hu
          exact hcell _ u hu

/-! ### a shift by one -/
theorem ev_shr1 {t t' : TypeId} {x y : Operand} {k k' : IntKind} {a : Int} (hx : opnd L x = some (.int k a)) (hy : opnd L y = some (.int k' 1)) : Ev P ⟨dst, .binOp .shr t x y t', ty, pos, after, g⟩ c n L M (.int k (a / 2)) := fun T w s => by
  have h1 : min (1 : Int).toNat k.bits = 1 := by cases k <;> decide
  have h2 : a.fdiv 2 = a / 2 := Int.fdiv_eq_ediv_of_nonneg a (by omega)
  have h3 : ¬ ((1 : Int) < 0) := by omega
  simp only [execOp, opnd_eval s.slots hx, opnd_eval s.slots hy, eqGuard, binOp, Op.shift, h1, h3, if_false, Int.reducePow, h2, Sem.run_bind, Sem.run_pure, Result.andThen_ok]
  simp [h2]

/-! ### copying within a row -/
def moved (C : List Value) (d s k : Nat) : List Value := C.take d ++ (C.drop s).take k ++ C.drop (d + k)
theorem moved_length {C : List Value} {d s k : Nat} (h1 : d + k ≤ C.length) (h2 : s + k ≤ C.length) : (moved C d s k).length = C.length := by simp [moved]; omega
theorem moved_get {C : List Value} {d s k j : Nat} (h1 : d + k ≤ C.length) (h2 : s + k ≤ C.length) : (moved C d s k)[j]? = if j < d then C[j]? else if j < d + k then C[j - d + s]? else C[j]? := by
  unfold moved
  have e1 : (C.take d).length = d := by simp; omega
  have e2 : ((C.drop s).take k).length = k := by simp; omega
  rw [List.append_assoc, List.getElem?_append]
  split
  · rename_i h
    rw [e1] at h
    rw [if_pos h, List.getElem?_take, if_pos h]
  · rename_i h
    rw [e1] at h
    rw [if_neg h, e1, List.getElem?_append]
    split
    · rename_i h'
      rw [e2] at h'
      rw [if_pos (by omega), List.getElem?_take, if_pos h', List.getElem?_drop]
      congr 1; omega
    · rename_i h'
      rw [e2] at h'
      rw [if_neg (by omega), e2, List.getElem?_drop]
      congr 1; omega
theorem moved_zero (C : List Value) (d s : Nat) : moved C d s 0 = C := by simp [moved]
theorem moved_one {C : List Value} {d s k : Nat} (h : C.all (·.oneCell') = true) : (moved C d s k).all (·.oneCell') = true := by
  simp only [List.all_eq_true] at h ⊢
  intro x hx
  unfold moved at hx
  rcases List.mem_append.1 hx with hx | hx
  · rcases List.mem_append.1 hx with hx | hx
    · exact h x (List.mem_of_mem_take hx)
    · exact h x (List.mem_of_mem_drop (List.mem_of_mem_take hx))
  · exact h x (List.mem_of_mem_drop hx)
/-- From one part of a row to another of the same row. -/
theorem x_copy {K : Env → List HProp → Prop} {d' : Nat} {t tx e : TypeId} {x y : Operand} {ei : TypeInfo} {b d s dl dc sl' sc k : Nat} {C : List Value} {T' : TypeId} {R : List HProp} (hx : opnd L x = some (.slice (some ⟨b, d, none⟩) dl dc)) (hy : opnd L y = some (.slice (some ⟨b, s, none⟩) sl' sc))
    (hu : P.underlying t = some (.slice e)) (hi : P.info? e = some ei) (hs1 : Nat.beq ei.size 1 = true) (hp : Pick M (pts b (.cells C.toArray T' (0, 0))) R) (hk : k = min sl' dl) (h1 : d + k ≤ C.length) (h2 : s + k ≤ C.length) (ho : C.all (·.oneCell') = true)
    (h : K ((d', .int .i64 k) :: L) (pts b (.cells (moved C d s k).toArray T' (0, 0)) :: R)) : OVL P ⟨some d', .call { callee := .builtin .copy, args := #[x, y], argTypes := #[t, tx] }, ty, pos, after, g⟩ c n L M d' K := fun T w st => by
  have hsz : ei.size = 1 := Nat.eq_of_beq_eq_true hs1
  have hb := st.heap.pts hp
  have hlen : ((C.drop s).take k).length = k := by simp; omega
  have hc : (Builtin.firstCells 1 k (.slice (some ⟨b, s, none⟩) sl' sc)).run P w = .ok ((C.drop s).take k).toArray w := by
    refine run_firstCells_some w 1 k ⟨b, s, none⟩ sl' sc _ (by rw [hlen]; omega) (fun j v e => ?_)
    rw [add_lit, cell_pts hb]
    rw [List.getElem?_take] at e
    split at e
    · simpa using e
    · cases e
  have hst := run_storeCells_at P b d T' ((C.drop s).take k) 0 C.toArray w hb (by rw [hlen]; simpa using h1) (fun v hv => List.all_eq_true.1 ho v (List.mem_of_mem_drop (List.mem_of_mem_take hv)))
  simp only [Nat.add_zero, hlen] at hst
  refine ⟨_, _, _, _, ?_, hst_setRow (l' := moved C d s k) hp st.heap, rfl, h⟩
  have hmin : Nat.min sl' dl = k := hk.symm
  have hst' : (storeCells ⟨b, d, none⟩ (List.take k (List.drop s C)) 0).run P w = .ok () (w.setRow b (moved C d s k).toArray) := hst
  simp [execOp, resolve, invoke, builtin, opnd_eval st.slots hx, opnd_eval st.slots hy, Builtin.copy_, run_underlying hu, Builtin.lenOf, sizeOf, typeInfo, hi, hsz, hc, hst', goInt, hmin]

/-! ### an operation with what follows -/
theorem o_ofX {o : Oper} {d : Nat} (ho : o.dst = some d) (hd : Nat.blt d n = true) (h : OVL P o c n L M d (fun L' M' => wpE P ops rest Q c n L' M')) : wpO P ops o rest Q c n L M := o_val ho hd fun T w s => by
  obtain ⟨v, w', L', M', hr, hst, hL, hk⟩ := h T w s
  exact ⟨v, w', L', M', hr, hst, hL, hk⟩
end Go.Sx
