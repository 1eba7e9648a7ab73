/-
  The operations over the symbolic frame and heap. No program in sight.
-/
import Derived.Test.YtnaabpfpldelmaaGreatDoorM01
import Derived.Laws.StructEq
import Derived.Laws.Build
import Derived.Laws.Rows
import Derived.Laws.CopyRow
import Derived.IntWalk
set_option linter.unusedSimpArgs false
set_option linter.unusedVariables false
namespace Go.Sx
open Go Go.Conc
variable {P : Program} {ops : Array Oper} {Q : Exit → Act → World → Prop} {c : Cx} {n : Nat} {L : Env} {M : List HProp} {rest : List Oper}
variable {dst : Option Nat} {ty : TypeId} {pos : String} {after : Array Edge} {g : Option (Nat × Bool)}
theorem ev_move {x : Operand} {v : Value} (hx : opnd L x = some v) : Ev P ⟨dst, .move x, ty, pos, after, g⟩ c n L M v := fun T w s => by
  simp [execOp, opnd_eval s.slots hx]
theorem ev_assign {x : Operand} {v : Value} (hx : opnd L x = some v) : Ev P ⟨dst, .assign x, ty, pos, after, g⟩ c n L M v := fun T w s => by
  simp [execOp, opnd_eval s.slots hx]
theorem ev_pick_t {x y z : Operand} {v : Value} (hx : opnd L x = some (.bool true)) (hy : opnd L y = some v) : Ev P ⟨dst, .pick x y z, ty, pos, after, g⟩ c n L M v := fun T w s => by
  simp [execOp, opnd_eval s.slots hx, opnd_eval s.slots hy, asBool]
theorem ev_pick_f {x y z : Operand} {v : Value} (hx : opnd L x = some (.bool false)) (hz : opnd L z = some v) : Ev P ⟨dst, .pick x y z, ty, pos, after, g⟩ c n L M v := fun T w s => by
  simp [execOp, opnd_eval s.slots hx, opnd_eval s.slots hz, asBool]
def arith : BinOp → IntKind → Int → Int → Option Int
  | .add, k, a, b => some (k.wrap (a + b))
  | .sub, k, a, b => some (k.wrap (a - b))
  | .mul, k, a, b => some (k.wrap (a * b))
  | _, _, _, _ => none
theorem ev_arith {op : BinOp} {t t' : TypeId} {x y : Operand} {k : IntKind} {a b r r' : Int} (hx : opnd L x = some (.int k a)) (hy : opnd L y = some (.int k b)) (hr : arith op k a b = some r) (h : r = r') :
    Ev P ⟨dst, .binOp op t x y t', ty, pos, after, g⟩ c n L M (.int k r') := fun T w s => by
  subst h
  cases op <;> simp only [arith] at hr <;> first | (cases hr; done) | (cases hr; simp [execOp, opnd_eval s.slots hx, opnd_eval s.slots hy, eqGuard, binOp, Op.intArith])
theorem wrap64_of {r : Int} (h1 : -9223372036854775808 ≤ r) (h2 : r ≤ 9223372036854775807) : IntKind.i64.wrap r = r := IntWalk.i64_in _ ⟨h1, h2⟩
theorem ev_rem {t t' : TypeId} {x y : Operand} {k : IntKind} {a b r : Int} (hx : opnd L x = some (.int k a)) (hy : opnd L y = some (.int k b)) (h0 : 0 ≤ a) (h1 : 0 < b) (h : a % b = r) :
    Ev P ⟨dst, .binOp .rem t x y t', ty, pos, after, g⟩ c n L M (.int k r) := fun T w s => by
  have hb : b ≠ 0 := by omega
  simp [execOp, opnd_eval s.slots hx, opnd_eval s.slots hy, eqGuard, binOp, Op.intDiv, hb, ← h, Int.tmod_eq_emod_of_nonneg h0]
theorem ev_quo {t t' : TypeId} {x y : Operand} {k : IntKind} {a b r : Int} (hx : opnd L x = some (.int k a)) (hy : opnd L y = some (.int k b)) (h0 : 0 ≤ a) (h1 : 0 < b) (h : k.wrap (a / b) = r) :
    Ev P ⟨dst, .binOp .quo t x y t', ty, pos, after, g⟩ c n L M (.int k r) := fun T w s => by
  have hb : b ≠ 0 := by omega
  simp [execOp, opnd_eval s.slots hx, opnd_eval s.slots hy, eqGuard, binOp, Op.intDiv, hb, ← h, Int.tdiv_eq_ediv_of_nonneg h0]
def cmpI : BinOp → Int → Int → Option Bool
  | .eql, a, b => some (a == b)
  | .neq, a, b => some (a != b)
  | .lss, a, b => some (decide (a < b))
  | .leq, a, b => some (decide (a ≤ b))
  | .gtr, a, b => some (decide (a > b))
  | .geq, a, b => some (decide (a ≥ b))
  | _, _, _ => none
theorem ev_cmp {op : BinOp} {t t' : TypeId} {x y : Operand} {k : IntKind} {a b : Int} {r : Bool} (hx : opnd L x = some (.int k a)) (hy : opnd L y = some (.int k b)) (hr : cmpI op a b = some r) :
    Ev P ⟨dst, .binOp op t x y t', ty, pos, after, g⟩ c n L M (.bool r) := fun T w s => by
  cases op <;> simp only [cmpI] at hr <;> first | (cases hr; done) | (cases hr; simp [execOp, opnd_eval s.slots hx, opnd_eval s.slots hy, eqGuard, binOp, Op.intCmp])
def cmpP : BinOp → Int → Int → Prop
  | .eql, a, b => a = b
  | .neq, a, b => a ≠ b
  | .lss, a, b => a < b
  | .leq, a, b => a ≤ b
  | .gtr, a, b => b < a
  | .geq, a, b => b ≤ a
  | _, _, _ => False
def isCmp : BinOp → Bool
  | .eql | .neq | .lss | .leq | .gtr | .geq => true
  | _ => false
theorem ev_cmp_t {op : BinOp} {t t' : TypeId} {x y : Operand} {k : IntKind} {a b : Int} (hx : opnd L x = some (.int k a)) (hy : opnd L y = some (.int k b)) (hc : isCmp op = true) (h : cmpP op a b) :
    Ev P ⟨dst, .binOp op t x y t', ty, pos, after, g⟩ c n L M (.bool true) := by
  cases op <;> simp only [cmpP, isCmp, Bool.false_eq_true] at h hc <;> refine ev_cmp hx hy ?_ <;> simp [cmpI] <;> omega
theorem ev_cmp_f {op : BinOp} {t t' : TypeId} {x y : Operand} {k : IntKind} {a b : Int} (hx : opnd L x = some (.int k a)) (hy : opnd L y = some (.int k b)) (hc : isCmp op = true) (h : ¬ cmpP op a b) :
    Ev P ⟨dst, .binOp op t x y t', ty, pos, after, g⟩ c n L M (.bool false) := by
  cases op <;> simp only [cmpP, isCmp, Bool.false_eq_true] at h hc <;> refine ev_cmp hx hy ?_ <;> simp [cmpI] <;> omega
theorem ev_not {t : TypeId} {x : Operand} {b r : Bool} (hx : opnd L x = some (.bool b)) (hr : (!b) = r) : Ev P ⟨dst, .unOp .not t x, ty, pos, after, g⟩ c n L M (.bool r) := fun T w s => by
  subst hr; simp [execOp, opnd_eval s.slots hx, Op.unary]
theorem ev_conv_int {s' d : TypeId} {x : Operand} {k k' : IntKind} {a r : Int} {ds : TypeDesc} (hx : opnd L x = some (.int k a)) (h1 : P.underlying s' = some ds) (h2 : P.underlying d = some (.int k')) (hr : k'.wrap a = r) :
    Ev P ⟨dst, .convert s' d x, ty, pos, after, g⟩ c n L M (.int k' r) := fun T w s => by
  subst hr
  simp [execOp, opnd_eval s.slots hx, convert, run_underlying h1, run_underlying h2, Conv.intToInt]
theorem ev_bin {op : BinOp} {t t' : TypeId} {x y : Operand} {a b v : Value} (hx : opnd L x = some a) (hy : opnd L y = some b)
    (h : ∀ w, HSt c M w → (eqGuard op t x y a b).run P w = .ok () w ∧ (binOp op t a b).run P w = .ok v w) : Ev P ⟨dst, .binOp op t x y t', ty, pos, after, g⟩ c n L M v := fun T w s => by
  obtain ⟨h1, h2⟩ := h w s.heap
  simp only [execOp, opnd_eval s.slots hx, opnd_eval s.slots hy, Sem.run_bind, h1, h2, Result.andThen_ok, Sem.run_pure]
def nilOp : BinOp → Bool → Option Bool
  | .eql, b => some b
  | .neq, b => some (!b)
  | _, _ => none
theorem run_eqn {op : BinOp} {t : TypeId} {a0 b0 : Operand} {a b : Value} {r : Bool} {w : World} (h0 : ∀ op, op = .eql ∨ op = .neq → eqGuard op t a0 b0 a b = pure ()) (h1 : binOp .eql t a b = (do pure (.bool (← Op.equal t a b)))) (h2 : binOp .neq t a b = (do pure (.bool (!(← Op.equal t a b)))))
    (h : (Op.equalIn (9999 + 1) t a b).run P w = .ok r w) {r' : Bool} (hr : nilOp op r = some r') : (eqGuard op t a0 b0 a b).run P w = .ok () w ∧ (binOp op t a b).run P w = .ok (.bool r') w := by
  have he : (Op.equal t a b).run P w = .ok r w := h
  cases op <;> simp only [nilOp] at hr <;> (try (cases hr; done)) <;> cases hr
  · exact ⟨by rw [h0 _ (.inl rfl)]; rfl, by rw [h1, Sem.run_bind, he]; rfl⟩
  · exact ⟨by rw [h0 _ (.inr rfl)]; rfl, by rw [h2, Sem.run_bind, he]; rfl⟩
theorem ev_eq_bool {op : BinOp} {t t' : TypeId} {x y : Operand} {a b r : Bool} (hx : opnd L x = some (.bool a)) (hy : opnd L y = some (.bool b)) (hu : P.underlying t = some .bool)
    (hr : nilOp op (a == b) = some r) : Ev P ⟨dst, .binOp op t x y t', ty, pos, after, g⟩ c n L M (.bool r) := ev_bin hx hy fun w _ =>
  run_eqn (by rintro _ (rfl | rfl) <;> rfl) rfl rfl (by rw [Op.equalIn, Sem.run_bind, run_underlying hu]; rfl) hr
theorem ev_nil_ptr {op : BinOp} {t t' e : TypeId} {x : Operand} {a : Option Addr} {r : Bool} (hx : opnd L x = some (.pointer a)) (hu : P.underlying t = some (.pointer e)) (hr : nilOp op a.isNone = some r) :
    Ev P ⟨dst, .binOp op t x (.const (.pointer none)) t', ty, pos, after, g⟩ c n L M (.bool r) := ev_bin hx rfl fun w _ =>
  run_eqn (by cases a <;> rintro _ (rfl | rfl) <;> rfl) (by cases a <;> rfl) (by cases a <;> rfl) (by rw [Op.equalIn, Sem.run_bind, run_underlying hu]; cases a <;> rfl) hr
theorem ev_nil_chan {op : BinOp} {t t' e : TypeId} {d : ChanDir} {x : Operand} {a : Option Nat} {r : Bool} (hx : opnd L x = some (.chan a)) (hu : P.underlying t = some (.chan d e)) (hr : nilOp op a.isNone = some r) :
    Ev P ⟨dst, .binOp op t x (.const (.chan none)) t', ty, pos, after, g⟩ c n L M (.bool r) := ev_bin hx rfl fun w _ =>
  run_eqn (by rintro _ (rfl | rfl) <;> rfl) rfl rfl (by rw [Op.equalIn, Sem.run_bind, run_underlying hu]; cases a <;> rfl) hr
theorem ev_nil_map {op : BinOp} {t t' k e : TypeId} {x : Operand} {a : Option Nat} {r : Bool} (hx : opnd L x = some (.map a)) (hu : P.underlying t = some (.map k e)) (hr : nilOp op a.isNone = some r) :
    Ev P ⟨dst, .binOp op t x (.const (.map none)) t', ty, pos, after, g⟩ c n L M (.bool r) := ev_bin hx rfl fun w _ =>
  run_eqn (by rintro _ (rfl | rfl) <;> rfl) rfl rfl (by rw [Op.equalIn, Sem.run_bind, run_underlying hu]; cases a <;> rfl) hr
theorem ev_nil_slice {op : BinOp} {t t' e : TypeId} {x : Operand} {a : Option Addr} {l cp : Nat} {r : Bool} (hx : opnd L x = some (.slice a l cp)) (hu : P.underlying t = some (.slice e)) (hr : nilOp op a.isNone = some r) :
    Ev P ⟨dst, .binOp op t x (.const (.slice none 0 0)) t', ty, pos, after, g⟩ c n L M (.bool r) := ev_bin hx rfl fun w _ =>
  run_eqn (by rintro _ (rfl | rfl) <;> rfl) rfl rfl (by rw [Op.equalIn, Sem.run_bind, run_underlying hu]; cases a <;> rfl) hr
theorem bytes_beq {a b : ByteArray} : (a.toList == b.toList) = decide (a = b) := by
  rw [ByteArray.toList_eq, ByteArray.toList_eq]
  obtain ⟨⟨x⟩⟩ := a
  obtain ⟨⟨y⟩⟩ := b
  by_cases h : x = y
  · subst h; simp
  · simp [h]
theorem ev_eq_str {op : BinOp} {t t' : TypeId} {x y : Operand} {a b : ByteArray} {r : Bool} (hx : opnd L x = some (.string a)) (hy : opnd L y = some (.string b)) (hr : nilOp op (decide (a = b)) = some r) :
    Ev P ⟨dst, .binOp op t x y t', ty, pos, after, g⟩ c n L M (.bool r) := ev_bin hx hy fun w _ => by
  cases op <;> simp only [nilOp] at hr <;> (try (cases hr; done)) <;> cases hr <;> exact ⟨by simp [eqGuard], by simp [binOp, Op.stringOp, bytes_beq]⟩
def aggD : TypeDesc → Bool
  | .struct _ | .array _ _ => true
  | _ => false
theorem run_isAgg {t : TypeId} {d : TypeDesc} (hu : P.underlying t = some d) (w : World) : (isAgg t).run P w = .ok (aggD d) w := by
  simp only [isAgg, Sem.run_bind, run_underlying hu, Result.andThen_ok]
  cases d <;> rfl
theorem cell_pts {b off : Nat} {l : List Value} {T : TypeId} {f : Nat × Nat} {w : World} (h : w.heap[b]? = some (.cells l.toArray T f)) : w.cell? ⟨b, off, none⟩ = l[off]? := by
  simp [World.cell?, h]
theorem add_lit (b off k : Nat) : (⟨b, off, none⟩ : Addr).add k = ⟨b, off + k, none⟩ := by unfold Addr.add; split <;> simp_all
theorem run_loadVar_one {t : TypeId} {d : TypeDesc} {a : Addr} {v : Value} {w : World} (hu : P.underlying t = some d) (ha : aggD d = false) (hc : w.cell? a = some v) : (loadVar t a).run P w = .ok v w := by
  simp only [loadVar, Sem.run_bind, run_isAgg hu, ha, Result.andThen_ok, Bool.false_eq_true, if_false, run_load, hc]
theorem run_loadVar_agg {t : TypeId} {d : TypeDesc} {i : TypeInfo} {b off : Nat} {vs : List Value} {w : World} (hu : P.underlying t = some d) (ha : aggD d = true) (hi : P.info? t = some i) (hs : vs.length = i.size)
    (hc : ∀ j v, vs[j]? = some v → w.cell? ⟨b, off + j, none⟩ = some v) : (loadVar t ⟨b, off, none⟩).run P w = .ok (.agg vs.toArray) w := by
  have hl := run_loadCells_list (P := P) w ⟨b, off, none⟩ vs (fun j v e => by rw [add_lit]; exact hc j v e)
  simp only [loadVar, Sem.run_bind, run_isAgg hu, ha, Result.andThen_ok, if_true, sizeOf, typeInfo, run_program, hi, Sem.run_pure, ← hs, hl]
theorem ev_load {t : TypeId} {x : Operand} {b off : Nat} {l : List Value} {T' : TypeId} {f : Nat × Nat} {R : List HProp} {d : TypeDesc} {v : Value} (hx : opnd L x = some (.pointer (some ⟨b, off, none⟩))) (hu : P.underlying t = some d) (ha : aggD d = false)
    (hp : Pick M (pts b (.cells l.toArray T' f)) R) (hv : l[off]? = some v) : Ev P ⟨dst, .load t x, ty, pos, after, g⟩ c n L M v := fun T w s => by
  have hc : w.cell? ⟨b, off, none⟩ = some v := by rw [cell_pts (s.heap.pts hp), hv]
  simp only [execOp, opnd_eval s.slots hx, Instr.loadAt, Instr.sureAddr, Sem.run_bind, Sem.run_pure, Result.andThen_ok, run_loadVar_one hu ha hc]
theorem ev_load_agg {t : TypeId} {x : Operand} {b off : Nat} {l vs : List Value} {T' : TypeId} {f : Nat × Nat} {R : List HProp} {d : TypeDesc} {i : TypeInfo} (hx : opnd L x = some (.pointer (some ⟨b, off, none⟩))) (hu : P.underlying t = some d) (ha : aggD d = true)
    (hi : P.info? t = some i) (hp : Pick M (pts b (.cells l.toArray T' f)) R) (hv : (l.drop off).take i.size = vs) (hs : vs.length = i.size) : Ev P ⟨dst, .load t x, ty, pos, after, g⟩ c n L M (.agg vs.toArray) := fun T w s => by
  have hc : ∀ j v, vs[j]? = some v → w.cell? ⟨b, off + j, none⟩ = some v := fun j v e => by
    rw [cell_pts (s.heap.pts hp)]
    rw [← hv, List.getElem?_take] at e
    split at e
    · simpa using e
    · cases e
  simp only [execOp, opnd_eval s.slots hx, Instr.loadAt, Instr.sureAddr, Sem.run_bind, Sem.run_pure, Result.andThen_ok, run_loadVar_agg hu ha hi hs hc]
theorem ev_load_whole {t : TypeId} {x : Operand} {b : Nat} {l : List Value} {T' : TypeId} {f : Nat × Nat} {R : List HProp} {d : TypeDesc} {i : TypeInfo} (hx : opnd L x = some (.pointer (some ⟨b, 0, none⟩))) (hu : P.underlying t = some d) (ha : aggD d = true)
    (hi : P.info? t = some i) (hp : Pick M (pts b (.cells l.toArray T' f)) R) (hs : l.length = i.size) : Ev P ⟨dst, .load t x, ty, pos, after, g⟩ c n L M (.agg l.toArray) := ev_load_agg hx hu ha hi hp (by simp [← hs]) hs
theorem ev_load_own {t : TypeId} {x : Operand} {a : Addr} {H : PHeap} {R : List HProp} {d : TypeDesc} {v : Value} (hx : opnd L x = some (.pointer (some a))) (hu : P.underlying t = some d) (ha : aggD d = false)
    (hp : Pick M (own H) R) (hv : H.cell? a = some v) : Ev P ⟨dst, .load t x, ty, pos, after, g⟩ c n L M v := fun T w s => by
  have hc : w.cell? a = some v := cell_of_le (s.heap.own hp) hv
  simp only [execOp, opnd_eval s.slots hx, Instr.loadAt, Instr.sureAddr, Sem.run_bind, Sem.run_pure, Result.andThen_ok, run_loadVar_one hu ha hc]
theorem ev_load_own_agg {t : TypeId} {x : Operand} {b off : Nat} {H : PHeap} {vs : List Value} {R : List HProp} {d : TypeDesc} {i : TypeInfo} (hx : opnd L x = some (.pointer (some ⟨b, off, none⟩))) (hu : P.underlying t = some d) (ha : aggD d = true)
    (hi : P.info? t = some i) (hp : Pick M (own H) R) (hs : vs.length = i.size) (hv : ∀ j v, vs[j]? = some v → H.cell? ⟨b, off + j, none⟩ = some v) : Ev P ⟨dst, .load t x, ty, pos, after, g⟩ c n L M (.agg vs.toArray) := fun T w s => by
  have hc : ∀ j v, vs[j]? = some v → w.cell? ⟨b, off + j, none⟩ = some v := fun j v e => cell_of_le (s.heap.own hp) (hv j v e)
  simp only [execOp, opnd_eval s.slots hx, Instr.loadAt, Instr.sureAddr, Sem.run_bind, Sem.run_pure, Result.andThen_ok, run_loadVar_agg hu ha hi hs hc]
theorem ev_fieldAddr {t : TypeId} {x : Operand} {i b off k : Nat} {fs : Array Field} {f : Field} {fi : TypeInfo} (hx : opnd L x = some (.pointer (some ⟨b, off, none⟩))) (hu : P.underlying t = some (.struct fs)) (hf : fs[i]? = some f)
    (hi : P.info? f.type = some fi) (hz : Nat.beq fi.size 0 = false) (hk : off + f.offset = k) : Ev P ⟨dst, .fieldAddr t x i, ty, pos, after, g⟩ c n L M (.pointer (some ⟨b, k, none⟩)) := fun T w s => by
  have hz' : ¬ fi.size = 0 := fun e => by rw [e] at hz; cases hz
  simp only [execOp, opnd_eval s.slots hx, Instr.fieldAt, Instr.sureAddr, Sem.run_bind, run_underlying hu, Sem.run_pure, Result.andThen_ok, hf, fieldPlace, sizeOf, typeInfo, run_program, hi, hz', if_false, add_lit, hk]
theorem ev_nilCheck {x : Operand} {a : Addr} (hx : opnd L x = some (.pointer (some a))) : Ev P ⟨dst, .nilCheck x, ty, pos, after, g⟩ c n L M (.pointer (some a)) := fun T w s => by
  simp only [execOp, opnd_eval s.slots hx, Sem.run_pure]
theorem ev_extract {x : Operand} {vs : List Value} {i : Nat} {v : Value} (hx : opnd L x = some (.tuple vs.toArray)) (hi : vs[i]? = some v) : Ev P ⟨dst, .extract x i, ty, pos, after, g⟩ c n L M v := fun T w s => by
  simp [execOp, opnd_eval s.slots hx, Instr.extract, hi]
theorem ev_indexAddr {t e : TypeId} {x y : Operand} {b o len cap i k : Nat} {kk : IntKind} {j : Int} {ei : TypeInfo} (hx : opnd L x = some (.slice (some ⟨b, o, none⟩) len cap)) (hy : opnd L y = some (.int kk j)) (hu : P.underlying t = some (.slice e))
    (hi : P.info? e = some ei) (hj : j = (i : Int)) (hl : i < len) (hk : o + i * ei.size = k) : Ev P ⟨dst, .indexAddr t x y, ty, pos, after, g⟩ c n L M (.pointer (some ⟨b, k, none⟩)) := fun T w s => by
  have h1 : 0 ≤ j ∧ j < (len : Int) := by omega
  have h2 : j.toNat = i := by omega
  simp only [execOp, opnd_eval s.slots hx, opnd_eval s.slots hy, Instr.indexAt, asIntOf, Sem.run_bind, run_underlying hu, Sem.run_pure, Result.andThen_ok, sizeOf, typeInfo, run_program, hi, h1, and_self, if_true, h2, add_lit, hk, Bool.and_false]
theorem ev_field {t : TypeId} {x : Operand} {i : Nat} {cs : List Value} {fs : Array Field} {f : Field} {d : TypeDesc} {v : Value} (hx : opnd L x = some (.agg cs.toArray)) (hu : P.underlying t = some (.struct fs)) (hf : fs[i]? = some f)
    (hd : P.underlying f.type = some d) (ha : aggD d = false) (hv : cs[f.offset]? = some v) : Ev P ⟨dst, .field t x i, ty, pos, after, g⟩ c n L M v := fun T w s => by
  simp only [execOp, opnd_eval s.slots hx, Instr.field, Sem.run_bind, run_underlying hu, Sem.run_pure, Result.andThen_ok, hf, asAgg, part, run_isAgg hd, ha, Bool.false_eq_true, if_false, List.getElem?_toArray, hv]
theorem ev_field_agg {t : TypeId} {x : Operand} {i : Nat} {cs vs : List Value} {fs : Array Field} {f : Field} {d : TypeDesc} {fi : TypeInfo} (hx : opnd L x = some (.agg cs.toArray)) (hu : P.underlying t = some (.struct fs)) (hf : fs[i]? = some f)
    (hd : P.underlying f.type = some d) (ha : aggD d = true) (hi : P.info? f.type = some fi) (hv : (cs.drop f.offset).take fi.size = vs) : Ev P ⟨dst, .field t x i, ty, pos, after, g⟩ c n L M (.agg vs.toArray) := fun T w s => by
  have e : cs.toArray.extract f.offset (f.offset + fi.size) = vs.toArray := by
    rw [← hv]; simp [List.extract_eq_take_drop]
  simp only [execOp, opnd_eval s.slots hx, Instr.field, Sem.run_bind, run_underlying hu, Sem.run_pure, Result.andThen_ok, hf, asAgg, part, run_isAgg hd, ha, if_true, sizeOf, typeInfo, run_program, hi, e]
theorem ev_len_slice {t : TypeId} {e : TypeId} {x : Operand} {a : Option Addr} {len cap : Nat} (hx : opnd L x = some (.slice a len cap)) (hu : P.underlying t = some (.slice e)) :
    Ev P ⟨dst, .call { callee := .builtin .len, args := #[x], argTypes := #[t] }, ty, pos, after, g⟩ c n L M (.int .i64 len) := fun T w s => by
  simp [execOp, resolve, invoke, builtin, opnd_eval s.slots hx, Builtin.len_, run_underlying hu, goInt]
theorem ev_len_str {t : TypeId} {x : Operand} {a : ByteArray} (hx : opnd L x = some (.string a)) (hu : P.underlying t = some .string) :
    Ev P ⟨dst, .call { callee := .builtin .len, args := #[x], argTypes := #[t] }, ty, pos, after, g⟩ c n L M (.int .i64 a.size) := fun T w s => by
  simp [execOp, resolve, invoke, builtin, opnd_eval s.slots hx, Builtin.len_, run_underlying hu, goInt]
theorem ev_or {t t' : TypeId} {x y : Operand} {k : IntKind} {a b r : Int} (hx : opnd L x = some (.int k a)) (hy : opnd L y = some (.int k b)) (hr : k.wrap ((BitVec.ofInt k.bits a ||| BitVec.ofInt k.bits b).toNat) = r) : Ev P ⟨dst, .binOp .or t x y t', ty, pos, after, g⟩ c n L M (.int k r) := fun T w s => by
  simp only [execOp, opnd_eval s.slots hx, opnd_eval s.slots hy, eqGuard, binOp, Op.intBits, hr]
  simp
theorem ev_and {t t' : TypeId} {x y : Operand} {k : IntKind} {a b r : Int} (hx : opnd L x = some (.int k a)) (hy : opnd L y = some (.int k b)) (hr : k.wrap ((BitVec.ofInt k.bits a &&& BitVec.ofInt k.bits b).toNat) = r) : Ev P ⟨dst, .binOp .and t x y t', ty, pos, after, g⟩ c n L M (.int k r) := fun T w s => by
  simp only [execOp, opnd_eval s.slots hx, opnd_eval s.slots hy, eqGuard, binOp, Op.intBits, hr]
  simp
theorem ev_shl {t t' : TypeId} {x y : Operand} {k k' : IntKind} {a r : Int} {m : Nat} (hx : opnd L x = some (.int k a)) (hy : opnd L y = some (.int k' m)) (hm : m ≤ k.bits) (hr : k.wrap (a * 2 ^ m) = r) : Ev P ⟨dst, .binOp .shl t x y t', ty, pos, after, g⟩ c n L M (.int k r) := fun T w s => by
  have h3 : ¬ ((m : Int) < 0) := by omega
  simp only [execOp, opnd_eval s.slots hx, opnd_eval s.slots hy, eqGuard, binOp, Op.shift, h3, if_false, Int.toNat_natCast, Nat.min_eq_left hm, hr]
  simp
theorem ev_shr {t t' : TypeId} {x y : Operand} {k k' : IntKind} {a r : Int} {m : Nat} (hx : opnd L x = some (.int k a)) (hy : opnd L y = some (.int k' m)) (hm : m ≤ k.bits) (hr : a / 2 ^ m = r) : Ev P ⟨dst, .binOp .shr t x y t', ty, pos, after, g⟩ c n L M (.int k r) := fun T w s => by
  have h3 : ¬ ((m : Int) < 0) := by omega
  have h4 : a.fdiv (2 ^ m) = r := by rw [Int.fdiv_eq_ediv_of_nonneg a (Int.pow_nonneg (by omega))]; exact hr
  simp only [execOp, opnd_eval s.slots hx, opnd_eval s.slots hy, eqGuard, binOp, Op.shift, h3, if_false, Int.toNat_natCast, Nat.min_eq_left hm, h4]
  simp
theorem bv_nat {k a : Nat} (h : a < 2 ^ k) : (BitVec.ofInt k (a : Int)).toNat = a := by
  rw [BitVec.toNat_ofInt]
  have : ((a : Int) % (2 ^ k : Nat)).toNat = a := by
    rw [Int.emod_eq_of_lt (by omega) (by exact_mod_cast h)]; simp
  exact this
theorem i64_or {a b : Nat} (ha : a < 2 ^ 63) (hb : b < 2 ^ 63) : IntKind.i64.wrap ((BitVec.ofInt IntKind.i64.bits (a : Int) ||| BitVec.ofInt IntKind.i64.bits (b : Int)).toNat) = ((a ||| b : Nat) : Int) := by
  have h := Nat.or_lt_two_pow ha hb
  rw [BitVec.toNat_or, bv_nat (k := IntKind.i64.bits) (Nat.lt_of_lt_of_le ha (by decide)), bv_nat (k := IntKind.i64.bits) (Nat.lt_of_lt_of_le hb (by decide))]
  exact wrap64_of (by omega) (by omega)
theorem i64_and {a b : Nat} (ha : a < 2 ^ 63) (hb : b < 2 ^ 63) : IntKind.i64.wrap ((BitVec.ofInt IntKind.i64.bits (a : Int) &&& BitVec.ofInt IntKind.i64.bits (b : Int)).toNat) = ((a &&& b : Nat) : Int) := by
  have h : a &&& b ≤ a := Nat.and_le_left
  rw [BitVec.toNat_and, bv_nat (k := IntKind.i64.bits) (Nat.lt_of_lt_of_le ha (by decide)), bv_nat (k := IntKind.i64.bits) (Nat.lt_of_lt_of_le hb (by decide))]
  exact wrap64_of (by omega) (by omega)
theorem or_256 (a b : Nat) (h : b < 256) : a * 256 ||| b = a * 256 + b := by
  have := Nat.two_pow_add_eq_or_of_lt (i := 8) (b := b) (by omega) a
  rw [Nat.mul_comm a 256]; exact this.symm
theorem i64_or256 {a b : Nat} (ha : a < 256) (hb : b < 256) : IntKind.i64.wrap ((BitVec.ofInt IntKind.i64.bits ((a : Int) * 256) ||| BitVec.ofInt IntKind.i64.bits (b : Int)).toNat) = ((a * 256 + b : Nat) : Int) := by
  rw [← or_256 a b hb, ← i64_or (a := a * 256) (b := b) (by omega) (by omega), Int.natCast_mul]
  rfl
theorem ev_and64 {t t' : TypeId} {x y : Operand} {a b : Nat} (hx : opnd L x = some (.int .i64 (a : Int))) (hy : opnd L y = some (.int .i64 (b : Int))) (ha : a < 9223372036854775808) (hb : b < 9223372036854775808) : Ev P ⟨dst, .binOp .and t x y t', ty, pos, after, g⟩ c n L M (.int .i64 ((a &&& b : Nat) : Int)) := ev_and hx hy (i64_and ha hb)
theorem ev_or64 {t t' : TypeId} {x y : Operand} {a b : Nat} (hx : opnd L x = some (.int .i64 (a : Int))) (hy : opnd L y = some (.int .i64 (b : Int))) (ha : a < 9223372036854775808) (hb : b < 9223372036854775808) : Ev P ⟨dst, .binOp .or t x y t', ty, pos, after, g⟩ c n L M (.int .i64 ((a ||| b : Nat) : Int)) := ev_or hx hy (i64_or ha hb)
theorem ev_quo64 {t t' : TypeId} {x y : Operand} {a b : Nat} (hx : opnd L x = some (.int .i64 (a : Int))) (hy : opnd L y = some (.int .i64 (b : Int))) (ha : a < 9223372036854775808) (hb : 0 < b) : Ev P ⟨dst, .binOp .quo t x y t', ty, pos, after, g⟩ c n L M (.int .i64 ((a / b : Nat) : Int)) := ev_quo hx hy (by omega) (by omega) (by
  have h : a / b ≤ a := Nat.div_le_self a b
  rw [← Int.natCast_ediv]; generalize a / b = q at h ⊢; exact wrap64_of (by omega) (by omega))
theorem ev_and64c {t t' : TypeId} {x y : Operand} {a k : Nat} (hx : opnd L x = some (.int .i64 (a : Int))) (hy : opnd L y = some (.int .i64 (OfNat.ofNat k : Int))) (ha : a < 9223372036854775808) (hb : Nat.blt k 9223372036854775808 = true) : Ev P ⟨dst, .binOp .and t x y t', ty, pos, after, g⟩ c n L M (.int .i64 ((a &&& (OfNat.ofNat k : Nat) : Nat) : Int)) := ev_and64 (b := k) hx hy ha (by simpa [Nat.blt_eq] using hb)
theorem ev_or64c {t t' : TypeId} {x y : Operand} {a k : Nat} (hx : opnd L x = some (.int .i64 (a : Int))) (hy : opnd L y = some (.int .i64 (OfNat.ofNat k : Int))) (ha : a < 9223372036854775808) (hb : Nat.blt k 9223372036854775808 = true) : Ev P ⟨dst, .binOp .or t x y t', ty, pos, after, g⟩ c n L M (.int .i64 ((a ||| (OfNat.ofNat k : Nat) : Nat) : Int)) := ev_or64 (b := k) hx hy ha (by simpa [Nat.blt_eq] using hb)
theorem ev_quo64c {t t' : TypeId} {x y : Operand} {a k : Nat} (hx : opnd L x = some (.int .i64 (a : Int))) (hy : opnd L y = some (.int .i64 (OfNat.ofNat k : Int))) (ha : a < 9223372036854775808) (hb : Nat.blt 0 k = true) : Ev P ⟨dst, .binOp .quo t x y t', ty, pos, after, g⟩ c n L M (.int .i64 ((a / (OfNat.ofNat k : Nat) : Nat) : Int)) := ev_quo64 (b := k) hx hy ha (by simpa [Nat.blt_eq] using hb)
end Go.Sx
