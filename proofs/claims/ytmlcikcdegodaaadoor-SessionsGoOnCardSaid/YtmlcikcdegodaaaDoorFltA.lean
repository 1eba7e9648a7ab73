/-
  The package flight: what is sent, and how it is found.
-/
import Derived.Test.YtmlcikcdegodaaaDoorIdsS
import Derived.Test.YtmlcikcdegodaaaDoorFltM
import Derived.Test.YtmlcikcdegodaaaDoorSxN
import Derived.LaidEql
set_option linter.unusedSimpArgs false
set_option linter.unusedVariables false
set_option maxRecDepth 20000
namespace Go.Proofs.YtmlcikcdegodaaaDoor
open Go Go.Sx
def sentI (p : Nat) (s : PSent) : HProp := pts p (.cells (sentC s).toArray 135 (0, 0))
def blks (ps : List Nat) (L : List PSent) : List HProp := List.zipWith sentI ps L
theorem blks_len {ps : List Nat} {L : List PSent} (h : ps.length = L.length) : (blks ps L).length = L.length := by simp [blks, h]
theorem blks_at {ps : List Nat} {L : List PSent} {i : Nat} (hp : i < ps.length) (hL : i < L.length) : (blks ps L)[i]? = some (sentI ps[i] L[i]) := by simp [blks, List.getElem?_zipWith, hp, hL]
theorem blks_set {ps : List Nat} {L : List PSent} {i : Nat} {s : PSent} (hp : i < ps.length) (h : ps.length = L.length) : (blks ps L).set i (sentI ps[i] s) = blks ps (L.set i s) := by
  apply List.ext_getElem?
  intro j
  by_cases c : i = j
  · have hL : i < L.length := by omega
    subst c
    rw [List.getElem?_set_self (by simp [blks]; omega)]
    simp [blks, List.getElem?_zipWith, hp, hL]
  · rw [List.getElem?_set_ne c]
    simp only [blks, List.getElem?_zipWith]
    rw [List.getElem?_set_ne c]
theorem blks_snoc {ps : List Nat} {L : List PSent} {p : Nat} {s : PSent} (h : ps.length = L.length) : blks ps L ++ [sentI p s] = blks (ps ++ [p]) (L ++ [s]) := by
  simp [blks, List.zipWith_append h]
theorem blks_erase {ps : List Nat} {L : List PSent} {i : Nat} (h : ps.length = L.length) : (blks ps L).eraseIdx i = blks (ps.eraseIdx i) (L.eraseIdx i) := by
  apply List.ext_getElem?
  intro j
  simp only [blks, List.getElem?_eraseIdx, List.getElem?_zipWith]
  split <;> rfl
def ptrs (ps : List Nat) : List Value := ps.map ptr
theorem ptrs_len (ps : List Nat) : (ptrs ps).length = ps.length := by simp [ptrs]
theorem ptrs_one (ps : List Nat) : (ptrs ps).all (·.oneCell') = true := by simp [ptrs, ptr, Value.oneCell']
theorem ptrs_at {ps : List Nat} {i : Nat} {junk : List Value} (h : i < ps.length) : (ptrs ps ++ junk)[0 + i * 1]? = some (ptr ps[i]) := by
  rw [List.getElem?_append_left (by rw [ptrs_len]; omega), show 0 + i * 1 = i by omega]; simp [ptrs, h]
abbrev ptrsI (v : Value) (ps : List Nat) : HProp := sl 131 1 v ps.length (ptrs ps)
abbrev fltC (f : Nat) (v : Value) (d : Nat) : HProp := pts f (.cells [v, ptr d].toArray 129 (0, 0))
abbrev ptrsB (b : Nat) (l : List Value) : HProp := pts b (.cells l.toArray 131 (0, 0))
section
variable {P : Program} {c : Cx} {n : Nat} {L : Env} {M : List HProp} {dst : Option Nat} {ty : TypeId} {pos : String} {after : Array Edge} {g : Option (Nat × Bool)}
/-- A load from one of many. -/
theorem ev_load_star {t : TypeId} {x : Operand} {b off i : Nat} {l : List Value} {T' : TypeId} {f : Nat × Nat} {its R : List HProp} {d : TypeDesc} {v : Value} (hx : opnd L x = some (.pointer (some ⟨b, off, none⟩))) (hu : P.underlying t = some d) (ha : aggD d = false)
    (hp : Pick M (starI its) R) (hi : its[i]? = some (pts b (.cells l.toArray T' f))) (hv : l[off]? = some v) : Ev P ⟨dst, .load t x, ty, pos, after, g⟩ c n L M v := fun T w s => by
  have hc : w.cell? ⟨b, off, none⟩ = some v := by rw [cell_pts (HSt.star hp s.heap hi), hv]
  simp only [execOp, opnd_eval s.slots hx, Instr.loadAt, Instr.sureAddr, Sem.run_bind, Sem.run_pure, Result.andThen_ok, run_loadVar_one hu ha hc]
theorem ev_load_star_agg {t : TypeId} {x : Operand} {b off i : Nat} {l vs : List Value} {T' : TypeId} {f : Nat × Nat} {its R : List HProp} {d : TypeDesc} {ti : TypeInfo} (hx : opnd L x = some (.pointer (some ⟨b, off, none⟩))) (hu : P.underlying t = some d) (ha : aggD d = true) (hti : P.info? t = some ti)
    (hp : Pick M (starI its) R) (hi : its[i]? = some (pts b (.cells l.toArray T' f))) (hv : (l.drop off).take ti.size = vs) (hs : vs.length = ti.size) : Ev P ⟨dst, .load t x, ty, pos, after, g⟩ c n L M (.agg vs.toArray) := fun T w s => by
  have hc : ∀ j v, vs[j]? = some v → w.cell? ⟨b, off + j, none⟩ = some v := fun j v e => by
    rw [cell_pts (HSt.star hp s.heap hi)]
    rw [← hv, List.getElem?_take] at e
    split at e
    · simpa using e
    · cases e
  simp only [execOp, opnd_eval s.slots hx, Instr.loadAt, Instr.sureAddr, Sem.run_bind, Sem.run_pure, Result.andThen_ok, run_loadVar_agg hu ha hti hs hc]
/-- Two pointers, held against each other. -/
theorem ev_eq_ptr_same {t t' e : TypeId} {x y : Operand} {a : Addr} {i : TypeInfo} (hx : opnd L x = some (.pointer (some a))) (hy : opnd L y = some (.pointer (some a))) (hu : P.underlying t = some (.pointer e)) (hi : P.info? e = some i) (hz : Nat.beq i.size 0 = false) :
    Ev P ⟨dst, .binOp .eql t x y t', ty, pos, after, g⟩ c n L M (.bool true) := ev_bin hx hy fun w _ => by
  have hz' : i.size ≠ 0 := fun e => by rw [e] at hz; cases hz
  exact run_eqn (r := true) (by rintro _ (rfl | rfl) <;> rfl) rfl rfl (by
    rw [Op.equalIn, Sem.run_bind, run_underlying hu]
    simp [sizeOf, typeInfo, run_program, hi, hz', run_sameAddr_same]) rfl
theorem ev_eq_ptr_other {t t' e : TypeId} {x y : Operand} {b b' : Nat} {i : TypeInfo} {its R : List HProp} {j k : Nat} {l l' : List Value} {T1 T2 : TypeId} (hx : opnd L x = some (.pointer (some ⟨b, 0, none⟩))) (hy : opnd L y = some (.pointer (some ⟨b', 0, none⟩))) (hu : P.underlying t = some (.pointer e)) (hi : P.info? e = some i) (hz : Nat.beq i.size 0 = false)
    (hp : Pick M (starI its) R) (h1 : its[j]? = some (pts b (.cells l.toArray T1 (0, 0)))) (h2 : its[k]? = some (pts b' (.cells l'.toArray T2 (0, 0)))) (hjk : j ≠ k) :
    Ev P ⟨dst, .binOp .eql t x y t', ty, pos, after, g⟩ c n L M (.bool false) := ev_bin hx hy fun w s => by
  have hz' : i.size ≠ 0 := fun e => by rw [e] at hz; cases hz
  have hne : (⟨b, 0, none⟩ : Addr) ≠ ⟨b', 0, none⟩ := fun e => by
    have := HSt.star_ne hp s h1 h2 hjk
    cases e; exact this rfl
  exact run_eqn (r := false) (by rintro _ (rfl | rfl) <;> rfl) rfl rfl (by
    rw [Op.equalIn, Sem.run_bind, run_underlying hu]
    simp [sizeOf, typeInfo, run_program, hi, hz']
    exact run_sameAddr_other _ hne (HSt.star hp s h1) (HSt.star hp s h2)) rfl
end
attribute [local irreducible] MidQ wpE wpO wpC qE wpQ wpQO wpH wpHO wpD wpDO wpZ Ev own emp exI sl ch PostS LoopQ Rd rowsAt
attribute [local irreducible] starI
theorem flt_none (f d : Nat) (v : Value) : FnDoes Tryd.prog 55 [ptr f] [fltC f v d] (fun _ : Unit => True) (fun _ => .bool false) (fun _ => [fltC f v d]) := by
  refine does_of Tryd.func55 rfl rfl Tryd.ntmps55 rfl (by simp only [enum, Nat.reduceAdd, Nat.zero_add]; exact rfl) (fun c => ?_)
  (refine go ?_; intros)
  exact q_ret1 rfl rfl () rfl trivial (Ent.refl _)
end Go.Proofs.YtmlcikcdegodaaaDoor
