/-
  Equality of structs of plain fields. No program in sight.
-/
import Derived.Test.YtnaabpfpldelmaaGreatDoorM03
set_option linter.unusedSimpArgs false
set_option linter.unusedVariables false
namespace Go.Sx
open Go Go.Conc
variable {P : Program} {ops : Array Oper} {Q : Exit → Act → World → Prop} {c : Cx} {n : Nat} {L : Env} {M : List HProp} {rest : List Oper}
def partV (P : Program) (t : TypeId) (cs : Array Value) (off : Nat) : Option Value :=
  match P.underlying t with
  | none => none
  | some d => if aggD d then (match P.info? t with | some i => some (.agg (cs.extract off (off + i.size))) | none => none) else cs[off]?
theorem run_part {t : TypeId} {cs : Array Value} {off : Nat} {v : Value} {w : World} (h : partV P t cs off = some v) : (part t cs off).run P w = .ok v w := by
  unfold partV at h
  cases hu : P.underlying t with
  | none => rw [hu] at h; cases h
  | some d =>
    rw [hu] at h
    simp only at h
    unfold part
    simp only [Sem.run_bind, run_isAgg hu, Result.andThen_ok]
    cases ha : aggD d with
    | true =>
      rw [ha] at h
      cases hi : P.info? t with
      | none => rw [hi] at h; cases h
      | some i => rw [hi] at h; cases h; simp [sizeOf, typeInfo, run_program, hi]
    | false =>
      rw [ha] at h
      simp only [Bool.false_eq_true, if_false] at h ⊢
      simp [h]
def eqF (P : Program) (g : TypeId → Value → Value → Option Bool) (xs ys : Array Value) : List Field → Option Bool
  | [] => some true
  | f :: r => if f.name ≠ "_" then
      match partV P f.type xs f.offset, partV P f.type ys f.offset with
      | some a, some b => match g f.type a b, eqF P g xs ys r with
        | some p, some q => some (p && q)
        | _, _ => none
      | _, _ => none
    else eqF P g xs ys r
def eqV (P : Program) : Nat → TypeId → Value → Value → Option Bool
  | 0, _, _, _ => none
  | d + 1, t, x, y => match P.underlying t, x, y with
    | some .bool, .bool a, .bool b => some (a == b)
    | some (.int _), .int k a, .int k' b => if k = k' then some (a == b) else none
    | some .string, .string a, .string b => some (decide (a = b))
    | some (.struct fs), .agg xs, .agg ys => if P.stoodInHeld t then none else eqF P (eqV P d) xs ys fs.toList
    | _, _, _ => none
theorem run_eqF {d k : Nat} {w : World} (ih : ∀ t x y r, eqV P d t x y = some r → (Op.equalIn (d + k) t x y).run P w = .ok r w) {xs ys : Array Value} : ∀ {fs : List Field} {r : Bool}, eqF P (eqV P d) xs ys fs = some r → (Op.eqFields (d + k) xs ys fs).run P w = .ok r w
  | [], r, h => by cases h; rfl
  | f :: fs, r, h => by
    unfold eqF at h
    unfold Op.eqFields
    split at h
    · rename_i hn
      rw [if_pos hn]
      split at h
      · rename_i a b ha hb
        split at h
        · rename_i p q hp hq
          cases h
          simp only [Sem.run_bind, run_part ha, run_part hb, Result.andThen_ok, ih _ _ _ _ hp]
          cases p
          · simp
          · simp [run_eqF ih hq]
        · cases h
      · cases h
    · rename_i hn
      rw [if_neg hn]
      exact run_eqF ih h
theorem run_eqV {k : Nat} {w : World} : ∀ (d : Nat) (t : TypeId) (x y : Value) (r : Bool), eqV P d t x y = some r → (Op.equalIn (d + k) t x y).run P w = .ok r w
  | 0, t, x, y, r, h => by cases h
  | d + 1, t, x, y, r, h => by
    rw [show d + 1 + k = (d + k) + 1 by omega]
    unfold eqV at h
    split at h
    · rename_i a b hu
      cases h
      rw [Op.equalIn, Sem.run_bind, run_underlying hu]; rfl
    · rename_i k1 k2 a k' b hu
      split at h
      · rename_i hk
        subst hk
        cases h
        rw [Op.equalIn, Sem.run_bind, run_underlying hu]
        simp
      · cases h
    · rename_i a b hu
      cases h
      rw [Op.equalIn, Sem.run_bind, run_underlying hu]
      simp [beq_toListBytes, bytes_beq]
    · rename_i fs xs ys hu
      split at h
      · cases h
      · rename_i hs
        have hu' : P.underlying t = some (.struct (P.fieldsOf t)) := by rw [hu]; simp [Program.fieldsOf, hu]
        rw [run_equalIn_struct w (d + k) t xs ys hu' (by simpa using hs)]
        have : (P.fieldsOf t).toList = fs.toList := by simp [Program.fieldsOf, hu]
        rw [this]
        exact run_eqF (fun t x y r h => run_eqV d t x y r h) h
    · cases h
theorem ev_eq_agg {op : BinOp} {t t' : TypeId} {x y : Operand} {xs ys : Array Value} {r r' : Bool} {dst : Option Nat} {ty : TypeId} {pos : String} {after : Array Edge} {g : Option (Nat × Bool)} (hx : opnd L x = some (.agg xs)) (hy : opnd L y = some (.agg ys))
    (hg : P.eqGuardType P.depth t = false) (hr : eqV P 6 t (.agg xs) (.agg ys) = some r) (ho : nilOp op r = some r') : Ev P ⟨dst, .binOp op t x y t', ty, pos, after, g⟩ c n L M (.bool r') := ev_bin hx hy fun w _ => by
  have he : (Op.equal t (.agg xs) (.agg ys)).run P w = .ok r w := run_eqV (k := 9994) 6 t _ _ r hr
  refine ⟨run_eqGuard_agg w op t x y xs ys hg, ?_⟩
  cases op <;> simp only [nilOp] at ho <;> (try (cases ho; done)) <;> cases ho
  · show (do pure (.bool (← Op.equal t (.agg xs) (.agg ys))) : Sem Value).run P w = _
    rw [Sem.run_bind, he]; rfl
  · show (do pure (.bool (!(← Op.equal t (.agg xs) (.agg ys)))) : Sem Value).run P w = _
    rw [Sem.run_bind, he]; rfl
theorem Ent.left (A R : List HProp) : Ent (A ++ R) A := fun h s => by
  obtain ⟨h1, h2, a, _, _, l1, _⟩ := sepL_append s
  exact sepL_mono l1 a
theorem wpO_ent {o : Oper} {N : List HProp} (e : Ent M N) (h : wpO P ops o rest Q c n L N) : wpO P ops o rest Q c n L M := fun i hi T w s wt => h i hi T w ⟨s.size, s.slots, s.heap.ent e⟩ wt
end Go.Sx
