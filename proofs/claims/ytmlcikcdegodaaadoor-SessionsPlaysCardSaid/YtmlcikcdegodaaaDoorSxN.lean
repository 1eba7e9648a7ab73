/-
  Many items in one; function values; clear; a result that is a cell. No program in sight.
-/
import Derived.Test.YtmlcikcdegodaaaDoorSxM
import Derived.Laws.CopyRow
set_option linter.unusedSimpArgs false
set_option linter.unusedVariables false
namespace Go.Sx
open Go Go.Conc

variable {P : Program} {ops : Array Oper} {Q : Exit → Act → World → Prop} {c : Cx} {n : Nat} {L : Env} {M : List HProp} {rest : List Oper}
variable {dst : Option Nat} {ty : TypeId} {pos : String} {after : Array Edge} {g : Option (Nat × Bool)}

/-! ### many items in one -/
def starI (l : List HProp) : HProp := fun h => sepL l h
theorem Ent.star {l R : List HProp} : Ent (starI l :: R) (l ++ R) := fun h s => by
  obtain ⟨h1, h2, a, r, d, l1, l2⟩ := s
  exact sepL_join a r d l1 l2
theorem Ent.unstar {l R : List HProp} : Ent (l ++ R) (starI l :: R) := fun h s => by
  obtain ⟨h1, h2, a, r, d, l1, l2⟩ := sepL_append s
  exact ⟨h1, h2, a, r, d, l1, l2⟩
theorem Pick.at {A : HProp} : ∀ {l : List HProp} {i : Nat}, l[i]? = some A → Pick l A (l.eraseIdx i)
  | [], _, h => by simp at h
  | X :: r, 0, h => by simp at h; subst h; exact .head
  | X :: r, i + 1, h => .tail (Pick.at (by simpa using h))
theorem Pick.app {A : HProp} {l r R : List HProp} (p : Pick l A r) : Pick (l ++ R) A (r ++ R) := by
  induction p with
  | head => exact .head
  | tail _ ih => exact .tail ih
theorem Picks.refl (M : List HProp) : Picks M M [] := by
  induction M with
  | nil => exact .nil
  | cons a M ih => exact .cons .head ih
theorem Ent.pick {M R : List HProp} {A : HProp} (p : Pick M A R) : Ent M (A :: R) := fun _ s => p.sep s
/-- One is taken out. -/
theorem Ent.starOut {A : HProp} {l R : List HProp} {i : Nat} (h : l[i]? = some A) : Ent (starI l :: R) (A :: starI (l.eraseIdx i) :: R) :=
  Ent.trans Ent.star (Ent.trans (Ent.pick (Pick.app (Pick.at h))) (Ent.cons .head Ent.unstar))
theorem ent_set {A : HProp} : ∀ {l : List HProp} {i : Nat}, i < l.length → Ent (A :: l.eraseIdx i) (l.set i A)
  | X :: r, 0, _ => Ent.refl _
  | X :: r, i + 1, h => Ent.cons (.tail .head) (ent_set (l := r) (i := i) (by simpa using h))
theorem ent_app_mono {A B R : List HProp} (h : Ent A B) : Ent (A ++ R) (B ++ R) := Ent.append h
/-- One is put in its place. -/
theorem Ent.starIn {A : HProp} {l R : List HProp} {i : Nat} (h : i < l.length) : Ent (A :: starI (l.eraseIdx i) :: R) (starI (l.set i A) :: R) :=
  Ent.trans (N := A :: (l.eraseIdx i ++ R)) (Ent.cons .head Ent.star) (Ent.trans (N := l.set i A ++ R) (by
    have := ent_app_mono (R := R) (ent_set (A := A) h)
    simpa using this) Ent.unstar)
theorem Ent.starSnoc {A : HProp} {l R : List HProp} : Ent (A :: starI l :: R) (starI (l ++ [A]) :: R) := by
  refine Ent.trans (N := (l ++ [A]) ++ R) ?_ Ent.unstar
  refine Ent.trans (N := A :: (l ++ R)) (Ent.cons .head Ent.star) ?_
  have := ent_app_mono (R := R) (Ent.comm (X := A) l)
  simpa using this
theorem Ent.out {A : HProp} {l R : List HProp} {i : Nat} (p : Pick M (starI l) R) (h : l[i]? = some A) : Ent M (A :: starI (l.eraseIdx i) :: R) := Ent.trans (Ent.pick p) (Ent.starOut h)
theorem Ent.back {A : HProp} {l R R' : List HProp} {i : Nat} (p : Pick M A R) (q : Pick R (starI (l.eraseIdx i)) R') (h : i < l.length) : Ent M (starI (l.set i A) :: R') := Ent.trans (Ent.cons p (Ent.pick q)) (Ent.starIn h)
theorem Ent.starNil {M : List HProp} {R : List HProp} (h : Ent M R) : Ent M (starI [] :: R) := fun hh s => ⟨fun _ => none, hh, trivial, h _ s, fun _ => .inl rfl, (fun _ _ e => by cases e), PHeap.le_refl _⟩
theorem HSt.star {l R : List HProp} {b : Nat} {o : Obj} {i : Nat} {w : World} (p : Pick M (starI l) R) (s : HSt c M w) (h : l[i]? = some (Sx.pts b o)) : w.heap[b]? = some o :=
  HSt.pts (M := Sx.pts b o :: starI (l.eraseIdx i) :: R) .head (HSt.ent (Ent.trans (Ent.pick p) (Ent.starOut h)) s)
/-- Two of them lie apart. -/
theorem HSt.star_ne {l R : List HProp} {b b' : Nat} {o o' : Obj} {i j : Nat} {w : World} (p : Pick M (starI l) R) (s : HSt c M w) (hi : l[i]? = some (Sx.pts b o)) (hj : l[j]? = some (Sx.pts b' o')) (hij : i ≠ j) : b ≠ b' := by
  have s1 := HSt.ent (Ent.trans (Ent.pick p) (Ent.trans (Ent.starOut hi) (Ent.cons .head Ent.star))) s
  have hk : ∃ k : Nat, (l.eraseIdx i)[k]? = some (Sx.pts b' o') := by
    by_cases c : j < i
    · exact ⟨j, by rw [List.getElem?_eraseIdx, if_pos c]; exact hj⟩
    · exact ⟨j - 1, by rw [List.getElem?_eraseIdx, if_neg (by omega), show j - 1 + 1 = j by omega]; exact hj⟩
  obtain ⟨k, hk⟩ := hk
  exact HSt.ne .head (Pick.app (Pick.at hk)) s1

/-! ### function values -/
theorem ev_makeFunc {f : Fn} {bs fs : List Operand} {vb vf : List Value} (hb : opnds L bs = some vb) (hf : opnds L fs = some vf) : Ev P ⟨dst, .makeFunc f bs.toArray fs.toArray, ty, pos, after, g⟩ c n L M (.func f vb.toArray vf.toArray) := fun T w s => by
  have e1 := opnds_eval (ds := c.ds) s.slots hb
  have e2 := opnds_eval (ds := c.ds) s.slots hf
  simp only [execOp, Instr.makeFunc, List.map_toArray, e1, e2, Sem.run_bind, Sem.run_pure, Result.andThen_ok]
theorem o_callV {σ : Type} {d : Nat} {f : FuncId} {x : Operand} {xs : List Operand} {ats : Array TypeId} {args fr : List Value} {A R : List HProp} {φ : σ → Prop} {val : σ → Value} {B : σ → List HProp}
    (S : FnDoes P f (args ++ fr) A φ val B) (hf : opnd L x = some (.func (.func f) #[] fr.toArray)) (hnf : ∀ g, x ≠ .func g) (hx : opnds L xs = some args) (hp : Ent M (A ++ R)) (hd : Nat.blt d n = true)
    (h : ∀ y, φ y → wpE P ops rest Q c n ((d, val y) :: L) (B y ++ R)) :
    wpO P ops ⟨some d, .call { callee := .value x, args := xs.toArray, argTypes := ats }, ty, pos, after, g⟩ rest Q c n L M := fun i hi T w s hw => by
  obtain ⟨h1, h2⟩ := drop_cons hi
  have hr : (execOp (Act.eval ⟨T, c.ds⟩) ⟨some d, .call { callee := .value x, args := xs.toArray, argTypes := ats }, ty, pos, after, g⟩).run P w = .ok (.enter f (args ++ fr).toArray) w := by
    have e1 := opnds_eval (ds := c.ds) s.slots hx
    have e2 := opnd_eval (ds := c.ds) s.slots hf
    have := S.may (args ++ fr).toArray w
    simp only [execOp, resolve, e2, Deferred.ofValue, Sem.run_bind, Sem.run_pure, Result.andThen_ok, invoke, List.map_toArray, e1]
    simpa using this
  refine wpI_call (i := i) (a := ⟨T, c.ds⟩) (by simpa using h1) hw hr (R := fun v w2 => ∃ y, φ y ∧ v = val y ∧ HSt c (B y ++ R) w2) ?_ ?_
  · intro cs
    obtain ⟨f', hh, m, l, dd⟩ := s.heap
    obtain ⟨ha, hr', a, r, dj, l1, l2⟩ := sepL_append (hp _ m)
    obtain ⟨e, w2, fr, ⟨y, hy, he, hst⟩, hcm, hfr, hl⟩ := S.does w ha a (PHeap.le_trans l1 l) cs
    refine ⟨e, w2, fr, ⟨val y, he, y, hy, rfl, ?_⟩, hcm, hfr, hl⟩
    exact HSt.call f' l dd r dj l1 l2 hst
  · rintro v w2 ⟨y, hy, rfl, hst⟩
    have := h y hy (i + 1) h2 (T.setIfInBounds d (val y)) w2 ⟨by simp [s.size], s.slots.put s.size hd _, hst⟩
    simpa [Act.put] using this
theorem o_callVA {σ : Type} {d : Nat} {f : FuncId} {x : Operand} {xs : List Operand} {ats : Array TypeId} {args fr : List Value} {A R : List HProp} {φ : σ → Prop} {val : σ → Value} {B : σ → List HProp}
    (S : FnDoes P f (args ++ fr) A φ val B) (h : ∀ y, φ y → wpE P ops rest Q c n ((d, val y) :: L) (B y ++ R)) (hf : opnd L x = some (.func (.func f) #[] fr.toArray) := by rfl) (hnf : ∀ g, x ≠ .func g := by (intro g_ h_; cases h_)) (hx : opnds L xs = some args := by rfl)
    (hp : Ent M (A ++ R) := by exact Picks.ent (by repeat (first | exact Picks.nil | (apply Picks.cons; repeat (first | exact Pick.head | apply Pick.tail))))) (hd : Nat.blt d n = true := by rfl) :
    wpO P ops ⟨some d, .call { callee := .value x, args := xs.toArray, argTypes := ats }, ty, pos, after, g⟩ rest Q c n L M := o_callV S hf hnf hx hp hd h

/-! ### clear, of one element of one cell -/
theorem o_clear1 {t e : TypeId} {x : Operand} {b off cap : Nat} {l l' : List Value} {T' : TypeId} {z : Value} {i : TypeInfo} {R : List HProp} (hx : opnd L x = some (.slice (some ⟨b, off, none⟩) 1 cap)) (hu : P.underlying t = some (.slice e)) (hi : P.info? e = some i) (hz : i.zero = some z)
    (hzc : z.cells = #[z]) (h1 : z.oneCell' = true) (hp : Pick M (pts b (.cells l.toArray T' (0, 0))) R) (hl : off < l.length) (hl' : l.set off z = l') (h : wpE P ops rest Q c n L (pts b (.cells l'.toArray T' (0, 0)) :: R)) :
    wpO P ops ⟨none, .call { callee := .builtin .clear, args := #[x], argTypes := #[t] }, ty, pos, after, g⟩ rest Q c n L M := fun i' hi' T w s hw => by
  obtain ⟨e1, e2⟩ := drop_cons hi'
  have hr := run_storeCells_at P b off T' [z] 0 l.toArray w (s.heap.pts hp) (by simp; omega) (by simpa using h1)
  simp only [Nat.add_zero] at hr
  have e9 : l.take off ++ [z] ++ l.drop (off + [z].length) = l' := by
    rw [← hl', List.set_eq_take_append_cons_drop, if_pos hl]; simp
  rw [e9] at hr
  have hzv : (zeroValue e).run P w = .ok z w := by simp [zeroValue, typeInfo, run_program, hi, hz]
  have hzl : (Builtin.zeroCells #[z] 1).toList = [z] := by simp [Builtin.zeroCells]
  have hrun : (execOp (Act.eval ⟨T, c.ds⟩) ⟨none, .call { callee := .builtin .clear, args := #[x], argTypes := #[t] }, ty, pos, after, g⟩).run P w = .ok (.value (.tuple #[])) (w.setRow b l'.toArray) := by
    simp [execOp, resolve, invoke, builtin, opnd_eval s.slots hx, Builtin.clear_, run_underlying hu, hzv, hzc, hzl, hr]
  have := h (i' + 1) e2 T _ ⟨s.size, s.slots, hst_setRow hp s.heap⟩
  exact wpI_value (i := i') (a := ⟨T, c.ds⟩) (by simpa using e1) hw hrun (by simpa [Act.put] using this)

/-! ### a result that is a cell -/
theorem q_retCell {σ : Type} {fn : Func} {φ : σ → Prop} {val : σ → Value} {B : σ → List HProp} {a b : Nat} {tt T' : TypeId} {f : Nat × Nat} {l : List Value} {R : List HProp} {d : TypeDesc} {i : TypeInfo} (hr : fn.results = #[.cell a tt]) (ha : L.get a = some (.pointer (some ⟨b, 0, none⟩)))
    (hu : P.underlying tt = some d) (hd : aggD d = true) (hi : P.info? tt = some i) (hp : Pick M (pts b (.cells l.toArray T' f)) R) (hs : l.length = i.size) (y : σ) (hv : Value.agg l.toArray = val y) (hy : φ y) (hM : Ent M (B y)) :
    qE (fnPost c P fn (PostS c φ val B)) .ret c n L M := fun T w s => by
  have h1 := s.slots _ _ ha
  have hl := run_loadVar_agg (P := P) (b := b) (off := 0) hu hd hi hs (w := w) (fun j v e => by rw [cell_pts (s.heap.pts hp)]; simpa using e)
  refine ⟨rfl, val y, ?_, y, hy, rfl, s.heap.ent hM⟩
  simp [results, hr, h1, asAddr, hl, hv]
end Go.Sx
