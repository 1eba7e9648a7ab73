/-
  The walk: code and operations over a symbolic frame (a list of slots) and a symbolic heap (a list of items). No program in sight.
-/
import Derived.Test.YtaodhkiejnipmaaDoorSxA
import Derived.Tactics
set_option linter.unusedSimpArgs false
set_option linter.unusedVariables false
namespace Go.Sx
open Go Go.Conc

abbrev Env := List (Nat × Value)
def Env.get : Env → Nat → Option Value
  | [], _ => none
  | (j, v) :: r, k => bif Nat.beq j k then some v else Env.get r k
def Slots (L : Env) (T : Array Value) : Prop := ∀ k v, L.get k = some v → T[k]? = some v
def Env.sub (L : Env) : Env → Prop
  | [] => True
  | (k, v) :: r => L.get k = some v ∧ Env.sub L r
theorem Env.sub_get {L : Env} : ∀ {L' : Env}, Env.sub L L' → ∀ {k v}, L'.get k = some v → L.get k = some v
  | [], _, _, _, e => by cases e
  | (j, u) :: r, h, k, v, e => by
    unfold Env.get at e
    cases hb : Nat.beq j k with
    | true =>
      rw [hb] at e
      have := Nat.eq_of_beq_eq_true hb
      subst this
      cases e
      exact h.1
    | false => rw [hb] at e; exact Env.sub_get h.2 e
theorem Slots.sub {L L' : Env} {T : Array Value} (h : Slots L T) (k : Env.sub L L') : Slots L' T := fun _ _ e => h _ _ (Env.sub_get k e)
theorem Slots.put {L : Env} {T : Array Value} (h : Slots L T) {n d : Nat} (hn : T.size = n) (hd : Nat.blt d n = true) (v : Value) : Slots ((d, v) :: L) (T.setIfInBounds d v) := fun k u e => by
  unfold Env.get at e
  have hd' : d < T.size := by rw [hn]; simpa [Nat.blt_eq] using hd
  cases hb : Nat.beq d k with
  | true =>
    rw [hb] at e
    have := Nat.eq_of_beq_eq_true hb
    subst this
    cases e
    simp [hd']
  | false =>
    rw [hb] at e
    have hne : d ≠ k := fun x => by subst x; rw [Nat.beq_refl] at hb; cases hb
    rw [Array.getElem?_setIfInBounds_ne hne]
    exact h _ _ e

def opnd (L : Env) : Operand → Option Value
  | .tmp k => L.get k
  | .const v => some v
  | .global g => some (.pointer (some ⟨g, 0, none⟩))
  | .func f => some (.func (.func f) #[] #[])
theorem opnd_eval {L : Env} {T : Array Value} {ds : List Deferred} (h : Slots L T) {x : Operand} {v : Value} (e : opnd L x = some v) : Act.eval ⟨T, ds⟩ x = v := by
  cases x <;> simp only [opnd] at e
  · have := h _ _ e; simp [Act.eval, this]
  · cases e; rfl
  · cases e; rfl
  · cases e; rfl
def opnds (L : Env) : List Operand → Option (List Value)
  | [] => some []
  | x :: r => match opnd L x, opnds L r with
    | some v, some vs => some (v :: vs)
    | _, _ => none
theorem opnds_eval {L : Env} {T : Array Value} {ds : List Deferred} (h : Slots L T) : ∀ {xs : List Operand} {vs : List Value}, opnds L xs = some vs → xs.map (Act.eval ⟨T, ds⟩) = vs
  | [], _, e => by cases e; rfl
  | x :: r, vs, e => by
    unfold opnds at e
    split at e
    · rename_i v us hv hus
      cases e
      simp only [List.map_cons, opnd_eval h hv, opnds_eval h hus]
    · cases e

structure St (c : Cx) (n : Nat) (L : Env) (M : List HProp) (T : Array Value) (w : World) : Prop where
  size : T.size = n
  slots : Slots L T
  heap : HSt c M w

/-! ### operations -/
section
variable {P : Program} {ops : Array Oper} {Q : Exit → Act → World → Prop}

def wpI (P : Program) (ops : Array Oper) (Q : Exit → Act → World → Prop) (is : List Nat) (a : Act) (w : World) : Prop :=
  ∀ (b : Frame) (k : List Item) (cs : List Frame), ∃ e a' w', Q e a' w' ∧ Arrives P (lone (b.at a (.inRegion ops is :: k)) cs w) b k cs e a' w'

theorem wpI_nil {a : Act} {w : World} (h : Q .normal a w) : wpI P ops Q [] a w := fun _ _ _ => ⟨.normal, a, w, h, .one step_region_end⟩

theorem wpI_step {i : Nat} {rest : List Nat} {a a' : Act} {w w' : World}
    (hs : ∀ (b : Frame) (k : List Item) (cs : List Frame), Steps P (lone (b.at a (.inRegion ops (i :: rest) :: k)) cs w) (lone (b.at a' (.inRegion ops rest :: k)) cs w'))
    (h : wpI P ops Q rest a' w') : wpI P ops Q (i :: rest) a w := fun b k cs => by
  obtain ⟨e, a2, w2, hq, harr⟩ := h b k cs
  exact ⟨e, a2, w2, hq, .of_steps (hs b k cs) harr⟩

theorem finish_here {b : Frame} {a : Act} {i : Nat} {rest : List Nat} {k : List Item} {o : Oper} (ho : ops[i]? = some o) (v : Value) :
    (b.at a (.inRegion ops (i :: rest) :: k)).finish v = b.at (a.put o.dst v) (.inRegion ops rest :: k) := by rw [Frame.finish_at, ho]; rfl

theorem wpI_skip {i : Nat} {rest : List Nat} {a : Act} {w : World} {o : Oper} (ho : ops[i]? = some o) (hw : Region.wanted o (yielded ops a.tmps) = false)
    (h : wpI P ops Q rest (a.put o.dst undef) w) : wpI P ops Q (i :: rest) a w := wpI_step (fun b k cs => by
  have := step_op_skip (P := P) (b := b) (a := a) (k := k) (cs := cs) (w := w) (ops := ops) (i := i) (rest := rest) (by simp [ho, hw])
  simp only [ho, Option.bind_some] at this
  exact .one this) h

theorem wpI_value {i : Nat} {rest : List Nat} {a : Act} {w w' : World} {o : Oper} {v : Value} (ho : ops[i]? = some o) (hw : Region.wanted o (yielded ops a.tmps) = true)
    (hr : (execOp a.eval o).run P w = .ok (.value v) w') (h : wpI P ops Q rest (a.put o.dst v) w') : wpI P ops Q (i :: rest) a w := wpI_step (fun b k cs => by
  refine .one (step_lone_go ?_)
  rw [stepG_op ho hw, ← finish_here ho]
  simp [stepG.apply, hr]) h

theorem wpI_unit {i : Nat} {rest : List Nat} {a : Act} {w w' : World} {o : Oper} (ho : ops[i]? = some o) (hw : Region.wanted o (yielded ops a.tmps) = true)
    (hr : (execOp a.eval o).run P w = .ok .skip w') (h : wpI P ops Q rest (a.put o.dst undef) w') : wpI P ops Q (i :: rest) a w := wpI_step (fun b k cs => by
  refine .one (step_lone_go ?_)
  rw [stepG_op ho hw, ← finish_here ho]
  simp [stepG.apply, hr]) h

theorem wpI_call {i : Nat} {rest : List Nat} {a : Act} {w w' : World} {o : Oper} {f : FuncId} {args : Array Value} (ho : ops[i]? = some o) (hw : Region.wanted o (yielded ops a.tmps) = true)
    (hr : (execOp a.eval o).run P w = .ok (.enter f args) w') {R : Value → World → Prop} (hc : Calls P f args w' (fun e w2 => ∃ v, e = .returned v ∧ R v w2))
    (h : ∀ v w2, R v w2 → wpI P ops Q rest (a.put o.dst v) w2) : wpI P ops Q (i :: rest) a w := fun b k cs => by
  have hstep : step P (lone (b.at a (.inRegion ops (i :: rest) :: k)) cs w) = .next (lone (Frame.enter P f args .normal) (b.at a (.inRegion ops (i :: rest) :: k) :: cs) w') := by
    refine step_lone_go ?_
    rw [stepG_op ho hw]
    simp [stepG.apply, hr, Frame.at]
  obtain ⟨e, w2, fr, ⟨v, rfl, hR⟩, hcomes, _, hleave⟩ := hc (b.at a (.inRegion ops (i :: rest) :: k) :: cs)
  obtain ⟨e3, a3, w3, hq, harr⟩ := h v w2 hR b k cs
  refine ⟨e3, a3, w3, hq, .of_steps ?_ harr⟩
  have hl := step_leave_returned (P := P) (c := b.at a (.inRegion ops (i :: rest) :: k)) (cs := cs) hleave
  rw [finish_here ho] at hl
  exact .head hstep (Steps.trans hcomes (.one hl))

/-- A communication: the machine's own step. -/
theorem wpI_comm {i : Nat} {rest : List Nat} {a : Act} {w w' : World} {o : Oper} {v : Value} (ho : ops[i]? = some o)
    (hs : ∀ (b : Frame) (k : List Item) (cs : List Frame), step P (lone (b.at a (.inRegion ops (i :: rest) :: k)) cs w) = .next (lone ((b.at a (.inRegion ops (i :: rest) :: k)).finish v) cs w'))
    (h : wpI P ops Q rest (a.put o.dst v) w') : wpI P ops Q (i :: rest) a w := wpI_step (fun b k cs => by
  have := hs b k cs
  rw [finish_here ho] at this
  exact .one this) h

theorem stepG_comm_here {b : Frame} {a : Act} {i : Nat} {rest : List Nat} {k : List Item} {cs : List Frame} {w w' : World} {o : Oper} {cases : Array CommCase} {bl : Bool} {sh : CommShape}
    (ho : ops[i]? = some o) (hw : Region.wanted o (yielded ops a.tmps) = true) (hr : (execOp a.eval o).run P w = .ok (.comm cases bl sh) w') :
    ∃ es, stepG P true (G (b.at a (.inRegion ops (i :: rest) :: k)) cs) w = .comm (G (b.at a (.inRegion ops (i :: rest) :: k)) cs) cases bl sh w' es := by
  have h := stepG_op (P := P) (b := b) (k := k) (cs := cs) (w := w) (rest := rest) ho hw
  unfold G
  rw [h]
  simp only [stepG.apply, Sem.runT_eq, if_true, hr]
  exact ⟨_, rfl⟩
end

variable {P : Program} {ops : Array Oper} {Q : Exit → Act → World → Prop} {c : Cx} {n : Nat} {L : Env} {M : List HProp}

def wpE (P : Program) (ops : Array Oper) (rest : List Oper) (Q : Exit → Act → World → Prop) (c : Cx) (n : Nat) (L : Env) (M : List HProp) : Prop :=
  ∀ i, ops.toList.drop i = rest → ∀ T w, St c n L M T w → wpI P ops Q (List.range' i rest.length) ⟨T, []⟩ w

/-- The operation itself, once it is wanted. -/
def wpO (P : Program) (ops : Array Oper) (o : Oper) (rest : List Oper) (Q : Exit → Act → World → Prop) (c : Cx) (n : Nat) (L : Env) (M : List HProp) : Prop :=
  ∀ i, ops.toList.drop i = o :: rest → ∀ T w, St c n L M T w → Region.wanted o (yielded ops T) = true → wpI P ops Q (List.range' i (rest.length + 1)) ⟨T, []⟩ w

def wpC (P : Program) (x : Code) (Q : Exit → Act → World → Prop) (c : Cx) (n : Nat) (L : Env) (M : List HProp) : Prop :=
  ∀ T w, St c n L M T w → x.wp P Q ⟨T, []⟩ w

def qE (Q : Exit → Act → World → Prop) (e : Exit) (c : Cx) (n : Nat) (L : Env) (M : List HProp) : Prop :=
  ∀ T w, St c n L M T w → Q e ⟨T, []⟩ w

theorem drop_cons {l : List Oper} {i : Nat} {o : Oper} {rest : List Oper} (h : l.drop i = o :: rest) : l[i]? = some o ∧ l.drop (i + 1) = rest := by
  constructor
  · have : (l.drop i)[0]? = some o := by rw [h]; rfl
    simpa using this
  · rw [← List.tail_drop, h]; rfl

theorem wpE_nil (h : qE Q .normal c n L M) : wpE P ops [] Q c n L M := fun _ _ T w s => wpI_nil (h T w s)

variable {o : Oper} {rest : List Oper}

theorem g_none (hg : o.guard = none) (h : wpO P ops o rest Q c n L M) : wpE P ops (o :: rest) Q c n L M :=
  fun i hi T w s => h i hi T w s (by simp [Region.wanted, hg])
theorem g_yes {j d : Nat} {b : Bool} (hg : o.guard = some (j, b)) (hd : (ops[j]?).bind (·.dst) = some d) (hv : L.get d = some (.bool b)) (h : wpO P ops o rest Q c n L M) : wpE P ops (o :: rest) Q c n L M :=
  fun i hi T w s => h i hi T w s (by
    have := s.slots _ _ hv
    simp [Region.wanted, hg, yielded, hd, this])
def isB (b : Bool) : Value → Bool
  | .bool x => x == b
  | _ => false
theorem put_St {T : Array Value} {w : World} {d : Nat} (s : St c n L M T w) (hd : Nat.blt d n = true) (v : Value) : St c n ((d, v) :: L) M (T.setIfInBounds d v) w :=
  ⟨by simp [s.size], s.slots.put s.size hd v, s.heap⟩
theorem g_no {j d d' : Nat} {b : Bool} {v : Value} (hg : o.guard = some (j, b)) (hd : (ops[j]?).bind (·.dst) = some d) (hv : L.get d = some v) (hb : isB b v = false) (ho : o.dst = some d') (hdn : Nat.blt d' n = true)
    (h : wpE P ops rest Q c n ((d', undef) :: L) M) : wpE P ops (o :: rest) Q c n L M := fun i hi T w s => by
  obtain ⟨h1, h2⟩ := drop_cons hi
  have hT := s.slots _ _ hv
  have := h (i + 1) h2 _ w (put_St s hdn undef)
  refine wpI_skip (i := i) (o := o) (by simpa using h1) ?_ (by simpa [Act.put, ho] using this)
  simp only [Region.wanted, hg, yielded, hd, Option.bind_some, hT]
  cases v <;> simp_all [isB]
theorem g_no0 {j d : Nat} {b : Bool} {v : Value} (hg : o.guard = some (j, b)) (hd : (ops[j]?).bind (·.dst) = some d) (hv : L.get d = some v) (hb : isB b v = false) (ho : o.dst = none)
    (h : wpE P ops rest Q c n L M) : wpE P ops (o :: rest) Q c n L M := fun i hi T w s => by
  obtain ⟨h1, h2⟩ := drop_cons hi
  have hT := s.slots _ _ hv
  have := h (i + 1) h2 _ w s
  refine wpI_skip (i := i) (o := o) (by simpa using h1) ?_ (by simpa [Act.put, ho] using this)
  simp only [Region.wanted, hg, yielded, hd, Option.bind_some, hT]
  cases v <;> simp_all [isB]

/-- An operation that only computes: one value, in every world that fits. -/
def Ev (P : Program) (o : Oper) (c : Cx) (n : Nat) (L : Env) (M : List HProp) (v : Value) : Prop :=
  ∀ T w, St c n L M T w → (execOp (Act.eval ⟨T, []⟩) o).run P w = .ok (.value v) w

theorem o_ev {d : Nat} {v : Value} (ho : o.dst = some d) (he : Ev P o c n L M v) (hd : Nat.blt d n = true) (h : wpE P ops rest Q c n ((d, v) :: L) M) : wpO P ops o rest Q c n L M := fun i hi T w s hw => by
  obtain ⟨h1, h2⟩ := drop_cons hi
  have := h (i + 1) h2 _ w (put_St s hd v)
  exact wpI_value (i := i) (o := o) (a := ⟨T, []⟩) (by simpa using h1) hw (he T w s) (by simpa [Act.put, ho] using this)
theorem o_ev0 {v : Value} (ho : o.dst = none) (he : Ev P o c n L M v) (h : wpE P ops rest Q c n L M) : wpO P ops o rest Q c n L M := fun i hi T w s hw => by
  obtain ⟨h1, h2⟩ := drop_cons hi
  have := h (i + 1) h2 _ w s
  exact wpI_value (i := i) (o := o) (a := ⟨T, []⟩) (by simpa using h1) hw (he T w s) (by simpa [Act.put, ho] using this)

/-- An operation that changes the world and yields a value. -/
theorem o_val {d : Nat} (ho : o.dst = some d) (hd : Nat.blt d n = true)
    (h : ∀ T w, St c n L M T w → ∃ v w' L' M', (execOp (Act.eval ⟨T, []⟩) o).run P w = .ok (.value v) w' ∧ HSt c M' w' ∧ L' = (d, v) :: L ∧ wpE P ops rest Q c n L' M') : wpO P ops o rest Q c n L M := fun i hi T w s hw => by
  obtain ⟨h1, h2⟩ := drop_cons hi
  obtain ⟨v, w', L', M', hr, hs, rfl, hn⟩ := h T w s
  have := hn (i + 1) h2 (T.setIfInBounds d v) w' ⟨by simp [s.size], s.slots.put s.size hd v, hs⟩
  exact wpI_value (i := i) (o := o) (a := ⟨T, []⟩) (by simpa using h1) hw hr (by simpa [Act.put, ho] using this)
/-- .. and yields nothing. -/
theorem o_unit (ho : o.dst = none)
    (h : ∀ T w, St c n L M T w → ∃ w' M', (execOp (Act.eval ⟨T, []⟩) o).run P w = .ok .skip w' ∧ HSt c M' w' ∧ wpE P ops rest Q c n L M') : wpO P ops o rest Q c n L M := fun i hi T w s hw => by
  obtain ⟨h1, h2⟩ := drop_cons hi
  obtain ⟨w', M', hr, hs, hn⟩ := h T w s
  have := hn (i + 1) h2 T w' ⟨s.size, s.slots, hs⟩
  exact wpI_unit (i := i) (o := o) (a := ⟨T, []⟩) (by simpa using h1) hw hr (by simpa [Act.put, ho] using this)
theorem o_unitd {d : Nat} (ho : o.dst = some d) (hd : Nat.blt d n = true)
    (h : ∀ T w, St c n L M T w → ∃ w' M', (execOp (Act.eval ⟨T, []⟩) o).run P w = .ok .skip w' ∧ HSt c M' w' ∧ wpE P ops rest Q c n ((d, undef) :: L) M') : wpO P ops o rest Q c n L M := fun i hi T w s hw => by
  obtain ⟨h1, h2⟩ := drop_cons hi
  obtain ⟨w', M', hr, hs, hn⟩ := h T w s
  have := hn (i + 1) h2 (T.setIfInBounds d undef) w' ⟨by simp [s.size], s.slots.put s.size hd undef, hs⟩
  exact wpI_unit (i := i) (o := o) (a := ⟨T, []⟩) (by simpa using h1) hw hr (by simpa [Act.put, ho] using this)

/-! ### calls -/
def PostS {σ : Type} (c : Cx) (φ : σ → Prop) (val : σ → Value) (B : σ → List HProp) : Ending → World → Prop :=
  fun e w' => ∃ y, φ y ∧ e = .returned (val y) ∧ HSt c (B y) w'

def Callable (P : Program) (f : FuncId) : Prop := ∀ args w, (callFunc f args).run P w = .ok (.enter f args) w
theorem callable {f : FuncId} {fn : Func} {x : Code} (hf : P.funcs[f]? = some fn) (hname : (fn.name == "runtime.NumGoroutine") = false) (hb : fn.body = some x) : Callable P f := fun args w => by
  have h1 : ¬ fn.name = "runtime.NumGoroutine" := by simpa using hname
  simp [callFunc, hf, h1, hb, program, Sem.run, bind, Sem.bind, pure]

/-- What a function does: handed the part A, it returns one of the values, and leaves a part B. -/
structure FnDoes {σ : Type} (P : Program) (f : FuncId) (args : List Value) (A : List HProp) (φ : σ → Prop) (val : σ → Value) (B : σ → List HProp) : Prop where
  may : Callable P f
  does : ∀ w h, sepL A h → PHeap.le h (ph w) → Calls P f args.toArray w (PostS ⟨w, fun b => h b ≠ none⟩ φ val B)

theorem execOp_call {a : Act} {dst : Option Nat} {f : FuncId} {xs : Array Operand} {ats : Array TypeId} {ty : TypeId} {pos : String} {after : Array Edge} {guard : Option (Nat × Bool)} :
    execOp a.eval { dst, op := .call { callee := .value (.func f), args := xs, argTypes := ats }, type := ty, pos, after, guard } = callFunc f (#[] ++ xs.map a.eval ++ #[]) := rfl

theorem o_call {σ : Type} {d : Nat} {f : FuncId} {xs : List Operand} {ats : Array TypeId} {ty : TypeId} {pos : String} {after : Array Edge} {guard : Option (Nat × Bool)}
    {args : List Value} {A R : List HProp} {φ : σ → Prop} {val : σ → Value} {B : σ → List HProp}
    (S : FnDoes P f args A φ val B) (hx : opnds L xs = some args) (hp : Ent M (A ++ R)) (hd : Nat.blt d n = true)
    (h : ∀ y, φ y → wpE P ops rest Q c n ((d, val y) :: L) (B y ++ R)) :
    wpO P ops ⟨some d, .call { callee := .value (.func f), args := xs.toArray, argTypes := ats }, ty, pos, after, guard⟩ rest Q c n L M := fun i hi T w s hw => by
  obtain ⟨h1, h2⟩ := drop_cons hi
  have hr : (execOp (Act.eval ⟨T, []⟩) ⟨some d, .call { callee := .value (.func f), args := xs.toArray, argTypes := ats }, ty, pos, after, guard⟩).run P w = .ok (.enter f args.toArray) w := by
    rw [execOp_call]
    have := opnds_eval (ds := []) s.slots hx
    simp only [List.map_toArray, this, Array.empty_append, Array.append_empty]
    exact S.may _ _
  refine wpI_call (i := i) (a := ⟨T, []⟩) (by simpa using h1) hw hr (R := fun v w2 => ∃ y, φ y ∧ v = val y ∧ HSt c (B y ++ R) w2) ?_ ?_
  · intro cs
    obtain ⟨f', hh, m, l, dd⟩ := s.heap
    obtain ⟨ha, hr', a, r, dj, l1, l2⟩ := sepL_append (hp _ m)
    obtain ⟨e, w2, fr, ⟨y, hy, he, hst⟩, hcm, hfr, hl⟩ := S.does w ha a (PHeap.le_trans l1 l) cs
    refine ⟨e, w2, fr, ⟨val y, he, y, hy, rfl, ?_⟩, hcm, hfr, hl⟩
    exact HSt.call f' l dd r dj l1 l2 hst
  · rintro v w2 ⟨y, hy, rfl, hst⟩
    have := h y hy (i + 1) h2 (T.setIfInBounds d (val y)) w2 ⟨by simp [s.size], s.slots.put s.size hd _, hst⟩
    simpa [Act.put] using this

/-! ### code -/
theorem wpC_seq {x y : Code} (h : wpC P x (Exit.then (Code.wp P y Q) Q) c n L M) : wpC P (.seq x y) Q c n L M := fun T w s => wp_seq (h T w s)
theorem wpC_block {id : Nat} {x : Code} (h : wpC P x (Exit.inBlock id Q) c n L M) : wpC P (.block id x) Q c n L M := fun T w s => wp_block (h T w s)
theorem wpC_skip (h : qE Q .normal c n L M) : wpC P .skip Q c n L M := fun T w s => wp_skip (h T w s)
theorem wpC_exit {id : Nat} (h : qE Q (.exit id) c n L M) : wpC P (.exit id) Q c n L M := fun T w s => wp_exit (h T w s)
theorem wpC_ret (h : qE Q .ret c n L M) : wpC P .ret Q c n L M := fun T w s => wp_ret (h T w s)
theorem wpC_region {id : Nat} {l : List Oper} (h : wpE P l.toArray l Q c n L M) : wpC P (.region id l.toArray false) Q c n L M := fun T w s => by
  intro b k cs
  obtain ⟨e, a', w', hq, harr⟩ := h 0 (by simp) T w s b k cs
  refine ⟨e, a', w', hq, .of_steps (.one step_region) ?_⟩
  rw [List.range_eq_range']
  simpa using harr
theorem wpC_cond_t {x : Operand} {t e : Code} (hx : opnd L x = some (.bool true)) (h : wpC P t Q c n L M) : wpC P (.cond x t e) Q c n L M := fun T w s => wp_cond_true (opnd_eval s.slots hx) (h T w s)
theorem wpC_cond_f {x : Operand} {t e : Code} (hx : opnd L x = some (.bool false)) (h : wpC P e Q c n L M) : wpC P (.cond x t e) Q c n L M := fun T w s => wp_cond_false (opnd_eval s.slots hx) (h T w s)
theorem wpC_cond {x : Operand} {t e : Code} {b : Bool} (hx : opnd L x = some (.bool b)) (ht : b = true → wpC P t Q c n L M) (he : b = false → wpC P e Q c n L M) : wpC P (.cond x t e) Q c n L M := fun T w s =>
  wp_cond_split (opnd_eval s.slots hx) (fun hb => ht hb T w s) (fun hb => he hb T w s)

/-- An item is opened, ahead of a piece of code. -/
theorem HSt.unfold {σ : Type} {φ : σ → Prop} {My : σ → List HProp} {R : List HProp} {w : World} (p : Pick M (exI φ My) R) (s : HSt c M w) : ∃ y, φ y ∧ HSt c (My y ++ R) w := by
  obtain ⟨f, h, m, l, d⟩ := s
  obtain ⟨y, hy, m'⟩ := exI_unfold p m
  exact ⟨y, hy, f, h, m', l, d⟩
theorem wpC_unfold {σ : Type} {φ : σ → Prop} {My : σ → List HProp} {R : List HProp} {x : Code} (p : Pick M (exI φ My) R) (h : ∀ y, φ y → wpC P x Q c n L (My y ++ R)) : wpC P x Q c n L M := fun T w s => by
  obtain ⟨y, hy, s'⟩ := s.heap.unfold p
  exact h y hy T w ⟨s.size, s.slots, s'⟩
theorem wpE_unfold {σ : Type} {φ : σ → Prop} {My : σ → List HProp} {R : List HProp} (p : Pick M (exI φ My) R) (h : ∀ y, φ y → wpE P ops rest Q c n L (My y ++ R)) : wpE P ops rest Q c n L M := fun i hi T w s => by
  obtain ⟨y, hy, s'⟩ := s.heap.unfold p
  exact h y hy i hi T w ⟨s.size, s.slots, s'⟩
theorem wpE_ent {N : List HProp} (e : Ent M N) (h : wpE P ops rest Q c n L N) : wpE P ops rest Q c n L M := fun i hi T w s => h i hi T w ⟨s.size, s.slots, s.heap.ent e⟩
theorem wpC_ent {N : List HProp} {x : Code} (e : Ent M N) (h : wpC P x Q c n L N) : wpC P x Q c n L M := fun T w s => h T w ⟨s.size, s.slots, s.heap.ent e⟩
theorem wpC_env {L' : Env} {x : Code} (e : Env.sub L L') (h : wpC P x Q c n L' M) : wpC P x Q c n L M := fun T w s => h T w ⟨s.size, s.slots.sub e, s.heap⟩

/-- A loop: a family of states, a fact of each, a measure. -/
def LoopQ {σ : Type} (φ : σ → Prop) (Lx : σ → Env) (Mx : σ → List HProp) (μ : σ → Nat) (x : σ) (c : Cx) (n : Nat) : Act → World → Prop :=
  fun a w => a.defers = [] ∧ ∃ x', φ x' ∧ μ x' < μ x ∧ St c n (Lx x') (Mx x') a.tmps w
theorem wpC_loop {σ : Type} {body : Code} (φ : σ → Prop) (Lx : σ → Env) (Mx : σ → List HProp) (μ : σ → Nat) (x0 : σ) (h0 : φ x0) (hL : Env.sub L (Lx x0)) (hM : Ent M (Mx x0))
    (round : ∀ x, φ x → wpC P body (Exit.then (LoopQ φ Lx Mx μ x c n) Q) c n (Lx x) (Mx x)) : wpC P (.loop body) Q c n L M := fun T w s b k cs => by
  have key : ∀ m x, μ x = m → φ x → ∀ T w, St c n (Lx x) (Mx x) T w → ∃ e a' w', Q e a' w' ∧ Arrives P (lone (b.at ⟨T, []⟩ (.code body :: .inLoop body :: k)) cs w) b k cs e a' w' := by
    intro m
    induction m using Nat.strongRecOn with
    | _ m ih =>
      intro x hm hx T w s
      obtain ⟨e, a1, w1, hq, harr⟩ := round x hx T w s b (.inLoop body :: k) cs
      cases e with
      | normal =>
        obtain ⟨hd, x', hx', hlt, st⟩ := hq
        obtain ⟨T1, ds⟩ := a1
        simp only at hd st
        subst hd
        obtain ⟨e2, a2, w2, hq2, harr2⟩ := ih (μ x') (hm ▸ hlt) x' rfl hx' T1 w1 st
        exact ⟨e2, a2, w2, hq2, .of_steps (Steps.trans harr (.one step_inLoop)) harr2⟩
      | exit id => exact ⟨_, a1, w1, hq, .pass (x := .inLoop body) rfl (fun _ _ => .inl (by simp)) harr⟩
      | goto l => exact ⟨_, a1, w1, hq, .pass (x := .inLoop body) rfl (fun _ _ => .inl (by simp)) harr⟩
      | ret => exact ⟨_, a1, w1, hq, .pass (x := .inLoop body) rfl (fun _ _ => .inl (by simp)) harr⟩
      | panic ch => exact ⟨_, a1, w1, hq, .pass (x := .inLoop body) rfl (fun _ _ => .inl (by simp)) harr⟩
      | outgrown => exact ⟨_, a1, w1, hq, .pass (x := .inLoop body) rfl (fun _ _ => .inl (by simp)) harr⟩
  obtain ⟨e, a', w', hq, harr⟩ := key _ x0 rfl h0 T w ⟨s.size, s.slots.sub hL, s.heap.ent hM⟩
  exact ⟨e, a', w', hq, .of_steps (.one step_loop) harr⟩

/-! ### what stands behind -/
theorem q_then {y : Code} {Q' : Exit → Act → World → Prop} (h : wpC P y Q c n L M) : qE (Exit.then (Code.wp P y Q) Q') .normal c n L M := h
theorem q_then_exit {K : Act → World → Prop} {id : Nat} (h : qE Q (.exit id) c n L M) : qE (Exit.then K Q) (.exit id) c n L M := h
theorem q_then_ret {K : Act → World → Prop} (h : qE Q .ret c n L M) : qE (Exit.then K Q) .ret c n L M := h
theorem q_block_normal {id : Nat} (h : qE Q .normal c n L M) : qE (Exit.inBlock id Q) .normal c n L M := h
theorem q_block_ret {id : Nat} (h : qE Q .ret c n L M) : qE (Exit.inBlock id Q) .ret c n L M := h
theorem q_block_hit {id : Nat} (h : qE Q .normal c n L M) : qE (Exit.inBlock id Q) (.exit id) c n L M := fun T w s => by simpa [Exit.inBlock] using h T w s
theorem q_block_miss {id id' : Nat} (hne : Nat.beq id' id = false) (h : qE Q (.exit id') c n L M) : qE (Exit.inBlock id Q) (.exit id') c n L M := fun T w s => by
  have : id' ≠ id := fun e => by subst e; rw [Nat.beq_refl] at hne; cases hne
  simpa [Exit.inBlock, this] using h T w s
theorem q_round {σ : Type} {φ : σ → Prop} {Lx : σ → Env} {Mx : σ → List HProp} {μ : σ → Nat} {x : σ} (x' : σ) (h : φ x') (hm : μ x' < μ x) (hL : Env.sub L (Lx x')) (hM : Ent M (Mx x')) :
    qE (Exit.then (LoopQ φ Lx Mx μ x c n) Q) .normal c n L M := fun _ _ s => ⟨rfl, x', h, hm, s.size, s.slots.sub hL, s.heap.ent hM⟩

/-! ### a function's entry and its end -/
def enum : Nat → List Value → Env
  | _, [] => []
  | k, v :: r => (k, v) :: enum (k + 1) r
theorem enum_get : ∀ {l : List Value} {k j : Nat} {v : Value}, (enum k l).get j = some v → k ≤ j ∧ l[j - k]? = some v
  | [], _, _, _, e => by cases e
  | u :: r, k, j, v, e => by
    unfold enum Env.get at e
    cases hb : Nat.beq k j with
    | true =>
      rw [hb] at e
      have := Nat.eq_of_beq_eq_true hb
      subst this
      cases e
      exact ⟨Nat.le_refl _, by simp⟩
    | false =>
      rw [hb] at e
      obtain ⟨h1, h2⟩ := enum_get e
      refine ⟨by omega, ?_⟩
      have : j - k = (j - (k + 1)) + 1 := by omega
      rw [this]
      simpa using h2

theorem does_of {σ : Type} {f : FuncId} {fn : Func} {x : Code} {args : List Value} {A : List HProp} {φ : σ → Prop} {val : σ → Value} {B : σ → List HProp}
    (hf : P.funcs[f]? = some fn) (hname : (fn.name == "runtime.NumGoroutine") = false) (hb : fn.body = some x) (hn : fn.ntmps = n) (ha : Nat.ble args.length n = true) (hL : enum 0 args = L)
    (h : ∀ c : Cx, wpC P x (bodyPost P fn (PostS c φ val B)) c n L A) : FnDoes P f args A φ val B := ⟨callable hf hname hb, fun w hh a l => by
  subst hL
  refine calls_of_wp hf hb (h ⟨w, fun b => hh b ≠ none⟩ _ w ⟨?_, ?_, Fr.refl _ _, hh, a, l, fun b hb => .inl hb⟩)
  · have : args.length ≤ n := Nat.le_of_ble_eq_true ha
    simp [hn]; omega
  · intro k v e
    obtain ⟨_, h2⟩ := enum_get e
    simp only [Nat.sub_zero] at h2
    have : k < args.length := (List.getElem?_eq_some_iff.1 h2).1
    rw [Array.getElem?_append_left (by simpa using this)]
    simpa using h2⟩

theorem q_ret0 {σ : Type} {fn : Func} {φ : σ → Prop} {val : σ → Value} {B : σ → List HProp} (hr : fn.results = #[]) (y : σ) (hv : Value.tuple #[] = val y) (hy : φ y) (hM : Ent M (B y)) (e : Exit) (he : e = .ret ∨ e = .normal) :
    qE (bodyPost P fn (PostS c φ val B)) e c n L M := fun T w s => by
  rcases he with rfl | rfl <;> exact ⟨rfl, _, results_none hr _ _ _, y, hy, by rw [hv], s.heap.ent hM⟩
theorem q_ret1 {σ : Type} {fn : Func} {φ : σ → Prop} {val : σ → Value} {B : σ → List HProp} {t : Nat} {v : Value} (hr : fn.results = #[.tmp t]) (ht : L.get t = some v) (y : σ) (hv : v = val y) (hy : φ y) (hM : Ent M (B y)) :
    qE (bodyPost P fn (PostS c φ val B)) .ret c n L M := fun T w s => by
  refine ⟨rfl, _, results_tmp hr _ _ _, y, hy, ?_, s.heap.ent hM⟩
  have := s.slots _ _ ht
  simp [this, hv]
theorem q_ret2 {σ : Type} {fn : Func} {φ : σ → Prop} {val : σ → Value} {B : σ → List HProp} {t u : Nat} {v v' : Value} (hr : fn.results = #[.tmp t, .tmp u]) (ht : L.get t = some v) (hu : L.get u = some v') (y : σ) (hv : Value.tuple #[v, v'] = val y) (hy : φ y) (hM : Ent M (B y)) :
    qE (bodyPost P fn (PostS c φ val B)) .ret c n L M := fun T w s => by
  refine ⟨rfl, _, results_tmp2 hr _ _ _, y, hy, ?_, s.heap.ent hM⟩
  have h1 := s.slots _ _ ht
  have h2 := s.slots _ _ hu
  simp [h1, h2, hv]

/-- The same, told otherwise. -/
theorem FnDoes.turn {σ τ : Type} {f : FuncId} {args : List Value} {A A' : List HProp} {φ : σ → Prop} {val : σ → Value} {B : σ → List HProp} {φ' : τ → Prop} {val' : τ → Value} {B' : τ → List HProp} (S : FnDoes P f args A φ val B) (hA : Ent A' A)
    (h : ∀ y, φ y → ∃ z, φ' z ∧ val y = val' z ∧ Ent (B y) (B' z)) : FnDoes P f args A' φ' val' B' := ⟨S.may, fun w hh a l cs => by
  obtain ⟨e, w2, fr, ⟨y, hy, he, hst⟩, r⟩ := S.does w hh (hA _ a) l cs
  obtain ⟨z, hz, hv, hB⟩ := h y hy
  exact ⟨e, w2, fr, ⟨z, hz, by rw [he, hv], hst.ent hB⟩, r⟩⟩

end Go.Sx
