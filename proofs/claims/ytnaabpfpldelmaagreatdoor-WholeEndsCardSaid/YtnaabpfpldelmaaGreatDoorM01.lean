/-
  The walk: code and operations over a symbolic frame (a list of slots) and a symbolic heap (a list of items). No program in sight.
-/
import Derived.Test.YtnaabpfpldelmaaGreatDoorM00
import Derived.Tactics
import Derived.AtR
import Derived.Orders
set_option linter.unusedSimpArgs false
set_option linter.unusedVariables false
namespace Go.Sx
open Go Go.Conc
abbrev Env := List (Nat × Value)
def Env.get : Env → Nat → Option Value
  | [], _ => none
  | (j, v) :: r, k => bif Nat.beq j k then some v else Env.get r k
def Slots (L : Env) (T : Array Value) : Prop := ∀ k v, L.get k = some v → T[k]? = some v
def Env.sub (L : Env) : Env → Prop
  | [] => True
  | (k, v) :: r => L.get k = some v ∧ Env.sub L r
theorem Env.sub_get {L : Env} : ∀ {L' : Env}, Env.sub L L' → ∀ {k v}, L'.get k = some v → L.get k = some v
  | [], _, _, _, e => by cases e
  | (j, u) :: r, h, k, v, e => by
    unfold Env.get at e
    cases hb : Nat.beq j k with
    | true =>
      rw [hb] at e
      have := Nat.eq_of_beq_eq_true hb
      subst this
      cases e
      exact h.1
    | false => rw [hb] at e; exact Env.sub_get h.2 e
theorem Slots.sub {L L' : Env} {T : Array Value} (h : Slots L T) (k : Env.sub L L') : Slots L' T := fun _ _ e => h _ _ (Env.sub_get k e)
theorem Slots.put {L : Env} {T : Array Value} (h : Slots L T) {n d : Nat} (hn : T.size = n) (hd : Nat.blt d n = true) (v : Value) : Slots ((d, v) :: L) (T.setIfInBounds d v) := fun k u e => by
  unfold Env.get at e
  have hd' : d < T.size := by rw [hn]; simpa [Nat.blt_eq] using hd
  cases hb : Nat.beq d k with
  | true =>
    rw [hb] at e
    have := Nat.eq_of_beq_eq_true hb
    subst this
    cases e
    simp [hd']
  | false =>
    rw [hb] at e
    have hne : d ≠ k := fun x => by subst x; rw [Nat.beq_refl] at hb; cases hb
    rw [Array.getElem?_setIfInBounds_ne hne]
    exact h _ _ e
def opnd (L : Env) : Operand → Option Value
  | .tmp k => L.get k
  | .const v => some v
  | .global g => some (.pointer (some ⟨g, 0, none⟩))
  | .func f => some (.func (.func f) #[] #[])
theorem opnd_eval {L : Env} {T : Array Value} {ds : List Deferred} (h : Slots L T) {x : Operand} {v : Value} (e : opnd L x = some v) : Act.eval ⟨T, ds⟩ x = v := by
  cases x <;> simp only [opnd] at e
  · have := h _ _ e; simp [Act.eval, this]
  · cases e; rfl
  · cases e; rfl
  · cases e; rfl
def opnds (L : Env) : List Operand → Option (List Value)
  | [] => some []
  | x :: r => match opnd L x, opnds L r with
    | some v, some vs => some (v :: vs)
    | _, _ => none
theorem opnds_eval {L : Env} {T : Array Value} {ds : List Deferred} (h : Slots L T) : ∀ {xs : List Operand} {vs : List Value}, opnds L xs = some vs → xs.map (Act.eval ⟨T, ds⟩) = vs
  | [], _, e => by cases e; rfl
  | x :: r, vs, e => by
    unfold opnds at e
    split at e
    · rename_i v us hv hus
      cases e
      simp only [List.map_cons, opnd_eval h hv, opnds_eval h hus]
    · cases e
structure St (c : Cx) (n : Nat) (L : Env) (M : List HProp) (T : Array Value) (w : World) : Prop where
  size : T.size = n
  slots : Slots L T
  heap : HSt c M w
def ArrR (P : Program) (m : Machine) (b : Frame) (k : List Item) (cs : List Frame) : Exit → Act → World → Prop
  | .normal, a, w => Steps P m (lone (b.atR a k) cs w)
  | .exit id, a, w => ∃ k1, exitTo id k1 = exitTo id k ∧ Steps P m (lone (b.atR a (.code (.exit id) :: k1)) cs w)
  | .ret, a, w => ∃ k1, Steps P m (lone (b.atR a (.code .ret :: k1)) cs w)
  | .goto l, a, w => ∃ k1, gotoIn l k1 = gotoIn l k ∧ Steps P m (lone (b.atR a (.code (.goto l) :: k1)) cs w)
  | _, _, _ => False
theorem ArrR.of_steps {P : Program} {m m₁ : Machine} {b : Frame} {k : List Item} {cs : List Frame} {e : Exit} {a : Act} {w : World} (h : Steps P m m₁) (h' : ArrR P m₁ b k cs e a w) : ArrR P m b k cs e a w := by
  cases e with
  | normal => exact Steps.trans h h'
  | exit id => obtain ⟨k1, e1, hs⟩ := h'; exact ⟨k1, e1, Steps.trans h hs⟩
  | ret => obtain ⟨k1, hs⟩ := h'; exact ⟨k1, Steps.trans h hs⟩
  | goto l => obtain ⟨k1, e1, hs⟩ := h'; exact ⟨k1, e1, Steps.trans h hs⟩
  | panic ch => exact h'
  | outgrown => exact h'
theorem exitTo_item {id : Nat} {x : Item} {k : List Item} (h : ∀ j, x ≠ .inBlock j) : exitTo id (x :: k) = exitTo id k := by
  cases x <;> first | rfl | exact absurd rfl (h _)
theorem gotoIn_item {l : Nat} {x : Item} {k : List Item} (h : ∀ b, x ≠ .inScope b) : gotoIn l (x :: k) = gotoIn l k := by
  cases x <;> first | rfl | exact absurd rfl (h _)
theorem ArrR.pass {P : Program} {m : Machine} {b : Frame} {x : Item} {k : List Item} {cs : List Frame} {e : Exit} {a : Act} {w : World} (hx : ∀ j, x ≠ .inBlock j) (hy : ∀ b, x ≠ .inScope b) (he : e ≠ .normal) (h : ArrR P m b (x :: k) cs e a w) : ArrR P m b k cs e a w := by
  cases e with
  | normal => exact absurd rfl he
  | exit id => obtain ⟨k1, e1, hs⟩ := h; exact ⟨k1, e1.trans (exitTo_item hx), hs⟩
  | ret => exact h
  | goto l => obtain ⟨k1, e1, hs⟩ := h; exact ⟨k1, e1.trans (gotoIn_item hy), hs⟩
  | panic ch => exact h
  | outgrown => exact h
def cwp (r : Option Nat) (P : Program) (x : Code) (Q : Exit → Act → World → Prop) (a : Act) (w : World) : Prop :=
  ∀ (b : Frame) (k : List Item) (cs : List Frame), b.roundOf = r → ∃ e a' w', Q e a' w' ∧ ArrR P (lone (b.atR a (.code x :: k)) cs w) b k cs e a' w'
section
variable {r : Option Nat} {P : Program} {Q : Exit → Act → World → Prop} {a : Act} {w : World}
theorem cwp_mono {x : Code} {Q' : Exit → Act → World → Prop} (h : ∀ e a w, Q e a w → Q' e a w) (s : cwp r P x Q a w) : cwp r P x Q' a w := fun b k cs hb => by
  obtain ⟨e, a', w', hq, harr⟩ := s b k cs hb
  exact ⟨e, a', w', h _ _ _ hq, harr⟩
theorem cwp_seq {x y : Code} (h : cwp r P x (Exit.then (cwp r P y Q) Q) a w) : cwp r P (.seq x y) Q a w := fun b k cs hb => by
  obtain ⟨e, a1, w1, hq, harr⟩ := h b (.code y :: k) cs hb
  cases e with
  | normal =>
    obtain ⟨e2, a2, w2, hq2, harr2⟩ := hq b k cs hb
    exact ⟨e2, a2, w2, hq2, .of_steps (Steps.head stepR_seq harr) harr2⟩
  | exit id => exact ⟨_, a1, w1, hq, .of_steps (.one stepR_seq) (.pass (fun _ e => by cases e) (fun _ e => by cases e) (fun e => by cases e) harr)⟩
  | ret => exact ⟨_, a1, w1, hq, .of_steps (.one stepR_seq) (.pass (fun _ e => by cases e) (fun _ e => by cases e) (fun e => by cases e) harr)⟩
  | goto l => exact ⟨_, a1, w1, hq, .of_steps (.one stepR_seq) (.pass (fun _ e => by cases e) (fun _ e => by cases e) (fun e => by cases e) harr)⟩
  | panic ch => exact harr.elim
  | outgrown => exact harr.elim
theorem cwp_block {id : Nat} {x : Code} (h : cwp r P x (Exit.inBlock id Q) a w) : cwp r P (.block id x) Q a w := fun b k cs hb => by
  obtain ⟨e, a1, w1, hq, harr⟩ := h b (.inBlock id :: k) cs hb
  cases e with
  | normal => exact ⟨.normal, a1, w1, hq, Steps.head stepR_block (Steps.trans harr (.one stepR_inBlock))⟩
  | exit id' =>
    obtain ⟨k1, e1, hs⟩ := harr
    by_cases c : id' = id
    · subst c
      have e2 : exitTo id' k1 = some k := by rw [e1]; simp [exitTo]
      have hq' : Q .normal a1 w1 := by simpa [Exit.inBlock] using hq
      exact ⟨.normal, a1, w1, hq', Steps.head stepR_block (Steps.trans hs (.one (stepR_exit e2)))⟩
    · have e2 : exitTo id' k1 = exitTo id' k := by rw [e1]; simp [exitTo, Ne.symm c]
      have hq' : Q (.exit id') a1 w1 := by simpa [Exit.inBlock, c] using hq
      exact ⟨.exit id', a1, w1, hq', k1, e2, Steps.head stepR_block hs⟩
  | ret =>
    obtain ⟨k1, hs⟩ := harr
    exact ⟨.ret, a1, w1, hq, k1, Steps.head stepR_block hs⟩
  | goto l =>
    obtain ⟨k1, e1, hs⟩ := harr
    exact ⟨.goto l, a1, w1, hq, k1, e1, Steps.head stepR_block hs⟩
  | panic ch => exact harr.elim
  | outgrown => exact harr.elim
theorem cwp_skip (h : Q .normal a w) : cwp r P .skip Q a w := fun _ _ _ _ => ⟨.normal, a, w, h, .one stepR_skip⟩
theorem cwp_exit {id : Nat} (h : Q (.exit id) a w) : cwp r P (.exit id) Q a w := fun _ k _ _ => ⟨.exit id, a, w, h, k, rfl, .refl _ _⟩
theorem cwp_goto {l : Nat} (h : Q (.goto l) a w) : cwp r P (.goto l) Q a w := fun _ k _ _ => ⟨.goto l, a, w, h, k, rfl, .refl _ _⟩
theorem cwp_label {l : Nat} (h : Q .normal a w) : cwp r P (.label l) Q a w := fun _ _ _ _ => ⟨.normal, a, w, h, .one stepR_label⟩
theorem stepR_scope {b : Frame} {k : List Item} {cs : List Frame} {x : Code} : step P (lone (b.atR a (.code (.scope x) :: k)) cs w) = .next (lone (b.atR a (.code x :: .inScope x :: k)) cs w) :=
  step_lone_go (by simp [stepG, stepG.exec, Frame.atR])
theorem stepR_inScope {b : Frame} {k : List Item} {cs : List Frame} {x : Code} : step P (lone (b.atR a (.inScope x :: k)) cs w) = .next (lone (b.atR a k) cs w) :=
  step_lone_go (by simp [stepG, stepG.exec, Frame.atR])
theorem cwp_ret (h : Q .ret a w) : cwp r P .ret Q a w := fun _ k _ _ => ⟨.ret, a, w, h, k, .refl _ _⟩
theorem cwp_cond {x : Operand} {t e : Code} {b : Bool} (hx : a.eval x = .bool b) (h : cwp r P (if b then t else e) Q a w) : cwp r P (.cond x t e) Q a w := fun f k cs hb => by
  obtain ⟨e', a', w', hq, harr⟩ := h f k cs hb
  exact ⟨e', a', w', hq, .of_steps (.one (stepR_cond hx)) harr⟩
end
theorem semAt_ok {ro : Option Nat} {ρ : Operand → Value} {o : Oper} {P : Program} {w w' : World} {x : Next} (h : (execOp ρ o).run P w = .ok x w') (hx : ∀ d, x ≠ .defer d) : (o.semAt ro ρ).run P w = .ok x w' := by
  rw [Oper.semAt_eq ro ρ o]
  · exact h
  · intro c e
    unfold execOp at h
    rw [e] at h
    simp only [Sem.run_bind] at h
    cases hr : (resolve ρ c o.type).run P w with
    | ok d w1 =>
      rw [hr] at h
      simp only [Result.andThen_ok, Sem.run_pure, Result.ok.injEq] at h
      exact hx d h.1.symm
    | halt y w1 => rw [hr] at h; cases h
section
variable {r : Option Nat} {P : Program} {ops : Array Oper} {Q : Exit → Act → World → Prop}
def wpI (r : Option Nat) (P : Program) (ops : Array Oper) (Q : Exit → Act → World → Prop) (is : List Nat) (a : Act) (w : World) : Prop :=
  ∀ (b : Frame) (k : List Item) (cs : List Frame), b.roundOf = r → ∃ e a' w', Q e a' w' ∧ ArrR P (lone (b.atR a (.inRegion ops is :: k)) cs w) b k cs e a' w'
theorem wpI_nil {a : Act} {w : World} (h : Q .normal a w) : wpI r P ops Q [] a w := fun _ _ _ _ => ⟨.normal, a, w, h, .one stepR_region_end⟩
theorem wpI_step {i : Nat} {rest : List Nat} {a a' : Act} {w w' : World}
    (hs : ∀ (b : Frame) (k : List Item) (cs : List Frame), b.roundOf = r → Steps P (lone (b.atR a (.inRegion ops (i :: rest) :: k)) cs w) (lone (b.atR a' (.inRegion ops rest :: k)) cs w'))
    (h : wpI r P ops Q rest a' w') : wpI r P ops Q (i :: rest) a w := fun b k cs hb => by
  obtain ⟨e, a2, w2, hq, harr⟩ := h b k cs hb
  exact ⟨e, a2, w2, hq, .of_steps (hs b k cs hb) harr⟩
theorem finish_here {b : Frame} {a : Act} {i : Nat} {rest : List Nat} {k : List Item} {o : Oper} (ho : ops[i]? = some o) (v : Value) :
    (b.atR a (.inRegion ops (i :: rest) :: k)).finish v = b.atR (a.put o.dst v) (.inRegion ops rest :: k) := by rw [Frame.finish_atR, ho]; rfl
theorem wpI_skip {i : Nat} {rest : List Nat} {a : Act} {w : World} {o : Oper} (ho : ops[i]? = some o) (hw : Region.wanted o (yielded ops a.tmps) = false)
    (h : wpI r P ops Q rest (a.put o.dst undef) w) : wpI r P ops Q (i :: rest) a w := wpI_step (fun b k cs _ => by
  have := stepR_op_skip (P := P) (b := b) (a := a) (k := k) (cs := cs) (w := w) (ops := ops) (i := i) (rest := rest) (by simp [ho, hw])
  simp only [ho, Option.bind_some] at this
  exact .one this) h
theorem wpI_skipNone {i : Nat} {rest : List Nat} {a : Act} {w : World} (ho : ops[i]? = none) (h : wpI r P ops Q rest a w) : wpI r P ops Q (i :: rest) a w := wpI_step (fun b k cs _ => by
  have := stepR_op_skip (P := P) (b := b) (a := a) (k := k) (cs := cs) (w := w) (ops := ops) (i := i) (rest := rest) (by simp [ho])
  simp only [ho, Option.bind_none, Act.put] at this
  exact .one this) h
theorem wpI_value {i : Nat} {rest : List Nat} {a : Act} {w w' : World} {o : Oper} {v : Value} (ho : ops[i]? = some o) (hw : Region.wanted o (yielded ops a.tmps) = true)
    (hr : (execOp a.eval o).run P w = .ok (.value v) w') (h : wpI r P ops Q rest (a.put o.dst v) w') : wpI r P ops Q (i :: rest) a w := wpI_step (fun b k cs hb => by
  refine .one (step_lone_go ?_)
  have hr' := semAt_ok (ro := b.roundOf) hr (fun d e => by cases e)
  rw [stepGR_op ho hw, ← finish_here ho]
  simp [stepG.apply, hr']) h
theorem wpI_unit {i : Nat} {rest : List Nat} {a : Act} {w w' : World} {o : Oper} (ho : ops[i]? = some o) (hw : Region.wanted o (yielded ops a.tmps) = true)
    (hr : (execOp a.eval o).run P w = .ok .skip w') (h : wpI r P ops Q rest (a.put o.dst undef) w') : wpI r P ops Q (i :: rest) a w := wpI_step (fun b k cs hb => by
  refine .one (step_lone_go ?_)
  have hr' := semAt_ok (ro := b.roundOf) hr (fun d e => by cases e)
  rw [stepGR_op ho hw, ← finish_here ho]
  simp [stepG.apply, hr']) h
theorem stepR_enter {b : Frame} {k : List Item} {cs : List Frame} {i : Nat} {rest : List Nat} {a : Act} {w w' : World} {o : Oper} {f : FuncId} {args : Array Value} (ho : ops[i]? = some o) (hw : Region.wanted o (yielded ops a.tmps) = true)
    (hr : (execOp a.eval o).run P w = .ok (.enter f args) w') : step P (lone (b.atR a (.inRegion ops (i :: rest) :: k)) cs w) = .next (lone (Frame.enter P f args .normal) (b.atR a (.inRegion ops (i :: rest) :: k) :: cs) w') := by
  refine step_lone_go ?_
  have hr' := semAt_ok (ro := b.roundOf) hr (fun d e => by cases e)
  rw [stepGR_op ho hw]
  simp [stepG.apply, hr', Frame.atR]
theorem wpI_call {i : Nat} {rest : List Nat} {a : Act} {w w' : World} {o : Oper} {f : FuncId} {args : Array Value} (ho : ops[i]? = some o) (hw : Region.wanted o (yielded ops a.tmps) = true)
    (hr : (execOp a.eval o).run P w = .ok (.enter f args) w') {R : Value → World → Prop} (hc : Calls P f args w' (fun e w2 => ∃ v, e = .returned v ∧ R v w2))
    (h : ∀ v w2, R v w2 → wpI r P ops Q rest (a.put o.dst v) w2) : wpI r P ops Q (i :: rest) a w := fun b k cs hb => by
  have hstep := stepR_enter (P := P) (b := b) (k := k) (cs := cs) (rest := rest) ho hw hr
  obtain ⟨e, w2, fr, ⟨v, rfl, hR⟩, hcomes, _, hleave⟩ := hc (b.atR a (.inRegion ops (i :: rest) :: k) :: cs)
  obtain ⟨e3, a3, w3, hq, harr⟩ := h v w2 hR b k cs hb
  refine ⟨e3, a3, w3, hq, .of_steps ?_ harr⟩
  have hl := step_leave_returned (P := P) (c := b.atR a (.inRegion ops (i :: rest) :: k)) (cs := cs) hleave
  rw [finish_here ho] at hl
  exact .head hstep (Steps.trans hcomes (.one hl))
theorem wpI_comm {i : Nat} {rest : List Nat} {a : Act} {w w' : World} {o : Oper} {v : Value} (ho : ops[i]? = some o)
    (hs : ∀ (b : Frame) (k : List Item) (cs : List Frame), step P (lone (b.atR a (.inRegion ops (i :: rest) :: k)) cs w) = .next (lone ((b.atR a (.inRegion ops (i :: rest) :: k)).finish v) cs w'))
    (h : wpI r P ops Q rest (a.put o.dst v) w') : wpI r P ops Q (i :: rest) a w := wpI_step (fun b k cs _ => by
  have := hs b k cs
  rw [finish_here ho] at this
  exact .one this) h
theorem stepG_comm_here {b : Frame} {a : Act} {i : Nat} {rest : List Nat} {k : List Item} {cs : List Frame} {w w' : World} {o : Oper} {cases : Array CommCase} {bl : Bool} {sh : CommShape}
    (ho : ops[i]? = some o) (hw : Region.wanted o (yielded ops a.tmps) = true) (hr : (execOp a.eval o).run P w = .ok (.comm cases bl sh) w') :
    ∃ es, stepG P true (G (b.atR a (.inRegion ops (i :: rest) :: k)) cs) w = .comm (G (b.atR a (.inRegion ops (i :: rest) :: k)) cs) cases bl sh w' es := by
  have hr' := semAt_ok (ro := b.roundOf) hr (fun d e => by cases e)
  have h := stepGR_op (P := P) (b := b) (k := k) (cs := cs) (w := w) (rest := rest) ho hw
  unfold G
  rw [h]
  simp only [stepG.apply, Sem.runT_eq, if_true, hr']
  exact ⟨_, rfl⟩
def QN (Q : Exit → Act → World → Prop) (e : Exit) (a : Act) (w : World) : Prop := e = .normal ∧ Q e a w
def noDefer (l : List Oper) : Bool := l.all fun o => match o.op with
  | .defer _ => false
  | _ => true
theorem noDefer_spec {o : Oper} {i : Nat} {l : List Oper} (h : noDefer l = true) (hi : l.toArray[i]? = some o) : ∀ cl, o.op ≠ .defer cl := fun cl e => by
  have hm : o ∈ l := by simpa using Array.mem_of_getElem? hi
  have := List.all_eq_true.1 h o hm
  simp [e] at this
theorem wpI_of_ops {l : List Oper} (hd : noDefer l = true) : ∀ (is : List Nat) (a : Act) (w : World), wpOps P l.toArray (QN Q) is a w → wpI r P l.toArray Q is a w := by
  intro is
  induction is with
  | nil => exact fun a w h => wpI_nil h.2
  | cons i rest ih =>
    intro a w h
    simp only [wpOps] at h
    cases ho : l.toArray[i]? with
    | none => simp only [ho] at h; exact wpI_skipNone ho (ih a w h)
    | some o =>
      simp only [ho] at h
      have hnd := noDefer_spec hd ho
      by_cases hw : Region.wanted o (yielded l.toArray a.tmps) = true
      · simp only [hw, if_true] at h
        rcases h with h | ⟨_, a0, w0, hq⟩
        case inr => exact absurd hq.1 (fun e => by cases e)
        simp only [Oper.wp, Oper.upon] at h
        split at h
        · rename_i v w' hr
          exact wpI_value ho hw hr (ih _ _ h)
        · rename_i w' hr
          exact wpI_unit ho hw hr (ih _ _ h)
        · rename_i d w' hr
          refine wpI_step (a' := ({ a with defers := d :: a.defers } : Act).put o.dst undef) (w' := w') (fun b k cs hb => .one (step_lone_go ?_)) (ih _ _ h)
          have hr' : (o.semAt b.roundOf a.eval).run P w = .ok (.defer d) w' := by rw [Oper.semAt_eq _ _ _ hnd]; exact hr
          have hf : ({ b.atR a (.inRegion l.toArray (i :: rest) :: k) with defers := d :: a.defers } : Frame).finish undef =
              b.atR ({ a with defers := d :: a.defers }.put o.dst undef) (.inRegion l.toArray rest :: k) := by
            have := Frame.finish_atR b { a with defers := d :: a.defers } l.toArray i rest k undef
            rw [ho] at this; exact this
          rw [stepGR_op ho hw]
          simp only [stepG.apply, Sem.runT_eq, hr', GStep.bare_after]
          exact congrArg (fun fr => GStep.go { frame := fr, callers := cs, status := .running, dying := none } w') hf
        · rename_i f args w' hr
          refine wpI_call ho hw hr (R := fun v w2 => wpOps P l.toArray (QN Q) rest (a.put o.dst v) w2) (fun cs => ?_) (fun v w2 hR => ih _ _ hR)
          obtain ⟨e, w2, fr, hR, hs, hf, hl⟩ := h cs
          cases e with
          | returned v => exact ⟨_, w2, fr, ⟨v, rfl, hR⟩, hs, hf, hl⟩
          | panicked ch => exact absurd hR.1 (fun e => by cases e)
          | outgrown => obtain ⟨a0, w0, hq⟩ := hR; exact absurd hq.1 (fun e => by cases e)
        · rename_i row args w' hr
          intro b k cs hb
          have hr' : (o.semAt b.roundOf a.eval).run P w = .ok (.row row args) w' := by rw [Oper.semAt_eq _ _ _ hnd]; exact hr
          obtain ⟨v, w2, hR, hs⟩ := h (b.atR a (.inRegion l.toArray (i :: rest) :: k)) cs
          have henter : step P (lone (b.atR a (.inRegion l.toArray (i :: rest) :: k)) cs w) =
              .next (lone (Frame.ofRow P row args .normal) (b.atR a (.inRegion l.toArray (i :: rest) :: k) :: cs) w') :=
            step_lone_go (by rw [stepGR_op ho hw]; simp [stepG.apply, hr', Frame.atR])
          obtain ⟨e, a', w3, hq, harr⟩ := ih _ _ hR b k cs hb
          refine ⟨e, a', w3, hq, .of_steps (.head henter ?_) harr⟩
          rw [← finish_here ho]; exact hs
        · rename_i v w' hr
          exact absurd h.1 (fun e => by cases e)
        · exact h.elim
      · simp only [hw, if_false, Bool.false_eq_true] at h
        exact wpI_skip ho (by simpa using hw) (ih _ _ h)
theorem cwp_region_any {id : Nat} {l : List Oper} {a : Act} {w : World} (hm : P.follows .mixedOrders = true) (hd : noDefer l = true)
    (h : wpAny P .any l.toArray (QN Q) l.toArray.size (Array.replicate l.toArray.size false) a { w with drawn := w.drawn + 1 }) : cwp r P (.region id l.toArray true) Q a w := fun b k cs hb => by
  obtain ⟨e, a', w', hq, harr⟩ := wpI_of_ops (r := r) hd _ _ _ (wpAny_sound l.toArray.size (w.tape w.drawn (.order b.fn id)) _ a _ h) b k cs hb
  refine ⟨e, a', w', hq, .of_steps (.one stepR_region_draw) ?_⟩
  simp only [Region.schedule, hm, Bool.true_or, if_true]
  exact harr
end
def fnPost (c : Cx) (P : Program) (fn : Func) (R : Ending → World → Prop) : Exit → Act → World → Prop
  | .normal, a, w | .ret, a, w => a.defers = c.ds ∧ ∃ v, (results fn a.tmps).run P w = .ok v w ∧ R (.returned v) w
  | _, _, _ => False
theorem calls_of_cwp {P : Program} {f : FuncId} {fn : Func} {x : Code} {args : Array Value} {w W : World} {D : Nat → Prop} {R : Ending → World → Prop} (hf : P.funcs[f]? = some fn) (hb : fn.body = some x)
    (h : cwp none P x (fnPost (Cx.of W D) P fn R) { tmps := args ++ Array.replicate (fn.ntmps - args.size) undef, defers := [] } w) : Calls P f args w R := by
  intro cs
  let b : Frame := { (default : Frame) with fn := f, kind := .normal, roundOf := none }
  have henter : Frame.enter P f args .normal = b.atR { tmps := args ++ Array.replicate (fn.ntmps - args.size) undef, defers := [] } [.code x] := by
    simp [Frame.enter, Frame.atR, hf, hb, b]
  obtain ⟨e, a', w', hq, harr⟩ := h b [] cs rfl
  rw [← henter] at harr
  cases e with
  | normal =>
    obtain ⟨hd, v, hr, hR⟩ := hq
    exact ⟨.returned v, w', _, hR, Steps.trans harr (.one (stepR_end rfl)), rfl, rfl, hd, rfl, fn, hf, hr⟩
  | ret =>
    obtain ⟨hd, v, hr, hR⟩ := hq
    obtain ⟨k1, hs⟩ := harr
    exact ⟨.returned v, w', _, hR, Steps.trans hs (.one (stepR_ret rfl)), rfl, rfl, hd, rfl, fn, hf, hr⟩
  | panic chain => exact harr.elim
  | exit id => exact hq.elim
  | goto l => exact hq.elim
  | outgrown => exact harr.elim
variable {P : Program} {ops : Array Oper} {Q : Exit → Act → World → Prop} {c : Cx} {n : Nat} {L : Env} {M : List HProp}
def wpE (P : Program) (ops : Array Oper) (rest : List Oper) (Q : Exit → Act → World → Prop) (c : Cx) (n : Nat) (L : Env) (M : List HProp) : Prop :=
  ∀ i, ops.toList.drop i = rest → ∀ T w, St c n L M T w → wpI c.rnd P ops Q (List.range' i rest.length) ⟨T, c.ds⟩ w
def wpO (P : Program) (ops : Array Oper) (o : Oper) (rest : List Oper) (Q : Exit → Act → World → Prop) (c : Cx) (n : Nat) (L : Env) (M : List HProp) : Prop :=
  ∀ i, ops.toList.drop i = o :: rest → ∀ T w, St c n L M T w → Region.wanted o (yielded ops T) = true → wpI c.rnd P ops Q (List.range' i (rest.length + 1)) ⟨T, c.ds⟩ w
def wpC (P : Program) (x : Code) (Q : Exit → Act → World → Prop) (c : Cx) (n : Nat) (L : Env) (M : List HProp) : Prop :=
  ∀ T w, St c n L M T w → cwp c.rnd P x Q ⟨T, c.ds⟩ w
def qE (Q : Exit → Act → World → Prop) (e : Exit) (c : Cx) (n : Nat) (L : Env) (M : List HProp) : Prop :=
  ∀ T w, St c n L M T w → Q e ⟨T, c.ds⟩ w
theorem drop_cons {l : List Oper} {i : Nat} {o : Oper} {rest : List Oper} (h : l.drop i = o :: rest) : l[i]? = some o ∧ l.drop (i + 1) = rest := by
  constructor
  · have : (l.drop i)[0]? = some o := by rw [h]; rfl
    simpa using this
  · rw [← List.tail_drop, h]; rfl
theorem wpE_nil (h : qE Q .normal c n L M) : wpE P ops [] Q c n L M := fun _ _ T w s => wpI_nil (h T w s)
variable {o : Oper} {rest : List Oper}
theorem g_none (hg : o.guard = none) (h : wpO P ops o rest Q c n L M) : wpE P ops (o :: rest) Q c n L M :=
  fun i hi T w s => h i hi T w s (by simp [Region.wanted, hg])
theorem g_yes {j d : Nat} {b : Bool} (hg : o.guard = some (j, b)) (hd : (ops[j]?).bind (·.dst) = some d) (hv : L.get d = some (.bool b)) (h : wpO P ops o rest Q c n L M) : wpE P ops (o :: rest) Q c n L M :=
  fun i hi T w s => h i hi T w s (by
    have := s.slots _ _ hv
    simp [Region.wanted, hg, yielded, hd, this])
def isB (b : Bool) : Value → Bool
  | .bool x => x == b
  | _ => false
theorem put_St {T : Array Value} {w : World} {d : Nat} (s : St c n L M T w) (hd : Nat.blt d n = true) (v : Value) : St c n ((d, v) :: L) M (T.setIfInBounds d v) w :=
  ⟨by simp [s.size], s.slots.put s.size hd v, s.heap⟩
theorem g_no {j d d' : Nat} {b : Bool} {v : Value} (hg : o.guard = some (j, b)) (hd : (ops[j]?).bind (·.dst) = some d) (hv : L.get d = some v) (hb : isB b v = false) (ho : o.dst = some d') (hdn : Nat.blt d' n = true)
    (h : wpE P ops rest Q c n ((d', undef) :: L) M) : wpE P ops (o :: rest) Q c n L M := fun i hi T w s => by
  obtain ⟨h1, h2⟩ := drop_cons hi
  have hT := s.slots _ _ hv
  have := h (i + 1) h2 _ w (put_St s hdn undef)
  refine wpI_skip (i := i) (o := o) (by simpa using h1) ?_ (by simpa [Act.put, ho] using this)
  simp only [Region.wanted, hg, yielded, hd, Option.bind_some, hT]
  cases v <;> simp_all [isB]
theorem g_no0 {j d : Nat} {b : Bool} {v : Value} (hg : o.guard = some (j, b)) (hd : (ops[j]?).bind (·.dst) = some d) (hv : L.get d = some v) (hb : isB b v = false) (ho : o.dst = none)
    (h : wpE P ops rest Q c n L M) : wpE P ops (o :: rest) Q c n L M := fun i hi T w s => by
  obtain ⟨h1, h2⟩ := drop_cons hi
  have hT := s.slots _ _ hv
  have := h (i + 1) h2 _ w s
  refine wpI_skip (i := i) (o := o) (by simpa using h1) ?_ (by simpa [Act.put, ho] using this)
  simp only [Region.wanted, hg, yielded, hd, Option.bind_some, hT]
  cases v <;> simp_all [isB]
def Ev (P : Program) (o : Oper) (c : Cx) (n : Nat) (L : Env) (M : List HProp) (v : Value) : Prop :=
  ∀ T w, St c n L M T w → (execOp (Act.eval ⟨T, c.ds⟩) o).run P w = .ok (.value v) w
theorem o_ev {d : Nat} {v : Value} (ho : o.dst = some d) (he : Ev P o c n L M v) (hd : Nat.blt d n = true) (h : wpE P ops rest Q c n ((d, v) :: L) M) : wpO P ops o rest Q c n L M := fun i hi T w s hw => by
  obtain ⟨h1, h2⟩ := drop_cons hi
  have := h (i + 1) h2 _ w (put_St s hd v)
  exact wpI_value (i := i) (o := o) (a := ⟨T, c.ds⟩) (by simpa using h1) hw (he T w s) (by simpa [Act.put, ho] using this)
theorem o_val {d : Nat} (ho : o.dst = some d) (hd : Nat.blt d n = true)
    (h : ∀ T w, St c n L M T w → ∃ v w' L' M', (execOp (Act.eval ⟨T, c.ds⟩) o).run P w = .ok (.value v) w' ∧ HSt c M' w' ∧ L' = (d, v) :: L ∧ wpE P ops rest Q c n L' M') : wpO P ops o rest Q c n L M := fun i hi T w s hw => by
  obtain ⟨h1, h2⟩ := drop_cons hi
  obtain ⟨v, w', L', M', hr, hs, rfl, hn⟩ := h T w s
  have := hn (i + 1) h2 (T.setIfInBounds d v) w' ⟨by simp [s.size], s.slots.put s.size hd v, hs⟩
  exact wpI_value (i := i) (o := o) (a := ⟨T, c.ds⟩) (by simpa using h1) hw hr (by simpa [Act.put, ho] using this)
theorem o_unit (ho : o.dst = none)
    (h : ∀ T w, St c n L M T w → ∃ w' M', (execOp (Act.eval ⟨T, c.ds⟩) o).run P w = .ok .skip w' ∧ HSt c M' w' ∧ wpE P ops rest Q c n L M') : wpO P ops o rest Q c n L M := fun i hi T w s hw => by
  obtain ⟨h1, h2⟩ := drop_cons hi
  obtain ⟨w', M', hr, hs, hn⟩ := h T w s
  have := hn (i + 1) h2 T w' ⟨s.size, s.slots, hs⟩
  exact wpI_unit (i := i) (o := o) (a := ⟨T, c.ds⟩) (by simpa using h1) hw hr (by simpa [Act.put, ho] using this)
def PostS {σ : Type} (c : Cx) (φ : σ → Prop) (val : σ → Value) (B : σ → List HProp) : Ending → World → Prop :=
  fun e w' => ∃ y, φ y ∧ e = .returned (val y) ∧ HSt c (B y) w'
def Callable (P : Program) (f : FuncId) : Prop := ∀ args w, (callFunc f args).run P w = .ok (.enter f args) w
theorem callable {f : FuncId} {fn : Func} {x : Code} (hf : P.funcs[f]? = some fn) (hname : (fn.name == "runtime.NumGoroutine") = false) (hb : fn.body = some x) : Callable P f := fun args w => by
  have h1 : ¬ fn.name = "runtime.NumGoroutine" := by simpa using hname
  simp [callFunc, hf, h1, hb, program, Sem.run, bind, Sem.bind, pure]
structure FnDoes {σ : Type} (P : Program) (f : FuncId) (args : List Value) (A : List HProp) (φ : σ → Prop) (val : σ → Value) (B : σ → List HProp) : Prop where
  may : Callable P f
  does : ∀ w h, sepL A h → PHeap.le h (ph w) → Calls P f args.toArray w (PostS (Cx.of w fun b => h b ≠ none) φ val B)
theorem execOp_call {a : Act} {dst : Option Nat} {f : FuncId} {xs : Array Operand} {ats : Array TypeId} {ty : TypeId} {pos : String} {after : Array Edge} {guard : Option (Nat × Bool)} :
    execOp a.eval { dst, op := .call { callee := .value (.func f), args := xs, argTypes := ats }, type := ty, pos, after, guard } = callFunc f (#[] ++ xs.map a.eval ++ #[]) := rfl
theorem o_call {σ : Type} {d : Nat} {f : FuncId} {xs : List Operand} {ats : Array TypeId} {ty : TypeId} {pos : String} {after : Array Edge} {guard : Option (Nat × Bool)}
    {args : List Value} {A R : List HProp} {φ : σ → Prop} {val : σ → Value} {B : σ → List HProp}
    (S : FnDoes P f args A φ val B) (hx : opnds L xs = some args) (hp : Ent M (A ++ R)) (hd : Nat.blt d n = true)
    (h : ∀ y, φ y → wpE P ops rest Q c n ((d, val y) :: L) (B y ++ R)) :
    wpO P ops ⟨some d, .call { callee := .value (.func f), args := xs.toArray, argTypes := ats }, ty, pos, after, guard⟩ rest Q c n L M := fun i hi T w s hw => by
  obtain ⟨h1, h2⟩ := drop_cons hi
  have hr : (execOp (Act.eval ⟨T, c.ds⟩) ⟨some d, .call { callee := .value (.func f), args := xs.toArray, argTypes := ats }, ty, pos, after, guard⟩).run P w = .ok (.enter f args.toArray) w := by
    rw [execOp_call]
    have := opnds_eval (ds := c.ds) s.slots hx
    simp only [List.map_toArray, this, Array.empty_append, Array.append_empty]
    exact S.may _ _
  refine wpI_call (i := i) (a := ⟨T, c.ds⟩) (by simpa using h1) hw hr (R := fun v w2 => ∃ y, φ y ∧ v = val y ∧ HSt c (B y ++ R) w2) ?_ ?_
  · intro cs
    obtain ⟨f', hh, m, l, dd⟩ := s.heap
    obtain ⟨ha, hr', a, r, dj, l1, l2⟩ := sepL_append (hp _ m)
    obtain ⟨e, w2, fr, ⟨y, hy, he, hst⟩, hcm, hfr, hl⟩ := S.does w ha a (PHeap.le_trans l1 l) cs
    refine ⟨e, w2, fr, ⟨val y, he, y, hy, rfl, ?_⟩, hcm, hfr, hl⟩
    exact HSt.call f' l dd r dj l1 l2 hst
  · rintro v w2 ⟨y, hy, rfl, hst⟩
    have := h y hy (i + 1) h2 (T.setIfInBounds d (val y)) w2 ⟨by simp [s.size], s.slots.put s.size hd _, hst⟩
    simpa [Act.put] using this
theorem wpC_seq {x y : Code} (h : wpC P x (Exit.then (cwp c.rnd P y Q) Q) c n L M) : wpC P (.seq x y) Q c n L M := fun T w s => cwp_seq (h T w s)
theorem wpC_block {id : Nat} {x : Code} (h : wpC P x (Exit.inBlock id Q) c n L M) : wpC P (.block id x) Q c n L M := fun T w s => cwp_block (h T w s)
theorem wpC_skip (h : qE Q .normal c n L M) : wpC P .skip Q c n L M := fun T w s => cwp_skip (h T w s)
theorem wpC_exit {id : Nat} (h : qE Q (.exit id) c n L M) : wpC P (.exit id) Q c n L M := fun T w s => cwp_exit (h T w s)
theorem wpC_ret (h : qE Q .ret c n L M) : wpC P .ret Q c n L M := fun T w s => cwp_ret (h T w s)
theorem wpC_region {id : Nat} {l : List Oper} (h : wpE P l.toArray l Q c n L M) : wpC P (.region id l.toArray false) Q c n L M := fun T w s => by
  intro b k cs hb
  obtain ⟨e, a', w', hq, harr⟩ := h 0 (by simp) T w s b k cs hb
  refine ⟨e, a', w', hq, .of_steps (.one stepR_region) ?_⟩
  rw [List.range_eq_range']
  simpa using harr
theorem wpC_cond_t {x : Operand} {t e : Code} (hx : opnd L x = some (.bool true)) (h : wpC P t Q c n L M) : wpC P (.cond x t e) Q c n L M := fun T w s => cwp_cond (b := true) (opnd_eval s.slots hx) (h T w s)
theorem wpC_cond_f {x : Operand} {t e : Code} (hx : opnd L x = some (.bool false)) (h : wpC P e Q c n L M) : wpC P (.cond x t e) Q c n L M := fun T w s => cwp_cond (b := false) (opnd_eval s.slots hx) (h T w s)
theorem wpC_cond {x : Operand} {t e : Code} {b : Bool} (hx : opnd L x = some (.bool b)) (ht : b = true → wpC P t Q c n L M) (he : b = false → wpC P e Q c n L M) : wpC P (.cond x t e) Q c n L M := by
  cases b with
  | true => exact wpC_cond_t hx (ht rfl)
  | false => exact wpC_cond_f hx (he rfl)
theorem HSt.unfold {σ : Type} {φ : σ → Prop} {My : σ → List HProp} {R : List HProp} {w : World} (p : Pick M (exI φ My) R) (s : HSt c M w) : ∃ y, φ y ∧ HSt c (My y ++ R) w := by
  obtain ⟨f, h, m, l, d⟩ := s
  obtain ⟨y, hy, m'⟩ := exI_unfold p m
  exact ⟨y, hy, f, h, m', l, d⟩
theorem wpC_unfold {σ : Type} {φ : σ → Prop} {My : σ → List HProp} {R : List HProp} {x : Code} (p : Pick M (exI φ My) R) (h : ∀ y, φ y → wpC P x Q c n L (My y ++ R)) : wpC P x Q c n L M := fun T w s => by
  obtain ⟨y, hy, s'⟩ := s.heap.unfold p
  exact h y hy T w ⟨s.size, s.slots, s'⟩
theorem wpE_unfold {σ : Type} {φ : σ → Prop} {My : σ → List HProp} {R : List HProp} (p : Pick M (exI φ My) R) (h : ∀ y, φ y → wpE P ops rest Q c n L (My y ++ R)) : wpE P ops rest Q c n L M := fun i hi T w s => by
  obtain ⟨y, hy, s'⟩ := s.heap.unfold p
  exact h y hy i hi T w ⟨s.size, s.slots, s'⟩
theorem wpC_ent {N : List HProp} {x : Code} (e : Ent M N) (h : wpC P x Q c n L N) : wpC P x Q c n L M := fun T w s => h T w ⟨s.size, s.slots, s.heap.ent e⟩
def LoopQ {σ : Type} (φ : σ → Prop) (Lx : σ → Env) (Mx : σ → List HProp) (μ : σ → Nat) (x : σ) (c : Cx) (n : Nat) : Act → World → Prop :=
  fun a w => a.defers = c.ds ∧ ∃ x', φ x' ∧ μ x' < μ x ∧ St c n (Lx x') (Mx x') a.tmps w
theorem wpC_loop {σ : Type} {body : Code} (φ : σ → Prop) (Lx : σ → Env) (Mx : σ → List HProp) (μ : σ → Nat) (x0 : σ) (h0 : φ x0) (hL : Env.sub L (Lx x0)) (hM : Ent M (Mx x0))
    (round : ∀ x, φ x → wpC P body (Exit.then (LoopQ φ Lx Mx μ x c n) Q) c n (Lx x) (Mx x)) : wpC P (.loop body) Q c n L M := fun T w s b k cs hb => by
  have key : ∀ m x, μ x = m → φ x → ∀ T w, St c n (Lx x) (Mx x) T w → ∃ e a' w', Q e a' w' ∧ ArrR P (lone (b.atR ⟨T, c.ds⟩ (.code body :: .inLoop body :: k)) cs w) b k cs e a' w' := by
    intro m
    induction m using Nat.strongRecOn with
    | _ m ih =>
      intro x hm hx T w s
      obtain ⟨e, a1, w1, hq, harr⟩ := round x hx T w s b (.inLoop body :: k) cs hb
      cases e with
      | normal =>
        obtain ⟨hd, x', hx', hlt, st⟩ := hq
        obtain ⟨T1, ds⟩ := a1
        simp only at hd st
        subst hd
        obtain ⟨e2, a2, w2, hq2, harr2⟩ := ih (μ x') (hm ▸ hlt) x' rfl hx' T1 w1 st
        exact ⟨e2, a2, w2, hq2, .of_steps (Steps.trans harr (.one stepR_inLoop)) harr2⟩
      | exit id => exact ⟨_, a1, w1, hq, .pass (x := .inLoop body) (fun _ e => by cases e) (fun _ e => by cases e) (fun e => by cases e) harr⟩
      | ret => exact ⟨_, a1, w1, hq, .pass (x := .inLoop body) (fun _ e => by cases e) (fun _ e => by cases e) (fun e => by cases e) harr⟩
      | goto l => exact ⟨_, a1, w1, hq, .pass (x := .inLoop body) (fun _ e => by cases e) (fun _ e => by cases e) (fun e => by cases e) harr⟩
      | panic ch => exact harr.elim
      | outgrown => exact harr.elim
  obtain ⟨e, a', w', hq, harr⟩ := key _ x0 rfl h0 T w ⟨s.size, s.slots.sub hL, s.heap.ent hM⟩
  exact ⟨e, a', w', hq, .of_steps (.one stepR_loop) harr⟩
def scopeQ {σ : Type} (φ : σ → Prop) (Lx : σ → Env) (Mx : σ → List HProp) (μ : σ → Nat) (l : Nat) (m : Nat) (c : Cx) (n : Nat) (Q : Exit → Act → World → Prop) : Exit → Act → World → Prop
  | .goto j, a, w => if j = l then a.defers = c.ds ∧ ∃ x', φ x' ∧ μ x' < m ∧ St c n (Lx x') (Mx x') a.tmps w else False
  | e, a, w => Q e a w
theorem wpC_scope {σ : Type} {body rest : Code} (φ : σ → Prop) (Lx : σ → Env) (Mx : σ → List HProp) (μ : σ → Nat) (l m0 : Nat) (hl : findLabel body l = some rest)
    (h0 : wpC P body (scopeQ φ Lx Mx μ l m0 c n Q) c n L M) (round : ∀ x, φ x → wpC P rest (scopeQ φ Lx Mx μ l (μ x) c n Q) c n (Lx x) (Mx x)) : wpC P (.scope body) Q c n L M := fun T w s b k cs hb => by
  have fin : ∀ {mm : Machine} {m : Nat}, (∀ x, μ x < m → φ x → ∀ T w, St c n (Lx x) (Mx x) T w → ∃ e a' w', Q e a' w' ∧ ArrR P (lone (b.atR ⟨T, c.ds⟩ (.code rest :: .inScope body :: k)) cs w) b k cs e a' w') →
      (∃ e a' w', scopeQ φ Lx Mx μ l m c n Q e a' w' ∧ ArrR P mm b (.inScope body :: k) cs e a' w') → ∃ e a' w', Q e a' w' ∧ ArrR P mm b k cs e a' w' := fun {mm m} ih ⟨e, a1, w1, hq, harr⟩ => by
    cases e with
    | normal => exact ⟨.normal, a1, w1, hq, Steps.trans harr (.one stepR_inScope)⟩
    | exit id => obtain ⟨k1, e1, hs⟩ := harr; exact ⟨.exit id, a1, w1, hq, k1, e1.trans (exitTo_item (fun _ e => by cases e)), hs⟩
    | ret => exact ⟨.ret, a1, w1, hq, harr⟩
    | goto j =>
      obtain ⟨k1, e1, hs⟩ := harr
      by_cases hj : j = l
      · subst hj
        have hq' : a1.defers = c.ds ∧ ∃ x', φ x' ∧ μ x' < m ∧ St c n (Lx x') (Mx x') a1.tmps w1 := by simpa [scopeQ] using hq
        obtain ⟨hd, x', hx', hlt, st⟩ := hq'
        obtain ⟨T1, ds⟩ := a1
        simp only at hd st
        subst hd
        obtain ⟨e2, a2, w2, hq2, harr2⟩ := ih x' hlt hx' T1 w1 st
        refine ⟨e2, a2, w2, hq2, .of_steps (Steps.trans hs (.one (stepR_goto (k' := .code rest :: .inScope body :: k) ?_))) harr2⟩
        rw [e1]; simp [gotoIn, hl]
      · simp [scopeQ, hj] at hq
    | panic ch => exact harr.elim
    | outgrown => exact harr.elim
  have key : ∀ m x, μ x = m → φ x → ∀ T w, St c n (Lx x) (Mx x) T w → ∃ e a' w', Q e a' w' ∧ ArrR P (lone (b.atR ⟨T, c.ds⟩ (.code rest :: .inScope body :: k)) cs w) b k cs e a' w' := by
    intro m
    induction m using Nat.strongRecOn with
    | _ m ih =>
      intro x hm hx T w s
      exact fin (fun x' hlt hx' => ih (μ x') (hm ▸ hlt) x' rfl hx') (round x hx T w s b (.inScope body :: k) cs hb)
  obtain ⟨e, a', w', hq, harr⟩ := fin (m := m0) (fun x' _ hx' => key _ x' rfl hx') (h0 T w s b (.inScope body :: k) cs hb)
  exact ⟨e, a', w', hq, .of_steps (.one stepR_scope) harr⟩
theorem wpC_label {l : Nat} (h : qE Q .normal c n L M) : wpC P (.label l) Q c n L M := fun T w s => cwp_label (h T w s)
theorem wpC_goto {l : Nat} (h : qE Q (.goto l) c n L M) : wpC P (.goto l) Q c n L M := fun T w s => cwp_goto (h T w s)
theorem q_goto {σ : Type} {φ : σ → Prop} {Lx : σ → Env} {Mx : σ → List HProp} {μ : σ → Nat} {l m : Nat} (x : σ) (h : φ x) (hm : μ x < m) (hL : Env.sub L (Lx x)) (hM : Ent M (Mx x)) : qE (scopeQ φ Lx Mx μ l m c n Q) (.goto l) c n L M := fun _ _ s => by
  show (if l = l then _ else False)
  rw [if_pos rfl]
  exact ⟨rfl, x, h, hm, s.size, s.slots.sub hL, s.heap.ent hM⟩
theorem q_scope {σ : Type} {φ : σ → Prop} {Lx : σ → Env} {Mx : σ → List HProp} {μ : σ → Nat} {l m : Nat} {e : Exit} (he : ∀ j, e ≠ .goto j) (h : qE Q e c n L M) : qE (scopeQ φ Lx Mx μ l m c n Q) e c n L M := fun T w s => by
  have := h T w s
  cases e <;> first | exact this | exact absurd rfl (he _)
theorem q_then_goto {K : Act → World → Prop} {l : Nat} (h : qE Q (.goto l) c n L M) : qE (Exit.then K Q) (.goto l) c n L M := h
theorem q_block_goto {id l : Nat} (h : qE Q (.goto l) c n L M) : qE (Exit.inBlock id Q) (.goto l) c n L M := h
theorem q_then {r : Option Nat} {y : Code} {Q' : Exit → Act → World → Prop} (h : wpC P y Q c n L M) (hr : r = c.rnd := by rfl) : qE (Exit.then (cwp r P y Q) Q') .normal c n L M := by subst hr; exact h
theorem q_then_exit {K : Act → World → Prop} {id : Nat} (h : qE Q (.exit id) c n L M) : qE (Exit.then K Q) (.exit id) c n L M := h
theorem q_then_ret {K : Act → World → Prop} (h : qE Q .ret c n L M) : qE (Exit.then K Q) .ret c n L M := h
theorem q_block_normal {id : Nat} (h : qE Q .normal c n L M) : qE (Exit.inBlock id Q) .normal c n L M := h
theorem q_block_ret {id : Nat} (h : qE Q .ret c n L M) : qE (Exit.inBlock id Q) .ret c n L M := h
theorem q_block_hit {id : Nat} (h : qE Q .normal c n L M) : qE (Exit.inBlock id Q) (.exit id) c n L M := fun T w s => by simpa [Exit.inBlock] using h T w s
theorem q_block_miss {id id' : Nat} (hne : Nat.beq id' id = false) (h : qE Q (.exit id') c n L M) : qE (Exit.inBlock id Q) (.exit id') c n L M := fun T w s => by
  have : id' ≠ id := fun e => by subst e; rw [Nat.beq_refl] at hne; cases hne
  simpa [Exit.inBlock, this] using h T w s
theorem q_round {σ : Type} {φ : σ → Prop} {Lx : σ → Env} {Mx : σ → List HProp} {μ : σ → Nat} {x : σ} (x' : σ) (h : φ x') (hm : μ x' < μ x) (hL : Env.sub L (Lx x')) (hM : Ent M (Mx x')) :
    qE (Exit.then (LoopQ φ Lx Mx μ x c n) Q) .normal c n L M := fun _ _ s => ⟨rfl, x', h, hm, s.size, s.slots.sub hL, s.heap.ent hM⟩
def enum : Nat → List Value → Env
  | _, [] => []
  | k, v :: r => (k, v) :: enum (k + 1) r
theorem eNUM {a b : Env} (h : a = b := by simp only [enum, Nat.reduceAdd, Nat.zero_add]; exact rfl) : a = b := h
theorem enum_get : ∀ {l : List Value} {k j : Nat} {v : Value}, (enum k l).get j = some v → k ≤ j ∧ l[j - k]? = some v
  | [], _, _, _, e => by cases e
  | u :: r, k, j, v, e => by
    unfold enum Env.get at e
    cases hb : Nat.beq k j with
    | true =>
      rw [hb] at e
      have := Nat.eq_of_beq_eq_true hb
      subst this
      cases e
      exact ⟨Nat.le_refl _, by simp⟩
    | false =>
      rw [hb] at e
      obtain ⟨h1, h2⟩ := enum_get e
      refine ⟨by omega, ?_⟩
      have : j - k = (j - (k + 1)) + 1 := by omega
      rw [this]
      simpa using h2
theorem does_of {σ : Type} {f : FuncId} {fn : Func} {x : Code} {args : List Value} {A : List HProp} {φ : σ → Prop} {val : σ → Value} {B : σ → List HProp}
    (hf : P.funcs[f]? = some fn) (hname : (fn.name == "runtime.NumGoroutine") = false) (hb : fn.body = some x) (hn : fn.ntmps = n) (ha : Nat.ble args.length n = true) (hL : enum 0 args = L)
    (h : ∀ c : Cx, wpC P x (fnPost c P fn (PostS c φ val B)) c n L A) : FnDoes P f args A φ val B := ⟨callable hf hname hb, fun w hh a l => by
  subst hL
  refine calls_of_cwp hf hb (h (Cx.of w fun b => hh b ≠ none) _ w ⟨?_, ?_, Fr.refl _ _, hh, a, l, fun b hb => .inl hb⟩)
  · have : args.length ≤ n := Nat.le_of_ble_eq_true ha
    simp [hn]; omega
  · intro k v e
    obtain ⟨_, h2⟩ := enum_get e
    simp only [Nat.sub_zero] at h2
    have : k < args.length := (List.getElem?_eq_some_iff.1 h2).1
    rw [Array.getElem?_append_left (by simpa using this)]
    simpa using h2⟩
theorem q_ret0 {σ : Type} {fn : Func} {φ : σ → Prop} {val : σ → Value} {B : σ → List HProp} (hr : fn.results = #[]) (y : σ) (hv : Value.tuple #[] = val y) (hy : φ y) (hM : Ent M (B y)) (e : Exit) (he : e = .ret ∨ e = .normal) :
    qE (fnPost c P fn (PostS c φ val B)) e c n L M := fun T w s => by
  rcases he with rfl | rfl <;> exact ⟨rfl, _, results_none hr _ _ _, y, hy, by rw [hv], s.heap.ent hM⟩
theorem q_ret1 {σ : Type} {fn : Func} {φ : σ → Prop} {val : σ → Value} {B : σ → List HProp} {t : Nat} {v : Value} (hr : fn.results = #[.tmp t]) (ht : L.get t = some v) (y : σ) (hv : v = val y) (hy : φ y) (hM : Ent M (B y)) :
    qE (fnPost c P fn (PostS c φ val B)) .ret c n L M := fun T w s => by
  refine ⟨rfl, _, results_tmp hr _ _ _, y, hy, ?_, s.heap.ent hM⟩
  have := s.slots _ _ ht
  simp [this, hv]
theorem q_ret2 {σ : Type} {fn : Func} {φ : σ → Prop} {val : σ → Value} {B : σ → List HProp} {t u : Nat} {v v' : Value} (hr : fn.results = #[.tmp t, .tmp u]) (ht : L.get t = some v) (hu : L.get u = some v') (y : σ) (hv : Value.tuple #[v, v'] = val y) (hy : φ y) (hM : Ent M (B y)) :
    qE (fnPost c P fn (PostS c φ val B)) .ret c n L M := fun T w s => by
  refine ⟨rfl, _, results_tmp2 hr _ _ _, y, hy, ?_, s.heap.ent hM⟩
  have h1 := s.slots _ _ ht
  have h2 := s.slots _ _ hu
  simp [h1, h2, hv]
theorem FnDoes.turn {σ τ : Type} {f : FuncId} {args : List Value} {A A' : List HProp} {φ : σ → Prop} {val : σ → Value} {B : σ → List HProp} {φ' : τ → Prop} {val' : τ → Value} {B' : τ → List HProp} (S : FnDoes P f args A φ val B) (hA : Ent A' A)
    (h : ∀ y, φ y → ∃ z, φ' z ∧ val y = val' z ∧ Ent (B y) (B' z)) : FnDoes P f args A' φ' val' B' := ⟨S.may, fun w hh a l cs => by
  obtain ⟨e, w2, fr, ⟨y, hy, he, hst⟩, r⟩ := S.does w hh (hA _ a) l cs
  obtain ⟨z, hz, hv, hB⟩ := h y hy
  exact ⟨e, w2, fr, ⟨z, hz, by rw [he, hv], hst.ent hB⟩, r⟩⟩
end Go.Sx
