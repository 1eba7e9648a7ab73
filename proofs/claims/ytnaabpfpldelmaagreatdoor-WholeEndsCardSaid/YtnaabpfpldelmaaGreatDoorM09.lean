/-
  A range over a function: a round, the iterator's contract, the statement. No program in sight.
-/
import Derived.Test.YtnaabpfpldelmaaGreatDoorM08
import Derived.RangeFuncRecord
set_option linter.unusedSimpArgs false
set_option linter.unusedVariables false
namespace Go.Sx
open Go Go.Conc
variable {P : Program} {ops : Array Oper} {Q : Exit → Act → World → Prop} {c : Cx} {n : Nat} {L : Env} {M : List HProp} {rest : List Oper} {o : Oper}
variable {dst : Option Nat} {ty : TypeId} {pos : String} {after : Array Edge} {g : Option (Nat × Bool)}
def YieldDoes {σ : Type} (P : Program) (l : Nat) (args : List Value) (A : List HProp) (φ : σ → Prop) (val : σ → Bool) (B : σ → List HProp) : Prop :=
  ∀ w h, sepL A h → PHeap.le h (ph w) → ∃ f T assign body, (Instr.yield l args.toArray).run P w = .ok (.round l f T assign body) w ∧
    ∀ (fr : Frame) (cs : List Frame), ∃ v w', PostS (Cx.of w fun b => h b ≠ none) φ (fun y => .bool (val y)) B (.returned v) w' ∧
      Steps P (lone (Frame.round l f T assign body .normal) (fr :: cs) w) (lone (fr.finish v) cs w')
theorem wpI_round {r : Option Nat} {i : Nat} {rest : List Nat} {a : Act} {w w' : World} {o : Oper} {l f : Nat} {T : Array Value} {assign body : Code} (ho : ops[i]? = some o) (hw : Region.wanted o (yielded ops a.tmps) = true)
    (hr : (execOp a.eval o).run P w = .ok (.round l f T assign body) w') {R : Value → World → Prop}
    (hc : ∀ (fr : Frame) (cs : List Frame), ∃ v w2, R v w2 ∧ Steps P (lone (Frame.round l f T assign body .normal) (fr :: cs) w') (lone (fr.finish v) cs w2))
    (h : ∀ v w2, R v w2 → wpI r P ops Q rest (a.put o.dst v) w2) : wpI r P ops Q (i :: rest) a w := fun b k cs hb => by
  have hstep : step P (lone (b.atR a (.inRegion ops (i :: rest) :: k)) cs w) = .next (lone (Frame.round l f T assign body .normal) (b.atR a (.inRegion ops (i :: rest) :: k) :: cs) w') := by
    refine step_lone_go ?_
    have hr' := semAt_ok (ro := b.roundOf) hr (fun d e => by cases e)
    rw [stepGR_op ho hw]
    simp [stepG.apply, hr', Frame.atR]
  obtain ⟨v, w2, hR, hs⟩ := hc (b.atR a (.inRegion ops (i :: rest) :: k)) cs
  obtain ⟨e3, a3, w3, hq, harr⟩ := h v w2 hR b k cs hb
  refine ⟨e3, a3, w3, hq, .of_steps (.head hstep ?_) harr⟩
  rw [finish_here ho] at hs
  exact hs
theorem o_callY {σ : Type} {d l : Nat} {x : Operand} {xs : List Operand} {ats : Array TypeId} {args : List Value} {A R : List HProp} {φ : σ → Prop} {val : σ → Bool} {B : σ → List HProp}
    (S : YieldDoes P l args A φ val B) (hf : opnd L x = some (.func (.yield l) #[] #[])) (hx : opnds L xs = some args) (hp : Ent M (A ++ R)) (hd : Nat.blt d n = true)
    (h : ∀ y, φ y → wpE P ops rest Q c n ((d, .bool (val y)) :: L) (B y ++ R)) :
    wpO P ops ⟨some d, .call { callee := .value x, args := xs.toArray, argTypes := ats }, ty, pos, after, g⟩ rest Q c n L M := fun i hi T w s hw => by
  obtain ⟨h1, h2⟩ := drop_cons hi
  obtain ⟨f', hh, m, lh, dd⟩ := s.heap
  obtain ⟨ha, hr', a, r, dj, l1, l2⟩ := sepL_append (hp _ m)
  obtain ⟨f, T', assign, body, hy, hround⟩ := S w ha a (PHeap.le_trans l1 lh)
  have hr : (execOp (Act.eval ⟨T, c.ds⟩) ⟨some d, .call { callee := .value x, args := xs.toArray, argTypes := ats }, ty, pos, after, g⟩).run P w = .ok (.round l f T' assign body) w := by
    have e1 := opnds_eval (ds := c.ds) s.slots hx
    have e2 := opnd_eval (ds := c.ds) s.slots hf
    simp only [execOp, resolve, e2, Deferred.ofValue, Sem.run_bind, Sem.run_pure, Result.andThen_ok, invoke, List.map_toArray, e1]
    simpa using hy
  refine wpI_round (i := i) (a := ⟨T, c.ds⟩) (by simpa using h1) hw hr (R := fun v w2 => ∃ y, φ y ∧ v = .bool (val y) ∧ HSt c (B y ++ R) w2) ?_ ?_
  · intro fr cs
    obtain ⟨v, w2, ⟨y, hy, he, hst⟩, hs⟩ := hround fr cs
    cases he
    exact ⟨_, w2, ⟨y, hy, rfl, HSt.call f' lh dd r dj l1 l2 hst⟩, hs⟩
  · rintro v w2 ⟨y, hy, rfl, hst⟩
    have := h y hy (i + 1) h2 (T.setIfInBounds d (.bool (val y))) w2 ⟨by simp [s.size], s.slots.put s.size hd _, hst⟩
    simpa [Act.put] using this
theorem o_callYA {σ : Type} {d l : Nat} {x : Operand} {xs : List Operand} {ats : Array TypeId} {args : List Value} {A R : List HProp} {φ : σ → Prop} {val : σ → Bool} {B : σ → List HProp}
    (S : YieldDoes P l args A φ val B) (h : ∀ y, φ y → wpE P ops rest Q c n ((d, .bool (val y)) :: L) (B y ++ R)) (hf : opnd L x = some (.func (.yield l) #[] #[]) := by rfl) (hx : opnds L xs = some args := by rfl)
    (hp : Ent M (A ++ R) := by exact Picks.ent pKS) (hd : Nat.blt d n = true := by rfl) :
    wpO P ops ⟨some d, .call { callee := .value x, args := xs.toArray, argTypes := ats }, ty, pos, after, g⟩ rest Q c n L M := o_callY S hf hx hp hd h
def jc : Option Nat → Code
  | none => .ret
  | some id => .exit id
def je : Option Nat → Exit
  | none => .ret
  | some id => .exit id
def roundQ (c : Cx) (B : List HProp) (X : Option Nat → List HProp) : Exit → Act → World → Prop
  | .normal, _, w => HSt c B w
  | .ret, _, w => HSt c (X none) w
  | .exit id, _, w => HSt c (X (some id)) w
  | _, _, _ => False
theorem q_round1 {B : List HProp} {X : Option Nat → List HProp} (h : Ent M B) : qE (roundQ c B X) .normal c n L M := fun T w s => HSt.ent h s.heap
theorem q_roundX {B : List HProp} {X : Option Nat → List HProp} (j : Option Nat) (h : Ent M (X j)) : qE (roundQ c B X) (je j) c n L M := fun T w s => by
  cases j <;> exact HSt.ent h s.heap
def putAll (L : Env) : List (Nat × Value) → Env
  | [] => L
  | (p, v) :: r => putAll ((p, v) :: L) r
def allLt (ps : List Nat) (n : Nat) : Bool := ps.all fun p => Nat.blt p n
theorem slots_putAll : ∀ (l : List (Nat × Value)) {L : Env} {T : Array Value}, Slots L T → T.size = n → allLt (l.map (·.1)) n = true → Slots (putAll L l) (l.foldl (fun t (p, v) => t.setIfInBounds p v) T) ∧ (l.foldl (fun t (p, v) => t.setIfInBounds p v) T).size = n
  | [], _, _, h, hs, _ => ⟨h, hs⟩
  | (p, v) :: r, L, T, h, hs, ha => by
    unfold allLt at ha
    simp only [List.map_cons, List.all_cons, Bool.and_eq_true] at ha
    exact slots_putAll r (h.put hs ha.1 v) (by simp [hs]) ha.2
abbrev lpR (l : Nat) (st : LoopState) (pe : Option Code) (f : FuncId) (T : Array Value) (ps : List Nat) (assign body : Code) (D : Nat) : HProp := pts l (.loop { state := st, pending := pe, fn := f, tmps := T, params := ps.toArray, assign, body, defers := D })
theorem hst_putObj {w : World} {R : List HProp} {b : Nat} {o o' : Obj} (p : Pick M (pts b o) R) (s : HSt c M w) : HSt c (pts b o' :: R) (w.putObj b o') := by
  have hb := HSt.pts p s
  have hlt : b < w.heap.size := (Array.getElem?_eq_some_iff.1 hb).1
  exact HSt.put p s (by simp) (World.putObj_heap_same hlt) (fun k hk => World.putObj_heap_other hk) rfl rfl rfl
theorem yield_of {σ : Type} {l f : Nat} {T : Array Value} {ps : List Nat} {assign body : Code} {D : Nat} {args : List Value} {A B : List HProp} {X : Option Nat → List HProp} (φ : σ → Prop) (Lb : σ → Env) (Mb : σ → List HProp)
    (hT : T.size = n) (hL : Slots L T) (hps : allLt ps n = true) (hlen : args.length = ps.length)
    (hassign : ∀ c' : Cx, c'.rnd = some l → c'.ds = [] → wpC P assign (Exit.then (MidQ φ Lb Mb c' n) (fun _ _ _ => False)) c' n (putAll L (ps.zip args)) A)
    (hbody : ∀ c' : Cx, c'.rnd = some l → c'.ds = [] → ∀ s, φ s → wpC P body (roundQ c' B X) c' n (Lb s) (Mb s)) :
    YieldDoes P l args (lpR l .ready none f T ps assign body D :: A) (fun _ : Bool => True) (fun b => b)
      (fun b => if b then lpR l .ready none f T ps assign body D :: B else [exI (σ := Option Nat) (fun _ => True) (fun j => lpR l .done (some (jc j)) f T ps assign body D :: X j)]) := fun w h hsep hle => by
  obtain ⟨hx, ha, ex, sa, dj, l1, l2⟩ := hsep
  have hl0 : w.heap[l]? = some (.loop { state := .ready, pending := none, fn := f, tmps := T, params := ps.toArray, assign, body, defers := D }) := by
    have h1 : hx l = some (.loop { state := .ready, pending := none, fn := f, tmps := T, params := ps.toArray, assign, body, defers := D }) := by rw [show hx = _ from ex]; simp [single]
    exact hle _ _ (l1 _ _ h1)
  refine ⟨f, _, assign, body, run_yield hl0 (by simp [hlen]), fun fr cs => ?_⟩
  obtain ⟨hS, hsz⟩ := slots_putAll (n := n) (ps.zip args) hL hT (by rw [List.map_fst_zip (by omega)]; exact hps)
  have eT : (Array.zip (ps.toArray) args.toArray).foldl (fun tmps x => tmps.setIfInBounds x.1 x.2) T = (ps.zip args).foldl (fun t (p, v) => t.setIfInBounds p v) T := by
    simp
  generalize hT' : (ps.zip args).foldl (fun t (p, v) => t.setIfInBounds p v) T = T' at hS hsz eT
  let c0 : Cx := Cx.of w fun b => h b ≠ none
  let b : Frame := { (default : Frame) with fn := f, kind := .normal, roundOf := some l }
  have hb0 : Frame.round l f T' assign body .normal = b.atR { tmps := T', defers := [] } [.code assign, .beginRound, .code body] := by simp [Frame.round, Frame.atR, b]
  have st0 : HSt c0 (lpR l .ready none f T ps assign body D :: A) w := ⟨Fr.refl _ _, h, ⟨hx, ha, ex, sa, dj, l1, l2⟩, hle, fun b hb => .inl hb⟩
  -- the assignment
  have W1 : St ⟨w, fun b => ha b ≠ none, some l, []⟩ n (putAll L (ps.zip args)) A T' w := ⟨hsz, hS, Fr.refl _ _, ha, sa, PHeap.le_trans l2 hle, fun b hb => .inl hb⟩
  obtain ⟨e1, a1, w1, hq1, harr1⟩ := hassign ⟨w, fun b => ha b ≠ none, some l, []⟩ rfl rfl T' w W1 b [.beginRound, .code body] (fr :: cs) rfl
  cases e1 with
  | normal =>
    obtain ⟨hd1, s1, hs1, st1⟩ := hq1
    obtain ⟨T1, ds1⟩ := a1
    simp only at hd1 st1
    subst hd1
    have k1 : HSt c0 (Mb s1 ++ [lpR l .ready none f T ps assign body D]) w1 :=
      HSt.call (c := c0) (R := [lpR l .ready none f T ps assign body D]) (Fr.refl _ _) hle (fun b hb => .inl hb) ⟨hx, fun _ => none, ex, trivial, fun _ => .inr rfl, PHeap.le_refl _, fun _ _ e => by cases e⟩ (PHeap.disj_symm dj) l2 l1 st1.heap
    have k1' : HSt c0 (lpR l .ready none f T ps assign body D :: Mb s1) w1 := HSt.ent (fun hh s => by
      obtain ⟨h1, h2, a, r, d, x1, x2⟩ := sepL_append s
      exact sepL_join (A := [lpR l .ready none f T ps assign body D]) r a (PHeap.disj_symm d) x2 x1) k1
    have hl1 := HSt.pts .head k1'
    have hbr := run_beginRound (P := P) hl1 rfl
    have k2 : HSt c0 (lpR l .busy none f T ps assign body D :: Mb s1) _ := hst_putObj .head k1'
    obtain ⟨f2, h2, ⟨hx2, ha2, ex2, sa2, dj2, l12, l22⟩, le2, d2⟩ := k2
    generalize hw2 : w1.putObj l (.loop { state := .busy, pending := none, fn := f, tmps := T, params := ps.toArray, assign, body, defers := D }) = w2 at hbr f2 le2
    have W2 : St ⟨w2, fun b => ha2 b ≠ none, some l, []⟩ n (Lb s1) (Mb s1) T1 w2 := ⟨st1.size, st1.slots, Fr.refl _ _, ha2, sa2, PHeap.le_trans l22 le2, fun b hb => .inl hb⟩
    obtain ⟨e3, a3, w3, hq3, harr3⟩ := hbody ⟨w2, fun b => ha2 b ≠ none, some l, []⟩ rfl rfl s1 hs1 T1 w2 W2 b [] (fr :: cs) rfl
    have back : ∀ {B' : List HProp}, HSt ⟨w2, fun b => ha2 b ≠ none, some l, []⟩ B' w3 → HSt c0 (lpR l .busy none f T ps assign body D :: B') w3 := fun {B'} hB => by
      have k3 : HSt c0 (B' ++ [lpR l .busy none f T ps assign body D]) w3 :=
        HSt.call (c := c0) (R := [lpR l .busy none f T ps assign body D]) f2 le2 d2 ⟨hx2, fun _ => none, ex2, trivial, fun _ => .inr rfl, PHeap.le_refl _, fun _ _ e => by cases e⟩ (PHeap.disj_symm dj2) l22 l12 hB
      exact HSt.ent (fun hh s => by
        obtain ⟨h1, h2, a, r, d, x1, x2⟩ := sepL_append s
        exact sepL_join (A := [lpR l .busy none f T ps assign body D]) r a (PHeap.disj_symm d) x2 x1) k3
    have sA : Steps P (lone (Frame.round l f T' assign body .normal) (fr :: cs) w) (lone (b.atR ⟨T1, []⟩ [.code body]) (fr :: cs) w2) := by
      rw [hb0]
      exact Steps.trans harr1 (.one (stepR_beginRound rfl hbr))
    rw [eT]
    cases e3 with
    | normal =>
      have k3 := back hq3
      have hend := run_endRound (P := P) none (HSt.pts .head k3)
      refine ⟨_, _, ⟨true, trivial, rfl, ?_⟩, Steps.trans sA (Steps.trans harr3 (.one (stepR_round_end rfl rfl hend)))⟩
      simp only [if_true]
      exact hst_putObj .head k3
    | ret =>
      have k3 := back hq3
      have hend := run_endRound (P := P) (some .ret) (HSt.pts .head k3)
      obtain ⟨kk, hs⟩ := harr3
      refine ⟨_, _, ⟨false, trivial, rfl, ?_⟩, Steps.trans sA (Steps.trans hs (.one (stepR_round_ret rfl rfl hend)))⟩
      simp only [Bool.false_eq_true, if_false]
      have k4 := hst_putObj (o' := .loop { state := .done, pending := some .ret, fn := f, tmps := T, params := ps.toArray, assign, body, defers := D }) .head k3
      exact HSt.ent (Ent.fold (σ := Option Nat) (φ := fun _ => True) none trivial (by rw [List.append_nil]; exact Ent.refl _)) k4
    | exit id =>
      have k3 := back hq3
      have hend := run_endRound (P := P) (some (.exit id)) (HSt.pts .head k3)
      obtain ⟨kk, he, hs⟩ := harr3
      refine ⟨_, _, ⟨false, trivial, rfl, ?_⟩, Steps.trans sA (Steps.trans hs (.one (stepR_round_exit rfl rfl (by rw [he]; rfl) hend)))⟩
      simp only [Bool.false_eq_true, if_false]
      have k4 := hst_putObj (o' := .loop { state := .done, pending := some (.exit id), fn := f, tmps := T, params := ps.toArray, assign, body, defers := D }) .head k3
      exact HSt.ent (Ent.fold (σ := Option Nat) (φ := fun _ => True) (some id) trivial (by rw [List.append_nil]; exact Ent.refl _)) k4
    | goto l => exact hq3.elim
    | panic ch => exact harr3.elim
    | outgrown => exact harr3.elim
  | exit id => exact hq1.elim
  | ret => exact hq1.elim
  | goto l => exact hq1.elim
  | panic ch => exact harr1.elim
  | outgrown => exact harr1.elim
def SeqDoes (P : Program) (gf : FuncId) (fr : List Value) (es : List (List Value)) (A : List HProp) : Prop :=
  ∀ (l : Nat) (J : Nat → HProp) (X : HProp),
    (∀ k (h : k < es.length), YieldDoes P l es[k] [J k] (fun _ : Bool => True) (fun b => b) (fun b => [if b then J (k + 1) else X])) →
    FnDoes P gf (.func (.yield l) #[] #[] :: fr) (A ++ [J 0]) (fun _ : Bool => True) (fun _ => .tuple #[]) (fun b => A ++ [if b then J es.length else X])
theorem YieldDoes.turn {σ : Type} {l : Nat} {args : List Value} {A A' : List HProp} {φ : σ → Prop} {val : σ → Bool} {B B' : σ → List HProp} (S : YieldDoes P l args A φ val B) (hA : Ent A' A) (hB : ∀ y, φ y → Ent (B y) (B' y)) : YieldDoes P l args A' φ val B' := fun w h s hle => by
  obtain ⟨f, T, asx, bo, hy, hr⟩ := S w h (hA _ s) hle
  refine ⟨f, T, asx, bo, hy, fun fr cs => ?_⟩
  obtain ⟨v, w', ⟨y, p, e, hs⟩, st⟩ := hr fr cs
  exact ⟨v, w', ⟨y, p, e, hs.ent (hB y p)⟩, st⟩
theorem Ent.appendL {A B B' : List HProp} (e : Ent B B') : Ent (A ++ B) (A ++ B') := fun h s => by
  obtain ⟨h1, h2, x, y, d, l1, l2⟩ := sepL_append s
  exact sepL_join x (e _ y) d l1 l2
theorem Ent.star1 {Z : List HProp} : Ent [starI Z] Z := by have := Ent.star (l := Z) (R := []); rwa [List.append_nil] at this
theorem Ent.unstar1 {Z : List HProp} : Ent Z [starI Z] := by have := Ent.unstar (l := Z) (R := []); rwa [List.append_nil] at this
abbrev Cx.mark (c : Cx) (D : Nat) : Cx := { c with ds := { target := .collected D, args := #[] } :: c.ds }
abbrev mkD (D : Nat) : HProp := pts D (.deferred (some []))
theorem wpC_rangeFunc {σ : Type} {g : Operand} {ps : List Nat} {assign body : Code} {gf : FuncId} {fr : List Value} {es : List (List Value)} {A R : List HProp} (φ : Nat → σ → Prop) (Lb : Nat → σ → Env) (Ib : Nat → σ → List HProp) (I : Nat → List HProp) (X : Option Nat → List HProp)
    (hc : c.rnd = none) (S : SeqDoes P gf fr es A) (hg : opnd L g = some (.func (.func gf) #[] fr.toArray)) (hps : allLt ps n = true) (hes : ∀ e ∈ es, e.length = ps.length) (hM : Ent M (A ++ (I 0 ++ R)))
    (hassign : ∀ (l : Nat) (c' : Cx), c'.rnd = some l → c'.ds = [] → ∀ k (h : k < es.length), wpC P assign (Exit.then (MidQ (φ k) (Lb k) (Ib k) c' n) (fun _ _ _ => False)) c' n (putAll L (ps.zip es[k])) (I k))
    (hbody : ∀ (l : Nat) (c' : Cx), c'.rnd = some l → c'.ds = [] → ∀ k, k < es.length → ∀ s, φ k s → wpC P body (roundQ c' (I (k + 1)) X) c' n (Lb k s) (Ib k s))
    (hdone : ∀ D, qE Q .normal (c.mark D) n L (mkD D :: (A ++ (I es.length ++ R))))
    (hstop : ∀ D j, qE Q (je j) (c.mark D) n L (mkD D :: (A ++ (X j ++ R)))) :
    wpC P (.rangeFunc g ps.toArray assign body) Q c n L M := fun T w s b k cs hb => by
  rw [hc] at hb
  have he := run_enterLoop_outer (P := P) (w := w) b.fn T ps.toArray assign body
  rw [← hb] at he
  have k1 : HSt c (mkD w.heap.size :: M) (w.alloc (.deferred (some []))) := HSt.new s.heap _ rfl rfl rfl rfl
  have k2 : HSt c (lpR (w.heap.size + 1) .ready none b.fn T ps assign body w.heap.size :: mkD w.heap.size :: M) ((w.alloc (.deferred (some []))).alloc (.loop { state := .ready, pending := none, fn := b.fn, tmps := T, params := ps.toArray, assign, body, defers := w.heap.size })) := by
    have := HSt.new (w' := (w.alloc (.deferred (some []))).alloc (.loop { state := .ready, pending := none, fn := b.fn, tmps := T, params := ps.toArray, assign, body, defers := w.heap.size })) k1 _ rfl rfl rfl rfl
    simpa using this
  generalize hW : (w.alloc (.deferred (some []))).alloc (.loop { state := .ready, pending := none, fn := b.fn, tmps := T, params := ps.toArray, assign, body, defers := w.heap.size }) = W at he k2
  generalize hD : w.heap.size = D at he k2
  generalize hl : D + 1 = l at he k2
  let J : Nat → List HProp := fun k => lpR l .ready none b.fn T ps assign body D :: I k
  let Y : List HProp := [exI (σ := Option Nat) (fun _ => True) (fun j => lpR l .done (some (jc j)) b.fn T ps assign body D :: X j)]
  have F := S l (fun k => starI (J k)) (starI Y) (fun k hk => (yield_of (φ k) (Lb k) (Ib k) s.size s.slots hps (hes _ (List.getElem_mem hk)) (fun c' h1 h2 => hassign l c' h1 h2 k hk) (fun c' h1 h2 s hs => hbody l c' h1 h2 k hk s hs)).turn Ent.star1 (fun y _ => by cases y <;> exact Ent.unstar1))
  have eM : Ent (lpR l .ready none b.fn T ps assign body D :: mkD D :: M) ((A ++ J 0) ++ (mkD D :: R)) := fun hh s => by
    obtain ⟨h1, h2, x1, ⟨h3, h4, x3, x4, dj2, l3, l4⟩, dj1, l1, l2⟩ := s
    obtain ⟨hA, h5, xA, x5, dj3, l5, l6⟩ := sepL_append (hM _ x4)
    obtain ⟨hI, hR, xI, xR, dj4, l7, l8⟩ := sepL_append x5
    have dI1 : PHeap.disj h1 hI := PHeap.disj_le dj1 (PHeap.le_trans (PHeap.le_trans l7 l6) l4)
    have dA1 : PHeap.disj h1 hA := PHeap.disj_le dj1 (PHeap.le_trans l5 l4)
    have sJ : sepL (J 0) (PHeap.un h1 hI) := ⟨h1, hI, x1, xI, dI1, PHeap.le_un_left _ _, PHeap.le_un_right dI1⟩
    have dAJ : PHeap.disj hA (PHeap.un h1 hI) := PHeap.disj_un (PHeap.disj_symm dA1) (PHeap.disj_le dj3 l7)
    have sAJ : sepL (A ++ J 0) (PHeap.un hA (PHeap.un h1 hI)) := sepL_join xA sJ dAJ (PHeap.le_un_left _ _) (PHeap.le_un_right dAJ)
    have d3R : PHeap.disj h3 hR := PHeap.disj_le dj2 (PHeap.le_trans l8 l6)
    have sR : sepL (mkD D :: R) (PHeap.un h3 hR) := ⟨h3, hR, x3, xR, d3R, PHeap.le_un_left _ _, PHeap.le_un_right d3R⟩
    have e3 : PHeap.disj (PHeap.un hA (PHeap.un h1 hI)) h3 := PHeap.disj_symm (PHeap.disj_un (PHeap.disj_le dj2 l5) (PHeap.disj_un (PHeap.disj_symm (PHeap.disj_le dj1 l3)) (PHeap.disj_le dj2 (PHeap.le_trans l7 l6))))
    have eR : PHeap.disj (PHeap.un hA (PHeap.un h1 hI)) hR := PHeap.disj_symm (PHeap.disj_un (PHeap.disj_symm (PHeap.disj_le dj3 l8)) (PHeap.disj_un (PHeap.disj_symm (PHeap.disj_le dj1 (PHeap.le_trans (PHeap.le_trans l8 l6) l4))) (PHeap.disj_symm dj4)))
    exact sepL_join sAJ sR (PHeap.disj_un e3 eR) (PHeap.un_le (PHeap.le_trans l5 (PHeap.le_trans l4 l2)) (PHeap.un_le l1 (PHeap.le_trans l7 (PHeap.le_trans l6 (PHeap.le_trans l4 l2))))) (PHeap.un_le (PHeap.le_trans l3 l2) (PHeap.le_trans l8 (PHeap.le_trans l6 (PHeap.le_trans l4 l2))))
  have k3 := HSt.ent (Ent.trans eM (Ent.append (Ent.appendL Ent.unstar1))) k2
  obtain ⟨f', hh, m, lh, dd⟩ := k3
  obtain ⟨hA, hr', xA, xr, dj, l1, l2⟩ := sepL_append m
  let a2 : Act := { tmps := T, defers := { target := .collected D, args := #[] } :: c.ds }
  have hres : (resolve (Act.eval ⟨T, c.ds⟩) (rangeCall g l) 0).run P W = .ok { target := .fn (.func gf) fr.toArray, args := #[.func (.yield l) #[] #[]] } W := by
    have e2 := opnd_eval (ds := c.ds) s.slots hg
    have e3 : Act.eval ⟨T, c.ds⟩ (.const (.func (.yield l) #[] #[])) = .func (.yield l) #[] #[] := rfl
    simp only [resolve, rangeCall, e2, Deferred.ofValue, Sem.run_pure, List.map_toArray, List.map_cons, List.map_nil, e3]
    rfl
  have hinv : (invoke (Target.fn (.func gf) fr.toArray) #[.func (.yield l) #[] #[]]).run P W = .ok (.enter gf (.func (.yield l) #[] #[] :: fr).toArray) W := by
    have := F.may (.func (.yield l) #[] #[] :: fr).toArray W
    simpa [invoke] using this
  have hstep := stepR_rangeFunc (b := b) (a := ⟨T, c.ds⟩) (k := k) (cs := cs) he hres hinv
  obtain ⟨e, w2, frr, ⟨y, _, rfl, hst⟩, hcomes, _, hleave⟩ := F.does W hA xA (PHeap.le_trans l1 lh) (b.atR a2 (.inRangeFunc l :: k) :: cs)
  have hl2 := step_leave_returned (P := P) (c := b.atR a2 (.inRangeFunc l :: k)) (cs := cs) hleave
  rw [finish_atR_inRangeFunc] at hl2
  have sB : Steps P (lone (b.atR ⟨T, c.ds⟩ (.code (.rangeFunc g ps.toArray assign body) :: k)) cs w) (lone (b.atR a2 (.endRangeFunc l :: k)) cs w2) := .head hstep (Steps.trans hcomes (.one hl2))
  have k4 : HSt c _ w2 := HSt.call f' lh dd xr dj l1 l2 hst
  cases y with
  | true =>
    replace k4 : HSt c ((A ++ J es.length) ++ (mkD D :: R)) w2 := HSt.ent (Ent.append (Ent.appendL Ent.star1)) k4
    have k5 : HSt c (lpR l .ready none b.fn T ps assign body D :: mkD D :: (A ++ (I es.length ++ R))) w2 := HSt.ent (fun hh s => by
      obtain ⟨h1, h2, x1, x2, d1, m1, m2⟩ := sepL_append s
      obtain ⟨h3, h4, x3, x4, d2, m3, m4⟩ := sepL_append x1
      obtain ⟨h5, h6, x5, x6, d3, m5, m6⟩ := x4
      obtain ⟨h7, h8, x7, x8, d4, m7, m8⟩ := x2
      have q1 : PHeap.disj h6 h8 := PHeap.disj_le (PHeap.disj_symm (PHeap.disj_le (PHeap.disj_symm d1) (PHeap.le_trans m6 m4))) m8
      have s1 : sepL (I es.length ++ R) (PHeap.un h6 h8) := sepL_join x6 x8 q1 (PHeap.le_un_left _ _) (PHeap.le_un_right q1)
      have q2 : PHeap.disj h3 (PHeap.un h6 h8) := PHeap.disj_un (PHeap.disj_le d2 m6) (PHeap.disj_le (PHeap.disj_symm (PHeap.disj_le (PHeap.disj_symm d1) m3)) m8)
      have s2 : sepL (A ++ (I es.length ++ R)) (PHeap.un h3 (PHeap.un h6 h8)) := sepL_join x3 s1 q2 (PHeap.le_un_left _ _) (PHeap.le_un_right q2)
      have q3 : PHeap.disj h7 (PHeap.un h3 (PHeap.un h6 h8)) := PHeap.disj_un (PHeap.disj_symm (PHeap.disj_le (PHeap.disj_symm (PHeap.disj_le (PHeap.disj_symm d1) m3)) m7)) (PHeap.disj_un (PHeap.disj_symm (PHeap.disj_le (PHeap.disj_symm (PHeap.disj_le (PHeap.disj_symm d1) (PHeap.le_trans m6 m4))) m7)) d4)
      have s3 : sepL (mkD D :: (A ++ (I es.length ++ R))) (PHeap.un h7 (PHeap.un h3 (PHeap.un h6 h8))) := ⟨h7, _, x7, s2, q3, PHeap.le_un_left _ _, PHeap.le_un_right q3⟩
      have q4 : PHeap.disj h5 (PHeap.un h7 (PHeap.un h3 (PHeap.un h6 h8))) := PHeap.disj_un (PHeap.disj_le (PHeap.disj_symm (PHeap.disj_le (PHeap.disj_symm d1) (PHeap.le_trans m5 m4))) m7) (PHeap.disj_un (PHeap.disj_symm (PHeap.disj_le d2 m5)) (PHeap.disj_un d3 (PHeap.disj_le (PHeap.disj_symm (PHeap.disj_le (PHeap.disj_symm d1) (PHeap.le_trans m5 m4))) m8)))
      exact ⟨h5, _, x5, s3, q4, PHeap.le_trans m5 (PHeap.le_trans m4 m1), PHeap.un_le (PHeap.le_trans m7 m2) (PHeap.un_le (PHeap.le_trans m3 m1) (PHeap.un_le (PHeap.le_trans m6 (PHeap.le_trans m4 m1)) (PHeap.le_trans m8 m2)))⟩) k4
    have hend := run_endLoop (P := P) (HSt.pts .head k5) (by simp)
    have k6 := hst_putObj (o' := .loop { state := .exhausted, pending := none, fn := b.fn, tmps := T, params := ps.toArray, assign, body, defers := D }) .head k5
    have k7 : HSt c (mkD D :: (A ++ (I es.length ++ R))) _ := HSt.ent (fun hh s => by obtain ⟨_, h2, _, x, _, _, l2⟩ := s; exact sepL_mono l2 x) k6
    exact ⟨.normal, a2, _, hdone D T _ ⟨s.size, s.slots, k7⟩, Steps.trans sB (.one (stepR_endRangeFunc hend))⟩
  | false =>
    replace k4 : HSt c ((A ++ Y) ++ (mkD D :: R)) w2 := HSt.ent (Ent.append (Ent.appendL Ent.star1)) k4
    obtain ⟨f4, h4, m4, le4, d4⟩ := k4
    obtain ⟨ha4, hb4, xa4, xb4, dj4, p1, p2⟩ := sepL_append m4
    obtain ⟨ha5, hb5, xa5, ⟨h9, h10, ⟨j, _, xj⟩, _, _, r1, _⟩, dj5, p3, p4⟩ := sepL_append xa4
    have xj := sepL_mono r1 xj
    obtain ⟨hb6, hb7, x6, x7, dj6, p5, p6⟩ := xj
    obtain ⟨h11, h12, x11, x12, dj11, p11, p12⟩ := xb4
    have d54 : PHeap.disj ha5 hb4 := PHeap.disj_symm (PHeap.disj_le (PHeap.disj_symm dj4) p3)
    have d5b : PHeap.disj hb5 hb4 := PHeap.disj_symm (PHeap.disj_le (PHeap.disj_symm dj4) p4)
    have d64 : PHeap.disj hb6 hb4 := PHeap.disj_symm (PHeap.disj_le (PHeap.disj_symm d5b) p5)
    have d74 : PHeap.disj hb7 hb4 := PHeap.disj_symm (PHeap.disj_le (PHeap.disj_symm d5b) p6)
    have q1 : PHeap.disj hb7 h12 := PHeap.disj_le d74 p12
    have s1 : sepL (X j ++ R) (PHeap.un hb7 h12) := sepL_join x7 x12 q1 (PHeap.le_un_left _ _) (PHeap.le_un_right q1)
    have q2 : PHeap.disj ha5 (PHeap.un hb7 h12) := PHeap.disj_un (PHeap.disj_le dj5 p6) (PHeap.disj_le d54 p12)
    have s2 : sepL (A ++ (X j ++ R)) (PHeap.un ha5 (PHeap.un hb7 h12)) := sepL_join xa5 s1 q2 (PHeap.le_un_left _ _) (PHeap.le_un_right q2)
    have q3 : PHeap.disj h11 (PHeap.un ha5 (PHeap.un hb7 h12)) := PHeap.disj_un (PHeap.disj_symm (PHeap.disj_le d54 p11)) (PHeap.disj_un (PHeap.disj_symm (PHeap.disj_le d74 p11)) dj11)
    have s3 : sepL (mkD D :: (A ++ (X j ++ R))) (PHeap.un h11 (PHeap.un ha5 (PHeap.un hb7 h12))) := ⟨h11, _, x11, s2, q3, PHeap.le_un_left _ _, PHeap.le_un_right q3⟩
    have q4 : PHeap.disj hb6 (PHeap.un h11 (PHeap.un ha5 (PHeap.un hb7 h12))) := PHeap.disj_un (PHeap.disj_le d64 p11) (PHeap.disj_un (PHeap.disj_symm (PHeap.disj_le dj5 p5)) (PHeap.disj_un dj6 (PHeap.disj_le d64 p12)))
    have k5 : HSt c (lpR l .done (some (jc j)) b.fn T ps assign body D :: mkD D :: (A ++ (X j ++ R))) w2 := ⟨f4, h4, ⟨hb6, _, x6, s3, q4, PHeap.le_trans p5 (PHeap.le_trans p4 p1), PHeap.un_le (PHeap.le_trans p11 p2) (PHeap.un_le (PHeap.le_trans p3 p1) (PHeap.un_le (PHeap.le_trans p6 (PHeap.le_trans p4 p1)) (PHeap.le_trans p12 p2)))⟩, le4, d4⟩
    have hend := run_endLoop (P := P) (HSt.pts .head k5) (by simp)
    have k6 := hst_putObj (o' := .loop { state := .exhausted, pending := some (jc j), fn := b.fn, tmps := T, params := ps.toArray, assign, body, defers := D }) .head k5
    have k7 : HSt c (mkD D :: (A ++ (X j ++ R))) _ := HSt.ent (fun hh s => by obtain ⟨_, h2, _, x, _, _, l2⟩ := s; exact sepL_mono l2 x) k6
    have hstp := Steps.trans sB (.one (stepR_endRangeFunc (P := P) (b := b) (a := a2) (k := k) (cs := cs) hend))
    cases j with
    | none => exact ⟨.ret, a2, _, hstop D none T _ ⟨s.size, s.slots, k7⟩, k, hstp⟩
    | some id => exact ⟨.exit id, a2, _, hstop D (some id) T _ ⟨s.size, s.slots, k7⟩, k, rfl, hstp⟩
def leaveRun (P : Program) : List Deferred → World → (World → Prop) → Prop
  | [], w, K => K w
  | d :: r, w, K => (∃ D w1, d = { target := .collected D, args := #[] } ∧ (Instr.takeDeferred D).run P w = .ok [] w1 ∧ leaveRun P r w1 K) ∨
      (∀ (fr : Frame) (cs : List Frame), fr.mode = .returning → fr.defers = d :: r → ∃ w1, leaveRun P r w1 K ∧ Steps P (lone fr cs w) (lone { fr with defers := r } cs w1))
def fnPostM (P : Program) (fn : Func) (R : Ending → World → Prop) : Exit → Act → World → Prop
  | .normal, a, w | .ret, a, w => leaveRun P a.defers w (fun w' => ∃ v, (results fn a.tmps).run P w' = .ok v w' ∧ R (.returned v) w')
  | _, _, _ => False
theorem leave_steps {K : World → Prop} : ∀ (ds : List Deferred) (w : World) (fr : Frame) (cs : List Frame), leaveRun P ds w K → fr.mode = .returning → fr.defers = ds → ∃ w', K w' ∧ Steps P (lone fr cs w) (lone { fr with defers := [] } cs w')
  | [], w, fr, cs, h, hm, hd => by
    have : { fr with defers := [] } = fr := by cases fr; simp_all
    exact ⟨w, h, by rw [this]; exact .refl _ _⟩
  | d :: r, w, fr, cs, h, hm, hd => by
    rcases h with ⟨D, w1, e, ht, hr⟩ | h
    · subst e
      have h1 := step_collected (P := P) (cs := cs) (fr := fr) (by rw [hm]; exact fun e => by cases e) hd rfl ht
      obtain ⟨w', hK, hs⟩ := leave_steps r w1 { fr with defers := [] ++ r } cs hr hm rfl
      exact ⟨w', hK, .head h1 hs⟩
    · obtain ⟨w1, hr, h1⟩ := h fr cs hm hd
      obtain ⟨w', hK, hs⟩ := leave_steps r w1 { fr with defers := r } cs hr hm rfl
      exact ⟨w', hK, Steps.trans h1 hs⟩
theorem does_ofM {σ : Type} {f : FuncId} {fn : Func} {x : Code} {args : List Value} {A : List HProp} {φ : σ → Prop} {val : σ → Value} {B : σ → List HProp}
    (hf : P.funcs[f]? = some fn) (hname : (fn.name == "runtime.NumGoroutine") = false) (hb : fn.body = some x) (hn : fn.ntmps = n) (ha : Nat.ble args.length n = true) (hL : enum 0 args = L)
    (h : ∀ c : Cx, c.rnd = none → c.ds = [] → wpC P x (fnPostM P fn (PostS c φ val B)) c n L A) : FnDoes P f args A φ val B := ⟨callable hf hname hb, fun w hh a l cs => by
  subst hL
  have hs : St (Cx.of w fun b => hh b ≠ none) n (enum 0 args) A (args.toArray ++ Array.replicate (fn.ntmps - args.toArray.size) undef) w := by
    refine ⟨?_, ?_, Fr.refl _ _, hh, a, l, fun b hb => .inl hb⟩
    · have : args.length ≤ n := Nat.le_of_ble_eq_true ha
      simp [hn]; omega
    · intro k v e
      obtain ⟨_, h2⟩ := enum_get e
      simp only [Nat.sub_zero] at h2
      have : k < args.length := (List.getElem?_eq_some_iff.1 h2).1
      rw [Array.getElem?_append_left (by simpa using this)]
      simpa using h2
  let b : Frame := { (default : Frame) with fn := f, kind := .normal, roundOf := none }
  have henter : Frame.enter P f args.toArray .normal = b.atR { tmps := args.toArray ++ Array.replicate (fn.ntmps - args.toArray.size) undef, defers := [] } [.code x] := by
    simp [Frame.enter, Frame.atR, hf, hb, b]
  obtain ⟨e, a', w', hq, harr⟩ := h (Cx.of w fun b => hh b ≠ none) rfl rfl _ w hs b [] cs rfl
  rw [henter]
  cases e with
  | normal =>
    obtain ⟨w2, ⟨v, hr, hR⟩, hst⟩ := leave_steps a'.defers w' { b.atR a' [] with mode := .returning } cs hq rfl rfl
    exact ⟨.returned v, w2, _, hR, Steps.trans harr (Steps.trans (.one (stepR_end rfl)) hst), rfl, rfl, rfl, rfl, fn, hf, hr⟩
  | ret =>
    obtain ⟨k1, hs1⟩ := harr
    obtain ⟨w2, ⟨v, hr, hR⟩, hst⟩ := leave_steps a'.defers w' { b.atR a' (.code .ret :: k1) with mode := .returning } cs hq rfl rfl
    exact ⟨.returned v, w2, _, hR, Steps.trans hs1 (Steps.trans (.one (stepR_ret rfl)) hst), rfl, rfl, rfl, rfl, fn, hf, hr⟩
  | panic chain => exact harr.elim
  | exit id => exact hq.elim
  | goto l => exact hq.elim
  | outgrown => exact harr.elim⟩
theorem qm_ret0 {fn : Func} {R : Ending → World → Prop} {e : Exit} (hd : c.ds = []) (he : e = .ret ∨ e = .normal) (h : qE (fnPost c P fn R) e c n L M) : qE (fnPostM P fn R) e c n L M := fun T w s => by
  have := h T w s
  rcases he with rfl | rfl
  all_goals
    obtain ⟨_, v, hr, hR⟩ := this
    show leaveRun P c.ds w _
    rw [hd]
    exact ⟨v, hr, hR⟩
theorem qm_mark {fn : Func} {R : Ending → World → Prop} {e : Exit} {D : Nat} {N : List HProp} (hp : Pick M (mkD D) N) (he : e = .ret ∨ e = .normal) (h : qE (fnPostM P fn R) e c n L N) : qE (fnPostM P fn R) e (c.mark D) n L M := fun T w s => by
  have hst : HSt c M w := s.heap
  have ht := run_takeDeferred (P := P) (HSt.pts hp hst)
  have k := hst_putObj (o' := .deferred none) hp hst
  have k' : HSt c N (w.putObj D (.deferred none)) := HSt.ent (fun hh s => by obtain ⟨_, h2, _, x, _, _, l2⟩ := s; exact sepL_mono l2 x) k
  have := h T (w.putObj D (.deferred none)) ⟨s.size, s.slots, k'⟩
  rcases he with rfl | rfl
  all_goals exact .inl ⟨D, _, rfl, ht, this⟩
theorem qm_ret1 {fn : Func} {R : Ending → World → Prop} {e : Exit} {D : Nat} {N : List HProp} (hd : c.ds = []) (hp : Pick M (mkD D) N) (he : e = .ret ∨ e = .normal) (h : qE (fnPost c P fn R) e c n L N) : qE (fnPostM P fn R) e (c.mark D) n L M :=
  qm_mark hp he (qm_ret0 hd he h)
theorem q_ret3 {σ : Type} {fn : Func} {φ : σ → Prop} {val : σ → Value} {B : σ → List HProp} {t u x : Nat} {v v' v'' : Value} (hr : fn.results = #[.tmp t, .tmp u, .tmp x]) (ht : L.get t = some v) (hu : L.get u = some v') (hx : L.get x = some v'') (y : σ) (hv : Value.tuple #[v, v', v''] = val y) (hy : φ y) (hM : Ent M (B y)) :
    qE (fnPost c P fn (PostS c φ val B)) .ret c n L M := fun T w s => by
  have h1 := s.slots _ _ ht
  have h2 := s.slots _ _ hu
  have h3 := s.slots _ _ hx
  exact ⟨rfl, .tuple #[v, v', v''], by simp [results, hr, h1, h2, h3], y, hy, by rw [hv], s.heap.ent hM⟩
theorem q_unfoldP {σ : Type} {φ : σ → Prop} {My : σ → List HProp} {R : List HProp} {e : Exit} (p : Pick M (exI φ My) R) (h : ∀ y, φ y → qE Q e c n L (My y ++ R)) : qE Q e c n L M := fun T w s => by
  obtain ⟨y, hy, s'⟩ := s.heap.unfold p
  exact h y hy T w ⟨s.size, s.slots, s'⟩
theorem q_falseP {σ : Type} {φ : σ → Prop} {My : σ → List HProp} {R : List HProp} {e : Exit} (p : Pick M (exI φ My) R) (h : ∀ y, φ y → False) : qE Q e c n L M := q_unfoldP p fun y hy => (h y hy).elim
theorem q_ret2cc {σ : Type} {fn : Func} {φ : σ → Prop} {val : σ → Value} {B : σ → List HProp} {a1 a2 b1 b2 : Nat} {t1 t2 T1 T2 : TypeId} {f1 f2 : Nat × Nat} {v1 v2 : Value} {R1 R2 : List HProp} {d1 d2 : TypeDesc} (hr : fn.results = #[.cell a1 t1, .cell a2 t2]) (h1 : L.get a1 = some (.pointer (some ⟨b1, 0, none⟩))) (h2 : L.get a2 = some (.pointer (some ⟨b2, 0, none⟩)))
    (hu1 : P.underlying t1 = some d1) (hg1 : aggD d1 = false) (hu2 : P.underlying t2 = some d2) (hg2 : aggD d2 = false) (hp1 : Pick M (pts b1 (.cells [v1].toArray T1 f1)) R1) (hp2 : Pick M (pts b2 (.cells [v2].toArray T2 f2)) R2) (y : σ) (hv : Value.tuple #[v1, v2] = val y) (hy : φ y) (hM : Ent M (B y)) :
    qE (fnPost c P fn (PostS c φ val B)) .ret c n L M := fun T w s => by
  have e1 := s.slots _ _ h1
  have e2 := s.slots _ _ h2
  have l1 := run_loadVar_one (P := P) (a := ⟨b1, 0, none⟩) (v := v1) (w := w) hu1 hg1 (by rw [cell_pts (s.heap.pts hp1)]; rfl)
  have l2 := run_loadVar_one (P := P) (a := ⟨b2, 0, none⟩) (v := v2) (w := w) hu2 hg2 (by rw [cell_pts (s.heap.pts hp2)]; rfl)
  exact ⟨rfl, .tuple #[v1, v2], by simp [results, hr, e1, e2, asAddr, l1, l2], y, hy, by rw [hv], s.heap.ent hM⟩
theorem wpD_fact {S : List HProp} {m r fuel : Nat} {listed : Array Bool} {p : Prop} (H : ∀ w, HSt c M w → p) (h : p → wpD P ops S m r fuel listed Q c n L M) : wpD P ops S m r fuel listed Q c n L M := fun T w s => h (H w s.heap) T w s
theorem dlcall {m : Nat} {S : List HProp} {listed : Array Bool} {σ : Type} {d : Nat} {f : FuncId} {xs : List Operand} {ats : Array TypeId} {ty : TypeId} {pos : String} {after : Array Edge} {guard : Option (Nat × Bool)}
    {args : List Value} {A R : List HProp} {φ : σ → Prop} {val : σ → Value} {B : σ → List HProp}
    (S' : FnDoes P f args A φ val B) (h : ∀ y, φ y → qE Q .normal c n ((d, val y) :: L) (B y ++ R)) (hi : ops[m]? = some ⟨some d, .call { callee := .value (.func f), args := xs.toArray, argTypes := ats }, ty, pos, after, guard⟩ := by rfl)
    (hg : wantB ops ⟨some d, .call { callee := .value (.func f), args := xs.toArray, argTypes := ats }, ty, pos, after, guard⟩ L = true := by rfl) (hr : Region.ready .any ops listed = [m] := by decide +kernel) (hr' : Region.ready .any ops (listed.setIfInBounds m true) = [] := by decide +kernel) (hx : opnds L xs = some args := by rfl)
    (hp : Ent M (A ++ R) := by exact Picks.ent pKS) (hd : Nat.blt d n = true := by rfl) : wpD P ops S m 1 0 listed Q c n L M := fun T w s => by
  refine ⟨hr, fun h0 => absurd h0 (by rw [hr]; simp), fun j hj => ?_⟩
  rw [hr] at hj
  obtain rfl : j = m := by simpa using hj
  have hrun : (execOp (Act.eval ⟨T, c.ds⟩) ⟨some d, .call { callee := .value (.func f), args := xs.toArray, argTypes := ats }, ty, pos, after, guard⟩).run P w = .ok (.enter f args.toArray) w := by
    rw [execOp_call]
    have := opnds_eval (ds := c.ds) s.slots hx
    simp only [List.map_toArray, this, Array.empty_append, Array.append_empty]
    exact S'.may _ _
  unfold wpOp
  simp only [hi]
  rw [if_pos (wanted_of hg s.slots)]
  refine .inl ?_
  unfold Oper.wp
  rw [hrun]
  intro cs
  obtain ⟨f', hh, m', l, dd⟩ := s.heap
  obtain ⟨ha, hr2, a, r, dj, l1, l2⟩ := sepL_append (hp _ m')
  obtain ⟨e, w2, fr, ⟨y, hy, he, hst⟩, hcm, hfr, hl⟩ := S'.does w ha a (PHeap.le_trans l1 l) cs
  refine ⟨e, w2, fr, ?_, hcm, hfr, hl⟩
  subst he
  have hst' := HSt.call f' l dd r dj l1 l2 hst
  have := h y hy (T.setIfInBounds d (val y)) w2 ⟨by simp [s.size], s.slots.put s.size hd _, hst'⟩
  exact ⟨hr', rfl, by simpa [Act.put] using this⟩
end Go.Sx
