/-
  A region that draws its order and only reads: one walk in the text's order. Pointers of two blocks. No program in sight.
-/
import Derived.Test.YtmlcikcdegodaaaDoorSxD
import Derived.StillTail
set_option linter.unusedSimpArgs false
set_option linter.unusedVariables false
namespace Go.Sx
open Go Go.Conc

variable {P : Program} {ops : Array Oper} {Q : Exit → Act → World → Prop} {c : Cx} {n : Nat} {L : Env} {M : List HProp} {rest : List Oper} {o : Oper}

def wpQ (P : Program) (ops : Array Oper) (rest : List Oper) (Q : Exit → Act → World → Prop) (c : Cx) (n : Nat) (L : Env) (M : List HProp) : Prop :=
  ∀ T : Array Value, T.size = n → Slots L T → wpQuiet P ops (HSt c M) (fun a' => ∀ w', HSt c M w' → Q .normal a' w') rest ⟨T, c.ds⟩
def wpQO (P : Program) (ops : Array Oper) (o : Oper) (rest : List Oper) (Q : Exit → Act → World → Prop) (c : Cx) (n : Nat) (L : Env) (M : List HProp) : Prop :=
  ∀ T : Array Value, T.size = n → Slots L T → o.quiet P ⟨T, c.ds⟩ (HSt c M) (wpQuiet P ops (HSt c M) (fun a' => ∀ w', HSt c M w' → Q .normal a' w') rest)

theorem wpC_quiet {id : Nat} {l : List Oper} (hm : P.follows .mixedOrders = true) (hB : Region.lexB .any l.toArray = true) (hd : noDefer l = true) (h : wpQ P l.toArray l Q c n L M) : wpC P (.region id l.toArray true) Q c n L M := fun T w s => by
  simp only [Region.lexB, Bool.and_eq_true] at hB
  refine cwp_region_any hm hd (wpAny_of_quiet (Q := fun a' => ∀ w', HSt c M w' → Q .normal a' w') (fun _ w' hw' h => ⟨rfl, h w' hw'⟩) _ _ _ _ (HSt.same s.heap rfl rfl rfl rfl) ?_)
  have := wpAnyQ_lex (C := HSt c M) (md := .any) hB.1 l 0 (Array.replicate l.toArray.size false) ⟨T, c.ds⟩ (by simp) (by simpa using hB.2) (h T s.size s.slots)
  simpa using this
theorem wpQ_nil (h : qE Q .normal c n L M) : wpQ P ops [] Q c n L M := fun T hs hl => wpQuiet_nil (fun w' hw => h T w' ⟨hs, hl, hw⟩)

theorem gq_none (hg : o.guard = none) (h : wpQO P ops o rest Q c n L M) : wpQ P ops (o :: rest) Q c n L M := fun T hs hl => by
  unfold wpQuiet
  rw [if_pos (by simp [Region.wanted, hg])]
  exact h T hs hl
theorem gq_yes {j d : Nat} {b : Bool} (hg : o.guard = some (j, b)) (hd : (ops[j]?).bind (·.dst) = some d) (hv : L.get d = some (.bool b)) (h : wpQO P ops o rest Q c n L M) : wpQ P ops (o :: rest) Q c n L M := fun T hs hl => by
  unfold wpQuiet
  rw [if_pos (by
    have := hl _ _ hv
    simp [Region.wanted, hg, yielded, hd, this])]
  exact h T hs hl
theorem gq_no {j d d' : Nat} {b : Bool} {v : Value} (hg : o.guard = some (j, b)) (hd : (ops[j]?).bind (·.dst) = some d) (hv : L.get d = some v) (hb : isB b v = false) (ho : o.dst = some d') (hdn : Nat.blt d' n = true)
    (h : wpQ P ops rest Q c n ((d', undef) :: L) M) : wpQ P ops (o :: rest) Q c n L M := fun T hs hl => by
  have hT := hl _ _ hv
  have hw : Region.wanted o (yielded ops T) = false := by
    simp only [Region.wanted, hg, yielded, hd, Option.bind_some, hT]
    cases v <;> simp_all [isB]
  unfold wpQuiet
  rw [if_neg (by simp [hw])]
  have := h (T.setIfInBounds d' undef) (by simp [hs]) (hl.put hs hdn undef)
  simpa [Act.put, ho] using this
theorem oq_ev {d : Nat} {v : Value} (ho : o.dst = some d) (he : Ev P o c n L M v) (hd : Nat.blt d n = true) (h : wpQ P ops rest Q c n ((d, v) :: L) M) : wpQO P ops o rest Q c n L M := fun T hs hl =>
  ⟨v, fun w hw => by unfold Oper.quietAt; rw [he T w ⟨hs, hl, hw⟩]; exact ⟨rfl, rfl⟩, by
    have := h (T.setIfInBounds d v) (by simp [hs]) (hl.put hs hd v)
    simpa [Act.put, ho] using this⟩

/-- A call in such a region: one value, and what was handed over lies as it lay. -/
theorem oq_call {σ : Type} {d : Nat} {f : FuncId} {xs : List Operand} {ats : Array TypeId} {ty : TypeId} {pos : String} {after : Array Edge} {guard : Option (Nat × Bool)}
    {args : List Value} {A R : List HProp} {φ : σ → Prop} {val : σ → Value} {B : σ → List HProp} {v : Value}
    (S : FnDoes P f args A φ val B) (hx : opnds L xs = some args) (hp : Ent M (A ++ R)) (hv : ∀ y, φ y → val y = v ∧ Ent (B y ++ R) M) (hd : Nat.blt d n = true)
    (h : wpQ P ops rest Q c n ((d, v) :: L) M) :
    wpQO P ops ⟨some d, .call { callee := .value (.func f), args := xs.toArray, argTypes := ats }, ty, pos, after, guard⟩ rest Q c n L M := fun T hs hl =>
  ⟨v, fun w hw => by
    unfold Oper.quietAt
    have hr : (execOp (Act.eval ⟨T, c.ds⟩) ⟨some d, .call { callee := .value (.func f), args := xs.toArray, argTypes := ats }, ty, pos, after, guard⟩).run P w = .ok (.enter f args.toArray) w := by
      rw [execOp_call]
      have := opnds_eval (ds := c.ds) hl hx
      simp only [List.map_toArray, this, Array.empty_append, Array.append_empty]
      exact S.may _ _
    rw [hr]
    refine ⟨rfl, fun cs => ?_⟩
    obtain ⟨f', hh, m, l, dd⟩ := hw
    obtain ⟨ha, hr', a, r, dj, l1, l2⟩ := sepL_append (hp _ m)
    obtain ⟨e, w2, fr, ⟨y, hy, he, hst⟩, hcm, hfr, hl'⟩ := S.does w ha a (PHeap.le_trans l1 l) cs
    obtain ⟨e1, e2⟩ := hv y hy
    exact ⟨e, w2, fr, ⟨by rw [he, e1], HSt.ent e2 (HSt.call f' l dd r dj l1 l2 hst)⟩, hcm, hfr, hl'⟩, by
    have := h (T.setIfInBounds d v) (by simp [hs]) (hl.put hs hd v)
    simpa [Act.put] using this⟩

/-! ### two pointers -/
def Apart (M : List HProp) (b b' : Nat) : Prop := ∃ l l' T1 T2 R R', Pick M (pts b (.cells (List.toArray l) T1 (0, 0))) R ∧ Pick R (pts b' (.cells (List.toArray l') T2 (0, 0))) R'
theorem ev_ptr_ne {op : BinOp} {t t' e : TypeId} {x y : Operand} {b b' o1 o2 : Nat} {i : TypeInfo} {r : Bool} {dst : Option Nat} {ty : TypeId} {pos : String} {after : Array Edge} {g : Option (Nat × Bool)}
    (hx : opnd L x = some (.pointer (some ⟨b, o1, none⟩))) (hy : opnd L y = some (.pointer (some ⟨b', o2, none⟩))) (hu : P.underlying t = some (.pointer e)) (hi : P.info? e = some i) (hz : Nat.beq i.size 0 = false)
    (ha : Apart M b b') (hr : nilOp op false = some r) :
    Ev P ⟨dst, .binOp op t x y t', ty, pos, after, g⟩ c n L M (.bool r) := ev_bin hx hy fun w s => by
  obtain ⟨l, l', T1, T2, R, R', hp, hq⟩ := ha
  have hne := s.ne hp hq
  have h1 := s.pts hp
  have h2 : w.heap[b']? = some (.cells l'.toArray T2 (0, 0)) := by
    obtain ⟨f, h, m, le, d⟩ := s
    obtain ⟨ha, hb, _, r', _, _, l2⟩ := hp.sep m
    exact HSt.pts hq (c := c) ⟨f, hb, r', PHeap.le_trans l2 le, fun b hb' => d b (PHeap.le_dom l2 hb')⟩
  refine run_eqn (by rintro _ (rfl | rfl) <;> rfl) rfl rfl ?_ hr
  have hz' : i.size ≠ 0 := fun e => by rw [e] at hz; cases hz
  have hbb : (b == b') = false := by simp [hne]
  have f1 : ∀ k, w.frozen? ⟨b, k, none⟩ = false := fun k => by simp [World.frozen?, h1]
  have f2 : ∀ k, w.frozen? ⟨b', k, none⟩ = false := fun k => by simp [World.frozen?, h2]
  have s1 : w.shape? b = some (T1, l.length) := by simp [World.shape?, h1]
  have s2 : w.shape? b' = some (T2, l'.length) := by simp [World.shape?, h2]
  rw [Op.equalIn, Sem.run_bind, run_underlying hu]
  simp [sizeOf, typeInfo, run_program, hi, hz', sameAddr, hbb, hne, frozen, Sem.run, f1, f2, noView, viewAt, shape, s1, s2, mayBeOne, stringish]
theorem ev_ptr_same {op : BinOp} {t t' e : TypeId} {x y : Operand} {a : Addr} {i : TypeInfo} {r : Bool} {dst : Option Nat} {ty : TypeId} {pos : String} {after : Array Edge} {g : Option (Nat × Bool)}
    (hx : opnd L x = some (.pointer (some a))) (hy : opnd L y = some (.pointer (some a))) (hu : P.underlying t = some (.pointer e)) (hi : P.info? e = some i) (hz : Nat.beq i.size 0 = false) (hr : nilOp op true = some r) :
    Ev P ⟨dst, .binOp op t x y t', ty, pos, after, g⟩ c n L M (.bool r) := ev_bin hx hy fun w s => by
  have hz' : i.size ≠ 0 := fun e => by rw [e] at hz; cases hz
  refine run_eqn (by rintro _ (rfl | rfl) <;> rfl) rfl rfl ?_ hr
  rw [Op.equalIn, Sem.run_bind, run_underlying hu]
  simp [sizeOf, typeInfo, run_program, hi, hz', sameAddr]


/-! ### a region that draws, whose end is forced: what stands ahead of it only reads -/
theorem lin_seq {md : Region.Mode} : ∀ (g k : Nat) (listed : Array Bool), Region.seqB md ops g k listed = true → ∀ t, Region.linearise.go md ops g t listed [] = List.range' k g
  | 0, _, _, _, _ => rfl
  | g + 1, k, listed, h, t => by
    simp only [Region.seqB, Bool.and_eq_true, decide_eq_true_eq] at h
    simp only [Region.linearise.go]
    change (match (Region.ready md ops listed)[t % (Region.ready md ops listed).length]? with
      | some i => Region.linearise.go md ops g (t / (Region.ready md ops listed).length) (listed.setIfInBounds i true) [i]
      | none => [].reverse) = _
    rw [h.1]
    simp only [List.length_cons, List.length_nil, Nat.zero_add, Nat.mod_one, List.getElem?_cons_zero]
    rw [linearise_go_acc, lin_seq g (k + 1) _ h.2]
    rfl

theorem wpI_of_stOp {r : Option Nat} {i : Nat} {is : List Nat} {K : Act → Prop} {a : Act} {w : World} (h : stOp P ops w i K a) (hi : i < ops.size) (hK : ∀ a', K a' → wpI r P ops Q is a' w) : wpI r P ops Q (i :: is) a w := by
  obtain ⟨o, ho⟩ : ∃ o, ops[i]? = some o := ⟨ops[i], by simp [hi]⟩
  unfold stOp at h
  simp only [ho] at h
  split at h
  · rename_i hw
    unfold Oper.still at h
    cases hr : (execOp a.eval o).run P w with
    | ok nx w' =>
      rw [hr] at h
      cases nx <;> simp only [Oper.stillUpon] at h
      case value v => obtain ⟨rfl, h⟩ := h; exact wpI_value ho hw hr (hK _ h)
      case skip => obtain ⟨rfl, h⟩ := h; exact wpI_unit ho hw hr (hK _ h)
      case enter f args =>
        obtain ⟨rfl, v, hc, h⟩ := h
        exact wpI_call ho hw hr (R := fun u w2 => u = v ∧ w2 = w') (fun cs => by
          obtain ⟨e, w2, fr, ⟨he, h2⟩, r⟩ := hc cs
          exact ⟨e, w2, fr, ⟨v, he, rfl, h2⟩, r⟩) (fun u w2 ⟨e1, e2⟩ => by subst e1; subst e2; exact hK _ h)
    | halt x w' => rw [hr] at h; simp only [Oper.stillUpon] at h
  · rename_i hw
    exact wpI_skip ho (by simpa using hw) (hK _ h)

theorem lin_head {r : Option Nat} {md : Region.Mode} {m g : Nat} {Lp : Array Bool → Act → Prop} {w : World} (hm : m < ops.size) (hL : ∀ listed a, Lp listed a → ∀ t, wpI r P ops Q (Region.linearise.go md ops g t listed []) a w) :
    ∀ (f : Nat) (listed : Array Bool) (a : Act), wpAnyL P md ops w m Lp f listed a → ∀ t, wpI r P ops Q (Region.linearise.go md ops (f + g) t listed []) a w
  | 0, listed, a, h, t => by rw [Nat.zero_add]; exact hL _ _ h t
  | f + 1, listed, a, h, t => by
    rw [show f + 1 + g = (f + g) + 1 by omega]
    obtain ⟨h0, h1⟩ := h
    simp only [Region.linearise.go]
    change wpI r P ops Q (match (Region.ready md ops listed)[t % (Region.ready md ops listed).length]? with
      | some i => Region.linearise.go md ops (f + g) (t / (Region.ready md ops listed).length) (listed.setIfInBounds i true) [i]
      | none => [].reverse) a w
    cases hi : (Region.ready md ops listed)[t % (Region.ready md ops listed).length]? with
    | none =>
      exfalso
      cases hr : Region.ready md ops listed with
      | nil => exact h0 hr
      | cons x xs =>
        rw [hr] at hi
        have hlt : t % (x :: xs).length < (x :: xs).length := Nat.mod_lt _ (by simp)
        rw [List.getElem?_eq_getElem hlt] at hi
        cases hi
    | some i =>
      simp only []
      rw [linearise_go_acc, List.reverse_singleton, List.singleton_append]
      obtain ⟨h2, h3⟩ := h1 i (List.mem_of_getElem? hi)
      exact wpI_of_stOp h3 (by omega) (fun a' h' => lin_head hm hL f _ a' h' _)

def wpH (P : Program) (ops : Array Oper) (m : Nat) (tl : List Oper) (rest : List Oper) (Q : Exit → Act → World → Prop) (c : Cx) (n : Nat) (L : Env) (M : List HProp) : Prop :=
  ∀ T w, St c n L M T w → wpStill P ops w (fun a' => wpI c.rnd P ops Q (List.range' m tl.length) a' w) rest ⟨T, c.ds⟩
def wpHO (P : Program) (ops : Array Oper) (m : Nat) (tl : List Oper) (o : Oper) (rest : List Oper) (Q : Exit → Act → World → Prop) (c : Cx) (n : Nat) (L : Env) (M : List HProp) : Prop :=
  ∀ T w, St c n L M T w → o.still P ⟨T, c.ds⟩ w (wpStill P ops w (fun a' => wpI c.rnd P ops Q (List.range' m tl.length) a' w) rest)
variable {m : Nat} {tl : List Oper}
theorem wpH_nil (hd : ops.toList.drop m = tl) (h : wpE P ops tl Q c n L M) : wpH P ops m tl [] Q c n L M := fun T w s => wpStill_nil (h m hd T w s)
theorem gh_none (hg : o.guard = none) (h : wpHO P ops m tl o rest Q c n L M) : wpH P ops m tl (o :: rest) Q c n L M := fun T w s => by
  unfold wpStill
  rw [if_pos (by simp [Region.wanted, hg])]
  exact h T w s
theorem gh_yes {j d : Nat} {b : Bool} (hg : o.guard = some (j, b)) (hd : (ops[j]?).bind (·.dst) = some d) (hv : L.get d = some (.bool b)) (h : wpHO P ops m tl o rest Q c n L M) : wpH P ops m tl (o :: rest) Q c n L M := fun T w s => by
  unfold wpStill
  rw [if_pos (by
    have := s.slots _ _ hv
    simp [Region.wanted, hg, yielded, hd, this])]
  exact h T w s
theorem gh_no {j d d' : Nat} {b : Bool} {v : Value} (hg : o.guard = some (j, b)) (hd : (ops[j]?).bind (·.dst) = some d) (hv : L.get d = some v) (hb : isB b v = false) (ho : o.dst = some d') (hdn : Nat.blt d' n = true)
    (h : wpH P ops m tl rest Q c n ((d', undef) :: L) M) : wpH P ops m tl (o :: rest) Q c n L M := fun T w s => by
  have hT := s.slots _ _ hv
  have hw : Region.wanted o (yielded ops T) = false := by
    simp only [Region.wanted, hg, yielded, hd, Option.bind_some, hT]
    cases v <;> simp_all [isB]
  unfold wpStill
  rw [if_neg (by simp [hw])]
  have := h _ w (put_St s hdn undef)
  simpa [Act.put, ho] using this
theorem oh_ev {d : Nat} {v : Value} (ho : o.dst = some d) (he : Ev P o c n L M v) (hd : Nat.blt d n = true) (h : wpH P ops m tl rest Q c n ((d, v) :: L) M) : wpHO P ops m tl o rest Q c n L M := fun T w s => by
  unfold Oper.still
  rw [he T w s, Oper.stillUpon_value]
  have := h _ w (put_St s hd v)
  simpa [Act.put, ho] using this

theorem wpC_tail {id : Nat} {l hd tl : List Oper} (m : Nat) (hm : P.follows .mixedOrders = true) (hB : Region.lexTailB .any l.toArray m = true) (h1 : l.take m = hd) (h2 : l.drop m = tl) (h : wpH P l.toArray m tl hd Q c n L M) : wpC P (.region id l.toArray true) Q c n L M := fun T w s => by
  subst h1; subst h2
  simp only [Region.lexTailB, Bool.and_eq_true, decide_eq_true_eq] at hB
  obtain ⟨⟨⟨⟨hsel, hn⟩, hs⟩, hc⟩, hlex⟩ := hB
  have hn' : m < l.length := by simpa using hn
  have htl : (l.take m).length = m := by simp; omega
  have hdl : (l.drop m).length = l.toArray.size - m := by simp
  have inv0 : HeadInv .any l.toArray m (Array.replicate l.toArray.size false) :=
    ⟨by simp, fun j oj _ hl => (by rw [getD_replicate_false] at hl; cases hl), fun t _ ht => getD_in (by simpa using ht) (getD_replicate_false _ _)⟩
  have s' : St c n L M T { w with drawn := w.drawn + 1 } := ⟨s.size, s.slots, HSt.same s.heap rfl rfl rfl rfl⟩
  have H := wpAnyL_lex (md := .any) (g := l.toArray.size - m) hsel hs hc hn (l.take m) 0 _ ⟨T, c.ds⟩ (fun j hj => by
    have hj' : j < m := by rw [htl] at hj; exact hj
    simp [hj']) (by simpa using htl) inv0 (by rw [htl]; exact hlex) (h T _ s')
  intro b k cs hb
  have H2 := lin_head (r := c.rnd) (Q := Q) (g := l.toArray.size - m) hn (fun listed a hL t => by
    rw [lin_seq _ _ _ hL.1, ← hdl]
    exact hL.2) _ _ _ H (({ w with drawn := w.drawn } : World).tape w.drawn (.order b.fn id))
  rw [htl, show m + (l.toArray.size - m) = l.toArray.size by omega] at H2
  obtain ⟨e, a', w', hq, harr⟩ := H2 b k cs hb
  refine ⟨e, a', w', hq, .of_steps (.one stepR_region_draw) ?_⟩
  simp only [Region.schedule, hm, Bool.true_or, if_true]
  exact harr


/-! ### a slice of one's own, opened -/
theorem wpC_sl {x : Code} {e size len : Nat} {v : Value} {xs : List Value} {R : List HProp} (p : Pick M (sl e size v len xs) R)
    (h0 : v = .slice none 0 0 → len = 0 → xs = [] → wpC P x Q c n L R)
    (h1 : ∀ b cap junk, v = .slice (some ⟨b, 0, none⟩) len cap → len ≤ cap → cap ≤ maxLen → (xs ++ junk).length = cap * size → wpC P x Q c n L (pts b (.cells (xs ++ junk).toArray e (0, 0)) :: R)) : wpC P x Q c n L M := fun T w s => by
  obtain ⟨a1, a2, a3⟩ := sl_open p s.heap
  rcases a3 with ⟨hv, hl, hR⟩ | ⟨b, cap, junk, hv, b1, b2, b3, hR⟩
  · exact h0 hv hl (List.eq_nil_of_length_eq_zero (by rw [a1, hl]; simp)) T w ⟨s.size, s.slots, hR⟩
  · exact h1 b cap junk hv b1 b2 b3 T w ⟨s.size, s.slots, hR⟩
theorem wpE_sl {e size len : Nat} {v : Value} {xs : List Value} {R : List HProp} (p : Pick M (sl e size v len xs) R)
    (h0 : v = .slice none 0 0 → len = 0 → xs = [] → wpE P ops rest Q c n L R)
    (h1 : ∀ b cap junk, v = .slice (some ⟨b, 0, none⟩) len cap → len ≤ cap → cap ≤ maxLen → (xs ++ junk).length = cap * size → wpE P ops rest Q c n L (pts b (.cells (xs ++ junk).toArray e (0, 0)) :: R)) : wpE P ops rest Q c n L M := fun i hi T w s => by
  obtain ⟨a1, a2, a3⟩ := sl_open p s.heap
  rcases a3 with ⟨hv, hl, hR⟩ | ⟨b, cap, junk, hv, b1, b2, b3, hR⟩
  · exact h0 hv hl (List.eq_nil_of_length_eq_zero (by rw [a1, hl]; simp)) i hi T w ⟨s.size, s.slots, hR⟩
  · exact h1 b cap junk hv b1 b2 b3 i hi T w ⟨s.size, s.slots, hR⟩
/-- What an opened item says beside its memory. -/
theorem wpC_know {σ : Type} {φ : σ → Prop} {My : σ → List HProp} {R : List HProp} {x : Code} {p : Prop} (pk : Pick M (exI φ My) R) (hp : ∀ y, φ y → p) (h : p → wpC P x Q c n L M) : wpC P x Q c n L M := fun T w s => by
  obtain ⟨f, hh, m, l, d⟩ := s.heap
  obtain ⟨y, hy, _⟩ := exI_unfold pk m
  exact h (hp y hy) T w s

theorem Ent.slClose {e size len b cap : Nat} {xs junk : List Value} {R N : List HProp} (p : Pick M (pts b (.cells (xs ++ junk).toArray e (0, 0))) R) (h1 : xs.length = len * size) (h2 : xs.all (·.oneCell') = true) (h3 : len ≤ cap) (h4 : cap ≤ maxLen)
    (h5 : (xs ++ junk).length = cap * size) (h : Ent R N) : Ent M (sl e size (.slice (some ⟨b, 0, none⟩) len cap) len xs :: N) := fun hh s => sl_close h1 h2 h3 h4 h5 hh (Ent.cons p h hh s)

/-! ### a law: whatever lay before lies there still -/
theorem law_below {f : FuncId} {args : List Value} {w : World} {φ : Unit → Prop} {B : Unit → List HProp} (S : FnDoes P f args [own (ph w)] φ (fun _ => .bool true) (fun y => own (ph w) :: B y)) :
    Calls P f args.toArray w (fun e w' => e = .returned (.bool true) ∧ Go.RowKit.Below w.heap.size w w') := fun cs => by
  obtain ⟨e, w', fr, ⟨y, _, he, hf, h, ⟨h1, h2, a, _, _, l1, _⟩, hl, _⟩, r⟩ := S.does w (ph w) ⟨ph w, fun _ => none, rfl, trivial, fun _ => .inr rfl, PHeap.le_refl _, fun _ _ e => by cases e⟩ (PHeap.le_refl _) cs
  refine ⟨e, w', fr, ⟨he, hf.os, hf.tape, hf.output, hf.size, fun k hk => ?_⟩, r⟩
  have hk' : w.heap[k]? = some w.heap[k] := Array.getElem?_eq_getElem hk
  rw [hk']
  exact hl _ _ (l1 _ _ (by rw [show h1 = ph w from a]; exact hk'))

end Go.Sx
