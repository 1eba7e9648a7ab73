/-
  make([]T, n) at elements of one cell. No program in sight.
-/
import Derived.Test.YtmlcikcdegodaaaDoorSxL
set_option linter.unusedSimpArgs false
set_option linter.unusedVariables false
namespace Go.Sx
open Go Go.Conc

variable {P : Program} {ops : Array Oper} {Q : Exit → Act → World → Prop} {c : Cx} {n : Nat} {L : Env} {M : List HProp} {rest : List Oper}
variable {dst : Option Nat} {ty : TypeId} {pos : String} {after : Array Edge} {g : Option (Nat × Bool)}

theorem o_makeSlice1 {d l : Nat} {t e : TypeId} {i : TypeInfo} {z : Value} {x : Operand} (hx : opnd L x = some (.int .i64 l)) (hu : P.underlying t = some (.slice e)) (hi : P.info? e = some i) (hz : i.zero = some z) (hsz : i.size = 1)
    (hzc : z.cells = #[z]) (h1 : z.oneCell' = true) (h0 : 0 < l) (hb : l * i.bytes ≤ 140737488355328) (hl : l ≤ 1000000) (hd : Nat.blt d n = true)
    (h : ∀ v, wpE P ops rest Q c n ((d, v) :: L) (sl e 1 v l (List.replicate l z) :: M)) : wpO P ops ⟨some d, .makeSlice t x x, ty, pos, after, g⟩ rest Q c n L M := o_val rfl hd fun T w s => by
  have wl : IntKind.i64.wrap (l : Int) = l := by rw [IntKind.wrap_i64]; omega
  have n1 : ¬ (l : Int) < 0 := by omega
  have n2 : ¬ (281474976710656 < (i.bytes : Int) * l) := by
    have : (i.bytes : Int) * l = ((l * i.bytes : Nat) : Int) := by push_cast; rw [Int.mul_comm]
    omega
  have n5 : ¬ (140737488355328 < l * i.bytes) := by omega
  have hn : l ≠ 0 := by omega
  refine ⟨.slice (some ⟨w.heap.size, 0, none⟩) l l, _, _, _, ?_, HSt.ent ?_ (HSt.new (w' := { w with heap := w.heap.push (.cells (List.replicate l z).toArray e (0, 0)) }) s.heap (.cells (List.replicate l z).toArray e (0, 0)) rfl rfl rfl rfl), rfl, h _⟩
  · simp [execOp, opnd_eval s.slots hx, Instr.makeSlice, run_underlying hu, asInt, asIntOf, typeInfo, hi, sizeOf, zeroValue, hz, wl, n1, n2, n5, hn, hsz, hzc, newRow, newObj, askRoom, roomBytes, Sem.run]
    have hr : Array.map (fun k => ([z] : List Value)[k % 1]?.getD default) (Array.range l) = Array.replicate l z := by
      apply Array.ext
      · simp
      · intro k h1 h2; simp [Nat.mod_one]
    rw [hr]
  · exact Ent.slClose (junk := []) (by rw [List.append_nil]; exact .head) (by simp) (by simp [h1]) (Nat.le_refl _) (by unfold maxLen; omega) (by simp) (Ent.refl _)

/-! ### regions that draw: two that may come up, a last one whose value nobody keeps, a store of several cells -/
section
variable {S : List HProp} {m r fuel : Nat} {listed : Array Bool}
def wpD1 (P : Program) (ops : Array Oper) (S : List HProp) (m r fuel : Nat) (listed : Array Bool) (i : Nat) (Q : Exit → Act → World → Prop) (c : Cx) (n : Nat) (L : Env) (M : List HProp) : Prop :=
  ∀ T w, St c n L M T w → wpOp P ops (QN Q) i (fun a' w' => HSt c S w' ∧ wpAnyK P .any ops (QN Q) (HSt c S) m (KN P ops Q r) fuel (listed.setIfInBounds i true) a' w') ⟨T, c.ds⟩ w
theorem wpD_two (i j : Nat) (h1 : wpD1 P ops S m r fuel listed i Q c n L M) (h2 : wpD1 P ops S m r fuel listed j Q c n L M) (hr : Region.ready .any ops listed = [i, j] := by decide +kernel) : wpD P ops S m r (fuel + 1) listed Q c n L M := fun T w s => ⟨by rw [hr]; simp, fun k hk => by
  rw [hr] at hk
  rcases List.mem_cons.1 hk with rfl | hk
  · exact h1 T w s
  · obtain rfl : k = j := by simpa using hk
    exact h2 T w s⟩
theorem d1_val {i : Nat} {o : Oper} {d : Nat} (h : OVL P o c n L M d (fun L' M' => Ent M' S ∧ wpD P ops S m r fuel (listed.setIfInBounds i true) Q c n L' M')) (hi : ops[i]? = some o := by rfl) (hg : wantB ops o L = true := by rfl) (ho : o.dst = some d := by rfl) (hd : Nat.blt d n = true := by rfl) :
    wpD1 P ops S m r fuel listed i Q c n L M := fun T w s => by
  obtain ⟨v, w', L', M', hrun, hst, rfl, he, hk⟩ := h T w s
  unfold wpOp
  simp only [hi]
  rw [if_pos (wanted_of hg s.slots)]
  refine .inl ?_
  unfold Oper.wp
  rw [hrun, Oper.upon_value]
  refine ⟨HSt.ent he hst, ?_⟩
  have := hk (T.setIfInBounds d v) w' ⟨by simp [s.size], s.slots.put s.size hd v, hst⟩
  simpa [Act.put, ho] using this
theorem wpD_lastN {o : Oper} (hi : ops[m]? = some o) (hg : wantB ops o L = true) (hr : Region.ready .any ops listed = [m]) (hr' : Region.ready .any ops (listed.setIfInBounds m true) = []) (ho : o.dst = none)
    (h : OVN P o c n L M (fun L' M' => qE Q .normal c n L' M')) : wpD P ops S m 1 0 listed Q c n L M := fun T w s => by
  refine ⟨hr, fun h0 => absurd h0 (by rw [hr]; simp), fun j hj => ?_⟩
  rw [hr] at hj
  obtain rfl : j = m := by simpa using hj
  obtain ⟨v, w', M', hrun, hst, hk⟩ := h T w s
  unfold wpOp
  simp only [hi]
  rw [if_pos (wanted_of hg s.slots)]
  refine .inl ?_
  unfold Oper.wp
  rw [hrun, Oper.upon_value]
  have := hk T w' ⟨s.size, s.slots, hst⟩
  exact ⟨hr', rfl, by simpa [Act.put, ho] using this⟩
end
theorem x_storeP {K : Env → List HProp → Prop} {t : TypeId} {x y : Operand} {i : TypeInfo} {b off : Nat} {l l' vs : List Value} {T' : TypeId} {v : Value} {R : List HProp} (hx : opnd L x = some (.pointer (some ⟨b, off, none⟩))) (hy : opnd L y = some v) (hi : P.info? t = some i) (hv : v.cells = vs.toArray) (hs : vs.length = i.size)
    (h1 : vs.all (·.oneCell') = true) (hp : Pick M (pts b (.cells l.toArray T' (0, 0))) R) (hl : off + vs.length ≤ l.length) (he : l.take off ++ vs ++ l.drop (off + vs.length) = l') (h : K L (pts b (.cells l'.toArray T' (0, 0)) :: R)) :
    OUL P ⟨none, .store t x y, ty, pos, after, g⟩ c n L M K := fun T w s => by
  have hr := run_storeVar_row (P := P) (t := t) hi hv hs (by simpa using h1) (s.heap.pts hp) (off := off) hl
  rw [he] at hr
  refine ⟨_, _, ?_, hst_setRow hp s.heap, h⟩
  simp [execOp, opnd_eval s.slots hx, opnd_eval s.slots hy, Instr.storeAt, Instr.sureAddr, hr]
/-- A row's element is replaced whole. -/
theorem fm_put {α : Type} {f : α → List Value} {sz : Nat} (hf : ∀ m, (f m).length = sz) {m' : α} {junk : List Value} : ∀ (l : List α) (k : Nat), k < l.length →
    (l.flatMap f ++ junk).take (k * sz) ++ f m' ++ (l.flatMap f ++ junk).drop (k * sz + sz) = (l.set k m').flatMap f ++ junk
  | a :: l, 0, _ => by
    have ha := hf a
    rw [Nat.zero_mul, Nat.zero_add, List.take_zero, List.nil_append, List.set_cons_zero, List.flatMap_cons, List.flatMap_cons, List.append_assoc, ← ha, List.drop_left, List.append_assoc]
  | a :: l, k + 1, h => by
    have ha := hf a
    have ih := fm_put hf (m' := m') (junk := junk) l k (by simpa using h)
    rw [List.set_cons_succ, List.flatMap_cons, List.flatMap_cons, List.append_assoc (f a) (l.flatMap f) junk, List.append_assoc (f a) ((l.set k m').flatMap f) junk, ← ih]
    have e : (k + 1) * sz = (f a).length + k * sz := by rw [ha, Nat.add_mul]; omega
    rw [e, List.take_append, Nat.add_sub_cancel_left, List.take_of_length_le (by omega), show (f a).length + k * sz + sz = (f a).length + (k * sz + sz) by omega, List.drop_append, Nat.add_sub_cancel_left, List.drop_eq_nil_of_le (by omega)]
    simp
/-- What is read at an element. -/
theorem fm_cell {α : Type} {f : α → List Value} {sz : Nat} (hf : ∀ m, (f m).length = sz) (l : List α) (junk : List Value) (k : Nat) (h : k < l.length) {j : Nat} {u : Value} (e : (f l[k])[j]? = some u) : (l.flatMap f ++ junk)[k * sz + j]? = some u := by
  have := fm_get hf l k h j u e
  rw [List.getElem?_append_left (List.getElem?_eq_some_iff.1 this).1]
  exact this
theorem ev_max {k : IntKind} {x y : Operand} {ts : Array TypeId} {a b r : Int} (hx : opnd L x = some (.int k a)) (hy : opnd L y = some (.int k b)) (h : max a b = r) : Ev P ⟨dst, .call { callee := .builtin .max, args := #[x, y], argTypes := ts }, ty, pos, after, g⟩ c n L M (.int k r) := fun T w s => by
  subst h
  simp [execOp, resolve, invoke, builtin, opnd_eval s.slots hx, opnd_eval s.slots hy, Builtin.max_, Builtin.max2]
  try (split <;> rename_i c <;> simp [Int.max_def] <;> omega)
theorem ev_min {k : IntKind} {x y : Operand} {ts : Array TypeId} {a b r : Int} (hx : opnd L x = some (.int k a)) (hy : opnd L y = some (.int k b)) (h : min a b = r) : Ev P ⟨dst, .call { callee := .builtin .min, args := #[x, y], argTypes := ts }, ty, pos, after, g⟩ c n L M (.int k r) := fun T w s => by
  subst h
  simp [execOp, resolve, invoke, builtin, opnd_eval s.slots hx, opnd_eval s.slots hy, Builtin.min_, Builtin.min2]
  try (split <;> rename_i c <;> simp [Int.min_def] <;> omega)
end Go.Sx
