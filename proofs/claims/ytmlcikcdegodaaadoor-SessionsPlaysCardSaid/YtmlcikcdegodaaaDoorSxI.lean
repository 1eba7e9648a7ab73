/-
  Interfaces, texts, slices that are only read. No program in sight.
-/
import Derived.Test.YtmlcikcdegodaaaDoorSxH
import Derived.Laws.BytesString
set_option linter.unusedSimpArgs false
set_option linter.unusedVariables false
namespace Go.Sx
open Go Go.Conc

variable {P : Program} {ops : Array Oper} {Q : Exit → Act → World → Prop} {c : Cx} {n : Nat} {L : Env} {M : List HProp} {rest : List Oper}
variable {dst : Option Nat} {ty : TypeId} {pos : String} {after : Array Edge} {g : Option (Nat × Bool)}

theorem wpC_fact {x : Code} {p : Prop} (H : ∀ w, HSt c M w → p) (h : p → wpC P x Q c n L M) : wpC P x Q c n L M := fun T w s => h (H w s.heap) T w s
theorem wpE_fact {p : Prop} (H : ∀ w, HSt c M w → p) (h : p → wpE P ops rest Q c n L M) : wpE P ops rest Q c n L M := fun i hi T w s => h (H w s.heap) i hi T w s

/-! ### interfaces -/
def ifaceD : TypeDesc → Bool
  | .interface _ => true
  | _ => false
theorem ev_makeInterface {t : TypeId} {x : Operand} {v : Value} {d : TypeDesc} (hx : opnd L x = some v) (hu : P.underlying t = some d) (hd : ifaceD d = false) : Ev P ⟨dst, .makeInterface t x, ty, pos, after, g⟩ c n L M (.iface t v) := fun T w s => by
  simp only [execOp, opnd_eval s.slots hx, Instr.makeInterface, Sem.run_bind, run_underlying hu, Result.andThen_ok]
  cases d <;> first | (cases hd; done) | rfl
theorem ev_assert_t {x : Operand} {xt t : TypeId} {v : Value} {d : TypeDesc} (hx : opnd L x = some (.iface t v)) (hu : P.underlying t = some d) (hd : ifaceD d = false) : Ev P ⟨dst, .typeAssert x xt t true, ty, pos, after, g⟩ c n L M (.tuple #[v, .bool true]) := fun T w s => by
  simp only [execOp, opnd_eval s.slots hx, Instr.typeAssert, Sem.run_bind, run_underlying hu, Result.andThen_ok]
  cases d <;> first | (cases hd; done) | simp
theorem ev_assert_f {x : Operand} {xt t t' : TypeId} {v z : Value} {d : TypeDesc} {i : TypeInfo} (hx : opnd L x = some (.iface t' v)) (hu : P.underlying t = some d) (hd : ifaceD d = false) (hne : Nat.beq t' t = false) (hi : P.info? t = some i) (hz : i.zero = some z) : Ev P ⟨dst, .typeAssert x xt t true, ty, pos, after, g⟩ c n L M (.tuple #[z, .bool false]) := fun T w s => by
  have hne' : ¬ t' = t := fun e => by subst e; rw [Nat.beq_refl] at hne; cases hne
  have hzv : (zeroValue t).run P w = .ok z w := by simp [zeroValue, typeInfo, run_program, hi, hz]
  simp only [execOp, opnd_eval s.slots hx, Instr.typeAssert, Sem.run_bind, run_underlying hu, Result.andThen_ok]
  cases d <;> first | (cases hd; done) | simp [hne', hzv]
theorem ev_assert_v {x : Operand} {xt t : TypeId} {v : Value} {d : TypeDesc} (hx : opnd L x = some (.iface t v)) (hu : P.underlying t = some d) (hd : ifaceD d = false) : Ev P ⟨dst, .typeAssert x xt t false, ty, pos, after, g⟩ c n L M v := fun T w s => by
  simp only [execOp, opnd_eval s.slots hx, Instr.typeAssert, Sem.run_bind, run_underlying hu, Result.andThen_ok]
  cases d <;> first | (cases hd; done) | simp

def ptrD : TypeDesc → Bool
  | .pointer _ => true
  | _ => false
/-- The method of a type, whose receiver is the value as it stands. -/
def methodOf (P : Program) (t : TypeId) (name : String) : Option FuncId := match P.info? t with
  | none => none
  | some i => match i.methods.find? (·.name == name) with
    | none => none
    | some m => match m.path.toList, m.func, P.underlying t with
      | [], some (f, b), some d => if ptrD d = b then some f else none
      | _, _, _ => none
theorem run_method {t : TypeId} {name : String} {f : FuncId} {v : Value} {w : World} (h : methodOf P t name = some f) (k : Nat) : (method (k + 1) t v name).run P w = .ok (f, v) w := by
  unfold methodOf at h
  cases hi : P.info? t with
  | none => rw [hi] at h; cases h
  | some i =>
    rw [hi] at h
    simp only at h
    cases hm : i.methods.find? (·.name == name) with
    | none => rw [hm] at h; cases h
    | some m =>
      rw [hm] at h
      simp only at h
      split at h
      · rename_i f' b d hp hf hu
        split at h
        · rename_i hb
          cases h
          have e1 : (typeInfo t).run P w = .ok i w := by simp [typeInfo, run_program, hi]
          simp only [method, Sem.run_bind, e1, Result.andThen_ok, hm, hp, follow, Sem.run_pure, hf, receiverAt, run_underlying hu]
          cases d <;> simp only [ptrD] at hb <;> subst hb <;> simp [Place.get]
        · cases h
      · cases h
theorem o_invoke {σ : Type} {d : Nat} {f : FuncId} {t : TypeId} {v : Value} {name : String} {r : Operand} {xs : List Operand} {ats : Array TypeId}
    {args : List Value} {A R : List HProp} {φ : σ → Prop} {val : σ → Value} {B : σ → List HProp}
    (S : FnDoes P f (v :: args) A φ val B) (hr : opnd L r = some (.iface t v)) (hm : methodOf P t name = some f) (hx : opnds L xs = some args) (hp : Ent M (A ++ R)) (hd : Nat.blt d n = true)
    (h : ∀ y, φ y → wpE P ops rest Q c n ((d, val y) :: L) (B y ++ R)) :
    wpO P ops ⟨some d, .call { callee := .invoke r name, args := xs.toArray, argTypes := ats }, ty, pos, after, g⟩ rest Q c n L M := fun i hi T w s hw => by
  obtain ⟨h1, h2⟩ := drop_cons hi
  have hrun : (execOp (Act.eval ⟨T, c.ds⟩) ⟨some d, .call { callee := .invoke r name, args := xs.toArray, argTypes := ats }, ty, pos, after, g⟩).run P w = .ok (.enter f (v :: args).toArray) w := by
    have e1 := opnds_eval (ds := c.ds) s.slots hx
    have e2 := opnd_eval (ds := c.ds) s.slots hr
    have e3 := run_method (P := P) (v := v) (w := w) hm (P.types.size + Made.depth - 1)
    have e4 : P.types.size + Made.depth - 1 + 1 = P.types.size + Made.depth := by
      have : 0 < Made.depth := by decide
      omega
    rw [e4] at e3
    simp only [execOp, resolve, Sem.run_bind, Sem.run_pure, Result.andThen_ok, invoke, List.map_toArray, e1, e2]
    have e5 : ∀ (a : Value) (l : List Value), (#[a] ++ l.toArray : Array Value) = (a :: l).toArray := fun a l => by simp
    simp only [e5, List.getElem?_toArray, List.getElem?_cons_zero, callMethod, Sem.run_bind, run_program, Result.andThen_ok, e3]
    have e6 : ((Value.iface t v :: args).toArray.extract 1 (Value.iface t v :: args).toArray.size) = args.toArray := by simp [List.extract_eq_take_drop]
    rw [e6]
    exact S.may _ _
  refine wpI_call (i := i) (a := ⟨T, c.ds⟩) (by simpa using h1) hw hrun (R := fun u w2 => ∃ y, φ y ∧ u = val y ∧ HSt c (B y ++ R) w2) ?_ ?_
  · intro cs
    obtain ⟨f', hh, m, l, dd⟩ := s.heap
    obtain ⟨ha, hr', a, r, dj, l1, l2⟩ := sepL_append (hp _ m)
    obtain ⟨e, w2, fr, ⟨y, hy, he, hst⟩, hcm, hfr, hl⟩ := S.does w ha a (PHeap.le_trans l1 l) cs
    refine ⟨e, w2, fr, ⟨val y, he, y, hy, rfl, ?_⟩, hcm, hfr, hl⟩
    exact HSt.call f' l dd r dj l1 l2 hst
  · rintro u w2 ⟨y, hy, rfl, hst⟩
    have := h y hy (i + 1) h2 (T.setIfInBounds d (val y)) w2 ⟨by simp [s.size], s.slots.put s.size hd _, hst⟩
    simpa [Act.put] using this
theorem o_invokeA {σ : Type} {d : Nat} {f : FuncId} {t : TypeId} {v : Value} {name : String} {r : Operand} {xs : List Operand} {ats : Array TypeId}
    {args : List Value} {A R : List HProp} {φ : σ → Prop} {val : σ → Value} {B : σ → List HProp}
    (S : FnDoes P f (v :: args) A φ val B) (h : ∀ y, φ y → wpE P ops rest Q c n ((d, val y) :: L) (B y ++ R)) (hr : opnd L r = some (.iface t v) := by rfl) (hm : methodOf P t name = some f := by rfl) (hx : opnds L xs = some args := by rfl) (hp : Ent M (A ++ R) := by exact Picks.ent (by repeat (first | exact Picks.nil | (apply Picks.cons; repeat (first | exact Pick.head | apply Pick.tail))))) (hd : Nat.blt d n = true := by rfl) :
    wpO P ops ⟨some d, .call { callee := .invoke r name, args := xs.toArray, argTypes := ats }, ty, pos, after, g⟩ rest Q c n L M := o_invoke S hr hm hx hp hd h

theorem ev_neg {t : TypeId} {x : Operand} {k : IntKind} {a r : Int} (hx : opnd L x = some (.int k a)) (hr : k.wrap (-a) = r) : Ev P ⟨dst, .unOp .neg t x, ty, pos, after, g⟩ c n L M (.int k r) := fun T w s => by
  subst hr; simp [execOp, opnd_eval s.slots hx, Op.unary, Op.intArith]

/-! ### texts -/
theorem ev_eq_str_t {t t' : TypeId} {x y : Operand} {a b : ByteArray} (hx : opnd L x = some (.string a)) (hy : opnd L y = some (.string b)) (h : a = b) : Ev P ⟨dst, .binOp .eql t x y t', ty, pos, after, g⟩ c n L M (.bool true) := ev_eq_str hx hy (by simp [nilOp, h])
theorem ev_eq_str_f {t t' : TypeId} {x y : Operand} {a b : ByteArray} (hx : opnd L x = some (.string a)) (hy : opnd L y = some (.string b)) (h : a ≠ b) : Ev P ⟨dst, .binOp .eql t x y t', ty, pos, after, g⟩ c n L M (.bool false) := ev_eq_str hx hy (by simp [nilOp, h])
theorem ev_ne_str_t {t t' : TypeId} {x y : Operand} {a b : ByteArray} (hx : opnd L x = some (.string a)) (hy : opnd L y = some (.string b)) (h : a ≠ b) : Ev P ⟨dst, .binOp .neq t x y t', ty, pos, after, g⟩ c n L M (.bool true) := ev_eq_str hx hy (by simp [nilOp, h])
theorem ev_ne_str_f {t t' : TypeId} {x y : Operand} {a b : ByteArray} (hx : opnd L x = some (.string a)) (hy : opnd L y = some (.string b)) (h : a = b) : Ev P ⟨dst, .binOp .neq t x y t', ty, pos, after, g⟩ c n L M (.bool false) := ev_eq_str hx hy (by simp [nilOp, h])
theorem ev_concat {t t' : TypeId} {x y : Operand} {a b : ByteArray} (hx : opnd L x = some (.string a)) (hy : opnd L y = some (.string b)) (h : a.size + b.size ≤ 9223372036854775807) : Ev P ⟨dst, .binOp .add t x y t', ty, pos, after, g⟩ c n L M (.string (a ++ b)) := ev_bin hx hy fun w _ => by
  have : ¬ ((a.size + b.size : Nat) : Int) > IntKind.i64.max := by
    have : IntKind.i64.max = 9223372036854775807 := by decide
    rw [this]; omega
  exact ⟨by simp [eqGuard], by simp only [binOp, Op.stringOp, this, if_false, Sem.run_pure]⟩

theorem ev_bytes {src d e : TypeId} {x : Operand} {b off len cap : Nat} {T' : TypeId} {f : Nat × Nat} {l : List Value} {ns : List Int} {R : List HProp} (hx : opnd L x = some (.slice (some ⟨b, off, none⟩) len cap)) (hu : P.underlying src = some (.slice e)) (he : P.underlying e = some (.int .u8)) (hd : P.underlying d = some .string)
    (hp : Pick M (pts b (.cells l.toArray T' f)) R) (hn : (l.drop off).take len = ns.map (fun n => Value.int .u8 n)) (hl : ns.length = len) : Ev P ⟨dst, .convert src d x, ty, pos, after, g⟩ c n L M (.string (ns.foldl (fun r n => r.push (UInt8.ofNat n.toNat)) ByteArray.empty)) := fun T w s => by
  have hc : ∀ j u, (ns.map (Value.int .u8))[j]? = some u → w.cell? (Addr.add ⟨b, off, none⟩ j) = some u := fun j u e => by
    rw [add_lit, cell_pts (s.heap.pts hp)]
    have : ((l.drop off).take len)[j]? = some u := by rw [hn]; exact e
    rw [List.getElem?_take] at this
    split at this
    · simpa using this
    · cases this
  have h1 := run_loadCells_list (P := P) w ⟨b, off, none⟩ _ hc
  rw [List.length_map, hl] at h1
  have := run_bytesToString (P := P) w ⟨b, off, none⟩ len cap ns h1
  simp only [execOp, opnd_eval s.slots hx, convert, Sem.run_bind, run_underlying hu, run_underlying hd, run_underlying he, Result.andThen_ok, this, Sem.run_pure]

/-! ### bools -/
theorem ev_eq_bool_v {t t' : TypeId} {x y : Operand} {a b : Bool} (hx : opnd L x = some (.bool a)) (hy : opnd L y = some (.bool b)) (hu : P.underlying t = some .bool) : Ev P ⟨dst, .binOp .eql t x y t', ty, pos, after, g⟩ c n L M (.bool (a == b)) := ev_eq_bool hx hy hu rfl
theorem ev_ne_bool_f {t t' : TypeId} {x y : Operand} {a b : Bool} (hx : opnd L x = some (.bool a)) (hy : opnd L y = some (.bool b)) (hu : P.underlying t = some .bool) (h : a = b) : Ev P ⟨dst, .binOp .neq t x y t', ty, pos, after, g⟩ c n L M (.bool false) := ev_eq_bool hx hy hu (by simp [nilOp, h])
theorem ev_eq_bool_t {t t' : TypeId} {x y : Operand} {a b : Bool} (hx : opnd L x = some (.bool a)) (hy : opnd L y = some (.bool b)) (hu : P.underlying t = some .bool) (h : a = b) : Ev P ⟨dst, .binOp .eql t x y t', ty, pos, after, g⟩ c n L M (.bool true) := ev_eq_bool hx hy hu (by simp [nilOp, h])

/-! ### slices that are only read -/
/-- X holds m elements behind the slice v. -/
def Rd (X : HProp) (sz : Nat) (v : Value) (m : Nat) (xs : List Value) : Prop := ∀ h, X h → xs.length = m * sz ∧ xs.all (·.oneCell') = true ∧
  ((v = .slice none 0 0 ∧ m = 0) ∨ ∃ a cap, v = .slice (some a) m cap ∧ m ≤ cap ∧ (0 < m → a.spot = none) ∧ ∀ j u, xs[j]? = some u → h.cell? (a.add j) = some u)
theorem pcell_le {h h' : PHeap} (l : PHeap.le h h') {a : Addr} {v : Value} (e : h.cell? a = some v) : h'.cell? a = some v := by
  unfold PHeap.cell? at e ⊢
  split at e
  · rename_i c t f hb
    rw [l _ _ hb]
    exact e
  · cases e
theorem Rd.open {X : HProp} {sz m : Nat} {v : Value} {xs : List Value} {R : List HProp} (hr : Rd X sz v m xs) (p : Pick M X R) (w : World) (s : HSt c M w) : xs.length = m * sz ∧ xs.all (·.oneCell') = true ∧
    ((v = .slice none 0 0 ∧ m = 0) ∨ ∃ a cap, v = .slice (some a) m cap ∧ m ≤ cap ∧ (0 < m → a.spot = none) ∧ ∀ j u, xs[j]? = some u → w.cell? (a.add j) = some u) := by
  obtain ⟨_, h, m', l, _⟩ := s
  obtain ⟨h1, h2, a, _, _, l1, _⟩ := p.sep m'
  obtain ⟨e1, e2, e3⟩ := hr h1 a
  refine ⟨e1, e2, ?_⟩
  rcases e3 with e3 | ⟨b, cap, e, hc, hsp, k⟩
  · exact .inl e3
  · exact .inr ⟨b, cap, e, hc, hsp, fun j u hu => cell_of_le (PHeap.le_trans l1 l) (k j u hu)⟩
theorem Rd.src {X : HProp} {sz m : Nat} {v : Value} {xs : List Value} {R : List HProp} {tx e' : TypeId} (hr : Rd X sz v m xs) (p : Pick M X R) (hk : P.underlying tx = some (.slice e')) : ∀ w, HSt c M w → Src P sz tx v m xs w := fun w s => by
  obtain ⟨e1, e2, e3⟩ := hr.open p w s
  rcases e3 with ⟨rfl, rfl⟩ | ⟨a, cap, rfl, hc, _, k⟩
  · have : xs = [] := List.eq_nil_of_length_eq_zero (by simpa using e1)
    subst this
    exact Src.ofNil w hk 0
  · exact Src.ofSlice w hk _ m cap xs e1 k (by simpa using e2)
/-- What kind of slice it is. -/
theorem Rd.kind {X : HProp} {sz m : Nat} {v : Value} {xs : List Value} {R : List HProp} (hr : Rd X sz v m xs) (p : Pick M X R) : ∀ w, HSt c M w → (v = .slice none 0 0 ∧ m = 0) ∨ ∃ a cap, v = .slice (some a) m cap ∧ m ≤ cap ∧ (0 < m → ∃ b off, a = ⟨b, off, none⟩) := fun w s => by
  obtain ⟨_, _, e3⟩ := hr.open p w s
  rcases e3 with e3 | ⟨⟨b, off, spot⟩, cap, e, hc, hsp, _⟩
  · exact .inl e3
  · exact .inr ⟨_, cap, e, hc, fun h => ⟨b, off, by rw [show spot = none from hsp h]⟩⟩
theorem Rd.one1 {X : HProp} {sz m : Nat} {v : Value} {xs : List Value} {R : List HProp} (hr : Rd X sz v m xs) (p : Pick M X R) : ∀ w, HSt c M w → v.oneCell' = true := fun w s => by
  rcases hr.kind p w s with ⟨rfl, _⟩ | ⟨b, cap, rfl, _⟩ <;> rfl
/-- It is a slice of m. -/
theorem Rd.isSlice {X : HProp} {sz m : Nat} {v : Value} {xs : List Value} {R : List HProp} (hr : Rd X sz v m xs) (p : Pick M X R) : ∀ w, HSt c M w → ∃ a cap, v = .slice a m cap ∧ (0 < m → ∃ b off, a = some ⟨b, off, none⟩ ∧ m ≤ cap) := fun w s => by
  rcases hr.kind p w s with ⟨rfl, rfl⟩ | ⟨a, cap, rfl, hc, hb⟩
  · exact ⟨none, 0, rfl, fun h => by omega⟩
  · refine ⟨some a, cap, rfl, fun h => ?_⟩
    obtain ⟨b, off, rfl⟩ := hb h
    exact ⟨b, off, rfl, hc⟩
theorem Rd.ofSl {e sz m : Nat} {v : Value} {xs : List Value} : Rd (sl e sz v m xs) sz v m xs := fun h ⟨a1, a2, a3⟩ => ⟨a1, a2, by
  rcases a3 with ⟨rfl, rfl⟩ | ⟨b, cap, junk, rfl, b1, b2, b3, rfl⟩
  · exact .inl ⟨rfl, rfl⟩
  · refine .inr ⟨⟨b, 0, none⟩, cap, rfl, b1, fun _ => rfl, fun j u hu => ?_⟩
    have : j < xs.length := (List.getElem?_eq_some_iff.1 hu).1
    rw [add_lit]
    simp [PHeap.cell?, single, List.getElem?_append_left this, hu]⟩
theorem Rd.nil {X : HProp} {sz : Nat} : Rd X sz (.slice none 0 0) 0 [] := fun _ _ => ⟨by simp, rfl, .inl ⟨rfl, rfl⟩⟩
/-- A row in the given memory: element by element. -/
def rowsAt (H : PHeap) (sz : Nat) (v : Value) (xs : List (List Value)) : Prop := (v = .slice none 0 0 ∧ xs = []) ∨
  ∃ a cap, v = .slice (some a) xs.length cap ∧ xs.length ≤ cap ∧ (0 < xs.length → a.spot = none) ∧ ∀ i (h : i < xs.length), xs[i].length = sz ∧ xs[i].all (·.oneCell') = true ∧ ∀ j u, (xs[i])[j]? = some u → H.cell? (a.add (i * sz + j)) = some u
theorem flatten_get : ∀ {xs : List (List Value)} {sz : Nat} (h : ∀ i (h : i < xs.length), xs[i].length = sz) {j : Nat} {u : Value}, xs.flatten[j]? = some u → ∃ i k, ∃ h : i < xs.length, j = i * sz + k ∧ (xs[i])[k]? = some u
  | [], _, _, j, u, e => by simp at e
  | x :: xs, sz, h, j, u, e => by
    have hx : x.length = sz := h 0 (by simp)
    rw [List.flatten_cons] at e
    by_cases hj : j < x.length
    · rw [List.getElem?_append_left hj] at e
      exact ⟨0, j, by simp, by simp, by simpa using e⟩
    · rw [List.getElem?_append_right (by omega)] at e
      obtain ⟨i, k, hi, hjk, hu⟩ := flatten_get (xs := xs) (sz := sz) (fun i hi => by have := h (i + 1) (by simpa using hi); simpa using this) e
      refine ⟨i + 1, k, by simpa using hi, ?_, by simpa using hu⟩
      rw [Nat.add_mul]; omega
theorem flatten_length : ∀ {xs : List (List Value)} {sz : Nat} (h : ∀ i (h : i < xs.length), xs[i].length = sz), xs.flatten.length = xs.length * sz
  | [], _, _ => by simp
  | x :: xs, sz, h => by
    have hx : x.length = sz := h 0 (by simp)
    rw [List.flatten_cons, List.length_append, flatten_length (xs := xs) (sz := sz) (fun i hi => by have := h (i + 1) (by simpa using hi); simpa using this), hx, List.length_cons, Nat.add_mul]
    omega
theorem Rd.ofRow {H : PHeap} {sz : Nat} {v : Value} {xs : List (List Value)} (hr : rowsAt H sz v xs) : Rd (own H) sz v xs.length xs.flatten := fun h hh => by
  rcases hr with ⟨rfl, rfl⟩ | ⟨a, cap, rfl, hc, hsp, k⟩
  · exact ⟨by simp, rfl, .inl ⟨rfl, rfl⟩⟩
  · have hl : ∀ i (h : i < xs.length), xs[i].length = sz := fun i hi => (k i hi).1
    refine ⟨flatten_length hl, ?_, .inr ⟨a, cap, rfl, hc, hsp, fun j u hu => ?_⟩⟩
    · simp only [List.all_eq_true, List.mem_flatten]
      rintro u ⟨l, hl', hu⟩
      obtain ⟨i, hi, rfl⟩ := List.getElem_of_mem hl'
      exact List.all_eq_true.1 (k i hi).2.1 u hu
    · obtain ⟨i, kk, hi, rfl, hu'⟩ := flatten_get hl hu
      rw [show h = H from hh]
      exact (k i hi).2.2 kk u hu'
/-- An element of such a row. -/
theorem rowsAt.at {H : PHeap} {sz : Nat} {v : Value} {xs : List (List Value)} (hr : rowsAt H sz v xs) (i : Nat) (hi : i < xs.length) : ∃ b off cap, v = .slice (some ⟨b, off, none⟩) xs.length cap ∧ ∀ j u, (xs[i])[j]? = some u → H.cell? ⟨b, off + i * sz + j, none⟩ = some u := by
  rcases hr with ⟨rfl, rfl⟩ | ⟨⟨b, off, spot⟩, cap, rfl, hc, hsp, k⟩
  · simp at hi
  · obtain rfl : spot = none := hsp (by omega)
    refine ⟨b, off, cap, rfl, fun j u hu => ?_⟩
    have := (k i hi).2.2 j u hu
    rw [add_lit] at this
    rw [Nat.add_assoc]; exact this
theorem rowsAt.slice {H : PHeap} {sz : Nat} {v : Value} {xs : List (List Value)} (hr : rowsAt H sz v xs) : ∃ a cap, v = .slice a xs.length cap := by
  rcases hr with ⟨rfl, rfl⟩ | ⟨a, cap, rfl, _⟩
  · exact ⟨none, 0, rfl⟩
  · exact ⟨_, _, rfl⟩

/-! ### rows of structs, end to end -/
section
variable {α : Type} {f : α → List Value} {sz : Nat}
theorem fm_length (hf : ∀ m, (f m).length = sz) (l : List α) : (l.flatMap f).length = l.length * sz := by
  induction l with
  | nil => simp
  | cons a l ih => rw [List.flatMap_cons, List.length_append, ih, hf, List.length_cons, Nat.add_mul]; omega
theorem fm_one (h1 : ∀ m, (f m).all (·.oneCell') = true) (l : List α) : (l.flatMap f).all (·.oneCell') = true := by
  simp only [List.all_eq_true, List.mem_flatMap]
  rintro u ⟨m, _, hu⟩
  exact List.all_eq_true.1 (h1 m) u hu
theorem fm_get (hf : ∀ m, (f m).length = sz) : ∀ (l : List α) (k : Nat) (h : k < l.length) (j : Nat) (u : Value), (f l[k])[j]? = some u → (l.flatMap f)[k * sz + j]? = some u
  | a :: l, 0, _, j, u, e => by
    have hj : j < (f a).length := (List.getElem?_eq_some_iff.1 e).1
    rw [List.flatMap_cons, Nat.zero_mul, Nat.zero_add, List.getElem?_append_left hj]
    exact e
  | a :: l, k + 1, h, j, u, e => by
    have := fm_get hf l k (by simpa using h) j u (by simpa using e)
    rw [List.flatMap_cons, List.getElem?_append_right (by rw [hf, Nat.add_mul]; omega), hf]
    rw [show (k + 1) * sz + j - sz = k * sz + j by rw [Nat.add_mul]; omega]
    exact this
theorem fm_at (hf : ∀ m, (f m).length = sz) (l : List α) (junk : List Value) (k : Nat) (h : k < l.length) : ((l.flatMap f ++ junk).drop (k * sz)).take sz = f l[k] := by
  have hl := fm_length hf l
  have hk : k * sz + sz ≤ (l.flatMap f).length := by
    rw [hl, ← Nat.succ_mul]
    exact Nat.mul_le_mul_right _ h
  apply List.ext_getElem?
  intro j
  by_cases hj : j < sz
  · rw [List.getElem?_take, if_pos hj, List.getElem?_drop, List.getElem?_append_left (by omega)]
    have hj' : j < (f l[k]).length := by rw [hf]; exact hj
    have := fm_get hf l k h j (f l[k])[j] (List.getElem?_eq_getElem hj')
    rw [this, List.getElem?_eq_getElem hj']
  · rw [List.getElem?_eq_none (by simp; omega), List.getElem?_eq_none (by rw [hf]; omega)]
theorem fm_set (hf : ∀ m, (f m).length = sz) {j : Nat} {v : Value} {m' : α} : ∀ (l : List α) (k : Nat) (h : k < l.length), (f l[k]).set j v = f m' → j < sz → (l.flatMap f).set (k * sz + j) v = (l.set k m').flatMap f
  | a :: l, 0, _, e, hj => by
    have ha : (f a).length = sz := hf a
    rw [Nat.zero_mul, Nat.zero_add, List.flatMap_cons, List.set_append_left _ _ (by omega), List.set_cons_zero, List.flatMap_cons]
    rw [show (f a).set j v = f m' from e]
  | a :: l, k + 1, h, e, hj => by
    have ha : (f a).length = sz := hf a
    have := fm_set hf (m' := m') (v := v) (j := j) l k (by simpa using h) (by simpa using e) hj
    rw [List.flatMap_cons, List.set_append_right _ _ (by rw [ha, Nat.add_mul]; omega), ha, List.set_cons_succ, List.flatMap_cons]
    rw [show (k + 1) * sz + j - sz = k * sz + j by rw [Nat.add_mul]; omega, this]
theorem fm_snoc (l : List α) (m : α) : (l ++ [m]).flatMap f = l.flatMap f ++ f m := by simp
/-- A row of structs in the given memory. -/
theorem Rd.ofRows {H : PHeap} {v : Value} {l : List α} (hr : rowsAt H sz v (l.map f)) : Rd (own H) sz v l.length (l.flatMap f) := by
  have := Rd.ofRow hr
  rw [List.length_map] at this
  rw [List.flatMap_def]
  exact this
end
theorem Rd.ofPts {sz : Nat} {T' : TypeId} {fz : Nat × Nat} {b m cap : Nat} {xs : List Value} (hl : xs.length = m * sz) (h1 : xs.all (·.oneCell') = true) (hc : m ≤ cap) : Rd (pts b (.cells xs.toArray T' fz)) sz (.slice (some ⟨b, 0, none⟩) m cap) m xs := fun h hh => ⟨hl, h1, .inr ⟨_, _, rfl, hc, fun _ => rfl, fun j u hu => by
  rw [show h = _ from hh, add_lit, Nat.zero_add]
  simp [PHeap.cell?, single, hu]⟩⟩
theorem Rd.ofPart {sz : Nat} {T' : TypeId} {fz : Nat × Nat} {b off m cap : Nat} {C xs : List Value} (hl : xs.length = m * sz) (h1 : xs.all (·.oneCell') = true) (hc : m ≤ cap) (hx : ∀ j u, xs[j]? = some u → C[off + j]? = some u) : Rd (pts b (.cells C.toArray T' fz)) sz (.slice (some ⟨b, off, none⟩) m cap) m xs := fun h hh => ⟨hl, h1, .inr ⟨_, _, rfl, hc, fun _ => rfl, fun j u hu => by
  rw [show h = _ from hh, add_lit]
  simp [PHeap.cell?, single, hx j u hu]⟩⟩
theorem Rd.cells {X : HProp} {sz m m' cap b off : Nat} {xs : List Value} (hr : Rd X sz (.slice (some ⟨b, off, none⟩) m cap) m' xs) : ∀ h, X h → ∀ j u, xs[j]? = some u → h.cell? ⟨b, off + j, none⟩ = some u := fun h hh => by
  obtain ⟨_, _, e⟩ := hr h hh
  rcases e with ⟨e, _⟩ | ⟨a', cap', e, _, _, k⟩
  · cases e
  · cases e
    intro j u hu
    have := k j u hu
    rw [add_lit] at this
    exact this
theorem ev_load_rd {t : TypeId} {x : Operand} {X : HProp} {sz m m' cap b off o k : Nat} {xs : List Value} {R : List HProp} {d : TypeDesc} {v : Value} (hx : opnd L x = some (.pointer (some ⟨b, o, none⟩))) (hu : P.underlying t = some d) (ha : aggD d = false)
    (hr : Rd X sz (.slice (some ⟨b, off, none⟩) m cap) m' xs) (hp : Pick M X R) (ho : o = off + k) (hv : xs[k]? = some v) : Ev P ⟨dst, .load t x, ty, pos, after, g⟩ c n L M v := fun T w s => by
  obtain ⟨_, h, m', l, _⟩ := s.heap
  obtain ⟨h1, h2, a, _, _, l1, _⟩ := hp.sep m'
  have hc : w.cell? ⟨b, o, none⟩ = some v := by rw [ho]; exact cell_of_le (PHeap.le_trans l1 l) (hr.cells h1 a k v hv)
  simp only [execOp, opnd_eval s.slots hx, Instr.loadAt, Instr.sureAddr, Sem.run_bind, Sem.run_pure, Result.andThen_ok, run_loadVar_one hu ha hc]
theorem ev_load_rd_agg {t : TypeId} {x : Operand} {X : HProp} {sz m m' cap b off o k : Nat} {xs vs : List Value} {R : List HProp} {d : TypeDesc} {i : TypeInfo} (hx : opnd L x = some (.pointer (some ⟨b, o, none⟩))) (hu : P.underlying t = some d) (ha : aggD d = true)
    (hi : P.info? t = some i) (hr : Rd X sz (.slice (some ⟨b, off, none⟩) m cap) m' xs) (hp : Pick M X R) (ho : o = off + k) (hs : vs.length = i.size) (hv : ∀ j u, vs[j]? = some u → xs[k + j]? = some u) : Ev P ⟨dst, .load t x, ty, pos, after, g⟩ c n L M (.agg vs.toArray) := fun T w s => by
  obtain ⟨_, h, m', l, _⟩ := s.heap
  obtain ⟨h1, h2, a, _, _, l1, _⟩ := hp.sep m'
  have hc : ∀ j u, vs[j]? = some u → w.cell? ⟨b, o + j, none⟩ = some u := fun j u hu => by
    rw [ho, Nat.add_assoc]
    exact cell_of_le (PHeap.le_trans l1 l) (hr.cells h1 a (k + j) u (hv j u hu))
  simp only [execOp, opnd_eval s.slots hx, Instr.loadAt, Instr.sureAddr, Sem.run_bind, Sem.run_pure, Result.andThen_ok, run_loadVar_agg hu ha hi hs hc]

/-- Nothing. -/
def emp : HProp := own fun _ => none
theorem Ent.emp {N : List HProp} (h : Ent M N) : Ent M (emp :: N) := fun hh s => ⟨fun _ => none, hh, rfl, h _ s, fun _ => .inl rfl, (fun _ _ e => by cases e), PHeap.le_refl _⟩

/-! ### a place where branches meet -/
def MidQ {σ : Type} (φ : σ → Prop) (Lx : σ → Env) (Mx : σ → List HProp) (c : Cx) (n : Nat) : Act → World → Prop :=
  fun a w => a.defers = c.ds ∧ ∃ x, φ x ∧ St c n (Lx x) (Mx x) a.tmps w
theorem cwp_then_mono {r : Option Nat} {x : Code} {K K' : Act → World → Prop} {a : Act} {w : World} (h : ∀ a w, K a w → K' a w) (s : cwp r P x (Exit.then K Q) a w) : cwp r P x (Exit.then K' Q) a w := fun b k cs hb => by
  obtain ⟨e, a', w', hq, harr⟩ := s b k cs hb
  refine ⟨e, a', w', ?_, harr⟩
  cases e <;> first | exact h _ _ hq | exact hq
theorem wpC_meet {r : Option Nat} {σ : Type} {x y : Code} {Q' : Exit → Act → World → Prop} (φ : σ → Prop) (Lx : σ → Env) (Mx : σ → List HProp) (h1 : wpC P x (Exit.then (MidQ φ Lx Mx c n) Q) c n L M) (h2 : ∀ s, φ s → wpC P y Q' c n (Lx s) (Mx s)) (hr : r = c.rnd := by rfl) : wpC P x (Exit.then (cwp r P y Q') Q) c n L M := by
  subst hr
  exact fun T w s => cwp_then_mono (fun a w' ⟨hd, z, hz, st⟩ => by
    obtain ⟨T1, ds⟩ := a
    simp only at hd st
    subst hd
    exact h2 z hz T1 w' st) (h1 T w s)
theorem wpC_mid {σ : Type} {x y : Code} (φ : σ → Prop) (Lx : σ → Env) (Mx : σ → List HProp) (h1 : wpC P x (Exit.then (MidQ φ Lx Mx c n) Q) c n L M) (h2 : ∀ s, φ s → wpC P y Q c n (Lx s) (Mx s)) : wpC P (.seq x y) Q c n L M :=
  wpC_seq (wpC_meet φ Lx Mx h1 h2)
theorem q_mid {σ : Type} {φ : σ → Prop} {Lx : σ → Env} {Mx : σ → List HProp} (x : σ) (h : φ x) (hL : Env.sub L (Lx x)) (hM : Ent M (Mx x)) :
    qE (Exit.then (MidQ φ Lx Mx c n) Q) .normal c n L M := fun _ _ s => ⟨rfl, x, h, s.size, s.slots.sub hL, s.heap.ent hM⟩
/-- A contract whose precondition is opened first. -/
theorem FnDoes.unfold {σ τ : Type} {f : FuncId} {args : List Value} {φ0 : τ → Prop} {My : τ → List HProp} {R : List HProp} {φ : σ → Prop} {val : σ → Value} {B : σ → List HProp} (hm : Callable P f)
    (h : ∀ y, φ0 y → FnDoes P f args (My y ++ R) φ val B) : FnDoes P f args (exI φ0 My :: R) φ val B := ⟨hm, fun w hh a l => by
  obtain ⟨y, hy, s⟩ := exI_unfold .head a
  exact (h y hy).does w hh s l⟩
/-- More may lie beside it. -/
theorem FnDoes.frame1' {σ : Type} {f : FuncId} {args : List Value} {A A' R : List HProp} {φ : σ → Prop} {val val' : σ → Value} {B B' : σ → List HProp} (S : FnDoes P f args A φ val B) (hA : Ent A' (A ++ R)) (hv : ∀ y, φ y → val y = val' y)
    (h : ∀ y, φ y → Ent (B y ++ R) (B' y)) : FnDoes P f args A' φ val' B' := ⟨S.may, fun w hh a l cs => by
  obtain ⟨h1, h2, x, r, dj, l1, l2⟩ := sepL_append (hA _ a)
  obtain ⟨e, w2, fr, ⟨y, hy, he, hst⟩, rest⟩ := S.does w h1 x (PHeap.le_trans l1 l) cs
  refine ⟨e, w2, fr, ⟨y, hy, by rw [he, hv y hy], HSt.ent (h y hy) ?_⟩, rest⟩
  exact HSt.call (c := Cx.of w fun b => hh b ≠ none) (Fr.refl _ _) l (fun b hb => .inl hb) r dj l1 l2 hst⟩
theorem FnDoes.frame1 {σ : Type} {f : FuncId} {args : List Value} {A A' R : List HProp} {φ : σ → Prop} {val : σ → Value} {B B' : σ → List HProp} (S : FnDoes P f args A φ val B) (hA : Ent A' (A ++ R))
    (h : ∀ y, φ y → Ent (B y ++ R) (B' y)) : FnDoes P f args A' φ val B' := S.frame1' hA (fun _ _ => rfl) h
end Go.Sx
