/-
  Interfaces, texts, slices that are only read. No program in sight.
  What a law's arguments hold: opened type by type. No program in sight.
  Arrays, parts of rows, copying, shifts. No program in sight.
-/
import Derived.Test.YtnaabpfpldelmaaGreatDoorM06
import Derived.Laws.BytesString
import Derived.WalkKit
import Derived.ProofKit
import Derived.ChangeOld
import Derived.OpenShut
import Derived.ShutString
import Derived.Deep.Slices
import Derived.SizedLaws
set_option linter.unusedSimpArgs false
set_option linter.unusedVariables false
namespace Go.Sx
open Go Go.Conc
variable {P : Program} {ops : Array Oper} {Q : Exit → Act → World → Prop} {c : Cx} {n : Nat} {L : Env} {M : List HProp} {rest : List Oper}
variable {dst : Option Nat} {ty : TypeId} {pos : String} {after : Array Edge} {g : Option (Nat × Bool)}
theorem wpC_fact {x : Code} {p : Prop} (H : ∀ w, HSt c M w → p) (h : p → wpC P x Q c n L M) : wpC P x Q c n L M := fun T w s => h (H w s.heap) T w s
theorem wpE_fact {p : Prop} (H : ∀ w, HSt c M w → p) (h : p → wpE P ops rest Q c n L M) : wpE P ops rest Q c n L M := fun i hi T w s => h (H w s.heap) i hi T w s
def ifaceD : TypeDesc → Bool
  | .interface _ => true
  | _ => false
theorem ev_makeInterface {t : TypeId} {x : Operand} {v : Value} {d : TypeDesc} (hx : opnd L x = some v) (hu : P.underlying t = some d) (hd : ifaceD d = false) : Ev P ⟨dst, .makeInterface t x, ty, pos, after, g⟩ c n L M (.iface t v) := fun T w s => by
  simp only [execOp, opnd_eval s.slots hx, Instr.makeInterface, Sem.run_bind, run_underlying hu, Result.andThen_ok]
  cases d <;> first | (cases hd; done) | rfl
theorem ev_assert_t {x : Operand} {xt t : TypeId} {v : Value} {d : TypeDesc} (hx : opnd L x = some (.iface t v)) (hu : P.underlying t = some d) (hd : ifaceD d = false) : Ev P ⟨dst, .typeAssert x xt t true, ty, pos, after, g⟩ c n L M (.tuple #[v, .bool true]) := fun T w s => by
  simp only [execOp, opnd_eval s.slots hx, Instr.typeAssert, Sem.run_bind, run_underlying hu, Result.andThen_ok]
  cases d <;> first | (cases hd; done) | simp
theorem ev_assert_f {x : Operand} {xt t t' : TypeId} {v z : Value} {d : TypeDesc} {i : TypeInfo} (hx : opnd L x = some (.iface t' v)) (hu : P.underlying t = some d) (hd : ifaceD d = false) (hne : Nat.beq t' t = false) (hi : P.info? t = some i) (hz : i.zero = some z) : Ev P ⟨dst, .typeAssert x xt t true, ty, pos, after, g⟩ c n L M (.tuple #[z, .bool false]) := fun T w s => by
  have hne' : ¬ t' = t := fun e => by subst e; rw [Nat.beq_refl] at hne; cases hne
  have hzv : (zeroValue t).run P w = .ok z w := by simp [zeroValue, typeInfo, run_program, hi, hz]
  simp only [execOp, opnd_eval s.slots hx, Instr.typeAssert, Sem.run_bind, run_underlying hu, Result.andThen_ok]
  cases d <;> first | (cases hd; done) | simp [hne', hzv]
theorem ev_assert_v {x : Operand} {xt t : TypeId} {v : Value} {d : TypeDesc} (hx : opnd L x = some (.iface t v)) (hu : P.underlying t = some d) (hd : ifaceD d = false) : Ev P ⟨dst, .typeAssert x xt t false, ty, pos, after, g⟩ c n L M v := fun T w s => by
  simp only [execOp, opnd_eval s.slots hx, Instr.typeAssert, Sem.run_bind, run_underlying hu, Result.andThen_ok]
  cases d <;> first | (cases hd; done) | simp
def ptrD : TypeDesc → Bool
  | .pointer _ => true
  | _ => false
def methodOf (P : Program) (t : TypeId) (name : String) : Option FuncId := match P.info? t with
  | none => none
  | some i => match i.methods.find? (·.name == name) with
    | none => none
    | some m => match m.path.toList, m.func, P.underlying t with
      | [], some (f, b), some d => if ptrD d = b then some f else none
      | _, _, _ => none
theorem run_method {t : TypeId} {name : String} {f : FuncId} {v : Value} {w : World} (h : methodOf P t name = some f) (k : Nat) : (method (k + 1) t v name).run P w = .ok (f, v) w := by
  unfold methodOf at h
  cases hi : P.info? t with
  | none => rw [hi] at h; cases h
  | some i =>
    rw [hi] at h
    simp only at h
    cases hm : i.methods.find? (·.name == name) with
    | none => rw [hm] at h; cases h
    | some m =>
      rw [hm] at h
      simp only at h
      split at h
      · rename_i f' b d hp hf hu
        split at h
        · rename_i hb
          cases h
          have e1 : (typeInfo t).run P w = .ok i w := by simp [typeInfo, run_program, hi]
          simp only [method, Sem.run_bind, e1, Result.andThen_ok, hm, hp, follow, Sem.run_pure, hf, receiverAt, run_underlying hu]
          cases d <;> simp only [ptrD] at hb <;> subst hb <;> simp [Place.get]
        · cases h
      · cases h
theorem ev_neg {t : TypeId} {x : Operand} {k : IntKind} {a r : Int} (hx : opnd L x = some (.int k a)) (hr : k.wrap (-a) = r) : Ev P ⟨dst, .unOp .neg t x, ty, pos, after, g⟩ c n L M (.int k r) := fun T w s => by
  subst hr; simp [execOp, opnd_eval s.slots hx, Op.unary, Op.intArith]
theorem ev_eq_str_t {t t' : TypeId} {x y : Operand} {a b : ByteArray} (hx : opnd L x = some (.string a)) (hy : opnd L y = some (.string b)) (h : a = b) : Ev P ⟨dst, .binOp .eql t x y t', ty, pos, after, g⟩ c n L M (.bool true) := ev_eq_str hx hy (by simp [nilOp, h])
theorem ev_eq_str_f {t t' : TypeId} {x y : Operand} {a b : ByteArray} (hx : opnd L x = some (.string a)) (hy : opnd L y = some (.string b)) (h : a ≠ b) : Ev P ⟨dst, .binOp .eql t x y t', ty, pos, after, g⟩ c n L M (.bool false) := ev_eq_str hx hy (by simp [nilOp, h])
theorem ev_ne_str_t {t t' : TypeId} {x y : Operand} {a b : ByteArray} (hx : opnd L x = some (.string a)) (hy : opnd L y = some (.string b)) (h : a ≠ b) : Ev P ⟨dst, .binOp .neq t x y t', ty, pos, after, g⟩ c n L M (.bool true) := ev_eq_str hx hy (by simp [nilOp, h])
theorem ev_ne_str_f {t t' : TypeId} {x y : Operand} {a b : ByteArray} (hx : opnd L x = some (.string a)) (hy : opnd L y = some (.string b)) (h : a = b) : Ev P ⟨dst, .binOp .neq t x y t', ty, pos, after, g⟩ c n L M (.bool false) := ev_eq_str hx hy (by simp [nilOp, h])
theorem ev_concat {t t' : TypeId} {x y : Operand} {a b : ByteArray} (hx : opnd L x = some (.string a)) (hy : opnd L y = some (.string b)) (h : a.size + b.size ≤ 9223372036854775807) : Ev P ⟨dst, .binOp .add t x y t', ty, pos, after, g⟩ c n L M (.string (a ++ b)) := ev_bin hx hy fun w _ => by
  have : ¬ ((a.size + b.size : Nat) : Int) > IntKind.i64.max := by
    have : IntKind.i64.max = 9223372036854775807 := by decide
    rw [this]; omega
  exact ⟨by simp [eqGuard], by simp only [binOp, Op.stringOp, this, if_false, Sem.run_pure]⟩
theorem ev_ne_bool_f {t t' : TypeId} {x y : Operand} {a b : Bool} (hx : opnd L x = some (.bool a)) (hy : opnd L y = some (.bool b)) (hu : P.underlying t = some .bool) (h : a = b) : Ev P ⟨dst, .binOp .neq t x y t', ty, pos, after, g⟩ c n L M (.bool false) := ev_eq_bool hx hy hu (by simp [nilOp, h])
theorem ev_eq_bool_t {t t' : TypeId} {x y : Operand} {a b : Bool} (hx : opnd L x = some (.bool a)) (hy : opnd L y = some (.bool b)) (hu : P.underlying t = some .bool) (h : a = b) : Ev P ⟨dst, .binOp .eql t x y t', ty, pos, after, g⟩ c n L M (.bool true) := ev_eq_bool hx hy hu (by simp [nilOp, h])
def Rd (X : HProp) (sz : Nat) (v : Value) (m : Nat) (xs : List Value) : Prop := ∀ h, X h → xs.length = m * sz ∧ xs.all (·.oneCell') = true ∧
  ((v = .slice none 0 0 ∧ m = 0) ∨ ∃ a cap, v = .slice (some a) m cap ∧ m ≤ cap ∧ (0 < m → a.spot = none) ∧ ∀ j u, xs[j]? = some u → h.cell? (a.add j) = some u)
theorem Rd.open {X : HProp} {sz m : Nat} {v : Value} {xs : List Value} {R : List HProp} (hr : Rd X sz v m xs) (p : Pick M X R) (w : World) (s : HSt c M w) : xs.length = m * sz ∧ xs.all (·.oneCell') = true ∧
    ((v = .slice none 0 0 ∧ m = 0) ∨ ∃ a cap, v = .slice (some a) m cap ∧ m ≤ cap ∧ (0 < m → a.spot = none) ∧ ∀ j u, xs[j]? = some u → w.cell? (a.add j) = some u) := by
  obtain ⟨_, h, m', l, _⟩ := s
  obtain ⟨h1, h2, a, _, _, l1, _⟩ := p.sep m'
  obtain ⟨e1, e2, e3⟩ := hr h1 a
  refine ⟨e1, e2, ?_⟩
  rcases e3 with e3 | ⟨b, cap, e, hc, hsp, k⟩
  · exact .inl e3
  · exact .inr ⟨b, cap, e, hc, hsp, fun j u hu => cell_of_le (PHeap.le_trans l1 l) (k j u hu)⟩
theorem Rd.kind {X : HProp} {sz m : Nat} {v : Value} {xs : List Value} {R : List HProp} (hr : Rd X sz v m xs) (p : Pick M X R) : ∀ w, HSt c M w → (v = .slice none 0 0 ∧ m = 0) ∨ ∃ a cap, v = .slice (some a) m cap ∧ m ≤ cap ∧ (0 < m → ∃ b off, a = ⟨b, off, none⟩) := fun w s => by
  obtain ⟨_, _, e3⟩ := hr.open p w s
  rcases e3 with e3 | ⟨⟨b, off, spot⟩, cap, e, hc, hsp, _⟩
  · exact .inl e3
  · exact .inr ⟨_, cap, e, hc, fun h => ⟨b, off, by rw [show spot = none from hsp h]⟩⟩
theorem Rd.one1 {X : HProp} {sz m : Nat} {v : Value} {xs : List Value} {R : List HProp} (hr : Rd X sz v m xs) (p : Pick M X R) : ∀ w, HSt c M w → v.oneCell' = true := fun w s => by
  rcases hr.kind p w s with ⟨rfl, _⟩ | ⟨b, cap, rfl, _⟩ <;> rfl
theorem Rd.isSlice {X : HProp} {sz m : Nat} {v : Value} {xs : List Value} {R : List HProp} (hr : Rd X sz v m xs) (p : Pick M X R) : ∀ w, HSt c M w → ∃ a cap, v = .slice a m cap ∧ (0 < m → ∃ b off, a = some ⟨b, off, none⟩ ∧ m ≤ cap) := fun w s => by
  rcases hr.kind p w s with ⟨rfl, rfl⟩ | ⟨a, cap, rfl, hc, hb⟩
  · exact ⟨none, 0, rfl, fun h => by omega⟩
  · refine ⟨some a, cap, rfl, fun h => ?_⟩
    obtain ⟨b, off, rfl⟩ := hb h
    exact ⟨b, off, rfl, hc⟩
theorem Rd.ofSl {e sz m : Nat} {v : Value} {xs : List Value} : Rd (sl e sz v m xs) sz v m xs := fun h ⟨a1, a2, a3⟩ => ⟨a1, a2, by
  rcases a3 with ⟨rfl, rfl⟩ | ⟨b, cap, junk, rfl, b1, b2, b3, rfl⟩
  · exact .inl ⟨rfl, rfl⟩
  · refine .inr ⟨⟨b, 0, none⟩, cap, rfl, b1, fun _ => rfl, fun j u hu => ?_⟩
    have : j < xs.length := (List.getElem?_eq_some_iff.1 hu).1
    rw [add_lit]
    simp [PHeap.cell?, single, List.getElem?_append_left this, hu]⟩
theorem Rd.nil {X : HProp} {sz : Nat} : Rd X sz (.slice none 0 0) 0 [] := fun _ _ => ⟨by simp, rfl, .inl ⟨rfl, rfl⟩⟩
def rowsAt (H : PHeap) (sz : Nat) (v : Value) (xs : List (List Value)) : Prop := (v = .slice none 0 0 ∧ xs = []) ∨
  ∃ a cap, v = .slice (some a) xs.length cap ∧ xs.length ≤ cap ∧ (0 < xs.length → a.spot = none) ∧ ∀ i (h : i < xs.length), xs[i].length = sz ∧ xs[i].all (·.oneCell') = true ∧ ∀ j u, (xs[i])[j]? = some u → H.cell? (a.add (i * sz + j)) = some u
section
variable {α : Type} {f : α → List Value} {sz : Nat}
theorem fm_get (hf : ∀ m, (f m).length = sz) : ∀ (l : List α) (k : Nat) (h : k < l.length) (j : Nat) (u : Value), (f l[k])[j]? = some u → (l.flatMap f)[k * sz + j]? = some u
  | a :: l, 0, _, j, u, e => by
    have hj : j < (f a).length := (List.getElem?_eq_some_iff.1 e).1
    rw [List.flatMap_cons, Nat.zero_mul, Nat.zero_add, List.getElem?_append_left hj]
    exact e
  | a :: l, k + 1, h, j, u, e => by
    have := fm_get hf l k (by simpa using h) j u (by simpa using e)
    rw [List.flatMap_cons, List.getElem?_append_right (by rw [hf, Nat.add_mul]; omega), hf]
    rw [show (k + 1) * sz + j - sz = k * sz + j by rw [Nat.add_mul]; omega]
    exact this
end
theorem Rd.ofPts {sz : Nat} {T' : TypeId} {fz : Nat × Nat} {b m cap : Nat} {xs : List Value} (hl : xs.length = m * sz) (h1 : xs.all (·.oneCell') = true) (hc : m ≤ cap) : Rd (pts b (.cells xs.toArray T' fz)) sz (.slice (some ⟨b, 0, none⟩) m cap) m xs := fun h hh => ⟨hl, h1, .inr ⟨_, _, rfl, hc, fun _ => rfl, fun j u hu => by
  rw [show h = _ from hh, add_lit, Nat.zero_add]
  simp [PHeap.cell?, single, hu]⟩⟩
theorem Rd.cells {X : HProp} {sz m m' cap b off : Nat} {xs : List Value} (hr : Rd X sz (.slice (some ⟨b, off, none⟩) m cap) m' xs) : ∀ h, X h → ∀ j u, xs[j]? = some u → h.cell? ⟨b, off + j, none⟩ = some u := fun h hh => by
  obtain ⟨_, _, e⟩ := hr h hh
  rcases e with ⟨e, _⟩ | ⟨a', cap', e, _, _, k⟩
  · cases e
  · cases e
    intro j u hu
    have := k j u hu
    rw [add_lit] at this
    exact this
theorem ev_load_rd {t : TypeId} {x : Operand} {X : HProp} {sz m m' cap b off o k : Nat} {xs : List Value} {R : List HProp} {d : TypeDesc} {v : Value} (hx : opnd L x = some (.pointer (some ⟨b, o, none⟩))) (hu : P.underlying t = some d) (ha : aggD d = false)
    (hr : Rd X sz (.slice (some ⟨b, off, none⟩) m cap) m' xs) (hp : Pick M X R) (ho : o = off + k) (hv : xs[k]? = some v) : Ev P ⟨dst, .load t x, ty, pos, after, g⟩ c n L M v := fun T w s => by
  obtain ⟨_, h, m', l, _⟩ := s.heap
  obtain ⟨h1, h2, a, _, _, l1, _⟩ := hp.sep m'
  have hc : w.cell? ⟨b, o, none⟩ = some v := by rw [ho]; exact cell_of_le (PHeap.le_trans l1 l) (hr.cells h1 a k v hv)
  simp only [execOp, opnd_eval s.slots hx, Instr.loadAt, Instr.sureAddr, Sem.run_bind, Sem.run_pure, Result.andThen_ok, run_loadVar_one hu ha hc]
theorem ev_load_rd_agg {t : TypeId} {x : Operand} {X : HProp} {sz m m' cap b off o k : Nat} {xs vs : List Value} {R : List HProp} {d : TypeDesc} {i : TypeInfo} (hx : opnd L x = some (.pointer (some ⟨b, o, none⟩))) (hu : P.underlying t = some d) (ha : aggD d = true)
    (hi : P.info? t = some i) (hr : Rd X sz (.slice (some ⟨b, off, none⟩) m cap) m' xs) (hp : Pick M X R) (ho : o = off + k) (hs : vs.length = i.size) (hv : ∀ j u, vs[j]? = some u → xs[k + j]? = some u) : Ev P ⟨dst, .load t x, ty, pos, after, g⟩ c n L M (.agg vs.toArray) := fun T w s => by
  obtain ⟨_, h, m', l, _⟩ := s.heap
  obtain ⟨h1, h2, a, _, _, l1, _⟩ := hp.sep m'
  have hc : ∀ j u, vs[j]? = some u → w.cell? ⟨b, o + j, none⟩ = some u := fun j u hu => by
    rw [ho, Nat.add_assoc]
    exact cell_of_le (PHeap.le_trans l1 l) (hr.cells h1 a (k + j) u (hv j u hu))
  simp only [execOp, opnd_eval s.slots hx, Instr.loadAt, Instr.sureAddr, Sem.run_bind, Sem.run_pure, Result.andThen_ok, run_loadVar_agg hu ha hi hs hc]
def emp : HProp := own fun _ => none
theorem Ent.emp {N : List HProp} (h : Ent M N) : Ent M (emp :: N) := fun hh s => ⟨fun _ => none, hh, rfl, h _ s, fun _ => .inl rfl, (fun _ _ e => by cases e), PHeap.le_refl _⟩
def MidQ {σ : Type} (φ : σ → Prop) (Lx : σ → Env) (Mx : σ → List HProp) (c : Cx) (n : Nat) : Act → World → Prop :=
  fun a w => a.defers = c.ds ∧ ∃ x, φ x ∧ St c n (Lx x) (Mx x) a.tmps w
theorem cwp_then_mono {r : Option Nat} {x : Code} {K K' : Act → World → Prop} {a : Act} {w : World} (h : ∀ a w, K a w → K' a w) (s : cwp r P x (Exit.then K Q) a w) : cwp r P x (Exit.then K' Q) a w := fun b k cs hb => by
  obtain ⟨e, a', w', hq, harr⟩ := s b k cs hb
  refine ⟨e, a', w', ?_, harr⟩
  cases e <;> first | exact h _ _ hq | exact hq
theorem wpC_meet {r : Option Nat} {σ : Type} {x y : Code} {Q' : Exit → Act → World → Prop} (φ : σ → Prop) (Lx : σ → Env) (Mx : σ → List HProp) (h1 : wpC P x (Exit.then (MidQ φ Lx Mx c n) Q) c n L M) (h2 : ∀ s, φ s → wpC P y Q' c n (Lx s) (Mx s)) (hr : r = c.rnd := by rfl) : wpC P x (Exit.then (cwp r P y Q') Q) c n L M := by
  subst hr
  exact fun T w s => cwp_then_mono (fun a w' ⟨hd, z, hz, st⟩ => by
    obtain ⟨T1, ds⟩ := a
    simp only at hd st
    subst hd
    exact h2 z hz T1 w' st) (h1 T w s)
theorem q_mid {σ : Type} {φ : σ → Prop} {Lx : σ → Env} {Mx : σ → List HProp} (x : σ) (h : φ x) (hL : Env.sub L (Lx x)) (hM : Ent M (Mx x)) :
    qE (Exit.then (MidQ φ Lx Mx c n) Q) .normal c n L M := fun _ _ s => ⟨rfl, x, h, s.size, s.slots.sub hL, s.heap.ent hM⟩
theorem FnDoes.unfold {σ τ : Type} {f : FuncId} {args : List Value} {φ0 : τ → Prop} {My : τ → List HProp} {R : List HProp} {φ : σ → Prop} {val : σ → Value} {B : σ → List HProp} (hm : Callable P f)
    (h : ∀ y, φ0 y → FnDoes P f args (My y ++ R) φ val B) : FnDoes P f args (exI φ0 My :: R) φ val B := ⟨hm, fun w hh a l => by
  obtain ⟨y, hy, s⟩ := exI_unfold .head a
  exact (h y hy).does w hh s l⟩
theorem FnDoes.frame1' {σ : Type} {f : FuncId} {args : List Value} {A A' R : List HProp} {φ : σ → Prop} {val val' : σ → Value} {B B' : σ → List HProp} (S : FnDoes P f args A φ val B) (hA : Ent A' (A ++ R)) (hv : ∀ y, φ y → val y = val' y)
    (h : ∀ y, φ y → Ent (B y ++ R) (B' y)) : FnDoes P f args A' φ val' B' := ⟨S.may, fun w hh a l cs => by
  obtain ⟨h1, h2, x, r, dj, l1, l2⟩ := sepL_append (hA _ a)
  obtain ⟨e, w2, fr, ⟨y, hy, he, hst⟩, rest⟩ := S.does w h1 x (PHeap.le_trans l1 l) cs
  refine ⟨e, w2, fr, ⟨y, hy, by rw [he, hv y hy], HSt.ent (h y hy) ?_⟩, rest⟩
  exact HSt.call (c := Cx.of w fun b => hh b ≠ none) (Fr.refl _ _) l (fun b hb => .inl hb) r dj l1 l2 hst⟩
theorem FnDoes.frame1 {σ : Type} {f : FuncId} {args : List Value} {A A' R : List HProp} {φ : σ → Prop} {val : σ → Value} {B B' : σ → List HProp} (S : FnDoes P f args A φ val B) (hA : Ent A' (A ++ R))
    (h : ∀ y, φ y → Ent (B y ++ R) (B' y)) : FnDoes P f args A' φ val B' := S.frame1' hA (fun _ _ => rfl) h
end Go.Sx
set_option linter.unusedSimpArgs false
set_option linter.unusedVariables false
namespace Go.Sx
open Go
open Go.ChangeShapes Go.WideShapes Go.ChangeAt Go.RowKit
theorem ph_cell (w : World) (a : Addr) : (ph w).cell? a = w.cell? a := rfl
section
variable {H : Type} {enc : TypeId × Value → H} {P : Program} {W : World} {base : Nat} {spare : Nat → Bool} {held : Bool} {cs : List Value} {t : TypeId}
def Opn (enc : TypeId × Value → H) (P : Program) (W : World) (base : Nat) (spare : Nat → Bool) (held : Bool) (t : TypeId) (cs : List Value) : Prop :=
  ∃ fuel x, DataW.trod enc P W base spare held fuel t cs = some x ∧ ∀ k ∈ x.1.weights P t, k ≤ reachBytes
theorem Opn.bool (hu : P.underlying t = some .bool) (h : Opn enc P W base spare held t cs) : ∃ b, cs = [.bool b] := by
  obtain ⟨fuel, x, h, _⟩ := h
  obtain ⟨b, e, _⟩ := DataW.trod_bool hu h
  exact ⟨b, e⟩
theorem Opn.int {k : IntKind} (hu : P.underlying t = some (.int k)) (h : Opn enc P W base spare held t cs) : ∃ i, cs = [.int k i] ∧ (Lit.int k i).wf = true := by
  obtain ⟨fuel, x, h, _⟩ := h
  obtain ⟨i, e, _, w⟩ := DataW.trod_int hu h
  exact ⟨i, e, w⟩
theorem Opn.i64 (hu : P.underlying t = some (.int .i64)) (h : Opn enc P W base spare held t cs) : ∃ i, cs = [.int .i64 i] ∧ -9223372036854775808 ≤ i ∧ i ≤ 9223372036854775807 := by
  obtain ⟨i, e, w⟩ := h.int hu
  simp [Lit.wf, IntKind.min, IntKind.max, IntKind.signed, IntKind.bits] at w
  exact ⟨i, e, w⟩
theorem Opn.u8 (hu : P.underlying t = some (.int .u8)) (h : Opn enc P W base spare held t cs) : ∃ i, cs = [.int .u8 i] ∧ 0 ≤ i ∧ i ≤ 255 := by
  obtain ⟨i, e, w⟩ := h.int hu
  simp [Lit.wf, IntKind.min, IntKind.max, IntKind.signed, IntKind.bits] at w
  exact ⟨i, e, w⟩
theorem Opn.u16 (hu : P.underlying t = some (.int .u16)) (h : Opn enc P W base spare held t cs) : ∃ i, cs = [.int .u16 i] ∧ 0 ≤ i ∧ i ≤ 65535 := by
  obtain ⟨i, e, w⟩ := h.int hu
  simp [Lit.wf, IntKind.min, IntKind.max, IntKind.signed, IntKind.bits] at w
  exact ⟨i, e, w⟩
theorem Opn.u32 (hu : P.underlying t = some (.int .u32)) (h : Opn enc P W base spare held t cs) : ∃ i, cs = [.int .u32 i] ∧ 0 ≤ i ∧ i ≤ 4294967295 := by
  obtain ⟨i, e, w⟩ := h.int hu
  simp [Lit.wf, IntKind.min, IntKind.max, IntKind.signed, IntKind.bits] at w
  exact ⟨i, e, w⟩
theorem Opn.u64 (hu : P.underlying t = some (.int .u64)) (h : Opn enc P W base spare held t cs) : ∃ i, cs = [.int .u64 i] ∧ 0 ≤ i ∧ i ≤ 18446744073709551615 := by
  obtain ⟨i, e, w⟩ := h.int hu
  simp [Lit.wf, IntKind.min, IntKind.max, IntKind.signed, IntKind.bits] at w
  exact ⟨i, e, w⟩
theorem Opn.str (hu : P.underlying t = some .string) (h : Opn enc P W base spare held t cs) : ∃ s, cs = [.string s] ∧ s.size ≤ reachBytes := by
  obtain ⟨fuel, x, h, hw⟩ := h
  obtain ⟨s, e, rfl, _⟩ := DataW.trod_string hu h
  refine ⟨s, e, ?_⟩
  have := hw s.data.toList.length (by simp [DataW.weights])
  simpa using this
theorem Opn.struct {fs : Array Field} (hu : P.underlying t = some (.struct fs)) (h : Opn enc P W base spare held t cs) : cs.length = P.cellsOf t ∧ ∀ (i : Nat) (f : Field), fs.toList[i]? = some f → Opn enc P W base spare held f.type ((cs.drop f.offset).take (P.cellsOf f.type)) := by
  obtain ⟨fuel, x, h, hw⟩ := h
  obtain ⟨xs, k, _, rfl, hl, hn, hf⟩ := DataW.trod_struct hu h
  refine ⟨hl, fun i f e => ?_⟩
  have e : fs[i]? = some f := by simpa using e
  have h1 := hf i f e
  have hi : i < xs.length := by rw [hn]; exact (Array.getElem?_eq_some_iff.1 e).1
  rw [List.getElem?_eq_getElem hi] at h1
  refine ⟨k, _, h1, fun m hm => hw m ?_⟩
  simp only [DataW.weights, hu]
  refine DataW.weights_mem_each (j := i) (t := f.type) (d := xs[i].1) ?_ ?_ m hm
  · have e' : fs.toList[i]? = some f := by simpa using e
    rw [List.getElem?_map, e']; rfl
  · rw [List.getElem?_map, List.getElem?_eq_getElem hi]; rfl
theorem weights_all {e : TypeId} {ds : List (DataW H)} {d : DataW H} (hd : d ∈ ds) {m : Nat} (hm : m ∈ d.weights P e) : m ∈ DataW.weightsAll P e ds := by
  induction ds with
  | nil => cases hd
  | cons a l ih =>
    simp only [DataW.weightsAll, List.mem_append]
    rcases List.mem_cons.1 hd with rfl | h
    · exact .inl hm
    · exact .inr (ih h)
theorem Opn.rows {α : Type} [Inhabited α] {e : TypeId} {sz : Nat} (f : α → List Value) (Φ : α → Prop) (hf : ∀ m, (f m).length = sz) (h1 : ∀ m, (f m).all (·.oneCell') = true) (hsz : 0 < sz) (hu : P.underlying t = some (.slice e)) (hc : P.cellsOf e = sz)
    (op : ∀ cs, Opn enc P W base spare held e cs → ∃ m, cs = f m ∧ Φ m) (h : Opn enc P W base spare held t cs) : ∃ (l : List α) (v : Value), cs = [v] ∧ rowsAt (ph W) sz v (l.map f) ∧ (∀ m ∈ l, Φ m) ∧ l.length * P.bytesOf e ≤ reachBytes := by
  obtain ⟨fuel, x, h, hw⟩ := h
  rcases Go.Deep.open_slice hu h with ⟨rfl, _⟩ | ⟨a, len, cap, m, k, D, Pl, rfl, _, hl, _, hm, rfl, hx⟩
  · exact ⟨[], _, rfl, .inl ⟨rfl, rfl⟩, (fun _ h => by cases h), by simp⟩
  · have hle : len ≤ m := by rw [hm]; split <;> omega
    have hwt : ((List.range len).map D).length * P.bytesOf e ≤ reachBytes := by
      have := hw _ (by simp only [DataW.weights, hu]; exact List.mem_cons_self)
      refine Nat.le_trans (Nat.mul_le_mul_right _ ?_) this
      omega
    have hb : ∀ i, i < len → ∃ b : α, W.cells? base (a.add (i * sz)) sz = some (f b) ∧ Φ b := fun i hi => by
      obtain ⟨cs', hcs, ht⟩ := hx i (by omega)
      rw [hc] at hcs
      obtain ⟨b, e', hφ⟩ := op cs' ⟨k, _, ht, fun j hj => hw j (by
        simp only [DataW.weights, hu, List.mem_cons, List.mem_append]
        exact .inr (.inl (weights_all (List.mem_map.2 ⟨i, List.mem_range.2 hi, rfl⟩) hj)))⟩
      exact ⟨b, by rw [hcs, e'], hφ⟩
    obtain ⟨g, hg⟩ := Go.Deep.choose_lt hb
    refine ⟨(List.range len).map g, _, rfl, .inr ⟨a, cap, by simp, by simpa using hl, fun hpos => ?_, fun i hi => ?_⟩, fun b hb => ?_, by simpa using hwt⟩
    · have hlen : 0 < len := by simpa using hpos
      have := (World.cells?_some (hg 0 hlen).1).2.2 0 hsz
      have hlt : 0 < (f (g 0)).length := by rw [hf]; exact hsz
      rw [List.getElem?_eq_getElem hlt] at this
      have := World.cell?_spot this
      simpa [Addr.add] using this
    · have hi' : i < len := by simpa using hi
      have e1 : ((List.map f (List.map g (List.range len)))[i]) = f (g i) := by simp
      rw [e1]
      refine ⟨hf _, h1 _, fun j u hu' => ?_⟩
      have hj : j < sz := by rw [← hf (g i)]; exact (List.getElem?_eq_some_iff.1 hu').1
      have := (World.cells?_some (hg i hi').1).2.2 j hj
      rw [hu'] at this
      rw [ph_cell]
      by_cases hz : i * sz + j = 0
      · have h1 : i * sz = 0 := by omega
        have h2 : j = 0 := by omega
        rw [h1, h2] at this
        simpa [Addr.add, hz] using this
      · have hsp : a.spot = none := by
          have hlen : 0 < len := by omega
          have := (World.cells?_some (hg 0 hlen).1).2.2 0 hsz
          have hlt : 0 < (f (g 0)).length := by rw [hf]; exact hsz
          rw [List.getElem?_eq_getElem hlt] at this
          have := World.cell?_spot this
          simpa [Addr.add] using this
        obtain ⟨b, off, spot⟩ := a
        simp only at hsp
        subst hsp
        rw [add_lit, add_lit] at this
        rw [add_lit, ← Nat.add_assoc]
        exact this
    · obtain ⟨i, hi, rfl⟩ := List.mem_map.1 hb
      exact (hg i (List.mem_range.1 hi)).2
theorem Opn.param {ts : List TypeId} {ds : List (DataW H)} {j : Nat} {d : DataW H} {p : List MemPlace} (hz : (DataW.weightsEach P ts ds).all (· ≤ reachBytes) = true) (ht : ts[j]? = some t) (hd : ds[j]? = some d)
    (h : ∃ fuel, DataW.trod enc P W base spare held fuel t cs = some (d, p)) : Opn enc P W base spare held t cs := by
  obtain ⟨fuel, h⟩ := h
  exact ⟨fuel, _, h, fun k hk => by simpa using List.all_eq_true.1 hz _ (DataW.weights_mem_each ht hd k hk)⟩
end
end Go.Sx
set_option linter.unusedSimpArgs false
set_option linter.unusedVariables false
namespace Go.Sx
open Go Go.Conc
variable {P : Program} {ops : Array Oper} {Q : Exit → Act → World → Prop} {c : Cx} {n : Nat} {L : Env} {M : List HProp} {rest : List Oper}
variable {dst : Option Nat} {ty : TypeId} {pos : String} {after : Array Edge} {g : Option (Nat × Bool)}
theorem ev_indexArr {t e : TypeId} {x y : Operand} {b o m i : Nat} {kk : IntKind} {j : Int} {ei : TypeInfo} (s : Nat) (hx : opnd L x = some (.pointer (some ⟨b, o, none⟩))) (hy : opnd L y = some (.int kk j)) (hu : P.underlying t = some (.array m e))
    (hi : P.info? e = some ei) (hs : Nat.beq ei.size s = true) (hj : j = (i : Int)) (hl : i < m) : Ev P ⟨dst, .indexAddr t x y, ty, pos, after, g⟩ c n L M (.pointer (some ⟨b, o + i * s, none⟩)) := fun T w st => by
  have h1 : 0 ≤ j ∧ j < (m : Int) := by omega
  have h2 : j.toNat = i := by omega
  have h3 := Nat.eq_of_beq_eq_true hs
  simp only [execOp, opnd_eval st.slots hx, opnd_eval st.slots hy, Instr.indexAt, Instr.sureAddr, asIntOf, Sem.run_bind, run_underlying hu, Sem.run_pure, Result.andThen_ok, sizeOf, typeInfo, run_program, hi, h1, and_self, if_true, h2, h3, add_lit]
section
variable {t e : TypeId} {x lo hi : Operand} {b off m l h len cap : Nat} {k1 k2 : IntKind} {j1 j2 : Int} {ei : TypeInfo} {a : Option Addr}
theorem run_bound {k : IntKind} {j : Int} {i y : Nat} {code : BoundsCode} {w : World} (hj : j = (i : Int)) (hy : i ≤ y) : (Instr.sliceBound (.int k j) y code).run P w = .ok i w := by
  have h1 : 0 ≤ j ∧ j ≤ (y : Int) := by omega
  have h2 : j.toNat = i := by omega
  simp only [Instr.sliceBound, asIntOf, Sem.run_bind, Sem.run_pure, Result.andThen_ok, h1, and_self, if_true, h2]
theorem ev_slcHi (hx : opnd L x = some (.slice a len cap)) (hh : opnd L hi = some (.int k2 j2)) (hu : P.underlying t = some (.slice e)) (he : P.info? e = some ei) (hj2 : j2 = (h : Int)) (h2 : h ≤ cap) :
    Ev P ⟨dst, .slice t x none (some hi) none, ty, pos, after, g⟩ c n L M (.slice a h cap) := fun T w s => by
  have e2 : ∀ cd, (Instr.sliceBound (.int k2 j2) cap cd).run P w = .ok h w := fun cd => run_bound hj2 h2
  have e3 : a.map (fun x => x.add 0) = a := by cases a <;> simp [Addr.add]
  simp only [execOp, opnd_eval s.slots hx, opnd_eval s.slots hh, Instr.sliceAt, Instr.slice, Instr.sliceBounds, Option.map_some, Option.map_none, Sem.run_bind, run_underlying hu, Sem.run_pure, Result.andThen_ok, e2, sizeOf, typeInfo, run_program, he, Nat.zero_mul, Nat.sub_zero, e3, ite_self]
theorem ev_slcLo (s : Nat) (hx : opnd L x = some (.slice a len cap)) (hl : opnd L lo = some (.int k1 j1)) (hu : P.underlying t = some (.slice e)) (he : P.info? e = some ei) (hs : Nat.beq ei.size s = true) (hj1 : j1 = (l : Int)) (h1 : l ≤ len) :
    Ev P ⟨dst, .slice t x (some lo) none none, ty, pos, after, g⟩ c n L M (.slice (if cap = l then a else a.map fun x => x.add (l * s)) (len - l) (cap - l)) := fun T w st => by
  obtain rfl : ei.size = s := Nat.eq_of_beq_eq_true hs
  have e1 : ∀ cd, (Instr.sliceBound (.int k1 j1) len cd).run P w = .ok l w := fun cd => run_bound hj1 h1
  simp only [execOp, opnd_eval st.slots hx, opnd_eval st.slots hl, Instr.sliceAt, Instr.slice, Instr.sliceBounds, Option.map_some, Option.map_none, Sem.run_bind, run_underlying hu, Sem.run_pure, Result.andThen_ok, e1, sizeOf, typeInfo, run_program, he, Option.isSome_none, Bool.false_eq_true, if_false]
end
theorem add_add (a : Addr) (x y : Nat) : (a.add x).add y = a.add (x + y) := by
  unfold Addr.add
  by_cases hx : x = 0 <;> by_cases hy : y = 0 <;> simp [hx, hy, Nat.add_assoc]
theorem Rd.take {X : HProp} {sz m cap k : Nat} {a : Option Addr} {xs : List Value} (hr : Rd X sz (.slice a m cap) m xs) (hk : k ≤ m) : Rd X sz (.slice a k cap) k (xs.take (k * sz)) := fun h hh => by
  obtain ⟨e1, e2, e3⟩ := hr h hh
  have hle : k * sz ≤ m * sz := Nat.mul_le_mul_right _ hk
  refine ⟨by rw [List.length_take, e1]; omega, ?_, ?_⟩
  · simp only [List.all_eq_true] at e2 ⊢
    exact fun x hx => e2 x (List.mem_of_mem_take hx)
  · rcases e3 with ⟨e, rfl⟩ | ⟨a0, c0, e, hc, hsp, hcell⟩
    · cases e
      obtain rfl : k = 0 := by omega
      exact .inl ⟨rfl, rfl⟩
    · cases e
      exact .inr ⟨a0, _, rfl, by omega, fun h0 => hsp (by omega), fun j u hu => hcell j u (by
        rw [List.getElem?_take] at hu
        split at hu
        · exact hu
        · cases hu)⟩
theorem Rd.drop {X : HProp} {sz m cap k : Nat} {a : Option Addr} {xs : List Value} (hr : Rd X sz (.slice a m cap) m xs) (hk : k ≤ m) : Rd X sz (.slice (if cap = k then a else a.map fun x => x.add (k * sz)) (m - k) (cap - k)) (m - k) (xs.drop (k * sz)) := fun h hh => by
  obtain ⟨e1, e2, e3⟩ := hr h hh
  have hl : (xs.drop (k * sz)).length = (m - k) * sz := by rw [List.length_drop, e1, Nat.sub_mul]
  refine ⟨hl, ?_, ?_⟩
  · simp only [List.all_eq_true] at e2 ⊢
    exact fun x hx => e2 x (List.mem_of_mem_drop hx)
  · rcases e3 with ⟨e, rfl⟩ | ⟨a0, c0, e, hc, hsp, hcell⟩
    · cases e
      obtain rfl : k = 0 := by omega
      exact .inl ⟨rfl, rfl⟩
    · cases e
      by_cases hck : cap = k
      · rw [if_pos hck]
        refine .inr ⟨a0, _, rfl, by omega, fun h0 => by omega, fun j u hu => ?_⟩
        have h1 : j < (xs.drop (k * sz)).length := (List.getElem?_eq_some_iff.1 hu).1
        have h2 : m - k = 0 := by omega
        rw [hl, h2, Nat.zero_mul] at h1
        omega
      · rw [if_neg hck]
        refine .inr ⟨a0.add (k * sz), _, rfl, by omega, fun h0 => ?_, fun j u hu => ?_⟩
        · unfold Addr.add
          split
          · exact hsp (by omega)
          · rfl
        · rw [add_add]
          rw [List.getElem?_drop] at hu
          exact hcell _ u hu
theorem o_ofX {o : Oper} {d : Nat} (ho : o.dst = some d) (hd : Nat.blt d n = true) (h : OVL P o c n L M d (fun L' M' => wpE P ops rest Q c n L' M')) : wpO P ops o rest Q c n L M := o_val ho hd fun T w s => by
  obtain ⟨v, w', L', M', hr, hst, hL, hk⟩ := h T w s
  exact ⟨v, w', L', M', hr, hst, hL, hk⟩
end Go.Sx
