/-
  What a law's arguments hold: opened type by type. No program in sight.
-/
import Derived.Test.YtmlcikcdegodaaaDoorSxI
import Derived.WalkKit
import Derived.ProofKit
import Derived.ChangeOld
import Derived.OpenShut
import Derived.ShutString
import Derived.Deep.Slices
import Derived.SizedLaws
set_option linter.unusedSimpArgs false
set_option linter.unusedVariables false
namespace Go.Sx
open Go
open Go.ChangeShapes Go.WideShapes Go.ChangeAt Go.RowKit

theorem ph_cell (w : World) (a : Addr) : (ph w).cell? a = w.cell? a := rfl
section
variable {H : Type} {enc : TypeId × Value → H} {P : Program} {W : World} {base : Nat} {spare : Nat → Bool} {held : Bool} {cs : List Value} {t : TypeId}
/-- Cells that read as a thing of the type, whose parts are no longer than the form lets them be. -/
def Opn (enc : TypeId × Value → H) (P : Program) (W : World) (base : Nat) (spare : Nat → Bool) (held : Bool) (t : TypeId) (cs : List Value) : Prop :=
  ∃ fuel x, DataW.trod enc P W base spare held fuel t cs = some x ∧ ∀ k ∈ x.1.weights P t, k ≤ reachBytes
theorem Opn.bool (hu : P.underlying t = some .bool) (h : Opn enc P W base spare held t cs) : ∃ b, cs = [.bool b] := by
  obtain ⟨fuel, x, h, _⟩ := h
  obtain ⟨b, e, _⟩ := DataW.trod_bool hu h
  exact ⟨b, e⟩
theorem Opn.int {k : IntKind} (hu : P.underlying t = some (.int k)) (h : Opn enc P W base spare held t cs) : ∃ i, cs = [.int k i] ∧ (Lit.int k i).wf = true := by
  obtain ⟨fuel, x, h, _⟩ := h
  obtain ⟨i, e, _, w⟩ := DataW.trod_int hu h
  exact ⟨i, e, w⟩
theorem Opn.i64 (hu : P.underlying t = some (.int .i64)) (h : Opn enc P W base spare held t cs) : ∃ i, cs = [.int .i64 i] ∧ -9223372036854775808 ≤ i ∧ i ≤ 9223372036854775807 := by
  obtain ⟨i, e, w⟩ := h.int hu
  simp [Lit.wf, IntKind.min, IntKind.max, IntKind.signed, IntKind.bits] at w
  exact ⟨i, e, w⟩
theorem Opn.u8 (hu : P.underlying t = some (.int .u8)) (h : Opn enc P W base spare held t cs) : ∃ i, cs = [.int .u8 i] ∧ 0 ≤ i ∧ i ≤ 255 := by
  obtain ⟨i, e, w⟩ := h.int hu
  simp [Lit.wf, IntKind.min, IntKind.max, IntKind.signed, IntKind.bits] at w
  exact ⟨i, e, w⟩
theorem Opn.u16 (hu : P.underlying t = some (.int .u16)) (h : Opn enc P W base spare held t cs) : ∃ i, cs = [.int .u16 i] ∧ 0 ≤ i ∧ i ≤ 65535 := by
  obtain ⟨i, e, w⟩ := h.int hu
  simp [Lit.wf, IntKind.min, IntKind.max, IntKind.signed, IntKind.bits] at w
  exact ⟨i, e, w⟩
theorem Opn.u32 (hu : P.underlying t = some (.int .u32)) (h : Opn enc P W base spare held t cs) : ∃ i, cs = [.int .u32 i] ∧ 0 ≤ i ∧ i ≤ 4294967295 := by
  obtain ⟨i, e, w⟩ := h.int hu
  simp [Lit.wf, IntKind.min, IntKind.max, IntKind.signed, IntKind.bits] at w
  exact ⟨i, e, w⟩
theorem Opn.u64 (hu : P.underlying t = some (.int .u64)) (h : Opn enc P W base spare held t cs) : ∃ i, cs = [.int .u64 i] ∧ 0 ≤ i ∧ i ≤ 18446744073709551615 := by
  obtain ⟨i, e, w⟩ := h.int hu
  simp [Lit.wf, IntKind.min, IntKind.max, IntKind.signed, IntKind.bits] at w
  exact ⟨i, e, w⟩
theorem Opn.str (hu : P.underlying t = some .string) (h : Opn enc P W base spare held t cs) : ∃ s, cs = [.string s] ∧ s.size ≤ reachBytes := by
  obtain ⟨fuel, x, h, hw⟩ := h
  obtain ⟨s, e, rfl, _⟩ := DataW.trod_string hu h
  refine ⟨s, e, ?_⟩
  have := hw s.data.toList.length (by simp [DataW.weights])
  simpa using this
theorem Opn.struct {fs : Array Field} (hu : P.underlying t = some (.struct fs)) (h : Opn enc P W base spare held t cs) : cs.length = P.cellsOf t ∧ ∀ (i : Nat) (f : Field), fs.toList[i]? = some f → Opn enc P W base spare held f.type ((cs.drop f.offset).take (P.cellsOf f.type)) := by
  obtain ⟨fuel, x, h, hw⟩ := h
  obtain ⟨xs, k, _, rfl, hl, hn, hf⟩ := DataW.trod_struct hu h
  refine ⟨hl, fun i f e => ?_⟩
  have e : fs[i]? = some f := by simpa using e
  have h1 := hf i f e
  have hi : i < xs.length := by rw [hn]; exact (Array.getElem?_eq_some_iff.1 e).1
  rw [List.getElem?_eq_getElem hi] at h1
  refine ⟨k, _, h1, fun m hm => hw m ?_⟩
  simp only [DataW.weights, hu]
  refine DataW.weights_mem_each (j := i) (t := f.type) (d := xs[i].1) ?_ ?_ m hm
  · have e' : fs.toList[i]? = some f := by simpa using e
    rw [List.getElem?_map, e']; rfl
  · rw [List.getElem?_map, List.getElem?_eq_getElem hi]; rfl
theorem weights_all {e : TypeId} {ds : List (DataW H)} {d : DataW H} (hd : d ∈ ds) {m : Nat} (hm : m ∈ d.weights P e) : m ∈ DataW.weightsAll P e ds := by
  induction ds with
  | nil => cases hd
  | cons a l ih =>
    simp only [DataW.weightsAll, List.mem_append]
    rcases List.mem_cons.1 hd with rfl | h
    · exact .inl hm
    · exact .inr (ih h)
/-- A slice, element by element. -/
theorem Opn.rows {α : Type} [Inhabited α] {e : TypeId} {sz : Nat} (f : α → List Value) (Φ : α → Prop) (hf : ∀ m, (f m).length = sz) (h1 : ∀ m, (f m).all (·.oneCell') = true) (hsz : 0 < sz) (hu : P.underlying t = some (.slice e)) (hc : P.cellsOf e = sz)
    (op : ∀ cs, Opn enc P W base spare held e cs → ∃ m, cs = f m ∧ Φ m) (h : Opn enc P W base spare held t cs) : ∃ (l : List α) (v : Value), cs = [v] ∧ rowsAt (ph W) sz v (l.map f) ∧ (∀ m ∈ l, Φ m) ∧ l.length * P.bytesOf e ≤ reachBytes := by
  obtain ⟨fuel, x, h, hw⟩ := h
  rcases Go.Deep.open_slice hu h with ⟨rfl, _⟩ | ⟨a, len, cap, m, k, D, Pl, rfl, _, hl, _, hm, rfl, hx⟩
  · exact ⟨[], _, rfl, .inl ⟨rfl, rfl⟩, (fun _ h => by cases h), by simp⟩
  · have hle : len ≤ m := by rw [hm]; split <;> omega
    have hwt : ((List.range len).map D).length * P.bytesOf e ≤ reachBytes := by
      have := hw _ (by simp only [DataW.weights, hu]; exact List.mem_cons_self)
      refine Nat.le_trans (Nat.mul_le_mul_right _ ?_) this
      omega
    have hb : ∀ i, i < len → ∃ b : α, W.cells? base (a.add (i * sz)) sz = some (f b) ∧ Φ b := fun i hi => by
      obtain ⟨cs', hcs, ht⟩ := hx i (by omega)
      rw [hc] at hcs
      obtain ⟨b, e', hφ⟩ := op cs' ⟨k, _, ht, fun j hj => hw j (by
        simp only [DataW.weights, hu, List.mem_cons, List.mem_append]
        exact .inr (.inl (weights_all (List.mem_map.2 ⟨i, List.mem_range.2 hi, rfl⟩) hj)))⟩
      exact ⟨b, by rw [hcs, e'], hφ⟩
    obtain ⟨g, hg⟩ := Go.Deep.choose_lt hb
    refine ⟨(List.range len).map g, _, rfl, .inr ⟨a, cap, by simp, by simpa using hl, fun hpos => ?_, fun i hi => ?_⟩, fun b hb => ?_, by simpa using hwt⟩
    · have hlen : 0 < len := by simpa using hpos
      have := (World.cells?_some (hg 0 hlen).1).2.2 0 hsz
      have hlt : 0 < (f (g 0)).length := by rw [hf]; exact hsz
      rw [List.getElem?_eq_getElem hlt] at this
      have := World.cell?_spot this
      simpa [Addr.add] using this
    · have hi' : i < len := by simpa using hi
      have e1 : ((List.map f (List.map g (List.range len)))[i]) = f (g i) := by simp
      rw [e1]
      refine ⟨hf _, h1 _, fun j u hu' => ?_⟩
      have hj : j < sz := by rw [← hf (g i)]; exact (List.getElem?_eq_some_iff.1 hu').1
      have := (World.cells?_some (hg i hi').1).2.2 j hj
      rw [hu'] at this
      rw [ph_cell]
      by_cases hz : i * sz + j = 0
      · have h1 : i * sz = 0 := by omega
        have h2 : j = 0 := by omega
        rw [h1, h2] at this
        simpa [Addr.add, hz] using this
      · have hsp : a.spot = none := by
          have hlen : 0 < len := by omega
          have := (World.cells?_some (hg 0 hlen).1).2.2 0 hsz
          have hlt : 0 < (f (g 0)).length := by rw [hf]; exact hsz
          rw [List.getElem?_eq_getElem hlt] at this
          have := World.cell?_spot this
          simpa [Addr.add] using this
        obtain ⟨b, off, spot⟩ := a
        simp only at hsp
        subst hsp
        rw [add_lit, add_lit] at this
        rw [add_lit, ← Nat.add_assoc]
        exact this
    · obtain ⟨i, hi, rfl⟩ := List.mem_map.1 hb
      exact (hg i (List.mem_range.1 hi)).2
/-- A parameter. -/
theorem Opn.param {ts : List TypeId} {ds : List (DataW H)} {j : Nat} {d : DataW H} {p : List MemPlace} (hz : (DataW.weightsEach P ts ds).all (· ≤ reachBytes) = true) (ht : ts[j]? = some t) (hd : ds[j]? = some d)
    (h : ∃ fuel, DataW.trod enc P W base spare held fuel t cs = some (d, p)) : Opn enc P W base spare held t cs := by
  obtain ⟨fuel, h⟩ := h
  exact ⟨fuel, _, h, fun k hk => by simpa using List.all_eq_true.1 hz _ (DataW.weights_mem_each ht hd k hk)⟩
end
end Go.Sx
