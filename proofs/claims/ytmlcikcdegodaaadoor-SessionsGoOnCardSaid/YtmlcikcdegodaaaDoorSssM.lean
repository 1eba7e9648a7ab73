/-
  All slots in plain Lean: which are taken, by whom.
-/
import Derived.Test.YtmlcikcdegodaaaDoorSesM
set_option linter.unusedSimpArgs false
set_option linter.unusedVariables false
namespace Go.Sx
open Go
/-- A slot: where its session lies, and what it holds. -/
abbrev Slot := Option (Nat × Ses)
/-- The taken ones, from i on: each with its place. -/
def entF : Nat → List Slot → List (Nat × Nat)
  | _, [] => []
  | i, none :: r => entF (i + 1) r
  | i, some (p, _) :: r => (i, p) :: entF (i + 1) r
def entN (L : List Slot) (i : Nat) : Nat := ((L.take i).filter Option.isSome).length
def takenL (L : List Slot) : List Int := (entF 0 L).map fun e => (e.1 : Int)
theorem entF_len : ∀ (L : List Slot) (i : Nat), (entF i L).length = (L.filter Option.isSome).length
  | [], _ => rfl
  | none :: r, i => by simp [entF, entF_len r (i + 1)]
  | some (p, z) :: r, i => by simp [entF, entF_len r (i + 1)]
theorem entN_len (L : List Slot) : entN L L.length = (entF 0 L).length := by rw [entF_len]; simp [entN]
theorem entN_step {L : List Slot} {i : Nat} {o : Slot} (h : L[i]? = some o) : entN L (i + 1) = entN L i + (if o.isSome then 1 else 0) := by
  unfold entN
  rw [List.take_add_one, h]
  cases o <;> simp
theorem entN_zero (L : List Slot) : entN L 0 = 0 := rfl
theorem ent_atG : ∀ (L : List Slot) (j i : Nat) (p : Nat) (z : Ses), L[i]? = some (some (p, z)) → (entF j L)[entN L i]? = some (j + i, p)
  | [], _, _, _, _, h => by simp at h
  | o :: r, j, 0, p, z, h => by
    simp at h; subst h
    simp [entF, entN]
  | none :: r, j, i + 1, p, z, h => by
    have := ent_atG r (j + 1) i p z (by simpa using h)
    simp only [entF]
    rw [show entN (none :: r) (i + 1) = entN r i by simp [entN], this]
    congr 2; omega
  | some (q, y) :: r, j, i + 1, p, z, h => by
    have := ent_atG r (j + 1) i p z (by simpa using h)
    simp only [entF]
    rw [show entN (some (q, y) :: r) (i + 1) = entN r i + 1 by simp [entN]]
    simp only [List.getElem?_cons_succ]
    rw [this]
    congr 2; omega
theorem ent_at {L : List Slot} {i p : Nat} {z : Ses} (h : L[i]? = some (some (p, z))) : (entF 0 L)[entN L i]? = some (i, p) := by
  have := ent_atG L 0 i p z h
  simpa using this
/-- Each of them stands in its slot; those ahead of it are those of the slots ahead. -/
theorem ent_ofG : ∀ (L : List Slot) (j k : Nat) (e : Nat × Nat), (entF j L)[k]? = some e → ∃ i z, e.1 = j + i ∧ L[i]? = some (some (e.2, z)) ∧ entN L i = k
  | [], _, _, _, h => by simp [entF] at h
  | none :: r, j, k, e, h => by
    obtain ⟨i, z, e1, e2, e3⟩ := ent_ofG r (j + 1) k e (by simpa [entF] using h)
    exact ⟨i + 1, z, by omega, by simpa using e2, by simp [entN] at e3 ⊢; exact e3⟩
  | some (p, y) :: r, j, 0, e, h => by
    simp [entF] at h; subst h
    exact ⟨0, y, by simp, by simp, rfl⟩
  | some (p, y) :: r, j, k + 1, e, h => by
    obtain ⟨i, z, e1, e2, e3⟩ := ent_ofG r (j + 1) k e (by simpa [entF] using h)
    exact ⟨i + 1, z, by omega, by simpa using e2, by simp [entN] at e3 ⊢; omega⟩
theorem ent_of {L : List Slot} {k : Nat} {e : Nat × Nat} (h : (entF 0 L)[k]? = some e) : ∃ z, L[e.1]? = some (some (e.2, z)) ∧ entN L e.1 = k := by
  obtain ⟨i, z, e1, e2, e3⟩ := ent_ofG L 0 k e h
  have : e.1 = i := by omega
  subst this
  exact ⟨z, e2, e3⟩
theorem entN_mono (L : List Slot) {i j : Nat} (h : i ≤ j) : entN L i ≤ entN L j := by
  unfold entN
  exact (List.Sublist.filter _ (List.take_sublist_take_left h)).length_le
theorem takenL_len (L : List Slot) : (takenL L).length ≤ L.length := by
  unfold takenL
  rw [List.length_map, entF_len]
  exact List.length_filter_le _ _
/-! ### what is looked for -/
def isC (c : ByteArray) : Slot → Bool
  | none => false
  | some (_, z) => decide (z.client = c)
def findL (L : List Slot) (c : ByteArray) : Nat := L.findIdx (isC c)
def freeL (L : List Slot) : Nat := L.findIdx Option.isNone
theorem findL_is {L : List Slot} {c : ByteArray} {i : Nat} {o : Slot} (h : L[i]? = some o) (hc : isC c o = true) (hb : ∀ j, j < i → ∀ o', L[j]? = some o' → isC c o' = false) : findL L c = i := by
  have hi : i < L.length := (List.getElem?_eq_some_iff.1 h).1
  unfold findL
  rw [List.findIdx_eq hi]
  have e : L[i] = o := (List.getElem?_eq_some_iff.1 h).2
  refine ⟨by rw [e]; exact hc, fun j hj => hb j hj _ (List.getElem?_eq_getElem (by omega))⟩
theorem findL_no {L : List Slot} {c : ByteArray} (hb : ∀ (j : Nat) (o' : Slot), L[j]? = some o' → isC c o' = false) : findL L c = L.length := by
  unfold findL
  rw [List.findIdx_eq_length]
  intro x hx
  obtain ⟨j, hj⟩ := List.mem_iff_getElem?.1 hx
  exact hb j x hj
theorem findL_at {L : List Slot} {c : ByteArray} (h : findL L c < L.length) : ∃ p z, L[findL L c]? = some (some (p, z)) ∧ z.client = c := by
  have h1 := List.findIdx_getElem (p := isC c) (xs := L) (w := h)
  have h2 : L[findL L c]? = some L[findL L c] := List.getElem?_eq_getElem h
  have h1' : isC c L[findL L c] = true := h1
  cases e : L[findL L c] with
  | none => rw [e] at h1'; cases h1'
  | some x =>
    obtain ⟨p, z⟩ := x
    rw [e] at h1' h2
    exact ⟨p, z, h2, by simpa [isC] using h1'⟩
theorem findL_le (L : List Slot) (c : ByteArray) : findL L c ≤ L.length := List.findIdx_le_length
theorem findL_ahead {L : List Slot} {c : ByteArray} {j : Nat} {o : Slot} (h : j < findL L c) (e : L[j]? = some o) : isC c o = false := by
  have := List.not_of_lt_findIdx h
  obtain ⟨hj, e'⟩ := List.getElem?_eq_some_iff.1 e
  rw [← e']; simpa using this
theorem freeL_le (L : List Slot) : freeL L ≤ L.length := List.findIdx_le_length
theorem freeL_is {L : List Slot} {i : Nat} (h : L[i]? = some none) (hb : ∀ j, j < i → ∀ o, L[j]? = some o → o.isNone = false) : freeL L = i := by
  have hi : i < L.length := (List.getElem?_eq_some_iff.1 h).1
  unfold freeL
  rw [List.findIdx_eq hi]
  have e : L[i] = none := (List.getElem?_eq_some_iff.1 h).2
  exact ⟨by rw [e]; rfl, fun j hj => hb j hj _ (List.getElem?_eq_getElem (by omega))⟩
theorem freeL_no {L : List Slot} (hb : ∀ (j : Nat) (o : Slot), L[j]? = some o → o.isNone = false) : freeL L = L.length := by
  unfold freeL
  rw [List.findIdx_eq_length]
  intro x hx
  obtain ⟨j, hj⟩ := List.mem_iff_getElem?.1 hx
  exact hb j x hj
theorem freeL_at {L : List Slot} (h : freeL L < L.length) : L[freeL L]? = some none := by
  have h1 := List.findIdx_getElem (p := Option.isNone) (xs := L) (w := h)
  have h1' : (L[freeL L]).isNone = true := h1
  rw [List.getElem?_eq_getElem h]
  cases e : L[freeL L] with
  | none => rfl
  | some x => rw [e] at h1'; cases h1'
end Go.Sx
namespace Go.Sx
open Go
def cleanAt (L : List Slot) (i : Nat) : Bool := match L[i]? with
  | some (some (_, z)) => z.clean
  | _ => false
/-- What opening makes of the slots: the answer's three parts, and the slots; good: may such a client be? s: where the new session lies. -/
structure OpR where
  i : Int
  b : Bool
  e : Int
  L : List Slot
def openR (good : Bool) (L : List Slot) (cl : ByteArray) (cn : Bool) (s : Nat) : OpR :=
  if good = false then ⟨0, false, 1, L⟩
  else if findL L cl < 8 then (if cn = false ∧ cleanAt L (findL L cl) = false then ⟨findL L cl, true, 0, L⟩ else ⟨findL L cl, false, 0, L.set (findL L cl) (some (s, newZ cl cn))⟩)
  else if freeL L < 8 then ⟨freeL L, false, 0, L.set (freeL L) (some (s, newZ cl cn))⟩
  else ⟨0, false, 6, L⟩
theorem openR_len (good : Bool) (L : List Slot) (cl : ByteArray) (cn : Bool) (s : Nat) : (openR good L cl cn s).L.length = L.length := by
  unfold openR
  split
  · rfl
  split
  · split
    · rfl
    · simp
  split
  · simp
  · rfl
end Go.Sx
namespace Go.Sx
open Go
/-! ### one each -/
def Uniq (L : List Slot) : Prop := ∀ (i j : Nat) (p q : Nat) (z y : Ses), L[i]? = some (some (p, z)) → L[j]? = some (some (q, y)) → z.client = y.client → i = j
theorem uniq_none (n : Nat) : Uniq (List.replicate n none) := fun i j p q z y h => by
  rw [List.getElem?_replicate] at h
  split at h <;> cases h
theorem uniq_drop {L : List Slot} (h : Uniq L) (k : Nat) : Uniq (L.set k none) := fun i j p q z y hi hj e => by
  rw [List.getElem?_set] at hi hj
  split at hi
  · split at hi <;> cases hi
  · split at hj
    · split at hj <;> cases hj
    · exact h i j p q z y hi hj e
theorem uniq_put {L : List Slot} (h : Uniq L) (k s : Nat) (x : Ses) (hn : ∀ j q y, j ≠ k → L[j]? = some (some (q, y)) → y.client ≠ x.client) : Uniq (L.set k (some (s, x))) := fun i j p q z y hi hj e => by
  rw [List.getElem?_set] at hi hj
  split at hi
  · rename_i c1
    subst c1
    split at hj
    · rename_i c2; exact c2
    · rename_i c2
      split at hi
      · simp only [Option.some.injEq, Prod.mk.injEq] at hi
        obtain ⟨rfl, rfl⟩ := hi
        exact absurd e.symm (hn j q y (Ne.symm c2) hj)
      · cases hi
  · rename_i c1
    split at hj
    · rename_i c2
      subst c2
      split at hj
      · simp only [Option.some.injEq, Prod.mk.injEq] at hj
        obtain ⟨rfl, rfl⟩ := hj
        exact absurd e (hn i p z (Ne.symm c1) hi)
      · cases hj
    · exact h i j p q z y hi hj e
theorem uniq_find {L : List Slot} (h : Uniq L) {i p : Nat} {z : Ses} (hi : L[i]? = some (some (p, z))) : findL L z.client = i :=
  findL_is hi (by simp [isC]) fun j hj o ho => by
    cases o with
    | none => rfl
    | some x =>
      obtain ⟨q, y⟩ := x
      by_cases c : y.client = z.client
      · exact absurd (h j i q p y z ho hi c) (by omega)
      · simpa [isC] using c
theorem not_isC {L : List Slot} {cl : ByteArray} (h : findL L cl = L.length) {j q : Nat} {y : Ses} (e : L[j]? = some (some (q, y))) : y.client ≠ cl := fun c => by
  have hj := (List.getElem?_eq_some_iff.1 e).1
  have := findL_ahead (L := L) (c := cl) (j := j) (by omega) e
  simp [isC, c] at this
theorem uniq_open {L : List Slot} (h8 : L.length = 8) (h : Uniq L) (good : Bool) (cl : ByteArray) (cn : Bool) (s : Nat) : Uniq (openR good L cl cn s).L := by
  unfold openR
  split
  · exact h
  split
  · rename_i c
    split
    · exact h
    · obtain ⟨p, z, hz, hc⟩ := findL_at (L := L) (c := cl) (by omega)
      refine uniq_put h _ s (newZ cl cn) (fun j q y hj e hy => hj ?_)
      exact h j (findL L cl) q p y z e hz (by rw [hc]; exact hy)
  · rename_i c
    split
    · have hf : findL L cl = L.length := by have := findL_le L cl; omega
      exact uniq_put h _ s (newZ cl cn) (fun j q y _ e => not_isC hf e)
    · exact h
/-! ### dropping -/
structure DropR where
  b : Bool
  L : List Slot
def dropR (L : List Slot) (i : Int) : DropR := if 0 ≤ i ∧ i < 8 ∧ (L[i.toNat]?.getD none).isSome then ⟨true, L.set i.toNat none⟩ else ⟨false, L⟩
theorem dropR_len (L : List Slot) (i : Int) : (dropR L i).L.length = L.length := by unfold dropR; split <;> simp
theorem uniq_dropR {L : List Slot} (h : Uniq L) (i : Int) : Uniq (dropR L i).L := by
  unfold dropR
  split
  · exact uniq_drop h _
  · exact h
/-- Which slot an int means. -/
inductive SlotAt (L : List Slot) (i : Int) : Prop
  | out (h : i < 0 ∨ 8 ≤ i)
  | free (k : Nat) (e : i = (k : Int)) (h : L[k]? = some none)
  | taken (k p : Nat) (z : Ses) (e : i = (k : Int)) (h : L[k]? = some (some (p, z)))
theorem slotAt {L : List Slot} (h8 : L.length = 8) (i : Int) : SlotAt L i := by
  by_cases c : i < 0 ∨ 8 ≤ i
  · exact .out c
  · have hk : i.toNat < L.length := by omega
    have e : L[i.toNat]? = some L[i.toNat] := List.getElem?_eq_getElem hk
    cases ho : L[i.toNat] with
    | none => exact .free i.toNat (by omega) (by rw [e, ho])
    | some x => exact .taken i.toNat x.1 x.2 (by omega) (by rw [e, ho])
theorem dropR_out {L : List Slot} {i : Int} (h : i < 0 ∨ 8 ≤ i) : dropR L i = ⟨false, L⟩ := by unfold dropR; rw [if_neg (by omega)]
theorem dropR_free {L : List Slot} {k : Nat} (h : L[k]? = some none) : dropR L k = ⟨false, L⟩ := by unfold dropR; rw [if_neg (by simp [h])]
theorem dropR_taken {L : List Slot} (h8 : L.length = 8) {k p : Nat} {z : Ses} (h : L[k]? = some (some (p, z))) : dropR L k = ⟨true, L.set k none⟩ := by
  have := (List.getElem?_eq_some_iff.1 h).1
  unfold dropR; rw [if_pos ⟨by omega, by omega, by simp [h]⟩]; simp
end Go.Sx
