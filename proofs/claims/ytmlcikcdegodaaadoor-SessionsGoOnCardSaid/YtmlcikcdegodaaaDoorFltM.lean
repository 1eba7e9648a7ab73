/-
  The plain law of messages on their way.
-/
import Derived.Test.YtmlcikcdegodaaaDoorIdsN
set_option linter.unusedSimpArgs false
set_option linter.unusedVariables false
namespace Go.Sx
structure PMsg where
  topic : ByteArray
  text : ByteArray
  qos : Int
  retain : Bool
  deriving Inhabited
def PMsg.cells (m : PMsg) : List Value := [.string m.topic, .string m.text, .int .i64 m.qos, .bool m.retain]
def PMsg.val (m : PMsg) : Value := .agg #[.string m.topic, .string m.text, .int .i64 m.qos, .bool m.retain]
structure PSent where
  id : Int
  st : Int
  m : PMsg
  deriving Inhabited
def sentC (s : PSent) : List Value := [.int .i64 s.id, .int .i64 s.st, .string s.m.topic, .string s.m.text, .int .i64 s.m.qos, .bool s.m.retain]
theorem sentC_len (s : PSent) : (sentC s).length = 6 := rfl
theorem sentC_one (s : PSent) : (sentC s).all (·.oneCell') = true := rfl
/-- A packet, as far as these layers make any. -/
structure PPkt where
  kind : Int
  id : Int
  dup : Bool
  m : PMsg
  deriving Inhabited
def pktC (p : PPkt) : List Value := [.int .i64 p.kind, .int .i64 p.id, .bool p.dup, .string p.m.topic, .string p.m.text, .int .i64 p.m.qos, .bool p.m.retain, .int .i64 0, .bool false, .int .i64 0, .string ⟨#[]⟩, .bool false, .string ⟨#[]⟩, .string ⟨#[]⟩, .int .i64 0, .bool false, .bool false, .string ⟨#[]⟩, .bool false, .string ⟨#[]⟩, .bool false, .int .i64 0, .slice none 0 0, .slice none 0 0]
theorem pktC_len (s : PPkt) : (pktC s).length = 24 := rfl
theorem pktC_one (s : PPkt) : (pktC s).all (·.oneCell') = true := rfl
def zeroMsg : PMsg := ⟨⟨#[]⟩, ⟨#[]⟩, 0, false⟩
def againP (s : PSent) : PPkt := if s.st = 3 then ⟨6, s.id, false, zeroMsg⟩ else ⟨3, s.id, true, s.m⟩
/-- Where a number stands. -/
def idxF (L : List PSent) (id : Int) : Option Nat := L.findIdx? (fun s => decide (s.id = id))
theorem idxF_some {L : List PSent} {id : Int} {i : Nat} (hi : i < L.length) (e : L[i].id = id) (h : ∀ j (hj : j < L.length), j < i → L[j].id ≠ id) : idxF L id = some i := by
  unfold idxF
  rw [List.findIdx?_eq_some_iff_getElem]
  exact ⟨hi, by simp [e], fun j hj => by simpa using h j (by omega) hj⟩
theorem idxF_none {L : List PSent} {id : Int} (h : ∀ j (hj : j < L.length), L[j].id ≠ id) : idxF L id = none := by
  unfold idxF
  rw [List.findIdx?_eq_none_iff]
  intro x hx
  obtain ⟨j, hj, rfl⟩ := List.getElem_of_mem hx
  simpa using h j hj
theorem idxF_lt {L : List PSent} {id : Int} {i : Nat} (h : idxF L id = some i) : ∃ hi : i < L.length, L[i].id = id ∧ ∀ j (hj : j < L.length), j < i → L[j].id ≠ id := by
  unfold idxF at h
  rw [List.findIdx?_eq_some_iff_getElem] at h
  obtain ⟨hi, e, r⟩ := h
  exact ⟨hi, by simpa using e, fun j hj hji => by simpa using r j hji⟩
theorem idxF_no {L : List PSent} {id : Int} (h : idxF L id = none) : ∀ s ∈ L, s.id ≠ id := fun s hs => by
  unfold idxF at h
  rw [List.findIdx?_eq_none_iff] at h
  simpa using h s hs
def endV (L : List PSent) (id st : Int) : Bool := match idxF L id with
  | none => false
  | some i => decide ((L[i]?.map (·.st)) = some st)
def endL (L : List PSent) (id st : Int) : List PSent := match idxF L id with
  | none => L
  | some i => if (L[i]?.map (·.st)) = some st then L.eraseIdx i else L
def recV (L : List PSent) (id : Int) : Bool := match idxF L id with
  | none => false
  | some i => decide ((L[i]?.map (·.st)) ≠ some 1)
def recL (L : List PSent) (id : Int) : List PSent := match idxF L id with
  | none => L
  | some i => if (L[i]?.map (·.st)) = some 1 then L else L.modify i (fun s => { s with st := 3 })
theorem end_no {L : List PSent} {id st : Int} (h : idxF L id = none) : endV L id st = false ∧ endL L id st = L := by unfold endV endL; rw [h]; exact ⟨rfl, rfl⟩
theorem end_not {L : List PSent} {id st : Int} {i : Nat} (h : idxF L id = some i) (hi : i < L.length) (hs : L[i].st ≠ st) : endV L id st = false ∧ endL L id st = L := by
  unfold endV endL; rw [h]; simp [hi, hs]
theorem end_yes {L : List PSent} {id st : Int} {i : Nat} (h : idxF L id = some i) (hi : i < L.length) (hs : L[i].st = st) : endV L id st = true ∧ endL L id st = L.eraseIdx i := by
  unfold endV endL; rw [h]; simp [hi, hs]
theorem rec_no {L : List PSent} {id : Int} (h : idxF L id = none) : recV L id = false ∧ recL L id = L := by unfold recV recL; rw [h]; exact ⟨rfl, rfl⟩
theorem rec_not {L : List PSent} {id : Int} {i : Nat} (h : idxF L id = some i) (hi : i < L.length) (hs : L[i].st = 1) : recV L id = false ∧ recL L id = L := by
  unfold recV recL; rw [h]; simp [hi, hs]
theorem rec_yes {L : List PSent} {id : Int} {i : Nat} (h : idxF L id = some i) (hi : i < L.length) (hs : L[i].st ≠ 1) : recV L id = true ∧ recL L id = L.set i { L[i] with st := 3 } := by
  unfold recV recL; rw [h]; simp only [List.getElem?_eq_getElem hi, Option.map_some, Option.some.injEq, hs, decide_not, decide_false, Bool.not_false, if_false, true_and]
  apply List.ext_getElem?
  intro j
  rw [List.getElem?_modify]
  by_cases c : i = j
  · subst c; simp [hi]
  · simp [c]

/-! ### the least number that is free -/
def LeastF (L : List PSent) (k : Nat) : Prop := 1 ≤ k ∧ (∀ s ∈ L, s.id ≠ k) ∧ ∀ j : Nat, 1 ≤ j → j < k → ∃ s ∈ L, s.id = j
theorem LeastF.eq {L : List PSent} {k j : Nat} (h : LeastF L k) (h' : LeastF L j) : k = j := by
  rcases Nat.lt_trichotomy k j with c | c | c
  · obtain ⟨s, hs, e⟩ := h'.2.2 k h.1 c; exact absurd e (h.2.1 s hs)
  · exact c
  · obtain ⟨s, hs, e⟩ := h.2.2 j h'.1 c; exact absurd e (h'.2.1 s hs)
theorem pigeon : ∀ (n : Nat) (l : List Int), (∀ k : Nat, 1 ≤ k → k ≤ n → (k : Int) ∈ l) → n ≤ l.length
  | 0, _, _ => Nat.zero_le _
  | n + 1, l, h => by
    have hm := h (n + 1) (by omega) (Nat.le_refl _)
    have := pigeon n (l.erase ((n + 1 : Nat) : Int)) (fun k k1 k2 => (List.mem_erase_of_ne (by omega)).2 (h k k1 (by omega)))
    rw [List.length_erase_of_mem hm] at this
    have : 0 < l.length := List.length_pos_of_mem hm
    omega
theorem LeastF.le {L : List PSent} {k : Nat} (h : LeastF L k) : k ≤ L.length + 1 := by
  have h1 := h.1
  have := pigeon (k - 1) (L.map (·.id)) (fun j j1 j2 => by
    obtain ⟨s, hs, e⟩ := h.2.2 j j1 (by omega)
    exact List.mem_map.2 ⟨s, hs, e⟩)
  rw [List.length_map] at this
  omega
def stOf (m : PMsg) : Int := if m.qos = 2 then 2 else 1
/-- What a message's sending answers and leaves. -/
structure SendR where
  id : Int
  e : Int
  L : List PSent
def SendOk (L : List PSent) (m : PMsg) (y : SendR) : Prop :=
  if m.qos < 1 ∨ 2 < m.qos then y = ⟨0, 10, L⟩ else if 8 ≤ L.length then y = ⟨0, 6, L⟩ else ∃ k, LeastF L k ∧ y = ⟨k, 0, L ++ [⟨k, stOf m, m⟩]⟩
theorem SendOk.eq {L : List PSent} {m : PMsg} {y z : SendR} (h : SendOk L m y) (h' : SendOk L m z) : y = z := by
  unfold SendOk at h h'
  split at h
  · rename_i c; rw [if_pos c] at h'; rw [h, h']
  · rename_i c; rw [if_neg c] at h'
    split at h
    · rename_i c2; rw [if_pos c2] at h'; rw [h, h']
    · rename_i c2; rw [if_neg c2] at h'
      obtain ⟨k, hk, rfl⟩ := h
      obtain ⟨j, hj, rfl⟩ := h'
      rw [hk.eq hj]

/-! ### what holds of them -/
structure SentOk (L : List PSent) : Prop where
  len : L.length ≤ 8
  nd : (L.map (·.id)).Nodup
  ok : ∀ s ∈ L, 1 ≤ s.id ∧ s.id ≤ 65535 ∧ (s.st = 1 ∨ s.st = 2 ∨ s.st = 3) ∧ (s.st = 1 ↔ s.m.qos = 1) ∧ (s.m.qos = 1 ∨ s.m.qos = 2)
structure FltInv (L : List PSent) (T : List Bool) : Prop where
  S : SentOk L
  tl : T.length = 65536
  tk : ∀ k : Nat, 1 ≤ k → k ≤ 65535 → (T.getD k false = true ↔ ∃ s ∈ L, s.id = k)
theorem flt_nil : FltInv [] (List.replicate 65536 false) where
  S := ⟨by simp, List.nodup_nil, fun s h => by cases h⟩
  tl := List.length_replicate
  tk := fun k _ _ => by rw [getD_rep]; simp
section
variable {L : List PSent} {T : List Bool}
theorem SentOk.inj (S : SentOk L) {i j : Nat} (hi : i < L.length) (hj : j < L.length) (e : L[i].id = L[j].id) : i = j := by
  have h := List.nodup_iff_pairwise_ne.1 S.nd
  rw [List.pairwise_map, List.pairwise_iff_getElem] at h
  rcases Nat.lt_trichotomy i j with c | c | c
  · exact absurd e (h i j hi hj c)
  · exact c
  · exact absurd e.symm (h j i hj hi c)
theorem FltInv.free (I : FltInv L T) {y : Option Nat} (h : IsFree T y) : ∃ k, y = some k ∧ LeastF L k ∧ k ≤ 9 := by
  have hl := I.S.len
  cases y with
  | none =>
    exfalso
    have := pigeon 9 (L.map (·.id)) (fun k k1 k2 => by
      obtain ⟨s, hs, e⟩ := (I.tk k k1 (by omega)).1 (h k k1 (by rw [I.tl]; omega))
      exact List.mem_map.2 ⟨s, hs, e⟩)
    rw [List.length_map] at this
    omega
  | some k =>
    obtain ⟨h1, h2, h3, h4⟩ := h
    rw [I.tl] at h2
    have hL : LeastF L k := ⟨h1, (fun s hs e => by
      have := (I.tk k h1 (by omega)).2 ⟨s, hs, e⟩
      rw [h3] at this; cases this), fun j j1 j2 => (I.tk j j1 (by omega)).1 (h4 j j1 j2)⟩
    exact ⟨k, rfl, hL, by have := hL.le; omega⟩
theorem FltInv.send (I : FltInv L T) {k : Nat} {m : PMsg} (hk : LeastF L k) (h9 : k ≤ 9) (hl : L.length < 8) (hq : m.qos = 1 ∨ m.qos = 2) : FltInv (L ++ [⟨k, stOf m, m⟩]) (T.set k true) := by
  have h1 := hk.1
  refine ⟨⟨by simp; omega, ?_, fun s hs => ?_⟩, by simpa using I.tl, fun j j1 j2 => ?_⟩
  · rw [List.map_append, List.nodup_append]
    refine ⟨I.S.nd, by simp, fun a ha b hb => ?_⟩
    simp at hb
    obtain ⟨s, hs, rfl⟩ := List.mem_map.1 ha
    subst hb
    exact hk.2.1 s hs
  · rcases List.mem_append.1 hs with h | h
    · exact I.S.ok s h
    · simp at h; subst h
      refine ⟨by simp only; omega, by simp only; omega, ?_, ?_, hq⟩
      · simp only [stOf]; split <;> simp
      · simp only [stOf]; rcases hq with e | e <;> simp [e]
  · rw [getD_set (by rw [I.tl]; omega)]
    by_cases c : j = k
    · subst c; simp
    · rw [if_neg c, I.tk j j1 j2]
      constructor
      · rintro ⟨s, hs, e⟩; exact ⟨s, List.mem_append_left _ hs, e⟩
      · rintro ⟨s, hs, e⟩
        rcases List.mem_append.1 hs with h | h
        · exact ⟨s, h, e⟩
        · simp at h; subst h; simp at e; omega
theorem FltInv.erase (I : FltInv L T) {i k : Nat} (hi : i < L.length) (e : L[i].id = (k : Int)) : FltInv (L.eraseIdx i) (T.set k false) := by
  have hsub := List.eraseIdx_sublist L i
  have hok := I.S.ok L[i] (List.getElem_mem hi)
  refine ⟨⟨?_, (hsub.map _).nodup I.S.nd, fun s hs => I.S.ok s (hsub.subset hs)⟩, by simpa using I.tl, fun j j1 j2 => ?_⟩
  · have := I.S.len; rw [List.length_eraseIdx]; split <;> omega
  · rw [getD_set (by rw [I.tl]; omega)]
    by_cases c : j = k
    · subst c
      rw [if_pos rfl]
      constructor
      · intro h; cases h
      · rintro ⟨s, hs, e'⟩
        obtain ⟨a, ha, rfl⟩ := List.getElem_of_mem hs
        rw [List.getElem_eraseIdx] at e'
        have hal : a < L.length - 1 := by rw [List.length_eraseIdx, if_pos hi] at ha; exact ha
        split at e'
        · rename_i c1
          have := I.S.inj (by omega) hi (e'.trans e.symm)
          omega
        · rename_i c1
          have := I.S.inj (i := a + 1) (by omega) hi (e'.trans e.symm)
          omega
    · rw [if_neg c, I.tk j j1 j2]
      constructor
      · rintro ⟨s, hs, e'⟩
        obtain ⟨a, ha, rfl⟩ := List.getElem_of_mem hs
        have hne : a ≠ i := fun c2 => by subst c2; omega
        refine ⟨L[a], ?_, e'⟩
        rw [List.mem_eraseIdx_iff_getElem]
        exact ⟨a, ha, hne, rfl⟩
      · rintro ⟨s, hs, e'⟩
        exact ⟨s, hsub.subset hs, e'⟩
theorem FltInv.recd (I : FltInv L T) {i : Nat} (hi : i < L.length) (hs : L[i].st ≠ 1) : FltInv (L.set i { L[i] with st := 3 }) T := by
  have hid : (L.set i { L[i] with st := 3 }).map (·.id) = L.map (·.id) := by
    apply List.ext_getElem?
    intro j
    rw [List.getElem?_map, List.getElem?_map]
    by_cases c : i = j
    · subst c; simp [hi]
    · rw [List.getElem?_set_ne c]
  refine ⟨⟨by simpa using I.S.len, by rw [hid]; exact I.S.nd, fun s h => ?_⟩, I.tl, fun j j1 j2 => ?_⟩
  · obtain ⟨a, ha, rfl⟩ := List.getElem_of_mem h
    rw [List.length_set] at ha
    rw [List.getElem_set]
    split
    · obtain ⟨o1, o2, o3, o4, o5⟩ := I.S.ok L[i] (List.getElem_mem hi)
      refine ⟨o1, o2, by simp, ?_, o5⟩
      have : L[i].m.qos ≠ 1 := fun c => hs (o4.2 c)
      simp [this]
    · exact I.S.ok _ (List.getElem_mem ha)
  · rw [I.tk j j1 j2]
    have h1 : ∀ l : List PSent, (∃ s ∈ l, s.id = (j : Int)) ↔ (j : Int) ∈ l.map (·.id) := fun l => List.mem_map.symm
    rw [h1, h1, hid]
end
end Go.Sx
