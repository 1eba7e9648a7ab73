/-
  The plain law of messages on their way.
  A session in plain Lean: what it holds, what each call makes of it.
  All slots in plain Lean: which are taken, by whom.
  The program's slots and the document's, alike: what each act makes of both.
-/
import Derived.Test.YtmlcikcdegodaaaDoorIdQ
import Derived.Test.YtmlcikcdegodaaaDoorPlM
set_option linter.unusedSimpArgs false
set_option linter.unusedVariables false
namespace Go.Sx
structure PMsg where
  topic : ByteArray
  text : ByteArray
  qos : Int
  retain : Bool
  deriving Inhabited
def PMsg.cells (m : PMsg) : List Value := [.string m.topic, .string m.text, .int .i64 m.qos, .bool m.retain]
def PMsg.val (m : PMsg) : Value := .agg #[.string m.topic, .string m.text, .int .i64 m.qos, .bool m.retain]
structure PSent where
  id : Int
  st : Int
  m : PMsg
  deriving Inhabited
def sentC (s : PSent) : List Value := [.int .i64 s.id, .int .i64 s.st, .string s.m.topic, .string s.m.text, .int .i64 s.m.qos, .bool s.m.retain]
theorem sentC_len (s : PSent) : (sentC s).length = 6 := rfl
theorem sentC_one (s : PSent) : (sentC s).all (·.oneCell') = true := rfl
/-- A packet, as far as these layers make any. -/
structure PPkt where
  kind : Int
  id : Int
  dup : Bool
  m : PMsg
  deriving Inhabited
def pktC (p : PPkt) : List Value := [.int .i64 p.kind, .int .i64 p.id, .bool p.dup, .string p.m.topic, .string p.m.text, .int .i64 p.m.qos, .bool p.m.retain, .int .i64 0, .bool false, .int .i64 0, .string ⟨#[]⟩, .bool false, .string ⟨#[]⟩, .string ⟨#[]⟩, .int .i64 0, .bool false, .bool false, .string ⟨#[]⟩, .bool false, .string ⟨#[]⟩, .bool false, .int .i64 0, .slice none 0 0, .slice none 0 0]
theorem pktC_len (s : PPkt) : (pktC s).length = 24 := rfl
theorem pktC_one (s : PPkt) : (pktC s).all (·.oneCell') = true := rfl
def zeroMsg : PMsg := ⟨⟨#[]⟩, ⟨#[]⟩, 0, false⟩
def againP (s : PSent) : PPkt := if s.st = 3 then ⟨6, s.id, false, zeroMsg⟩ else ⟨3, s.id, true, s.m⟩
/-- Where a number stands. -/
def idxF (L : List PSent) (id : Int) : Option Nat := L.findIdx? (fun s => decide (s.id = id))
theorem idxF_some {L : List PSent} {id : Int} {i : Nat} (hi : i < L.length) (e : L[i].id = id) (h : ∀ j (hj : j < L.length), j < i → L[j].id ≠ id) : idxF L id = some i := by
  unfold idxF
  rw [List.findIdx?_eq_some_iff_getElem]
  exact ⟨hi, by simp [e], fun j hj => by simpa using h j (by omega) hj⟩
theorem idxF_none {L : List PSent} {id : Int} (h : ∀ j (hj : j < L.length), L[j].id ≠ id) : idxF L id = none := by
  unfold idxF
  rw [List.findIdx?_eq_none_iff]
  intro x hx
  obtain ⟨j, hj, rfl⟩ := List.getElem_of_mem hx
  simpa using h j hj
theorem idxF_lt {L : List PSent} {id : Int} {i : Nat} (h : idxF L id = some i) : ∃ hi : i < L.length, L[i].id = id ∧ ∀ j (hj : j < L.length), j < i → L[j].id ≠ id := by
  unfold idxF at h
  rw [List.findIdx?_eq_some_iff_getElem] at h
  obtain ⟨hi, e, r⟩ := h
  exact ⟨hi, by simpa using e, fun j hj hji => by simpa using r j hji⟩
theorem idxF_no {L : List PSent} {id : Int} (h : idxF L id = none) : ∀ s ∈ L, s.id ≠ id := fun s hs => by
  unfold idxF at h
  rw [List.findIdx?_eq_none_iff] at h
  simpa using h s hs
def endV (L : List PSent) (id st : Int) : Bool := match idxF L id with
  | none => false
  | some i => decide ((L[i]?.map (·.st)) = some st)
def endL (L : List PSent) (id st : Int) : List PSent := match idxF L id with
  | none => L
  | some i => if (L[i]?.map (·.st)) = some st then L.eraseIdx i else L
def recV (L : List PSent) (id : Int) : Bool := match idxF L id with
  | none => false
  | some i => decide ((L[i]?.map (·.st)) ≠ some 1)
def recL (L : List PSent) (id : Int) : List PSent := match idxF L id with
  | none => L
  | some i => if (L[i]?.map (·.st)) = some 1 then L else L.modify i (fun s => { s with st := 3 })
theorem end_no {L : List PSent} {id st : Int} (h : idxF L id = none) : endV L id st = false ∧ endL L id st = L := by unfold endV endL; rw [h]; exact ⟨rfl, rfl⟩
theorem end_not {L : List PSent} {id st : Int} {i : Nat} (h : idxF L id = some i) (hi : i < L.length) (hs : L[i].st ≠ st) : endV L id st = false ∧ endL L id st = L := by
  unfold endV endL; rw [h]; simp [hi, hs]
theorem end_yes {L : List PSent} {id st : Int} {i : Nat} (h : idxF L id = some i) (hi : i < L.length) (hs : L[i].st = st) : endV L id st = true ∧ endL L id st = L.eraseIdx i := by
  unfold endV endL; rw [h]; simp [hi, hs]
theorem rec_no {L : List PSent} {id : Int} (h : idxF L id = none) : recV L id = false ∧ recL L id = L := by unfold recV recL; rw [h]; exact ⟨rfl, rfl⟩
theorem rec_not {L : List PSent} {id : Int} {i : Nat} (h : idxF L id = some i) (hi : i < L.length) (hs : L[i].st = 1) : recV L id = false ∧ recL L id = L := by
  unfold recV recL; rw [h]; simp [hi, hs]
theorem rec_yes {L : List PSent} {id : Int} {i : Nat} (h : idxF L id = some i) (hi : i < L.length) (hs : L[i].st ≠ 1) : recV L id = true ∧ recL L id = L.set i { L[i] with st := 3 } := by
  unfold recV recL; rw [h]; simp only [List.getElem?_eq_getElem hi, Option.map_some, Option.some.injEq, hs, decide_not, decide_false, Bool.not_false, if_false, true_and]
  apply List.ext_getElem?
  intro j
  rw [List.getElem?_modify]
  by_cases c : i = j
  · subst c; simp [hi]
  · simp [c]

/-! ### the least number that is free -/
def LeastF (L : List PSent) (k : Nat) : Prop := 1 ≤ k ∧ (∀ s ∈ L, s.id ≠ k) ∧ ∀ j : Nat, 1 ≤ j → j < k → ∃ s ∈ L, s.id = j
theorem LeastF.eq {L : List PSent} {k j : Nat} (h : LeastF L k) (h' : LeastF L j) : k = j := by
  rcases Nat.lt_trichotomy k j with c | c | c
  · obtain ⟨s, hs, e⟩ := h'.2.2 k h.1 c; exact absurd e (h.2.1 s hs)
  · exact c
  · obtain ⟨s, hs, e⟩ := h.2.2 j h'.1 c; exact absurd e (h'.2.1 s hs)
theorem pigeon : ∀ (n : Nat) (l : List Int), (∀ k : Nat, 1 ≤ k → k ≤ n → (k : Int) ∈ l) → n ≤ l.length
  | 0, _, _ => Nat.zero_le _
  | n + 1, l, h => by
    have hm := h (n + 1) (by omega) (Nat.le_refl _)
    have := pigeon n (l.erase ((n + 1 : Nat) : Int)) (fun k k1 k2 => (List.mem_erase_of_ne (by omega)).2 (h k k1 (by omega)))
    rw [List.length_erase_of_mem hm] at this
    have : 0 < l.length := List.length_pos_of_mem hm
    omega
theorem LeastF.le {L : List PSent} {k : Nat} (h : LeastF L k) : k ≤ L.length + 1 := by
  have h1 := h.1
  have := pigeon (k - 1) (L.map (·.id)) (fun j j1 j2 => by
    obtain ⟨s, hs, e⟩ := h.2.2 j j1 (by omega)
    exact List.mem_map.2 ⟨s, hs, e⟩)
  rw [List.length_map] at this
  omega
def stOf (m : PMsg) : Int := if m.qos = 2 then 2 else 1
/-- What a message's sending answers and leaves. -/
structure SendR where
  id : Int
  e : Int
  L : List PSent
def SendOk (L : List PSent) (m : PMsg) (y : SendR) : Prop :=
  if m.qos < 1 ∨ 2 < m.qos then y = ⟨0, 10, L⟩ else if 8 ≤ L.length then y = ⟨0, 6, L⟩ else ∃ k, LeastF L k ∧ y = ⟨k, 0, L ++ [⟨k, stOf m, m⟩]⟩
theorem SendOk.eq {L : List PSent} {m : PMsg} {y z : SendR} (h : SendOk L m y) (h' : SendOk L m z) : y = z := by
  unfold SendOk at h h'
  split at h
  · rename_i c; rw [if_pos c] at h'; rw [h, h']
  · rename_i c; rw [if_neg c] at h'
    split at h
    · rename_i c2; rw [if_pos c2] at h'; rw [h, h']
    · rename_i c2; rw [if_neg c2] at h'
      obtain ⟨k, hk, rfl⟩ := h
      obtain ⟨j, hj, rfl⟩ := h'
      rw [hk.eq hj]

/-! ### what holds of them -/
structure SentOk (L : List PSent) : Prop where
  len : L.length ≤ 8
  nd : (L.map (·.id)).Nodup
  ok : ∀ s ∈ L, 1 ≤ s.id ∧ s.id ≤ 65535 ∧ (s.st = 1 ∨ s.st = 2 ∨ s.st = 3) ∧ (s.st = 1 ↔ s.m.qos = 1) ∧ (s.m.qos = 1 ∨ s.m.qos = 2)
structure FltInv (L : List PSent) (T : List Bool) : Prop where
  S : SentOk L
  tl : T.length = 65536
  tk : ∀ k : Nat, 1 ≤ k → k ≤ 65535 → (T.getD k false = true ↔ ∃ s ∈ L, s.id = k)
theorem flt_nil : FltInv [] (List.replicate 65536 false) where
  S := ⟨by simp, List.nodup_nil, fun s h => by cases h⟩
  tl := List.length_replicate
  tk := fun k _ _ => by rw [getD_rep]; simp
section
variable {L : List PSent} {T : List Bool}
theorem SentOk.inj (S : SentOk L) {i j : Nat} (hi : i < L.length) (hj : j < L.length) (e : L[i].id = L[j].id) : i = j := by
  have h := List.nodup_iff_pairwise_ne.1 S.nd
  rw [List.pairwise_map, List.pairwise_iff_getElem] at h
  rcases Nat.lt_trichotomy i j with c | c | c
  · exact absurd e (h i j hi hj c)
  · exact c
  · exact absurd e.symm (h j i hj hi c)
theorem FltInv.free (I : FltInv L T) {y : Option Nat} (h : IsFree T y) : ∃ k, y = some k ∧ LeastF L k ∧ k ≤ 9 := by
  have hl := I.S.len
  cases y with
  | none =>
    exfalso
    have := pigeon 9 (L.map (·.id)) (fun k k1 k2 => by
      obtain ⟨s, hs, e⟩ := (I.tk k k1 (by omega)).1 (h k k1 (by rw [I.tl]; omega))
      exact List.mem_map.2 ⟨s, hs, e⟩)
    rw [List.length_map] at this
    omega
  | some k =>
    obtain ⟨h1, h2, h3, h4⟩ := h
    rw [I.tl] at h2
    have hL : LeastF L k := ⟨h1, (fun s hs e => by
      have := (I.tk k h1 (by omega)).2 ⟨s, hs, e⟩
      rw [h3] at this; cases this), fun j j1 j2 => (I.tk j j1 (by omega)).1 (h4 j j1 j2)⟩
    exact ⟨k, rfl, hL, by have := hL.le; omega⟩
theorem FltInv.send (I : FltInv L T) {k : Nat} {m : PMsg} (hk : LeastF L k) (h9 : k ≤ 9) (hl : L.length < 8) (hq : m.qos = 1 ∨ m.qos = 2) : FltInv (L ++ [⟨k, stOf m, m⟩]) (T.set k true) := by
  have h1 := hk.1
  refine ⟨⟨by simp; omega, ?_, fun s hs => ?_⟩, by simpa using I.tl, fun j j1 j2 => ?_⟩
  · rw [List.map_append, List.nodup_append]
    refine ⟨I.S.nd, by simp, fun a ha b hb => ?_⟩
    simp at hb
    obtain ⟨s, hs, rfl⟩ := List.mem_map.1 ha
    subst hb
    exact hk.2.1 s hs
  · rcases List.mem_append.1 hs with h | h
    · exact I.S.ok s h
    · simp at h; subst h
      refine ⟨by simp only; omega, by simp only; omega, ?_, ?_, hq⟩
      · simp only [stOf]; split <;> simp
      · simp only [stOf]; rcases hq with e | e <;> simp [e]
  · rw [getD_set (by rw [I.tl]; omega)]
    by_cases c : j = k
    · subst c; simp
    · rw [if_neg c, I.tk j j1 j2]
      constructor
      · rintro ⟨s, hs, e⟩; exact ⟨s, List.mem_append_left _ hs, e⟩
      · rintro ⟨s, hs, e⟩
        rcases List.mem_append.1 hs with h | h
        · exact ⟨s, h, e⟩
        · simp at h; subst h; simp at e; omega
theorem FltInv.erase (I : FltInv L T) {i k : Nat} (hi : i < L.length) (e : L[i].id = (k : Int)) : FltInv (L.eraseIdx i) (T.set k false) := by
  have hsub := List.eraseIdx_sublist L i
  have hok := I.S.ok L[i] (List.getElem_mem hi)
  refine ⟨⟨?_, (hsub.map _).nodup I.S.nd, fun s hs => I.S.ok s (hsub.subset hs)⟩, by simpa using I.tl, fun j j1 j2 => ?_⟩
  · have := I.S.len; rw [List.length_eraseIdx]; split <;> omega
  · rw [getD_set (by rw [I.tl]; omega)]
    by_cases c : j = k
    · subst c
      rw [if_pos rfl]
      constructor
      · intro h; cases h
      · rintro ⟨s, hs, e'⟩
        obtain ⟨a, ha, rfl⟩ := List.getElem_of_mem hs
        rw [List.getElem_eraseIdx] at e'
        have hal : a < L.length - 1 := by rw [List.length_eraseIdx, if_pos hi] at ha; exact ha
        split at e'
        · rename_i c1
          have := I.S.inj (by omega) hi (e'.trans e.symm)
          omega
        · rename_i c1
          have := I.S.inj (i := a + 1) (by omega) hi (e'.trans e.symm)
          omega
    · rw [if_neg c, I.tk j j1 j2]
      constructor
      · rintro ⟨s, hs, e'⟩
        obtain ⟨a, ha, rfl⟩ := List.getElem_of_mem hs
        have hne : a ≠ i := fun c2 => by subst c2; omega
        refine ⟨L[a], ?_, e'⟩
        rw [List.mem_eraseIdx_iff_getElem]
        exact ⟨a, ha, hne, rfl⟩
      · rintro ⟨s, hs, e'⟩
        exact ⟨s, hsub.subset hs, e'⟩
theorem FltInv.recd (I : FltInv L T) {i : Nat} (hi : i < L.length) (hs : L[i].st ≠ 1) : FltInv (L.set i { L[i] with st := 3 }) T := by
  have hid : (L.set i { L[i] with st := 3 }).map (·.id) = L.map (·.id) := by
    apply List.ext_getElem?
    intro j
    rw [List.getElem?_map, List.getElem?_map]
    by_cases c : i = j
    · subst c; simp [hi]
    · rw [List.getElem?_set_ne c]
  refine ⟨⟨by simpa using I.S.len, by rw [hid]; exact I.S.nd, fun s h => ?_⟩, I.tl, fun j j1 j2 => ?_⟩
  · obtain ⟨a, ha, rfl⟩ := List.getElem_of_mem h
    rw [List.length_set] at ha
    rw [List.getElem_set]
    split
    · obtain ⟨o1, o2, o3, o4, o5⟩ := I.S.ok L[i] (List.getElem_mem hi)
      refine ⟨o1, o2, by simp, ?_, o5⟩
      have : L[i].m.qos ≠ 1 := fun c => hs (o4.2 c)
      simp [this]
    · exact I.S.ok _ (List.getElem_mem ha)
  · rw [I.tk j j1 j2]
    have h1 : ∀ l : List PSent, (∃ s ∈ l, s.id = (j : Int)) ↔ (j : Int) ∈ l.map (·.id) := fun l => List.mem_map.symm
    rw [h1, h1, hid]
end
end Go.Sx
set_option linter.unusedSimpArgs false
set_option linter.unusedVariables false
namespace Go.Sx
/-! ### the inbox, whole -/
def lbI (l : List Int) (t : Int) : Nat := l.findIdx (fun x => !decide (x < t))
theorem lbI_lb {l : List Int} {t : Int} (h : Asc l) : Lb l t (lbI l t) := by
  refine ⟨List.findIdx_le_length, fun j hj hk => ?_, fun j hj hk => ?_⟩
  · have := List.not_of_lt_findIdx hk
    simpa using this
  · have hlt : lbI l t < l.length := Nat.lt_of_le_of_lt hk hj
    have h0 := List.findIdx_getElem (p := fun x => !decide (x < t)) (xs := l) (w := hlt)
    simp at h0
    rcases Nat.eq_or_lt_of_le hk with e | e
    · have : l[j] = l[lbI l t] := by simp [← e]
      rw [this]; exact h0
    · have := asc_lt h hj e
      have h0' : t ≤ l[lbI l t] := h0
      omega
/-- Rising, of at most sixteen, in their range. -/
def InOk (l : List Int) : Prop := Asc l ∧ l.length ≤ 16 ∧ ∀ x ∈ l, 1 ≤ x ∧ x ≤ 65535
structure ComeR where
  l : List Int
  b : Bool
  e : Int
def comeF (l : List Int) (id : Int) : ComeR :=
  if id < 1 ∨ 65535 < id then ⟨l, false, 1⟩ else if id ∈ l then ⟨l, false, 0⟩ else if l.length = 16 then ⟨l, false, 6⟩ else ⟨putIn l (lbI l id) id, true, 0⟩
def doneF (l : List Int) (id : Int) : List Int × Bool := if id ∈ l then (takeOut l (lbI l id), true) else (l, false)
theorem inOk_nil : InOk [] := ⟨List.Pairwise.nil, by simp, fun x h => by cases h⟩
theorem inOk_come {l : List Int} (id : Int) (h : InOk l) : InOk (comeF l id).l := by
  unfold comeF
  split
  · exact h
  split
  · exact h
  split
  · exact h
  rename_i c1 c2 c3
  have hk := lbI_lb (t := id) h.1
  refine ⟨asc_put h.1 hk c2, ?_, fun x hx => ?_⟩
  · have := h.2.1
    simp only
    rw [putIn_length hk.1]; omega
  · rcases mem_putIn.1 hx with e | e
    · omega
    · exact h.2.2 x e
theorem inOk_done {l : List Int} (id : Int) (h : InOk l) : InOk (doneF l id).1 := by
  unfold doneF
  split
  · rename_i c
    have hk := lbI_lb (t := id) h.1
    have hm := (lb_mem h.1 hk).1 c
    have hlt : lbI l id < l.length := by
      rcases Nat.lt_or_ge (lbI l id) l.length with g | g
      · exact g
      · rw [List.getElem?_eq_none g] at hm; cases hm
    refine ⟨asc_out h.1, ?_, fun x hx => h.2.2 x (mem_takeOut hx)⟩
    have := h.2.1
    simp only
    rw [takeOut_length hlt]; omega
  · exact h

/-! ### the least number that is free -/
theorem leastN_ex (L : List PSent) : ∃ k, LeastF L k := by
  have hex : ∃ k : Nat, 1 ≤ k ∧ ∀ s ∈ L, s.id ≠ k := by
    by_cases c : ∃ k : Nat, 1 ≤ k ∧ k ≤ L.length + 1 ∧ ∀ s ∈ L, s.id ≠ k
    · obtain ⟨k, h1, _, h2⟩ := c; exact ⟨k, h1, h2⟩
    · exfalso
      have := pigeon (L.length + 1) (L.map (·.id)) (fun k k1 k2 => by
        by_cases d : (k : Int) ∈ L.map (·.id)
        · exact d
        · exact absurd ⟨k, k1, k2, fun s hs e => d (List.mem_map.2 ⟨s, hs, e⟩)⟩ c)
      rw [List.length_map] at this
      omega
  obtain ⟨k, hk⟩ := hex
  induction k using Nat.strongRecOn with
  | ind k ih =>
    by_cases c : ∃ j : Nat, 1 ≤ j ∧ j < k ∧ ∀ s ∈ L, s.id ≠ j
    · obtain ⟨j, j1, j2, j3⟩ := c
      exact ih j j2 ⟨j1, j3⟩
    · refine ⟨k, hk.1, hk.2, fun j j1 j2 => ?_⟩
      by_cases d : ∃ s ∈ L, s.id = j
      · exact d
      · exact absurd ⟨j, j1, j2, fun s hs e => d ⟨s, hs, e⟩⟩ c
noncomputable def leastN (L : List PSent) : Nat := (leastN_ex L).choose
theorem leastN_is (L : List PSent) : LeastF L (leastN L) := (leastN_ex L).choose_spec
theorem leastN_nil : leastN [] = 1 := (leastN_is []).eq ⟨Nat.le_refl 1, (fun s h => by cases h), fun j h1 h2 => by omega⟩

/-! ### a session -/
structure Ses where
  client : ByteArray
  clean : Bool
  online : Bool
  q : List PMsg
  lost : Int
  L : List PSent
  inb : List Int
  deriving Inhabited
structure SesOk (z : Ses) : Prop where
  cl : z.client.size ≠ 0
  ql : z.q.length ≤ 16
  qq : ∀ m ∈ z.q, m.qos = 1 ∨ m.qos = 2
  Ll : z.L.length ≤ 8
  io : InOk z.inb
noncomputable def sentOf (L : List PSent) (m : PMsg) : PSent := ⟨leastN L, stOf m, m⟩
def pubP (id : Int) (m : PMsg) : PPkt := ⟨3, id, false, m⟩
structure FillR where
  out : List PPkt
  q : List PMsg
  L : List PSent
noncomputable def fillF : List PMsg → List PSent → FillR
  | [], L => ⟨[], [], L⟩
  | m :: q, L => if L.length < 8 then ⟨pubP (leastN L) m :: (fillF q (L ++ [sentOf L m])).out, (fillF q (L ++ [sentOf L m])).q, (fillF q (L ++ [sentOf L m])).L⟩ else ⟨[], m :: q, L⟩
theorem fill_full {q : List PMsg} {L : List PSent} (h : 8 ≤ L.length) : fillF q L = ⟨[], q, L⟩ := by
  cases q with
  | nil => rfl
  | cons m q => unfold fillF; rw [if_neg (by omega)]
theorem fill_step {m : PMsg} {q : List PMsg} {L : List PSent} (h : L.length < 8) : fillF (m :: q) L = ⟨pubP (leastN L) m :: (fillF q (L ++ [sentOf L m])).out, (fillF q (L ++ [sentOf L m])).q, (fillF q (L ++ [sentOf L m])).L⟩ := by
  conv => lhs; unfold fillF
  rw [if_pos h]
theorem fill_nil {L : List PSent} : fillF [] L = ⟨[], [], L⟩ := by unfold fillF; rfl
theorem fill_ok : ∀ (q : List PMsg) (L : List PSent), L.length ≤ 8 → (fillF q L).L.length ≤ 8 ∧ (∃ k, (fillF q L).q = q.drop k ∧ (fillF q L).L.length = L.length + k ∧ (fillF q L).out.length = k ∧ k = min q.length (8 - L.length)) := by
  intro q
  induction q with
  | nil => intro L h; rw [fill_nil]; exact ⟨h, 0, rfl, rfl, rfl, by simp⟩
  | cons m q ih =>
    intro L h
    by_cases c : L.length < 8
    · rw [fill_step c]
      obtain ⟨h1, k, h2, h3, h4, h5⟩ := ih (L ++ [sentOf L m]) (by simp; omega)
      refine ⟨h1, k + 1, by simpa using h2, ?_, by simpa using h4, ?_⟩
      · simp only [List.length_append, List.length_cons, List.length_nil] at h3 ⊢; omega
      · simp only [List.length_append, List.length_cons, List.length_nil] at h5 ⊢; omega
    · rw [fill_full (by omega)]; exact ⟨h, 0, rfl, rfl, rfl, by simp; omega⟩
noncomputable def fillZ (z : Ses) : Ses := if z.online then { z with q := (fillF z.q z.L).q, L := (fillF z.q z.L).L } else z
noncomputable def fillP (z : Ses) : List PPkt := if z.online then (fillF z.q z.L).out else []
theorem fillZ_ok {z : Ses} (h : SesOk z) : SesOk (fillZ z) := by
  unfold fillZ
  split
  · obtain ⟨h1, k, h2, _⟩ := fill_ok z.q z.L h.Ll
    refine ⟨h.cl, ?_, ?_, h1, h.io⟩
    · simp only; rw [h2, List.length_drop]; have := h.ql; omega
    · simp only; rw [h2]; intro m hm; exact h.qq m (List.mem_of_mem_drop hm)
  · exact h
theorem fillZ_keep (z : Ses) : (fillZ z).client = z.client ∧ (fillZ z).clean = z.clean ∧ (fillZ z).online = z.online ∧ (fillZ z).lost = z.lost ∧ (fillZ z).inb = z.inb := by
  unfold fillZ; split <;> exact ⟨rfl, rfl, rfl, rfl, rfl⟩
/-! ### what each call makes of it -/
def onZ (z : Ses) : Ses := { z with online := true }
def offZ (z : Ses) : Ses := { z with online := false }
noncomputable def attachZ (z : Ses) : Ses := fillZ (onZ z)
noncomputable def attachP (z : Ses) : List PPkt := z.L.map againP ++ fillP (onZ z)
def clampQ (m : PMsg) (n : Int) : PMsg := { m with qos := max 0 (min (min m.qos n) 2) }
def putZ (z : Ses) (m : PMsg) : Ses := if z.q.length < 16 then { z with q := z.q ++ [m] } else { z with lost := z.lost + 1 }
def putB (z : Ses) : Bool := decide (z.q.length < 16)
noncomputable def delZ (z : Ses) (m : PMsg) (n : Int) : Ses := if 0 < (clampQ m n).qos then fillZ (putZ z (clampQ m n)) else z
noncomputable def delP (z : Ses) (m : PMsg) (n : Int) : List PPkt := if 0 < (clampQ m n).qos then fillP (putZ z (clampQ m n)) else if z.online then [pubP 0 (clampQ m n)] else []
def delB (z : Ses) (m : PMsg) (n : Int) : Bool := if 0 < (clampQ m n).qos then putB z else z.online
def ansL (L : List PSent) (k id : Int) : List PSent := if k = 4 then endL L id 1 else if k = 7 then endL L id 3 else if k = 5 then recL L id else L
def ansO (L : List PSent) (k id : Int) : List PPkt := if k = 5 ∧ recV L id = true then [⟨6, id, false, zeroMsg⟩] else []
def ansOk (k : Int) : Bool := decide (k = 4 ∨ k = 5 ∨ k = 7)
def ansL' (z : Ses) (k id : Int) : Ses := { z with L := ansL z.L k id }
noncomputable def ansZ (z : Ses) (k id : Int) : Ses := if z.online ∧ ansOk k then fillZ (ansL' z k id) else z
noncomputable def ansP (z : Ses) (k id : Int) : List PPkt := if z.online ∧ ansOk k then ansO z.L k id ++ fillP (ansL' z k id) else []
def comeZ (z : Ses) (id : Int) : Ses := { z with inb := (comeF z.inb id).l }
def doneZ (z : Ses) (id : Int) : Ses := { z with inb := (doneF z.inb id).1 }
def newZ (client : ByteArray) (clean : Bool) : Ses := ⟨client, clean, false, [], 0, [], []⟩

theorem endL_len (L : List PSent) (id st : Int) : (endL L id st).length ≤ L.length := by
  unfold endL
  split
  · exact Nat.le_refl _
  · split
    · exact List.length_eraseIdx_le _ _
    · exact Nat.le_refl _
theorem recL_len (L : List PSent) (id : Int) : (recL L id).length = L.length := by
  unfold recL
  split
  · rfl
  · split <;> simp
theorem ansL_len (L : List PSent) (k id : Int) : (ansL L k id).length ≤ L.length := by
  unfold ansL
  split
  · exact endL_len ..
  split
  · exact endL_len ..
  split
  · exact Nat.le_of_eq (recL_len ..)
  · exact Nat.le_refl _
theorem ok_new {c : ByteArray} {b : Bool} (h : c.size ≠ 0) : SesOk (newZ c b) := ⟨h, by simp [newZ], (fun m h => by cases h), by simp [newZ], inOk_nil⟩
theorem ok_on {z : Ses} (h : SesOk z) : SesOk (onZ z) := ⟨h.cl, h.ql, h.qq, h.Ll, h.io⟩
theorem ok_off {z : Ses} (h : SesOk z) : SesOk (offZ z) := ⟨h.cl, h.ql, h.qq, h.Ll, h.io⟩
theorem clamp_qos {m : PMsg} {n : Int} (h : 0 < (clampQ m n).qos) : (clampQ m n).qos = 1 ∨ (clampQ m n).qos = 2 := by
  unfold clampQ at h ⊢; simp only at h ⊢; omega
theorem ok_put {z : Ses} {m : PMsg} (h : SesOk z) (hm : m.qos = 1 ∨ m.qos = 2) : SesOk (putZ z m) := by
  unfold putZ
  split
  · rename_i c
    refine ⟨h.cl, by simp; omega, fun x hx => ?_, h.Ll, h.io⟩
    rcases List.mem_append.1 hx with e | e
    · exact h.qq x e
    · simp at e; subst e; exact hm
  · exact ⟨h.cl, h.ql, h.qq, h.Ll, h.io⟩
theorem ok_attach {z : Ses} (h : SesOk z) : SesOk (attachZ z) := fillZ_ok (ok_on h)
theorem ok_del {z : Ses} (m : PMsg) (n : Int) (h : SesOk z) : SesOk (delZ z m n) := by
  unfold delZ
  split
  · rename_i c; exact fillZ_ok (ok_put h (clamp_qos c))
  · exact h
theorem ok_ans' {z : Ses} (k id : Int) (h : SesOk z) : SesOk (ansL' z k id) := ⟨h.cl, h.ql, h.qq, Nat.le_trans (ansL_len ..) h.Ll, h.io⟩
theorem ok_ans {z : Ses} (k id : Int) (h : SesOk z) : SesOk (ansZ z k id) := by
  unfold ansZ
  split
  · exact fillZ_ok (ok_ans' k id h)
  · exact h
theorem ok_come {z : Ses} (id : Int) (h : SesOk z) : SesOk (comeZ z id) := ⟨h.cl, h.ql, h.qq, h.Ll, inOk_come id h.io⟩
theorem ok_done {z : Ses} (id : Int) (h : SesOk z) : SesOk (doneZ z id) := ⟨h.cl, h.ql, h.qq, h.Ll, inOk_done id h.io⟩
end Go.Sx
set_option linter.unusedSimpArgs false
set_option linter.unusedVariables false
namespace Go.Sx
open Go
/-- A slot: where its session lies, and what it holds. -/
abbrev Slot := Option (Nat × Ses)
/-- The taken ones, from i on: each with its place. -/
def entF : Nat → List Slot → List (Nat × Nat)
  | _, [] => []
  | i, none :: r => entF (i + 1) r
  | i, some (p, _) :: r => (i, p) :: entF (i + 1) r
def entN (L : List Slot) (i : Nat) : Nat := ((L.take i).filter Option.isSome).length
def takenL (L : List Slot) : List Int := (entF 0 L).map fun e => (e.1 : Int)
theorem entF_len : ∀ (L : List Slot) (i : Nat), (entF i L).length = (L.filter Option.isSome).length
  | [], _ => rfl
  | none :: r, i => by simp [entF, entF_len r (i + 1)]
  | some (p, z) :: r, i => by simp [entF, entF_len r (i + 1)]
theorem entN_len (L : List Slot) : entN L L.length = (entF 0 L).length := by rw [entF_len]; simp [entN]
theorem entN_step {L : List Slot} {i : Nat} {o : Slot} (h : L[i]? = some o) : entN L (i + 1) = entN L i + (if o.isSome then 1 else 0) := by
  unfold entN
  rw [List.take_add_one, h]
  cases o <;> simp
theorem entN_zero (L : List Slot) : entN L 0 = 0 := rfl
theorem ent_atG : ∀ (L : List Slot) (j i : Nat) (p : Nat) (z : Ses), L[i]? = some (some (p, z)) → (entF j L)[entN L i]? = some (j + i, p)
  | [], _, _, _, _, h => by simp at h
  | o :: r, j, 0, p, z, h => by
    simp at h; subst h
    simp [entF, entN]
  | none :: r, j, i + 1, p, z, h => by
    have := ent_atG r (j + 1) i p z (by simpa using h)
    simp only [entF]
    rw [show entN (none :: r) (i + 1) = entN r i by simp [entN], this]
    congr 2; omega
  | some (q, y) :: r, j, i + 1, p, z, h => by
    have := ent_atG r (j + 1) i p z (by simpa using h)
    simp only [entF]
    rw [show entN (some (q, y) :: r) (i + 1) = entN r i + 1 by simp [entN]]
    simp only [List.getElem?_cons_succ]
    rw [this]
    congr 2; omega
theorem ent_at {L : List Slot} {i p : Nat} {z : Ses} (h : L[i]? = some (some (p, z))) : (entF 0 L)[entN L i]? = some (i, p) := by
  have := ent_atG L 0 i p z h
  simpa using this
/-- Each of them stands in its slot; those ahead of it are those of the slots ahead. -/
theorem ent_ofG : ∀ (L : List Slot) (j k : Nat) (e : Nat × Nat), (entF j L)[k]? = some e → ∃ i z, e.1 = j + i ∧ L[i]? = some (some (e.2, z)) ∧ entN L i = k
  | [], _, _, _, h => by simp [entF] at h
  | none :: r, j, k, e, h => by
    obtain ⟨i, z, e1, e2, e3⟩ := ent_ofG r (j + 1) k e (by simpa [entF] using h)
    exact ⟨i + 1, z, by omega, by simpa using e2, by simp [entN] at e3 ⊢; exact e3⟩
  | some (p, y) :: r, j, 0, e, h => by
    simp [entF] at h; subst h
    exact ⟨0, y, by simp, by simp, rfl⟩
  | some (p, y) :: r, j, k + 1, e, h => by
    obtain ⟨i, z, e1, e2, e3⟩ := ent_ofG r (j + 1) k e (by simpa [entF] using h)
    exact ⟨i + 1, z, by omega, by simpa using e2, by simp [entN] at e3 ⊢; omega⟩
theorem ent_of {L : List Slot} {k : Nat} {e : Nat × Nat} (h : (entF 0 L)[k]? = some e) : ∃ z, L[e.1]? = some (some (e.2, z)) ∧ entN L e.1 = k := by
  obtain ⟨i, z, e1, e2, e3⟩ := ent_ofG L 0 k e h
  have : e.1 = i := by omega
  subst this
  exact ⟨z, e2, e3⟩
theorem entN_mono (L : List Slot) {i j : Nat} (h : i ≤ j) : entN L i ≤ entN L j := by
  unfold entN
  exact (List.Sublist.filter _ (List.take_sublist_take_left h)).length_le
theorem takenL_len (L : List Slot) : (takenL L).length ≤ L.length := by
  unfold takenL
  rw [List.length_map, entF_len]
  exact List.length_filter_le _ _
/-! ### what is looked for -/
def isC (c : ByteArray) : Slot → Bool
  | none => false
  | some (_, z) => decide (z.client = c)
def findL (L : List Slot) (c : ByteArray) : Nat := L.findIdx (isC c)
def freeL (L : List Slot) : Nat := L.findIdx Option.isNone
theorem findL_is {L : List Slot} {c : ByteArray} {i : Nat} {o : Slot} (h : L[i]? = some o) (hc : isC c o = true) (hb : ∀ j, j < i → ∀ o', L[j]? = some o' → isC c o' = false) : findL L c = i := by
  have hi : i < L.length := (List.getElem?_eq_some_iff.1 h).1
  unfold findL
  rw [List.findIdx_eq hi]
  have e : L[i] = o := (List.getElem?_eq_some_iff.1 h).2
  refine ⟨by rw [e]; exact hc, fun j hj => hb j hj _ (List.getElem?_eq_getElem (by omega))⟩
theorem findL_no {L : List Slot} {c : ByteArray} (hb : ∀ (j : Nat) (o' : Slot), L[j]? = some o' → isC c o' = false) : findL L c = L.length := by
  unfold findL
  rw [List.findIdx_eq_length]
  intro x hx
  obtain ⟨j, hj⟩ := List.mem_iff_getElem?.1 hx
  exact hb j x hj
theorem findL_at {L : List Slot} {c : ByteArray} (h : findL L c < L.length) : ∃ p z, L[findL L c]? = some (some (p, z)) ∧ z.client = c := by
  have h1 := List.findIdx_getElem (p := isC c) (xs := L) (w := h)
  have h2 : L[findL L c]? = some L[findL L c] := List.getElem?_eq_getElem h
  have h1' : isC c L[findL L c] = true := h1
  cases e : L[findL L c] with
  | none => rw [e] at h1'; cases h1'
  | some x =>
    obtain ⟨p, z⟩ := x
    rw [e] at h1' h2
    exact ⟨p, z, h2, by simpa [isC] using h1'⟩
theorem findL_le (L : List Slot) (c : ByteArray) : findL L c ≤ L.length := List.findIdx_le_length
theorem findL_ahead {L : List Slot} {c : ByteArray} {j : Nat} {o : Slot} (h : j < findL L c) (e : L[j]? = some o) : isC c o = false := by
  have := List.not_of_lt_findIdx h
  obtain ⟨hj, e'⟩ := List.getElem?_eq_some_iff.1 e
  rw [← e']; simpa using this
theorem freeL_le (L : List Slot) : freeL L ≤ L.length := List.findIdx_le_length
theorem freeL_is {L : List Slot} {i : Nat} (h : L[i]? = some none) (hb : ∀ j, j < i → ∀ o, L[j]? = some o → o.isNone = false) : freeL L = i := by
  have hi : i < L.length := (List.getElem?_eq_some_iff.1 h).1
  unfold freeL
  rw [List.findIdx_eq hi]
  have e : L[i] = none := (List.getElem?_eq_some_iff.1 h).2
  exact ⟨by rw [e]; rfl, fun j hj => hb j hj _ (List.getElem?_eq_getElem (by omega))⟩
theorem freeL_no {L : List Slot} (hb : ∀ (j : Nat) (o : Slot), L[j]? = some o → o.isNone = false) : freeL L = L.length := by
  unfold freeL
  rw [List.findIdx_eq_length]
  intro x hx
  obtain ⟨j, hj⟩ := List.mem_iff_getElem?.1 hx
  exact hb j x hj
theorem freeL_at {L : List Slot} (h : freeL L < L.length) : L[freeL L]? = some none := by
  have h1 := List.findIdx_getElem (p := Option.isNone) (xs := L) (w := h)
  have h1' : (L[freeL L]).isNone = true := h1
  rw [List.getElem?_eq_getElem h]
  cases e : L[freeL L] with
  | none => rfl
  | some x => rw [e] at h1'; cases h1'
end Go.Sx
namespace Go.Sx
open Go
def cleanAt (L : List Slot) (i : Nat) : Bool := match L[i]? with
  | some (some (_, z)) => z.clean
  | _ => false
/-- What opening makes of the slots: the answer's three parts, and the slots; good: may such a client be? s: where the new session lies. -/
structure OpR where
  i : Int
  b : Bool
  e : Int
  L : List Slot
def openR (good : Bool) (L : List Slot) (cl : ByteArray) (cn : Bool) (s : Nat) : OpR :=
  if good = false then ⟨0, false, 1, L⟩
  else if findL L cl < 8 then (if cn = false ∧ cleanAt L (findL L cl) = false then ⟨findL L cl, true, 0, L⟩ else ⟨findL L cl, false, 0, L.set (findL L cl) (some (s, newZ cl cn))⟩)
  else if freeL L < 8 then ⟨freeL L, false, 0, L.set (freeL L) (some (s, newZ cl cn))⟩
  else ⟨0, false, 6, L⟩
theorem openR_len (good : Bool) (L : List Slot) (cl : ByteArray) (cn : Bool) (s : Nat) : (openR good L cl cn s).L.length = L.length := by
  unfold openR
  split
  · rfl
  split
  · split
    · rfl
    · simp
  split
  · simp
  · rfl
end Go.Sx
namespace Go.Sx
open Go
/-! ### one each -/
def Uniq (L : List Slot) : Prop := ∀ (i j : Nat) (p q : Nat) (z y : Ses), L[i]? = some (some (p, z)) → L[j]? = some (some (q, y)) → z.client = y.client → i = j
theorem uniq_none (n : Nat) : Uniq (List.replicate n none) := fun i j p q z y h => by
  rw [List.getElem?_replicate] at h
  split at h <;> cases h
theorem uniq_drop {L : List Slot} (h : Uniq L) (k : Nat) : Uniq (L.set k none) := fun i j p q z y hi hj e => by
  rw [List.getElem?_set] at hi hj
  split at hi
  · split at hi <;> cases hi
  · split at hj
    · split at hj <;> cases hj
    · exact h i j p q z y hi hj e
theorem uniq_put {L : List Slot} (h : Uniq L) (k s : Nat) (x : Ses) (hn : ∀ j q y, j ≠ k → L[j]? = some (some (q, y)) → y.client ≠ x.client) : Uniq (L.set k (some (s, x))) := fun i j p q z y hi hj e => by
  rw [List.getElem?_set] at hi hj
  split at hi
  · rename_i c1
    subst c1
    split at hj
    · rename_i c2; exact c2
    · rename_i c2
      split at hi
      · simp only [Option.some.injEq, Prod.mk.injEq] at hi
        obtain ⟨rfl, rfl⟩ := hi
        exact absurd e.symm (hn j q y (Ne.symm c2) hj)
      · cases hi
  · rename_i c1
    split at hj
    · rename_i c2
      subst c2
      split at hj
      · simp only [Option.some.injEq, Prod.mk.injEq] at hj
        obtain ⟨rfl, rfl⟩ := hj
        exact absurd e (hn i p z (Ne.symm c1) hi)
      · cases hj
    · exact h i j p q z y hi hj e
theorem uniq_find {L : List Slot} (h : Uniq L) {i p : Nat} {z : Ses} (hi : L[i]? = some (some (p, z))) : findL L z.client = i :=
  findL_is hi (by simp [isC]) fun j hj o ho => by
    cases o with
    | none => rfl
    | some x =>
      obtain ⟨q, y⟩ := x
      by_cases c : y.client = z.client
      · exact absurd (h j i q p y z ho hi c) (by omega)
      · simpa [isC] using c
theorem not_isC {L : List Slot} {cl : ByteArray} (h : findL L cl = L.length) {j q : Nat} {y : Ses} (e : L[j]? = some (some (q, y))) : y.client ≠ cl := fun c => by
  have hj := (List.getElem?_eq_some_iff.1 e).1
  have := findL_ahead (L := L) (c := cl) (j := j) (by omega) e
  simp [isC, c] at this
theorem uniq_open {L : List Slot} (h8 : L.length = 8) (h : Uniq L) (good : Bool) (cl : ByteArray) (cn : Bool) (s : Nat) : Uniq (openR good L cl cn s).L := by
  unfold openR
  split
  · exact h
  split
  · rename_i c
    split
    · exact h
    · obtain ⟨p, z, hz, hc⟩ := findL_at (L := L) (c := cl) (by omega)
      refine uniq_put h _ s (newZ cl cn) (fun j q y hj e hy => hj ?_)
      exact h j (findL L cl) q p y z e hz (by rw [hc]; exact hy)
  · rename_i c
    split
    · have hf : findL L cl = L.length := by have := findL_le L cl; omega
      exact uniq_put h _ s (newZ cl cn) (fun j q y _ e => not_isC hf e)
    · exact h
/-! ### dropping -/
structure DropR where
  b : Bool
  L : List Slot
def dropR (L : List Slot) (i : Int) : DropR := if 0 ≤ i ∧ i < 8 ∧ (L[i.toNat]?.getD none).isSome then ⟨true, L.set i.toNat none⟩ else ⟨false, L⟩
theorem dropR_len (L : List Slot) (i : Int) : (dropR L i).L.length = L.length := by unfold dropR; split <;> simp
theorem uniq_dropR {L : List Slot} (h : Uniq L) (i : Int) : Uniq (dropR L i).L := by
  unfold dropR
  split
  · exact uniq_drop h _
  · exact h
/-- Which slot an int means. -/
inductive SlotAt (L : List Slot) (i : Int) : Prop
  | out (h : i < 0 ∨ 8 ≤ i)
  | free (k : Nat) (e : i = (k : Int)) (h : L[k]? = some none)
  | taken (k p : Nat) (z : Ses) (e : i = (k : Int)) (h : L[k]? = some (some (p, z)))
theorem slotAt {L : List Slot} (h8 : L.length = 8) (i : Int) : SlotAt L i := by
  by_cases c : i < 0 ∨ 8 ≤ i
  · exact .out c
  · have hk : i.toNat < L.length := by omega
    have e : L[i.toNat]? = some L[i.toNat] := List.getElem?_eq_getElem hk
    cases ho : L[i.toNat] with
    | none => exact .free i.toNat (by omega) (by rw [e, ho])
    | some x => exact .taken i.toNat x.1 x.2 (by omega) (by rw [e, ho])
theorem dropR_out {L : List Slot} {i : Int} (h : i < 0 ∨ 8 ≤ i) : dropR L i = ⟨false, L⟩ := by unfold dropR; rw [if_neg (by omega)]
theorem dropR_free {L : List Slot} {k : Nat} (h : L[k]? = some none) : dropR L k = ⟨false, L⟩ := by unfold dropR; rw [if_neg (by simp [h])]
theorem dropR_taken {L : List Slot} (h8 : L.length = 8) {k p : Nat} {z : Ses} (h : L[k]? = some (some (p, z))) : dropR L k = ⟨true, L.set k none⟩ := by
  have := (List.getElem?_eq_some_iff.1 h).1
  unfold dropR; rw [if_pos ⟨by omega, by omega, by simp [h]⟩]; simp
end Go.Sx
set_option linter.unusedSimpArgs false
set_option linter.unusedVariables false
namespace Go.Sx
open Go
def zz (L : List Slot) : List (Option Ses) := L.map (Option.map Prod.snd)
def isZ (c : ByteArray) : Option Ses → Bool
  | none => false
  | some z => decide (z.client = c)
theorem isC_zz (c : ByteArray) : isC c = isZ c ∘ Option.map Prod.snd := funext fun o => by cases o <;> rfl
theorem findL_zz (L : List Slot) (c : ByteArray) : findL L c = (zz L).findIdx (isZ c) := by
  unfold findL zz
  rw [List.findIdx_map, isC_zz]
theorem freeL_zz (L : List Slot) : freeL L = (zz L).findIdx Option.isNone := by
  unfold freeL zz
  rw [List.findIdx_map]
  congr 1
  funext o; cases o <;> rfl
theorem zz_get {L : List Slot} {i : Nat} : (zz L)[i]? = (L[i]?).map (Option.map Prod.snd) := by unfold zz; rw [List.getElem?_map]
theorem zz_set (L : List Slot) (i : Nat) (o : Slot) : zz (L.set i o) = (zz L).set i (o.map Prod.snd) := by unfold zz; rw [List.map_set]
theorem cleanAt_zz (L : List Slot) (i : Nat) : cleanAt L i = match (zz L)[i]? with
    | some (some z) => z.clean
    | _ => false := by
  unfold cleanAt
  rw [zz_get]
  cases L[i]? with
  | none => rfl
  | some o => cases o <;> rfl
theorem openR_zz {L R : List Slot} (h : zz L = zz R) (good : Bool) (cl : ByteArray) (cn : Bool) (s x : Nat) :
    (openR good L cl cn s).i = (openR good R cl cn x).i ∧ (openR good L cl cn s).b = (openR good R cl cn x).b ∧ (openR good L cl cn s).e = (openR good R cl cn x).e ∧ zz (openR good L cl cn s).L = zz (openR good R cl cn x).L := by
  have h1 : findL L cl = findL R cl := by rw [findL_zz, findL_zz, h]
  have h2 : freeL L = freeL R := by rw [freeL_zz, freeL_zz, h]
  have h3 : cleanAt L (findL R cl) = cleanAt R (findL R cl) := by rw [cleanAt_zz, cleanAt_zz, h]
  unfold openR
  rw [h1, h2, h3]
  split
  · exact ⟨rfl, rfl, rfl, h⟩
  split
  · split
    · exact ⟨rfl, rfl, rfl, h⟩
    · exact ⟨rfl, rfl, rfl, by rw [zz_set, zz_set, h]; rfl⟩
  split
  · exact ⟨rfl, rfl, rfl, by rw [zz_set, zz_set, h]; rfl⟩
  · exact ⟨rfl, rfl, rfl, h⟩
theorem dropR_zz {L R : List Slot} (h : zz L = zz R) (i : Int) : (dropR L i).b = (dropR R i).b ∧ zz (dropR L i).L = zz (dropR R i).L := by
  have e : (L[i.toNat]?.getD none).isSome = (R[i.toNat]?.getD none).isSome := by
    have e1 : ((zz L)[i.toNat]?.getD none).isSome = (L[i.toNat]?.getD none).isSome := by
      rw [zz_get]; cases L[i.toNat]? with
      | none => rfl
      | some o => cases o <;> rfl
    have e2 : ((zz R)[i.toNat]?.getD none).isSome = (R[i.toNat]?.getD none).isSome := by
      rw [zz_get]; cases R[i.toNat]? with
      | none => rfl
      | some o => cases o <;> rfl
    rw [← e1, ← e2, h]
  unfold dropR
  rw [e]
  split
  · exact ⟨rfl, by rw [zz_set, zz_set, h]⟩
  · exact ⟨rfl, h⟩
/-- Both hold the same in a slot. -/
theorem zz_taken {L R : List Slot} (h : zz L = zz R) {i p : Nat} {z : Ses} (e : L[i]? = some (some (p, z))) : ∃ q, R[i]? = some (some (q, z)) := by
  have h1 : (zz R)[i]? = some (some z) := by rw [← h, zz_get, e]; rfl
  rw [zz_get] at h1
  cases hr : R[i]? with
  | none => rw [hr] at h1; cases h1
  | some o =>
    cases o with
    | none => rw [hr] at h1; cases h1
    | some x =>
      obtain ⟨q, y⟩ := x
      rw [hr] at h1
      simp only [Option.map_some, Option.some.injEq] at h1
      subst h1
      exact ⟨q, rfl⟩
theorem zz_free {L R : List Slot} (h : zz L = zz R) {i : Nat} (e : L[i]? = some none) : R[i]? = some none := by
  have h1 : (zz R)[i]? = some none := by rw [← h, zz_get, e]; rfl
  rw [zz_get] at h1
  cases hr : R[i]? with
  | none => rw [hr] at h1; cases h1
  | some o =>
    cases o with
    | none => rfl
    | some x => rw [hr] at h1; cases h1
theorem zz_len {L R : List Slot} (h : zz L = zz R) : L.length = R.length := by
  have := congrArg List.length h
  simpa [zz] using this
/-- How many found no room: at most so many, in each. -/
def LostOk (L : List Slot) (n : Int) : Prop := ∀ (i p : Nat) (z : Ses), L[i]? = some (some (p, z)) → 0 ≤ z.lost ∧ z.lost ≤ n
theorem lost_mono {L : List Slot} {n m : Int} (h : LostOk L n) (hm : n ≤ m) : LostOk L m := fun i p z e => by have := h i p z e; omega
theorem lost_set {L : List Slot} {n : Int} (h : LostOk L n) (k : Nat) (o : Slot) (ho : ∀ p z, o = some (p, z) → 0 ≤ z.lost ∧ z.lost ≤ n) : LostOk (L.set k o) n := fun i p z e => by
  rw [List.getElem?_set] at e
  split at e
  · split at e
    · cases e; exact ho p z rfl
    · cases e
  · exact h i p z e
theorem lost_open {L : List Slot} {n : Int} (h : LostOk L n) (hn : 0 ≤ n) (good : Bool) (cl : ByteArray) (cn : Bool) (s : Nat) : LostOk (openR good L cl cn s).L n := by
  unfold openR
  split
  · exact h
  split
  · split
    · exact h
    · exact lost_set h _ _ (fun p z e => by cases e; exact ⟨Int.le_refl _, hn⟩)
  split
  · exact lost_set h _ _ (fun p z e => by cases e; exact ⟨Int.le_refl _, hn⟩)
  · exact h
theorem lost_drop {L : List Slot} {n : Int} (h : LostOk L n) (i : Int) : LostOk (dropR L i).L n := by
  unfold dropR
  split
  · exact lost_set h _ _ (fun p z e => by cases e)
  · exact h
theorem del_lost28 (z : Ses) (m : PMsg) (k : Int) : (delZ z m k).lost = z.lost ∨ (delZ z m k).lost = z.lost + 1 := by
  unfold delZ
  split
  · rw [(fillZ_keep _).2.2.2.1]
    unfold putZ
    split
    · left; rfl
    · right; rfl
  · left; rfl
theorem entF_zz : ∀ {L R : List Slot} (i : Nat), zz L = zz R → (entF i L).map (·.1) = (entF i R).map (·.1)
  | [], [], _, _ => rfl
  | [], o :: r, _, h => by simp [zz] at h
  | o :: r, [], _, h => by simp [zz] at h
  | o :: r, o' :: r', i, h => by
    simp only [zz, List.map_cons, List.cons.injEq] at h
    have ih := entF_zz (L := r) (R := r') (i + 1) h.2
    cases o with
    | none =>
      cases o' with
      | none => exact ih
      | some x => cases h.1
    | some x =>
      cases o' with
      | none => cases h.1
      | some y => simp only [entF, List.map_cons, ih]
end Go.Sx
