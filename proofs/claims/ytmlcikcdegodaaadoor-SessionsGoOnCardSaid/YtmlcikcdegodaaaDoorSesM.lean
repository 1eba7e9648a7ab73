/-
  A session in plain Lean: what it holds, what each call makes of it.
-/
import Derived.Test.YtmlcikcdegodaaaDoorFltM
import Derived.Test.YtmlcikcdegodaaaDoorInbM
set_option linter.unusedSimpArgs false
set_option linter.unusedVariables false
namespace Go.Sx
/-! ### the inbox, whole -/
def lbI (l : List Int) (t : Int) : Nat := l.findIdx (fun x => !decide (x < t))
theorem lbI_lb {l : List Int} {t : Int} (h : Asc l) : Lb l t (lbI l t) := by
  refine ⟨List.findIdx_le_length, fun j hj hk => ?_, fun j hj hk => ?_⟩
  · have := List.not_of_lt_findIdx hk
    simpa using this
  · have hlt : lbI l t < l.length := Nat.lt_of_le_of_lt hk hj
    have h0 := List.findIdx_getElem (p := fun x => !decide (x < t)) (xs := l) (w := hlt)
    simp at h0
    rcases Nat.eq_or_lt_of_le hk with e | e
    · have : l[j] = l[lbI l t] := by simp [← e]
      rw [this]; exact h0
    · have := asc_lt h hj e
      have h0' : t ≤ l[lbI l t] := h0
      omega
/-- Rising, of at most sixteen, in their range. -/
def InOk (l : List Int) : Prop := Asc l ∧ l.length ≤ 16 ∧ ∀ x ∈ l, 1 ≤ x ∧ x ≤ 65535
structure ComeR where
  l : List Int
  b : Bool
  e : Int
def comeF (l : List Int) (id : Int) : ComeR :=
  if id < 1 ∨ 65535 < id then ⟨l, false, 1⟩ else if id ∈ l then ⟨l, false, 0⟩ else if l.length = 16 then ⟨l, false, 6⟩ else ⟨putIn l (lbI l id) id, true, 0⟩
def doneF (l : List Int) (id : Int) : List Int × Bool := if id ∈ l then (takeOut l (lbI l id), true) else (l, false)
theorem inOk_nil : InOk [] := ⟨List.Pairwise.nil, by simp, fun x h => by cases h⟩
theorem inOk_come {l : List Int} (id : Int) (h : InOk l) : InOk (comeF l id).l := by
  unfold comeF
  split
  · exact h
  split
  · exact h
  split
  · exact h
  rename_i c1 c2 c3
  have hk := lbI_lb (t := id) h.1
  refine ⟨asc_put h.1 hk c2, ?_, fun x hx => ?_⟩
  · have := h.2.1
    simp only
    rw [putIn_length hk.1]; omega
  · rcases mem_putIn.1 hx with e | e
    · omega
    · exact h.2.2 x e
theorem inOk_done {l : List Int} (id : Int) (h : InOk l) : InOk (doneF l id).1 := by
  unfold doneF
  split
  · rename_i c
    have hk := lbI_lb (t := id) h.1
    have hm := (lb_mem h.1 hk).1 c
    have hlt : lbI l id < l.length := by
      rcases Nat.lt_or_ge (lbI l id) l.length with g | g
      · exact g
      · rw [List.getElem?_eq_none g] at hm; cases hm
    refine ⟨asc_out h.1, ?_, fun x hx => h.2.2 x (mem_takeOut hx)⟩
    have := h.2.1
    simp only
    rw [takeOut_length hlt]; omega
  · exact h

/-! ### the least number that is free -/
theorem leastN_ex (L : List PSent) : ∃ k, LeastF L k := by
  have hex : ∃ k : Nat, 1 ≤ k ∧ ∀ s ∈ L, s.id ≠ k := by
    by_cases c : ∃ k : Nat, 1 ≤ k ∧ k ≤ L.length + 1 ∧ ∀ s ∈ L, s.id ≠ k
    · obtain ⟨k, h1, _, h2⟩ := c; exact ⟨k, h1, h2⟩
    · exfalso
      have := pigeon (L.length + 1) (L.map (·.id)) (fun k k1 k2 => by
        by_cases d : (k : Int) ∈ L.map (·.id)
        · exact d
        · exact absurd ⟨k, k1, k2, fun s hs e => d (List.mem_map.2 ⟨s, hs, e⟩)⟩ c)
      rw [List.length_map] at this
      omega
  obtain ⟨k, hk⟩ := hex
  induction k using Nat.strongRecOn with
  | ind k ih =>
    by_cases c : ∃ j : Nat, 1 ≤ j ∧ j < k ∧ ∀ s ∈ L, s.id ≠ j
    · obtain ⟨j, j1, j2, j3⟩ := c
      exact ih j j2 ⟨j1, j3⟩
    · refine ⟨k, hk.1, hk.2, fun j j1 j2 => ?_⟩
      by_cases d : ∃ s ∈ L, s.id = j
      · exact d
      · exact absurd ⟨j, j1, j2, fun s hs e => d ⟨s, hs, e⟩⟩ c
noncomputable def leastN (L : List PSent) : Nat := (leastN_ex L).choose
theorem leastN_is (L : List PSent) : LeastF L (leastN L) := (leastN_ex L).choose_spec
theorem leastN_nil : leastN [] = 1 := (leastN_is []).eq ⟨Nat.le_refl 1, (fun s h => by cases h), fun j h1 h2 => by omega⟩

/-! ### a session -/
structure Ses where
  client : ByteArray
  clean : Bool
  online : Bool
  q : List PMsg
  lost : Int
  L : List PSent
  inb : List Int
  deriving Inhabited
structure SesOk (z : Ses) : Prop where
  cl : z.client.size ≠ 0
  ql : z.q.length ≤ 16
  qq : ∀ m ∈ z.q, m.qos = 1 ∨ m.qos = 2
  Ll : z.L.length ≤ 8
  io : InOk z.inb
noncomputable def sentOf (L : List PSent) (m : PMsg) : PSent := ⟨leastN L, stOf m, m⟩
def pubP (id : Int) (m : PMsg) : PPkt := ⟨3, id, false, m⟩
structure FillR where
  out : List PPkt
  q : List PMsg
  L : List PSent
noncomputable def fillF : List PMsg → List PSent → FillR
  | [], L => ⟨[], [], L⟩
  | m :: q, L => if L.length < 8 then ⟨pubP (leastN L) m :: (fillF q (L ++ [sentOf L m])).out, (fillF q (L ++ [sentOf L m])).q, (fillF q (L ++ [sentOf L m])).L⟩ else ⟨[], m :: q, L⟩
theorem fill_full {q : List PMsg} {L : List PSent} (h : 8 ≤ L.length) : fillF q L = ⟨[], q, L⟩ := by
  cases q with
  | nil => rfl
  | cons m q => unfold fillF; rw [if_neg (by omega)]
theorem fill_step {m : PMsg} {q : List PMsg} {L : List PSent} (h : L.length < 8) : fillF (m :: q) L = ⟨pubP (leastN L) m :: (fillF q (L ++ [sentOf L m])).out, (fillF q (L ++ [sentOf L m])).q, (fillF q (L ++ [sentOf L m])).L⟩ := by
  conv => lhs; unfold fillF
  rw [if_pos h]
theorem fill_nil {L : List PSent} : fillF [] L = ⟨[], [], L⟩ := by unfold fillF; rfl
theorem fill_ok : ∀ (q : List PMsg) (L : List PSent), L.length ≤ 8 → (fillF q L).L.length ≤ 8 ∧ (∃ k, (fillF q L).q = q.drop k ∧ (fillF q L).L.length = L.length + k ∧ (fillF q L).out.length = k ∧ k = min q.length (8 - L.length)) := by
  intro q
  induction q with
  | nil => intro L h; rw [fill_nil]; exact ⟨h, 0, rfl, rfl, rfl, by simp⟩
  | cons m q ih =>
    intro L h
    by_cases c : L.length < 8
    · rw [fill_step c]
      obtain ⟨h1, k, h2, h3, h4, h5⟩ := ih (L ++ [sentOf L m]) (by simp; omega)
      refine ⟨h1, k + 1, by simpa using h2, ?_, by simpa using h4, ?_⟩
      · simp only [List.length_append, List.length_cons, List.length_nil] at h3 ⊢; omega
      · simp only [List.length_append, List.length_cons, List.length_nil] at h5 ⊢; omega
    · rw [fill_full (by omega)]; exact ⟨h, 0, rfl, rfl, rfl, by simp; omega⟩
noncomputable def fillZ (z : Ses) : Ses := if z.online then { z with q := (fillF z.q z.L).q, L := (fillF z.q z.L).L } else z
noncomputable def fillP (z : Ses) : List PPkt := if z.online then (fillF z.q z.L).out else []
theorem fillZ_ok {z : Ses} (h : SesOk z) : SesOk (fillZ z) := by
  unfold fillZ
  split
  · obtain ⟨h1, k, h2, _⟩ := fill_ok z.q z.L h.Ll
    refine ⟨h.cl, ?_, ?_, h1, h.io⟩
    · simp only; rw [h2, List.length_drop]; have := h.ql; omega
    · simp only; rw [h2]; intro m hm; exact h.qq m (List.mem_of_mem_drop hm)
  · exact h
theorem fillZ_keep (z : Ses) : (fillZ z).client = z.client ∧ (fillZ z).clean = z.clean ∧ (fillZ z).online = z.online ∧ (fillZ z).lost = z.lost ∧ (fillZ z).inb = z.inb := by
  unfold fillZ; split <;> exact ⟨rfl, rfl, rfl, rfl, rfl⟩
/-! ### what each call makes of it -/
def onZ (z : Ses) : Ses := { z with online := true }
def offZ (z : Ses) : Ses := { z with online := false }
noncomputable def attachZ (z : Ses) : Ses := fillZ (onZ z)
noncomputable def attachP (z : Ses) : List PPkt := z.L.map againP ++ fillP (onZ z)
def clampQ (m : PMsg) (n : Int) : PMsg := { m with qos := max 0 (min (min m.qos n) 2) }
def putZ (z : Ses) (m : PMsg) : Ses := if z.q.length < 16 then { z with q := z.q ++ [m] } else { z with lost := z.lost + 1 }
def putB (z : Ses) : Bool := decide (z.q.length < 16)
noncomputable def delZ (z : Ses) (m : PMsg) (n : Int) : Ses := if 0 < (clampQ m n).qos then fillZ (putZ z (clampQ m n)) else z
noncomputable def delP (z : Ses) (m : PMsg) (n : Int) : List PPkt := if 0 < (clampQ m n).qos then fillP (putZ z (clampQ m n)) else if z.online then [pubP 0 (clampQ m n)] else []
def delB (z : Ses) (m : PMsg) (n : Int) : Bool := if 0 < (clampQ m n).qos then putB z else z.online
def ansL (L : List PSent) (k id : Int) : List PSent := if k = 4 then endL L id 1 else if k = 7 then endL L id 3 else if k = 5 then recL L id else L
def ansO (L : List PSent) (k id : Int) : List PPkt := if k = 5 ∧ recV L id = true then [⟨6, id, false, zeroMsg⟩] else []
def ansOk (k : Int) : Bool := decide (k = 4 ∨ k = 5 ∨ k = 7)
def ansL' (z : Ses) (k id : Int) : Ses := { z with L := ansL z.L k id }
noncomputable def ansZ (z : Ses) (k id : Int) : Ses := if z.online ∧ ansOk k then fillZ (ansL' z k id) else z
noncomputable def ansP (z : Ses) (k id : Int) : List PPkt := if z.online ∧ ansOk k then ansO z.L k id ++ fillP (ansL' z k id) else []
def comeZ (z : Ses) (id : Int) : Ses := { z with inb := (comeF z.inb id).l }
def doneZ (z : Ses) (id : Int) : Ses := { z with inb := (doneF z.inb id).1 }
def newZ (client : ByteArray) (clean : Bool) : Ses := ⟨client, clean, false, [], 0, [], []⟩

theorem endL_len (L : List PSent) (id st : Int) : (endL L id st).length ≤ L.length := by
  unfold endL
  split
  · exact Nat.le_refl _
  · split
    · exact List.length_eraseIdx_le _ _
    · exact Nat.le_refl _
theorem recL_len (L : List PSent) (id : Int) : (recL L id).length = L.length := by
  unfold recL
  split
  · rfl
  · split <;> simp
theorem ansL_len (L : List PSent) (k id : Int) : (ansL L k id).length ≤ L.length := by
  unfold ansL
  split
  · exact endL_len ..
  split
  · exact endL_len ..
  split
  · exact Nat.le_of_eq (recL_len ..)
  · exact Nat.le_refl _
theorem ok_new {c : ByteArray} {b : Bool} (h : c.size ≠ 0) : SesOk (newZ c b) := ⟨h, by simp [newZ], (fun m h => by cases h), by simp [newZ], inOk_nil⟩
theorem ok_on {z : Ses} (h : SesOk z) : SesOk (onZ z) := ⟨h.cl, h.ql, h.qq, h.Ll, h.io⟩
theorem ok_off {z : Ses} (h : SesOk z) : SesOk (offZ z) := ⟨h.cl, h.ql, h.qq, h.Ll, h.io⟩
theorem clamp_qos {m : PMsg} {n : Int} (h : 0 < (clampQ m n).qos) : (clampQ m n).qos = 1 ∨ (clampQ m n).qos = 2 := by
  unfold clampQ at h ⊢; simp only at h ⊢; omega
theorem ok_put {z : Ses} {m : PMsg} (h : SesOk z) (hm : m.qos = 1 ∨ m.qos = 2) : SesOk (putZ z m) := by
  unfold putZ
  split
  · rename_i c
    refine ⟨h.cl, by simp; omega, fun x hx => ?_, h.Ll, h.io⟩
    rcases List.mem_append.1 hx with e | e
    · exact h.qq x e
    · simp at e; subst e; exact hm
  · exact ⟨h.cl, h.ql, h.qq, h.Ll, h.io⟩
theorem ok_attach {z : Ses} (h : SesOk z) : SesOk (attachZ z) := fillZ_ok (ok_on h)
theorem ok_del {z : Ses} (m : PMsg) (n : Int) (h : SesOk z) : SesOk (delZ z m n) := by
  unfold delZ
  split
  · rename_i c; exact fillZ_ok (ok_put h (clamp_qos c))
  · exact h
theorem ok_ans' {z : Ses} (k id : Int) (h : SesOk z) : SesOk (ansL' z k id) := ⟨h.cl, h.ql, h.qq, Nat.le_trans (ansL_len ..) h.Ll, h.io⟩
theorem ok_ans {z : Ses} (k id : Int) (h : SesOk z) : SesOk (ansZ z k id) := by
  unfold ansZ
  split
  · exact fillZ_ok (ok_ans' k id h)
  · exact h
theorem ok_come {z : Ses} (id : Int) (h : SesOk z) : SesOk (comeZ z id) := ⟨h.cl, h.ql, h.qq, h.Ll, inOk_come id h.io⟩
theorem ok_done {z : Ses} (id : Int) (h : SesOk z) : SesOk (doneZ z id) := ⟨h.cl, h.ql, h.qq, h.Ll, inOk_done id h.io⟩
end Go.Sx
