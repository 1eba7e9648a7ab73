/-
  Once, in order: what holds from call to call.
-/
import Derived.Test.YtaodhkiejnipmaaDoorSesO
set_option linter.unusedSimpArgs false
set_option linter.unusedVariables false
namespace Go.Sx
theorem fill_inv {z : Ses} (h : SesOk z) (S : ND z.L) : SesOk (fillZ z) ∧ ND (fillZ z).L ∧ Full (fillZ z) ∧ (fillZ z).lost = z.lost ∧ (fillZ z).online = z.online := by
  rcases ho : z.online with _ | _
  · have e : fillZ z = z := by unfold fillZ; rw [ho]; rfl
    rw [e]
    exact ⟨h, S, (fun c => by rw [ho] at c; cases c), rfl, ho⟩
  · obtain ⟨_, f2, f3, _⟩ := fillZ_facts h S ho
    exact ⟨fillZ_ok h, f3, f2, (fillZ_keep z).2.2.2.1, (fillZ_keep z).2.2.1.trans ho⟩
theorem ans_off {z : Ses} (h : z.online = false) (k id : Int) : ansZ z k id = z := by
  unfold ansZ
  rw [if_neg (fun c => by rw [h] at c; cases c.1)]
theorem all_off : ∀ (l : List PSent) {z : Ses}, z.online = false → allZ z l = z
  | [], z, h => rfl
  | e :: l, z, h => by
    have es : stepZx z e = z := by
      unfold stepZx
      split
      · exact ans_off h _ _
      · rw [ans_off h, ans_off h]
    simp only [allZ]
    rw [es]
    exact all_off l h
theorem ans_lost (z : Ses) (k id : Int) : (ansZ z k id).lost = z.lost := by
  unfold ansZ
  split
  · exact (fillZ_keep _).2.2.2.1
  · rfl
theorem all_lost : ∀ (l : List PSent) (z : Ses), (allZ z l).lost = z.lost
  | [], z => rfl
  | e :: l, z => by
    simp only [allZ]
    rw [all_lost l]
    unfold stepZx
    split
    · exact ans_lost _ _ _
    · rw [ans_lost, ans_lost]
structure OnI (n : Nat) (want got : List ByteArray) (z : Ses) : Prop where
  ok : SesOk z
  nd : ND z.L
  full : Full z
  eq : got ++ txt z.q = want
  lost : z.lost + want.length = n
  l0 : 0 ≤ z.lost
theorem OnI.new {c : ByteArray} {b : Bool} (h : c.size ≠ 0) : OnI 0 [] [] (newZ c b) := ⟨ok_new h, List.nodup_nil, (fun _ => .inl rfl), rfl, rfl, Int.le_refl _⟩
section
variable {n : Nat} {want got : List ByteArray} {z : Ses}
theorem OnI.len (h : OnI n want got z) : want.length ≤ n ∧ got.length ≤ n ∧ got.length ≤ want.length := by
  have h1 := congrArg List.length h.eq
  rw [List.length_append] at h1
  have h2 := h.lost
  have h3 := h.l0
  refine ⟨by omega, by omega, by omega⟩
theorem OnI.del (h : OnI n want got z) {m : PMsg} (hm : m.qos = 1 ∨ m.qos = 2) : OnI (n + 1) (want ++ if delB z m 2 then [m.text] else []) (got ++ firstsF (delP z m 2)) (delZ z m 2) := by
  have hp : 0 < (clampQ m 2).qos := by unfold clampQ; simp only; omega
  obtain ⟨t1, t2⟩ := del_txt (z := z) hp
  have e : delZ z m 2 = fillZ (putZ z (clampQ m 2)) := if_pos hp
  have hn : ND (putZ z (clampQ m 2)).L := by unfold putZ; split <;> exact h.nd
  obtain ⟨f1, f2, f3, _, _⟩ := fill_inv (ok_put h.ok (clamp_qos hp)) hn
  have h2 := h.lost
  have h3 := h.l0
  refine ⟨by rw [e]; exact f1, by rw [e]; exact f2, by rw [e]; exact f3, ?_, ?_, ?_⟩
  · rw [List.append_assoc, t1, ← List.append_assoc, h.eq]
  · rw [t2]
    by_cases c : delB z m 2 = true
    · rw [if_pos c, if_pos c]; simp; omega
    · rw [if_neg c, if_neg c]; simp; omega
  · rw [t2]; split <;> omega
theorem OnI.att (h : OnI n want got z) : OnI n want (got ++ firstsF (attachP z)) (attachZ z) := by
  obtain ⟨f1, f2, f3, f4, _⟩ := fill_inv (ok_on h.ok) (z := onZ z) h.nd
  refine ⟨f1, f2, f3, ?_, ?_, ?_⟩
  · rw [List.append_assoc, attach_txt, h.eq]
  · have : (attachZ z).lost = z.lost := f4
    rw [this]; exact h.lost
  · have : (attachZ z).lost = z.lost := f4
    rw [this]; exact h.l0
theorem OnI.off (h : OnI n want got z) : OnI n want got (offZ z) := ⟨ok_off h.ok, h.nd, (fun c => by cases c), h.eq, h.lost, h.l0⟩
theorem OnI.all (h : OnI n want got z) : OnI n want (got ++ allT z z.L) (allZ z z.L) := by
  have hl : (allZ z z.L).lost = z.lost := all_lost _ _
  have key : ND (allZ z z.L).L ∧ Full (allZ z z.L) := by
    rcases ho : z.online with _ | _
    · rw [all_off _ ho]; exact ⟨h.nd, h.full⟩
    · obtain ⟨r1, r2, _⟩ := round_facts ⟨h.ok, h.nd, ho⟩ h.full
      exact ⟨r1.nd, r2⟩
  refine ⟨ok_all _ h.ok, key.1, key.2, ?_, ?_, ?_⟩
  · rw [List.append_assoc, all_txt, h.eq]
  · rw [hl]; exact h.lost
  · rw [hl]; exact h.l0
theorem OnI.onok (h : OnI n want got z) (ho : z.online = true) : OnOk z := ⟨h.ok, h.nd, ho⟩
theorem OnI.end (h : OnI n want got z) (ht : tot z = 0) : z.q.length = 0 ∧ z.L.length = 0 ∧ got = want := by
  unfold tot at ht
  have hq : z.q = [] := List.eq_nil_of_length_eq_zero (by omega)
  have := h.eq
  rw [hq] at this
  exact ⟨by omega, by omega, by simpa [txt] using this⟩
theorem att_on (z : Ses) : (attachZ z).online = true := (fillZ_keep _).2.2.1
end
end Go.Sx
