/-
  Once, in order: the plain law of sessions.
-/
import Derived.Test.YtaodhkiejnipmaaDoorSesM
set_option linter.unusedSimpArgs false
set_option linter.unusedVariables false
namespace Go.Sx
/-! ### texts -/
def firstP (p : PPkt) : Bool := decide (p.kind = 3) && !p.dup
def firstsF (l : List PPkt) : List ByteArray := (l.filter firstP).map (·.m.text)
def txt (q : List PMsg) : List ByteArray := q.map (·.text)
theorem firstsF_app (a b : List PPkt) : firstsF (a ++ b) = firstsF a ++ firstsF b := by simp [firstsF]
theorem firstsF_nil : firstsF [] = [] := rfl
theorem fill_txt : ∀ (q : List PMsg) (L : List PSent), firstsF (fillF q L).out ++ txt (fillF q L).q = txt q := by
  intro q
  induction q with
  | nil => intro L; rw [fill_nil]; rfl
  | cons m q ih =>
    intro L
    by_cases c : L.length < 8
    · rw [fill_step c]
      have := ih (L ++ [sentOf L m])
      have e : firstsF (pubP (leastN L) m :: (fillF q (L ++ [sentOf L m])).out) = m.text :: firstsF (fillF q (L ++ [sentOf L m])).out := by
        simp [firstsF, firstP, pubP]
      simp only
      rw [e, List.cons_append, this]
      rfl
    · rw [fill_full (by omega)]; rfl
theorem again_txt (L : List PSent) : firstsF (L.map againP) = [] := by
  induction L with
  | nil => rfl
  | cons s L ih =>
    have e : firstP (againP s) = false := by unfold againP firstP; split <;> simp
    unfold firstsF at ih ⊢
    rw [List.map_cons, List.filter_cons, e]
    exact ih
theorem fillP_txt (z : Ses) : firstsF (fillP z) ++ txt (fillZ z).q = txt z.q := by
  unfold fillP fillZ
  split
  · exact fill_txt z.q z.L
  · rfl
theorem attach_txt (z : Ses) : firstsF (attachP z) ++ txt (attachZ z).q = txt z.q := by
  unfold attachP attachZ
  rw [firstsF_app, again_txt, List.nil_append]
  exact fillP_txt (onZ z)
theorem ansO_txt (L : List PSent) (k id : Int) : firstsF (ansO L k id) = [] := by
  unfold ansO
  split
  · rfl
  · rfl
theorem ans_txt (z : Ses) (k id : Int) : firstsF (ansP z k id) ++ txt (ansZ z k id).q = txt z.q := by
  unfold ansP ansZ
  split
  · rw [firstsF_app, ansO_txt, List.nil_append]
    exact fillP_txt (ansL' z k id)
  · rfl
theorem del_txt {z : Ses} {m : PMsg} {n : Int} (h : 0 < (clampQ m n).qos) : firstsF (delP z m n) ++ txt (delZ z m n).q = txt z.q ++ (if delB z m n then [m.text] else []) ∧ (delZ z m n).lost = z.lost + (if delB z m n then 0 else 1) := by
  unfold delP delZ delB
  rw [if_pos h, if_pos h, if_pos h, fillP_txt, (fillZ_keep _).2.2.2.1]
  unfold putZ putB
  by_cases c : z.q.length < 16
  · rw [if_pos c, decide_eq_true c]
    simp [txt, clampQ]
  · rw [if_neg c, decide_eq_false c]
    simp [txt]
/-! ### what is answered is gone -/
def tot (z : Ses) : Nat := z.q.length + z.L.length
def ND (L : List PSent) : Prop := (L.map (·.id)).Nodup
def Full (z : Ses) : Prop := z.online = true → z.q = [] ∨ 8 ≤ z.L.length
theorem ND.inj {L : List PSent} (S : ND L) {i j : Nat} (hi : i < L.length) (hj : j < L.length) (e : L[i].id = L[j].id) : i = j := by
  have h := List.nodup_iff_pairwise_ne.1 S
  rw [List.pairwise_map, List.pairwise_iff_getElem] at h
  rcases Nat.lt_trichotomy i j with c | c | c
  · exact absurd e (h i j hi hj c)
  · exact c
  · exact absurd e.symm (h j i hj hi c)
theorem nd_snoc {L : List PSent} (S : ND L) (m : PMsg) : ND (L ++ [sentOf L m]) := by
  unfold ND
  rw [List.map_append, List.nodup_append]
  refine ⟨S, by simp, fun a ha b hb => ?_⟩
  simp at hb
  obtain ⟨s, hs, rfl⟩ := List.mem_map.1 ha
  subst hb
  exact (leastN_is L).2.1 s hs
theorem nd_fill : ∀ (q : List PMsg) (L : List PSent), ND L → ND (fillF q L).L ∧ ∃ X, (fillF q L).L = L ++ X := by
  intro q
  induction q with
  | nil => intro L S; rw [fill_nil]; exact ⟨S, [], by simp⟩
  | cons m q ih =>
    intro L S
    by_cases c : L.length < 8
    · rw [fill_step c]
      obtain ⟨h1, X, h2⟩ := ih _ (nd_snoc S m)
      exact ⟨h1, sentOf L m :: X, by simp only; rw [h2]; simp⟩
    · rw [fill_full (by omega)]; exact ⟨S, [], by simp⟩
theorem idx_of {L : List PSent} (S : ND L) {e : PSent} (h : e ∈ L) : ∃ i, ∃ hi : i < L.length, idxF L e.id = some i ∧ L[i] = e := by
  obtain ⟨i, hi, he⟩ := List.getElem_of_mem h
  refine ⟨i, hi, idxF_some hi (by rw [he]) (fun j hj hji e' => ?_), he⟩
  have := S.inj hj hi (by rw [e', he])
  omega
theorem end_mem {L : List PSent} (S : ND L) {e : PSent} (h : e ∈ L) : (endL L e.id e.st).length + 1 = L.length ∧ ND (endL L e.id e.st) ∧ ∀ x ∈ L, x.id ≠ e.id → x ∈ endL L e.id e.st := by
  obtain ⟨i, hi, h1, h2⟩ := idx_of S h
  rw [(end_yes (st := e.st) h1 hi (by rw [h2])).2]
  refine ⟨by rw [List.length_eraseIdx, if_pos hi]; omega, ((List.eraseIdx_sublist L i).map _).nodup S, fun x hx hne => ?_⟩
  obtain ⟨j, hj, rfl⟩ := List.getElem_of_mem hx
  rw [List.mem_eraseIdx_iff_getElem]
  exact ⟨j, hj, fun c => hne (by subst c; rw [h2]), rfl⟩
theorem rec_mem {L : List PSent} (S : ND L) {e : PSent} (h : e ∈ L) (hs : e.st ≠ 1) : (recL L e.id).length = L.length ∧ ND (recL L e.id) ∧ (⟨e.id, 3, e.m⟩ : PSent) ∈ recL L e.id ∧ ∀ x ∈ L, x.id ≠ e.id → x ∈ recL L e.id := by
  obtain ⟨i, hi, h1, h2⟩ := idx_of S h
  rw [(rec_yes h1 hi (by rw [h2]; exact hs)).2]
  have hid : (L.set i { L[i] with st := 3 }).map (·.id) = L.map (·.id) := by
    apply List.ext_getElem?
    intro j
    rw [List.getElem?_map, List.getElem?_map]
    by_cases c : i = j
    · subst c; simp [hi]
    · rw [List.getElem?_set_ne c]
  refine ⟨by simp, by unfold ND; rw [hid]; exact S, ?_, fun x hx hne => ?_⟩
  · have : (L.set i { L[i] with st := 3 })[i]'(by simpa using hi) = ⟨e.id, 3, e.m⟩ := by rw [List.getElem_set_self, h2]
    rw [← this]
    exact List.getElem_mem _
  · obtain ⟨j, hj, rfl⟩ := List.getElem_of_mem hx
    have hji : i ≠ j := fun c => hne (by subst c; rw [h2])
    have : (L.set i { L[i] with st := 3 })[j]'(by simpa using hj) = L[j] := by rw [List.getElem_set_ne hji]
    rw [← this]
    exact List.getElem_mem _
/-- What a filling leaves. -/
theorem fillZ_facts {z : Ses} (h : SesOk z) (S : ND z.L) (ho : z.online = true) : tot (fillZ z) = tot z ∧ Full (fillZ z) ∧ ND (fillZ z).L ∧ ∀ x ∈ z.L, x ∈ (fillZ z).L := by
  obtain ⟨h1, k, h2, h3, h4, h5⟩ := fill_ok z.q z.L h.Ll
  obtain ⟨n1, X, n2⟩ := nd_fill z.q z.L S
  have e : fillZ z = { z with q := (fillF z.q z.L).q, L := (fillF z.q z.L).L } := if_pos ho
  have hl := h.Ll
  rw [e]
  refine ⟨?_, fun _ => ?_, n1, fun x hx => by simp only; rw [n2]; exact List.mem_append_left _ hx⟩
  · unfold tot; simp only; rw [h2, h3, List.length_drop]; omega
  · simp only
    by_cases c : z.q.length ≤ 8 - z.L.length
    · left
      apply List.eq_nil_of_length_eq_zero
      rw [h2, List.length_drop]; omega
    · right; omega
structure OnOk (z : Ses) : Prop where
  ok : SesOk z
  nd : ND z.L
  on : z.online = true
theorem ans_end {z : Ses} (h : OnOk z) {e : PSent} (he : e ∈ z.L) {k : Int} (hk : ansOk k = true) (hL : ansL z.L k e.id = endL z.L e.id e.st) : OnOk (ansZ z k e.id) ∧ Full (ansZ z k e.id) ∧ tot (ansZ z k e.id) + 1 = tot z ∧ ∀ x ∈ z.L, x.id ≠ e.id → x ∈ (ansZ z k e.id).L := by
  have e1 : ansZ z k e.id = fillZ (ansL' z k e.id) := if_pos ⟨h.on, hk⟩
  obtain ⟨m1, m2, m3⟩ := end_mem h.nd he
  have ho := ok_ans' k e.id h.ok
  have hn : ND (ansL' z k e.id).L := by show ND (ansL z.L k e.id); rw [hL]; exact m2
  obtain ⟨f1, f2, f3, f4⟩ := fillZ_facts ho hn h.on
  rw [e1]
  refine ⟨⟨fillZ_ok ho, f3, (fillZ_keep _).2.2.1.trans h.on⟩, f2, ?_, fun x hx hne => f4 x ?_⟩
  · rw [f1]
    show z.q.length + (ansL z.L k e.id).length + 1 = z.q.length + z.L.length
    rw [hL]; omega
  · show x ∈ ansL z.L k e.id
    rw [hL]; exact m3 x hx hne
theorem ans_rec {z : Ses} (h : OnOk z) {e : PSent} (he : e ∈ z.L) (hs : e.st ≠ 1) : OnOk (ansZ z 5 e.id) ∧ tot (ansZ z 5 e.id) = tot z ∧ (⟨e.id, 3, e.m⟩ : PSent) ∈ (ansZ z 5 e.id).L ∧ ∀ x ∈ z.L, x.id ≠ e.id → x ∈ (ansZ z 5 e.id).L := by
  have e1 : ansZ z 5 e.id = fillZ (ansL' z 5 e.id) := if_pos ⟨h.on, by decide⟩
  have hL : ansL z.L 5 e.id = recL z.L e.id := by unfold ansL; rw [if_neg (by decide), if_neg (by decide), if_pos rfl]
  obtain ⟨m1, m2, m3, m4⟩ := rec_mem h.nd he hs
  have ho := ok_ans' 5 e.id h.ok
  have hn : ND (ansL' z 5 e.id).L := by show ND (ansL z.L 5 e.id); rw [hL]; exact m2
  obtain ⟨f1, f2, f3, f4⟩ := fillZ_facts ho hn h.on
  rw [e1]
  refine ⟨⟨fillZ_ok ho, f3, (fillZ_keep _).2.2.1.trans h.on⟩, ?_, f4 _ ?_, fun x hx hne => f4 x ?_⟩
  · rw [f1]
    show z.q.length + (ansL z.L 5 e.id).length = z.q.length + z.L.length
    rw [hL, m1]
  · show _ ∈ ansL z.L 5 e.id
    rw [hL]; exact m3
  · show x ∈ ansL z.L 5 e.id
    rw [hL]; exact m4 x hx hne
/-! ### all that is on its way, answered -/
noncomputable def stepZx (z : Ses) (e : PSent) : Ses := if e.st = 1 then ansZ z 4 e.id else ansZ (ansZ z 5 e.id) 7 e.id
noncomputable def stepTx (z : Ses) (e : PSent) : List ByteArray := if e.st = 1 then firstsF (ansP z 4 e.id) else firstsF (ansP z 5 e.id) ++ firstsF (ansP (ansZ z 5 e.id) 7 e.id)
noncomputable def allZ : Ses → List PSent → Ses
  | z, [] => z
  | z, e :: l => allZ (stepZx z e) l
noncomputable def allT : Ses → List PSent → List ByteArray
  | _, [] => []
  | z, e :: l => stepTx z e ++ allT (stepZx z e) l
theorem allZ_snoc : ∀ (l : List PSent) (z : Ses) (e : PSent), allZ z (l ++ [e]) = stepZx (allZ z l) e ∧ allT z (l ++ [e]) = allT z l ++ stepTx (allZ z l) e
  | [], z, e => by simp [allZ, allT]
  | x :: l, z, e => by
    obtain ⟨h1, h2⟩ := allZ_snoc l (stepZx z x) e
    simp only [List.cons_append, allZ, allT]
    exact ⟨h1, by rw [h2, List.append_assoc]⟩
theorem step_txt (z : Ses) (e : PSent) : stepTx z e ++ txt (stepZx z e).q = txt z.q := by
  unfold stepTx stepZx
  split
  · exact ans_txt z 4 e.id
  · rw [List.append_assoc, ans_txt, ans_txt]
theorem all_txt : ∀ (l : List PSent) (z : Ses), allT z l ++ txt (allZ z l).q = txt z.q
  | [], z => rfl
  | e :: l, z => by
    simp only [allT, allZ]
    rw [List.append_assoc, all_txt l, step_txt]
theorem ok_step {z : Ses} (e : PSent) (h : SesOk z) : SesOk (stepZx z e) := by
  unfold stepZx
  split
  · exact ok_ans 4 e.id h
  · exact ok_ans 7 e.id (ok_ans 5 e.id h)
theorem ok_all : ∀ (l : List PSent) {z : Ses}, SesOk z → SesOk (allZ z l)
  | [], z, h => h
  | e :: l, z, h => ok_all l (ok_step e h)
theorem step_facts {z : Ses} (h : OnOk z) {e : PSent} (he : e ∈ z.L) : OnOk (stepZx z e) ∧ Full (stepZx z e) ∧ tot (stepZx z e) + 1 = tot z ∧ ∀ x ∈ z.L, x.id ≠ e.id → x ∈ (stepZx z e).L := by
  unfold stepZx
  split
  · rename_i c
    exact ans_end h he (by decide) (by unfold ansL; rw [if_pos rfl, c])
  · rename_i c
    obtain ⟨r1, r2, r3, r4⟩ := ans_rec h he c
    obtain ⟨a1, a2, a3, a4⟩ := ans_end r1 r3 (k := 7) (by decide) (by unfold ansL; rw [if_neg (by decide), if_pos rfl])
    have a3' : tot (ansZ (ansZ z 5 e.id) 7 e.id) + 1 = tot (ansZ z 5 e.id) := a3
    exact ⟨a1, a2, by omega, fun x hx hne => a4 x (r4 x hx hne) hne⟩
theorem all_facts : ∀ (l : List PSent) (z : Ses), OnOk z → Full z → ND l → (∀ x ∈ l, x ∈ z.L) → OnOk (allZ z l) ∧ Full (allZ z l) ∧ tot (allZ z l) + l.length = tot z
  | [], z, h, f, _, _ => ⟨h, f, rfl⟩
  | e :: l, z, h, f, S, hm => by
    obtain ⟨s1, s2, s3, s4⟩ := step_facts h (hm e List.mem_cons_self)
    unfold ND at S
    rw [List.map_cons, List.nodup_cons] at S
    obtain ⟨a1, a2, a3⟩ := all_facts l (stepZx z e) s1 s2 S.2 (fun x hx => s4 x (hm x (List.mem_cons_of_mem _ hx)) (fun c => S.1 (by rw [← c]; exact List.mem_map_of_mem hx)))
    exact ⟨a1, a2, by simp only [allZ, List.length_cons]; omega⟩
/-- One round of answers: what is there is less, or it was none. -/
theorem round_facts {z : Ses} (h : OnOk z) (f : Full z) : OnOk (allZ z z.L) ∧ Full (allZ z z.L) ∧ tot (allZ z z.L) ≤ tot z - 1 := by
  obtain ⟨a1, a2, a3⟩ := all_facts z.L z h f h.nd (fun x hx => hx)
  refine ⟨a1, a2, ?_⟩
  by_cases c : z.L.length = 0
  · have hq : z.q = [] := by
      rcases f h.on with e | e
      · exact e
      · omega
    have : tot z = 0 := by unfold tot; rw [hq, c]; rfl
    omega
  · omega
theorem ok_tot {z : Ses} (h : SesOk z) : tot z ≤ 24 := by
  have := h.ql; have := h.Ll; unfold tot; omega
end Go.Sx
