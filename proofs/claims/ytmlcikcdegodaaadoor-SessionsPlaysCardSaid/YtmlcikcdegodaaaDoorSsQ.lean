/-
  The package sessions: its slots; what goes over them; who is looked for.
  The package sessions: what goes over the taken slots; all of them; who is found; who opens.
  The package sessions: a client opens.
-/
import Derived.Test.YtmlcikcdegodaaaDoorPlN
import Derived.Test.YtmlcikcdegodaaaDoorSesN
import Derived.Test.YtmlcikcdegodaaaDoorSxP
set_option linter.unusedSimpArgs false
set_option linter.unusedVariables false
set_option maxRecDepth 20000
namespace Go.Proofs.YtmlcikcdegodaaaDoor
open Go Go.Sx
def slotC : Slot → List Value
  | none => [.pointer none, .bool false]
  | some (p, _) => [ptr p, .bool true]
theorem slotC_len (o : Slot) : (slotC o).length = 2 := by cases o <;> rfl
def sssV (L : List Slot) : List Value := L.flatMap slotC ++ [.bool true]
abbrev sssC (t : Nat) (L : List Slot) : HProp := pts t (.cells (sssV L).toArray 44 (0, 0))
def slotI : Slot → HProp
  | none => emp
  | some (p, z) => sesI p z
abbrev sssS (L : List Slot) : HProp := starI (L.map slotI)
theorem sss_made {L : List Slot} (h : L.length = 8) : (sssV L)[16]? = some (.bool true) := by
  unfold sssV
  rw [List.getElem?_append_right (by rw [fm_length slotC_len, h]; omega), fm_length slotC_len, h]
  rfl
theorem sss_taken {L : List Slot} {i : Nat} {o : Slot} (h : L[i]? = some o) : (sssV L)[i * 2 + 1]? = some (.bool o.isSome) := by
  have hi : i < L.length := (List.getElem?_eq_some_iff.1 h).1
  have e : L[i] = o := (List.getElem?_eq_some_iff.1 h).2
  exact fm_cell slotC_len L [.bool true] i hi (j := 1) (u := .bool o.isSome) (by rw [e]; cases o <;> rfl)
theorem sss_takT {L : List Slot} {i p : Nat} {z : Ses} (h : L[i]? = some (some (p, z))) : (sssV L)[i * 2 + 1]? = some (.bool true) := sss_taken h
theorem sss_takF {L : List Slot} {i : Nat} (h : L[i]? = some none) : (sssV L)[i * 2 + 1]? = some (.bool false) := sss_taken h
theorem sss_has {L : List Slot} {i p : Nat} {z : Ses} (h : L[i]? = some (some (p, z))) : (sssV L)[i * 2]? = some (ptr p) := by
  have hi : i < L.length := (List.getElem?_eq_some_iff.1 h).1
  have e : L[i] = some (p, z) := (List.getElem?_eq_some_iff.1 h).2
  have := fm_cell slotC_len L [.bool true] i hi (j := 0) (u := ptr p) (by rw [e]; rfl)
  rw [Nat.add_zero] at this
  exact this
theorem get8 {L : List Slot} (h : L.length = 8) {i : Nat} (hi : i < 8) : ∃ o, L[i]? = some o := ⟨L[i], List.getElem?_eq_getElem (by omega)⟩
attribute [local irreducible] MidQ wpE wpO wpC qE wpQ wpQO wpH wpHO wpD wpDO wpZ Ev own emp exI sl ch PostS LoopQ Rd rowsAt
theorem sss_new : FnDoes Tryd.prog 7 [] [] (fun _ : Nat => True) (fun t => ptr t) (fun t => [sssC t (List.replicate 8 none), sssS (List.replicate 8 none)]) := by
  refine does_of Tryd.func7 rfl rfl Tryd.ntmps7 rfl (by simp only [enum, Nat.reduceAdd, Nat.zero_add]; exact rfl) (fun c => ?_)
  (refine go ?_; intro t)
  exact q_ret1 rfl rfl t rfl trivial (Ent.cons (by repeat (first | exact Pick.head | apply Pick.tail)) (Ent.starEmp (fun A hA => by rw [List.map_replicate] at hA; exact List.eq_of_mem_replicate hA) Ent.nil))
theorem sss_noneF (t : Nat) (L : List Slot) (h : L.length = 8) : FnDoes Tryd.prog 26 [ptr t] [sssC t L] (fun _ : Unit => True) (fun _ => .bool false) (fun _ => [sssC t L]) := by
  have h1 := sss_made h
  refine does_of Tryd.func26 rfl rfl Tryd.ntmps26 rfl (by simp only [enum, Nat.reduceAdd, Nat.zero_add]; exact rfl) (fun c => ?_)
  (refine go ?_; intros)
  exact q_ret1 rfl rfl () rfl trivial (by ((try simp only [List.cons_append, List.nil_append]); repeat (first | exact Ent.nil | (apply Ent.cons; repeat (first | exact Pick.head | apply Pick.tail)))))
/-- Nobody made it: nil, or its zero. -/
theorem sss_noneN : FnDoes Tryd.prog 26 [.pointer none] [] (fun _ : Unit => True) (fun _ => .bool true) (fun _ => []) := by
  refine does_of Tryd.func26 rfl rfl Tryd.ntmps26 rfl (by simp only [enum, Nat.reduceAdd, Nat.zero_add]; exact rfl) (fun c => ?_)
  (refine go ?_; intros)
  exact q_ret1 rfl rfl () rfl trivial Ent.nil
def zeroV : List Value := [.pointer none, .bool false, .pointer none, .bool false, .pointer none, .bool false, .pointer none, .bool false, .pointer none, .bool false, .pointer none, .bool false, .pointer none, .bool false, .pointer none, .bool false, .bool false]
abbrev zssC (t : Nat) : HProp := pts t (.cells zeroV.toArray 44 (0, 0))
theorem sss_noneZ (t : Nat) : FnDoes Tryd.prog 26 [ptr t] [zssC t] (fun _ : Unit => True) (fun _ => .bool true) (fun _ => [zssC t]) := by
  have h1 : zeroV[16]? = some (.bool false) := rfl
  refine does_of Tryd.func26 rfl rfl Tryd.ntmps26 rfl (by simp only [enum, Nat.reduceAdd, Nat.zero_add]; exact rfl) (fun c => ?_)
  (refine go ?_; intros)
  exact q_ret1 rfl rfl () rfl trivial (by ((try simp only [List.cons_append, List.nil_append]); repeat (first | exact Ent.nil | (apply Ent.cons; repeat (first | exact Pick.head | apply Pick.tail)))))
theorem sss_hasT (t : Nat) (L : List Slot) (h : L.length = 8) (i p : Nat) (z : Ses) (e : L[i]? = some (some (p, z))) : FnDoes Tryd.prog 24 [ptr t, .int .i64 i] [sssC t L] (fun _ : Unit => True) (fun _ => .bool true) (fun _ => [sssC t L]) := by
  have hi : i < 8 := by have := (List.getElem?_eq_some_iff.1 e).1; omega
  have h1 := sss_takT e
  refine does_of Tryd.func24 rfl rfl Tryd.ntmps24 rfl (by simp only [enum, Nat.reduceAdd, Nat.zero_add]; exact rfl) (fun c => ?_)
  (refine go ?_; intros)
  (show wpO _ _ ⟨_, .call _, _, _, _, _⟩ _ _ _ _ _ _; refine o_callA (sss_noneF t L h) (fun _ _ => ?_); try simp only [List.cons_append, List.nil_append])
  (refine go ?_; intros)
  exact q_ret1 rfl rfl () rfl trivial (by ((try simp only [List.cons_append, List.nil_append]); repeat (first | exact Ent.nil | (apply Ent.cons; repeat (first | exact Pick.head | apply Pick.tail)))))
theorem sss_hasF (t : Nat) (L : List Slot) (h : L.length = 8) (i : Nat) (e : L[i]? = some none) : FnDoes Tryd.prog 24 [ptr t, .int .i64 i] [sssC t L] (fun _ : Unit => True) (fun _ => .bool false) (fun _ => [sssC t L]) := by
  have hi : i < 8 := by have := (List.getElem?_eq_some_iff.1 e).1; omega
  have h1 := sss_takF e
  refine does_of Tryd.func24 rfl rfl Tryd.ntmps24 rfl (by simp only [enum, Nat.reduceAdd, Nat.zero_add]; exact rfl) (fun c => ?_)
  (refine go ?_; intros)
  (show wpO _ _ ⟨_, .call _, _, _, _, _⟩ _ _ _ _ _ _; refine o_callA (sss_noneF t L h) (fun _ _ => ?_); try simp only [List.cons_append, List.nil_append])
  (refine go ?_; intros)
  exact q_ret1 rfl rfl () rfl trivial (by ((try simp only [List.cons_append, List.nil_append]); repeat (first | exact Ent.nil | (apply Ent.cons; repeat (first | exact Pick.head | apply Pick.tail)))))
theorem sss_hasO (t : Nat) (L : List Slot) (h : L.length = 8) (i : Int) (e : i < 0 ∨ 8 ≤ i) : FnDoes Tryd.prog 24 [ptr t, .int .i64 i] [sssC t L] (fun _ : Unit => True) (fun _ => .bool false) (fun _ => [sssC t L]) := by
  refine does_of Tryd.func24 rfl rfl Tryd.ntmps24 rfl (by simp only [enum, Nat.reduceAdd, Nat.zero_add]; exact rfl) (fun c => ?_)
  by_cases c1 : i < 0
  · (refine go ?_; intros)
    (show wpO _ _ ⟨_, .call _, _, _, _, _⟩ _ _ _ _ _ _; refine o_callA (sss_noneF t L h) (fun _ _ => ?_); try simp only [List.cons_append, List.nil_append])
    (refine go ?_; intros)
    exact q_ret1 rfl rfl () rfl trivial (by ((try simp only [List.cons_append, List.nil_append]); repeat (first | exact Ent.nil | (apply Ent.cons; repeat (first | exact Pick.head | apply Pick.tail)))))
  · have c2 : ¬ i < 8 := by omega
    (refine go ?_; intros)
    (show wpO _ _ ⟨_, .call _, _, _, _, _⟩ _ _ _ _ _ _; refine o_callA (sss_noneF t L h) (fun _ _ => ?_); try simp only [List.cons_append, List.nil_append])
    (refine go ?_; intros)
    exact q_ret1 rfl rfl () rfl trivial (by ((try simp only [List.cons_append, List.nil_append]); repeat (first | exact Ent.nil | (apply Ent.cons; repeat (first | exact Pick.head | apply Pick.tail)))))
theorem sss_hasN (i : Int) : FnDoes Tryd.prog 24 [.pointer none, .int .i64 i] [] (fun _ : Unit => True) (fun _ => .bool false) (fun _ => []) := by
  refine does_of Tryd.func24 rfl rfl Tryd.ntmps24 rfl (by simp only [enum, Nat.reduceAdd, Nat.zero_add]; exact rfl) (fun c => ?_)
  (refine go ?_; intros)
  (show wpO _ _ ⟨_, .call _, _, _, _, _⟩ _ _ _ _ _ _; refine o_callA (sss_noneN) (fun _ _ => ?_); try simp only [List.cons_append, List.nil_append])
  (refine go ?_; intros)
  exact q_ret1 rfl rfl () rfl trivial Ent.nil
theorem sss_hasZ (t : Nat) (i : Int) : FnDoes Tryd.prog 24 [ptr t, .int .i64 i] [zssC t] (fun _ : Unit => True) (fun _ => .bool false) (fun _ => [zssC t]) := by
  refine does_of Tryd.func24 rfl rfl Tryd.ntmps24 rfl (by simp only [enum, Nat.reduceAdd, Nat.zero_add]; exact rfl) (fun c => ?_)
  (refine go ?_; intros)
  (show wpO _ _ ⟨_, .call _, _, _, _, _⟩ _ _ _ _ _ _; refine o_callA (sss_noneZ t) (fun _ _ => ?_); try simp only [List.cons_append, List.nil_append])
  (refine go ?_; intros)
  exact q_ret1 rfl rfl () rfl trivial (by ((try simp only [List.cons_append, List.nil_append]); repeat (first | exact Ent.nil | (apply Ent.cons; repeat (first | exact Pick.head | apply Pick.tail)))))
theorem sss_atT (t : Nat) (L : List Slot) (h : L.length = 8) (i p : Nat) (z : Ses) (e : L[i]? = some (some (p, z))) : FnDoes Tryd.prog 11 [ptr t, .int .i64 i] [sssC t L] (fun _ : Unit => True) (fun _ => ptr p) (fun _ => [sssC t L]) := by
  have hi : i < 8 := by have := (List.getElem?_eq_some_iff.1 e).1; omega
  have h1 := sss_has e
  refine does_of Tryd.func11 rfl rfl Tryd.ntmps11 rfl (by simp only [enum, Nat.reduceAdd, Nat.zero_add]; exact rfl) (fun c => ?_)
  (refine go ?_; intros)
  (show wpO _ _ ⟨_, .call _, _, _, _, _⟩ _ _ _ _ _ _; refine o_callA (sss_hasT t L h i p z e) (fun _ _ => ?_); try simp only [List.cons_append, List.nil_append])
  (refine go ?_; intros)
  exact q_ret1 rfl rfl () rfl trivial (by ((try simp only [List.cons_append, List.nil_append]); repeat (first | exact Ent.nil | (apply Ent.cons; repeat (first | exact Pick.head | apply Pick.tail)))))
theorem sss_atF (t : Nat) (L : List Slot) (h : L.length = 8) (i : Nat) (e : L[i]? = some none) : FnDoes Tryd.prog 11 [ptr t, .int .i64 i] [sssC t L] (fun _ : Unit => True) (fun _ => .pointer none) (fun _ => [sssC t L]) := by
  refine does_of Tryd.func11 rfl rfl Tryd.ntmps11 rfl (by simp only [enum, Nat.reduceAdd, Nat.zero_add]; exact rfl) (fun c => ?_)
  (refine go ?_; intros)
  (show wpO _ _ ⟨_, .call _, _, _, _, _⟩ _ _ _ _ _ _; refine o_callA (sss_hasF t L h i e) (fun _ _ => ?_); try simp only [List.cons_append, List.nil_append])
  (refine go ?_; intros)
  exact q_ret1 rfl rfl () rfl trivial (by ((try simp only [List.cons_append, List.nil_append]); repeat (first | exact Ent.nil | (apply Ent.cons; repeat (first | exact Pick.head | apply Pick.tail)))))
theorem sss_atN (i : Int) : FnDoes Tryd.prog 11 [.pointer none, .int .i64 i] [] (fun _ : Unit => True) (fun _ => .pointer none) (fun _ => []) := by
  refine does_of Tryd.func11 rfl rfl Tryd.ntmps11 rfl (by simp only [enum, Nat.reduceAdd, Nat.zero_add]; exact rfl) (fun c => ?_)
  (refine go ?_; intros)
  (show wpO _ _ ⟨_, .call _, _, _, _, _⟩ _ _ _ _ _ _; refine o_callA (sss_hasN i) (fun _ _ => ?_); try simp only [List.cons_append, List.nil_append])
  (refine go ?_; intros)
  exact q_ret1 rfl rfl () rfl trivial Ent.nil
theorem sss_atZ (t : Nat) (i : Int) : FnDoes Tryd.prog 11 [ptr t, .int .i64 i] [zssC t] (fun _ : Unit => True) (fun _ => .pointer none) (fun _ => [zssC t]) := by
  refine does_of Tryd.func11 rfl rfl Tryd.ntmps11 rfl (by simp only [enum, Nat.reduceAdd, Nat.zero_add]; exact rfl) (fun c => ?_)
  (refine go ?_; intros)
  (show wpO _ _ ⟨_, .call _, _, _, _, _⟩ _ _ _ _ _ _; refine o_callA (sss_hasZ t i) (fun _ _ => ?_); try simp only [List.cons_append, List.nil_append])
  (refine go ?_; intros)
  exact q_ret1 rfl rfl () rfl trivial (by ((try simp only [List.cons_append, List.nil_append]); repeat (first | exact Ent.nil | (apply Ent.cons; repeat (first | exact Pick.head | apply Pick.tail)))))
theorem set_two {a b : Value} : ∀ {l : List Value} {i : Nat}, i + 1 < l.length → (l.set i a).set (i + 1) b = l.take i ++ [a, b] ++ l.drop (i + 2)
  | x :: y :: r, 0, _ => by simp
  | x :: r, i + 1, h => by
    have := set_two (a := a) (b := b) (l := r) (i := i) (by simpa using h)
    simp only [List.set_cons_succ, List.take_succ_cons, List.drop_succ_cons, List.cons_append, this]
  | [], _, h => by simp at h
  | [x], 0, h => by simp at h
/-- A slot is filled; emptied. -/
theorem set_slot {L : List Slot} {i : Nat} (hi : i < L.length) (o : Slot) {a b : Value} (e : slotC o = [a, b]) : ((sssV L).set (i * 2) a).set (i * 2 + 1) b = sssV (L.set i o) := by
  have hl : (L.flatMap slotC).length = L.length * 2 := fm_length slotC_len L
  unfold sssV
  rw [List.set_append_left _ _ (by rw [hl]; omega), List.set_append_left _ _ (by rw [List.length_set, hl]; omega)]
  congr 1
  clear hl
  induction L generalizing i with
  | nil => simp at hi
  | cons x r ih =>
    have hx := slotC_len x
    match hsx : slotC x, hx with
    | [u, v], _ =>
      cases i with
      | zero => simp [hsx, e]
      | succ i =>
        have := ih (i := i) (by simpa using hi)
        simp only [List.flatMap_cons, hsx, List.cons_append, List.nil_append, List.set_cons_succ]
        rw [show (i + 1) * 2 = i * 2 + 1 + 1 by omega, show i * 2 + 1 + 1 + 1 = (i * 2 + 1) + 1 + 1 by omega]
        simp only [List.set_cons_succ]
        rw [this]
theorem place_put (t : Nat) (L : List Slot) (i p : Nat) (z : Ses) (hi : i < L.length) : FnDoes Tryd.prog 29 [.pointer (some ⟨t, 0 + i * 2, none⟩), ptr p] [sssC t L] (fun _ : Unit => True) (fun _ => .tuple #[]) (fun _ => [sssC t (L.set i (some (p, z)))]) := by
  have hv : (sssV L).length = L.length * 2 + 1 := by unfold sssV; rw [List.length_append, fm_length slotC_len]; rfl
  have e := set_slot hi (some (p, z)) rfl
  have h1 : 0 + i * 2 < (sssV L).length := by rw [hv]; omega
  have h2 : i * 2 < (sssV L).length := by rw [hv]; omega
  have h3 : i * 2 + 1 < ((sssV L).set (i * 2) (ptr p)).length := by rw [List.length_set, hv]; omega
  refine does_of Tryd.func29 rfl rfl Tryd.ntmps29 rfl (by simp only [enum, Nat.reduceAdd, Nat.zero_add]; exact rfl) (fun c => ?_)
  (refine go ?_; intros)
  rw [e]
  exact q_ret0 rfl () rfl trivial (by ((try simp only [List.cons_append, List.nil_append]); repeat (first | exact Ent.nil | (apply Ent.cons; repeat (first | exact Pick.head | apply Pick.tail))))) _ (.inr rfl)
theorem place_clear (t : Nat) (L : List Slot) (i : Nat) (hi : i < L.length) : FnDoes Tryd.prog 25 [.pointer (some ⟨t, 0 + i * 2, none⟩)] [sssC t L] (fun _ : Unit => True) (fun _ => .tuple #[]) (fun _ => [sssC t (L.set i none)]) := by
  have hv : (sssV L).length = L.length * 2 + 1 := by unfold sssV; rw [List.length_append, fm_length slotC_len]; rfl
  have e := set_slot hi none rfl
  refine does_of Tryd.func25 rfl rfl Tryd.ntmps25 rfl (by simp only [enum, Nat.reduceAdd, Nat.zero_add]; exact rfl) (fun c => ?_)
  (refine go ?_; intros)
  refine o_store_part (vs := [.pointer none, .bool false]) rfl rfl rfl rfl rfl rfl (by repeat (first | exact Pick.head | apply Pick.tail)) (by rw [hv]; simp only [List.length_cons, List.length_nil]; omega) (l' := sssV (L.set i none)) ?_ ?_
  · rw [← e, set_two (by rw [hv]; omega)]
    rfl
  (refine go ?_; intros)
  exact q_ret0 rfl () rfl trivial (by ((try simp only [List.cons_append, List.nil_append]); repeat (first | exact Ent.nil | (apply Ent.cons; repeat (first | exact Pick.head | apply Pick.tail))))) _ (.inr rfl)
theorem sss_drop (t : Nat) (L : List Slot) (h : L.length = 8) (i p : Nat) (z : Ses) (e : L[i]? = some (some (p, z))) : FnDoes Tryd.prog 8 [ptr t, .int .i64 i] [sssC t L] (fun _ : Unit => True) (fun _ => .bool true) (fun _ => [sssC t (L.set i none)]) := by
  have hi : i < 8 := by have := (List.getElem?_eq_some_iff.1 e).1; omega
  refine does_of Tryd.func8 rfl rfl Tryd.ntmps8 rfl (by simp only [enum, Nat.reduceAdd, Nat.zero_add]; exact rfl) (fun c => ?_)
  (refine go ?_; intros)
  (show wpO _ _ ⟨_, .call _, _, _, _, _⟩ _ _ _ _ _ _; refine o_callA (sss_hasT t L h i p z e) (fun _ _ => ?_); try simp only [List.cons_append, List.nil_append])
  (refine go ?_; intros)
  (show wpO _ _ ⟨_, .call _, _, _, _, _⟩ _ _ _ _ _ _; refine o_callA (place_clear t L i (by omega)) (fun _ _ => ?_); try simp only [List.cons_append, List.nil_append])
  (refine go ?_; intros)
  exact q_ret1 rfl rfl () rfl trivial (by ((try simp only [List.cons_append, List.nil_append]); repeat (first | exact Ent.nil | (apply Ent.cons; repeat (first | exact Pick.head | apply Pick.tail)))))
theorem sss_dropF (t : Nat) (L : List Slot) (h : L.length = 8) (i : Nat) (e : L[i]? = some none) : FnDoes Tryd.prog 8 [ptr t, .int .i64 i] [sssC t L] (fun _ : Unit => True) (fun _ => .bool false) (fun _ => [sssC t L]) := by
  refine does_of Tryd.func8 rfl rfl Tryd.ntmps8 rfl (by simp only [enum, Nat.reduceAdd, Nat.zero_add]; exact rfl) (fun c => ?_)
  (refine go ?_; intros)
  (show wpO _ _ ⟨_, .call _, _, _, _, _⟩ _ _ _ _ _ _; refine o_callA (sss_hasF t L h i e) (fun _ _ => ?_); try simp only [List.cons_append, List.nil_append])
  (refine go ?_; intros)
  exact q_ret1 rfl rfl () rfl trivial (by ((try simp only [List.cons_append, List.nil_append]); repeat (first | exact Ent.nil | (apply Ent.cons; repeat (first | exact Pick.head | apply Pick.tail)))))
theorem sss_dropO (t : Nat) (L : List Slot) (h : L.length = 8) (i : Int) (e : i < 0 ∨ 8 ≤ i) : FnDoes Tryd.prog 8 [ptr t, .int .i64 i] [sssC t L] (fun _ : Unit => True) (fun _ => .bool false) (fun _ => [sssC t L]) := by
  refine does_of Tryd.func8 rfl rfl Tryd.ntmps8 rfl (by simp only [enum, Nat.reduceAdd, Nat.zero_add]; exact rfl) (fun c => ?_)
  (refine go ?_; intros)
  (show wpO _ _ ⟨_, .call _, _, _, _, _⟩ _ _ _ _ _ _; refine o_callA (sss_hasO t L h i e) (fun _ _ => ?_); try simp only [List.cons_append, List.nil_append])
  (refine go ?_; intros)
  exact q_ret1 rfl rfl () rfl trivial (by ((try simp only [List.cons_append, List.nil_append]); repeat (first | exact Ent.nil | (apply Ent.cons; repeat (first | exact Pick.head | apply Pick.tail)))))
theorem sss_dropN (i : Int) : FnDoes Tryd.prog 8 [.pointer none, .int .i64 i] [] (fun _ : Unit => True) (fun _ => .bool false) (fun _ => []) := by
  refine does_of Tryd.func8 rfl rfl Tryd.ntmps8 rfl (by simp only [enum, Nat.reduceAdd, Nat.zero_add]; exact rfl) (fun c => ?_)
  (refine go ?_; intros)
  (show wpO _ _ ⟨_, .call _, _, _, _, _⟩ _ _ _ _ _ _; refine o_callA (sss_hasN i) (fun _ _ => ?_); try simp only [List.cons_append, List.nil_append])
  (refine go ?_; intros)
  exact q_ret1 rfl rfl () rfl trivial Ent.nil
theorem sss_dropZ (t : Nat) (i : Int) : FnDoes Tryd.prog 8 [ptr t, .int .i64 i] [zssC t] (fun _ : Unit => True) (fun _ => .bool false) (fun _ => [zssC t]) := by
  refine does_of Tryd.func8 rfl rfl Tryd.ntmps8 rfl (by simp only [enum, Nat.reduceAdd, Nat.zero_add]; exact rfl) (fun c => ?_)
  (refine go ?_; intros)
  (show wpO _ _ ⟨_, .call _, _, _, _, _⟩ _ _ _ _ _ _; refine o_callA (sss_hasZ t i) (fun _ _ => ?_); try simp only [List.cons_append, List.nil_append])
  (refine go ?_; intros)
  exact q_ret1 rfl rfl () rfl trivial (by ((try simp only [List.cons_append, List.nil_append]); repeat (first | exact Ent.nil | (apply Ent.cons; repeat (first | exact Pick.head | apply Pick.tail)))))
/-- The least free slot. -/
theorem sss_free (t : Nat) (L : List Slot) (h : L.length = 8) : FnDoes Tryd.prog 28 [ptr t] [sssC t L] (fun _ : Unit => True) (fun _ => if freeL L < 8 then .tuple #[.int .i64 (freeL L), .bool true] else .tuple #[.int .i64 0, .bool false]) (fun _ => [sssC t L]) := by
  refine does_of Tryd.func28 rfl rfl Tryd.ntmps28 rfl (by simp only [enum, Nat.reduceAdd, Nat.zero_add]; exact rfl) (fun c => ?_)
  (refine go ?_; intros)
  refine wpC_loop (σ := Nat) (fun i => i ≤ 8 ∧ ∀ j, j < i → ∀ o, L[j]? = some o → o.isNone = false) (fun i => [(0, ptr t), (5, .int .i64 i)]) (fun _ => [sssC t L]) (fun i => 8 - i) 0 ⟨Nat.zero_le _, fun j hj => by omega⟩ (by repeat (first | exact trivial | refine ⟨rfl, ?_⟩)) (by ((try simp only [List.cons_append, List.nil_append]); repeat (first | exact Ent.nil | (apply Ent.cons; repeat (first | exact Pick.head | apply Pick.tail))))) (fun i hi => ?_)
  obtain ⟨h1, h2⟩ := hi
  by_cases hl : i < 8
  · obtain ⟨o, ho⟩ := get8 h hl
    cases o with
    | none =>
      have hf := sss_takF ho
      have e := freeL_is ho h2
      (refine go ?_; intros)
      rw [e, if_pos hl]
      exact q_ret2 rfl rfl rfl () rfl trivial (by ((try simp only [List.cons_append, List.nil_append]); repeat (first | exact Ent.nil | (apply Ent.cons; repeat (first | exact Pick.head | apply Pick.tail)))))
    | some x =>
      obtain ⟨p, z⟩ := x
      have hf := sss_takT ho
      (refine go ?_; intros)
      refine q_round (i + 1) ⟨by omega, fun j hj o' ho' => ?_⟩ (by omega) (by repeat (first | exact trivial | refine ⟨rfl, ?_⟩)) (by ((try simp only [List.cons_append, List.nil_append]); repeat (first | exact Ent.nil | (apply Ent.cons; repeat (first | exact Pick.head | apply Pick.tail)))))
      rcases Nat.lt_or_ge j i with g | g
      · exact h2 j g o' ho'
      · obtain rfl : j = i := by omega
        rw [ho] at ho'; cases ho'; rfl
  · have e : freeL L = 8 := by
      rw [freeL_no (fun j o ho => h2 j (by have := (List.getElem?_eq_some_iff.1 ho).1; omega) o ho), h]
    (refine go ?_; intros)
    rw [e]
    exact q_ret2 rfl rfl rfl () rfl trivial (by ((try simp only [List.cons_append, List.nil_append]); repeat (first | exact Ent.nil | (apply Ent.cons; repeat (first | exact Pick.head | apply Pick.tail)))))
end Go.Proofs.YtmlcikcdegodaaaDoor
set_option linter.unusedSimpArgs false
set_option linter.unusedVariables false
set_option maxRecDepth 20000
namespace Go.Proofs.YtmlcikcdegodaaaDoor
open Go Go.Sx
def entV (e : Nat × Nat) : List Value := [.int .i64 e.1, ptr e.2]
abbrev sssR (L : List Slot) (i : Nat) : HProp := starI ((L.map slotI).eraseIdx i)
theorem sss_out {L : List Slot} {i p : Nat} {z : Ses} {M R : List HProp} (h : L[i]? = some (some (p, z))) (pk : Pick M (sssS L) R) : Ent M (sesI p z :: sssR L i :: R) :=
  Ent.out pk (by rw [List.getElem?_map, h]; rfl)
theorem sss_inS {L : List Slot} {i p : Nat} {z : Ses} {M R R' : List HProp} (h : i < L.length) (pk : Pick M (sesI p z) R) (qk : Pick R (sssR L i) R') : Ent M (sssS (L.set i (some (p, z))) :: R') := by
  have := Ent.back pk qk (by simpa using h)
  rw [sssS, List.map_set]
  exact this
theorem set_same {L : List Slot} {i : Nat} {o : Slot} (h : L[i]? = some o) : L.set i o = L := by
  obtain ⟨hi, e⟩ := List.getElem?_eq_some_iff.1 h
  rw [← e]; exact List.set_getElem_self hi
theorem sss_in {L : List Slot} {i p : Nat} {z : Ses} {M R R' : List HProp} (h : L[i]? = some (some (p, z))) (pk : Pick M (sesI p z) R) (qk : Pick R (sssR L i) R') : Ent M (sssS L :: R') := by
  have := sss_inS (L := L) (i := i) (p := p) (z := z) (List.getElem?_eq_some_iff.1 h).1 pk qk
  rwa [set_same h] at this
theorem sss_in1 {L : List Slot} {i p : Nat} {z : Ses} {M R R' : List HProp} (h : L[i]? = some (some (p, z))) (pk : Pick M (sesI p z) R) (qk : Pick R (sssR L i) R') : Ent M [sssS L] := Ent.trans (sss_in h pk qk) (Ent.cons .head Ent.nil)
abbrev clsC (b t : Nat) : HProp := pts b (.cells [ptr t].toArray 23 (0, 0))
attribute [local irreducible] MidQ wpE wpO wpC qE wpQ wpQO wpH wpHO wpD wpDO wpZ Ev own emp exI sl ch PostS LoopQ Rd rowsAt
theorem sss_each (t : Nat) : FnDoes Tryd.prog 30 [ptr t] [] (fun _ : Nat => True) (fun b => .func (.func 43) #[] [ptr b].toArray) (fun b => [clsC b t]) := by
  refine does_of Tryd.func30 rfl rfl Tryd.ntmps30 rfl (by simp only [enum, Nat.reduceAdd, Nat.zero_add]; exact rfl) (fun c => ?_)
  (refine go ?_; intro b)
  refine o_evB (ev_makeFunc (vb := []) (vf := [ptr b]) rfl rfl) ?_
  (refine go ?_; intros)
  exact q_ret1 rfl rfl b rfl trivial (by ((try simp only [List.cons_append, List.nil_append]); repeat (first | exact Ent.nil | (apply Ent.cons; repeat (first | exact Pick.head | apply Pick.tail)))))
set_option maxHeartbeats 1000000 in
theorem each_seq (b t : Nat) (L : List Slot) (h : L.length = 8) : SeqDoes Tryd.prog 43 [ptr b] ((entF 0 L).map entV) [clsC b t, sssC t L] := fun l J X hY => by
  rw [List.length_map]
  refine does_of Tryd.func43 rfl rfl Tryd.ntmps43 rfl (by simp only [enum, Nat.reduceAdd, Nat.zero_add]; exact rfl) (fun c => ?_)
  simp only [List.cons_append, List.nil_append]
  (refine go ?_; intros)
  refine wpC_loop (σ := Nat) (fun i => i ≤ 8) (fun i => [(0, .func (.yield l) #[] #[]), (1, ptr b), (4, .int .i64 i)]) (fun i => [clsC b t, sssC t L, J (entN L i)]) (fun i => 8 - i) 0 (Nat.zero_le _) (by repeat (first | exact trivial | refine ⟨rfl, ?_⟩)) (by ((try simp only [List.cons_append, List.nil_append]); repeat (first | exact Ent.nil | (apply Ent.cons; repeat (first | exact Pick.head | apply Pick.tail))))) (fun i hi => ?_)
  by_cases hl : i < 8
  · obtain ⟨o, ho⟩ := get8 h hl
    have hs := entN_step ho
    cases o with
    | none =>
      have hf := sss_takF ho
      (refine go ?_; intros)
      refine q_round (i + 1) hl (by omega) (by repeat (first | exact trivial | refine ⟨rfl, ?_⟩)) ?_
      rw [hs]
      ((try simp only [List.cons_append, List.nil_append]); repeat (first | exact Ent.nil | (apply Ent.cons; repeat (first | exact Pick.head | apply Pick.tail))))
    | some x =>
      obtain ⟨p, z⟩ := x
      have hf := sss_takT ho
      have hg := sss_has ho
      have he := ent_at ho
      have hk : entN L i < ((entF 0 L).map entV).length := by rw [List.length_map]; exact (List.getElem?_eq_some_iff.1 he).1
      have Y := hY (entN L i) hk
      have e2 : ((entF 0 L).map entV)[entN L i] = [.int .i64 (i : Int), ptr p] := by
        rw [List.getElem_map, (List.getElem?_eq_some_iff.1 he).2]; rfl
      rw [e2] at Y
      (refine go ?_; intros)
      (show wpO _ _ ⟨_, .call _, _, _, _, _⟩ _ _ _ _ _ _; refine o_callYA (Y) (fun yb _ => ?_); try simp only [List.cons_append, List.nil_append])
      cases yb with
      | true =>
        (refine go ?_; intros)
        refine q_round (i + 1) hl (by omega) (by repeat (first | exact trivial | refine ⟨rfl, ?_⟩)) ?_
        rw [hs]
        ((try simp only [List.cons_append, List.nil_append]); repeat (first | exact Ent.nil | (apply Ent.cons; repeat (first | exact Pick.head | apply Pick.tail))))
      | false =>
        (refine go ?_; intros)
        exact q_ret0 rfl false rfl trivial (by ((try simp only [List.cons_append, List.nil_append]); repeat (first | exact Ent.nil | (apply Ent.cons; repeat (first | exact Pick.head | apply Pick.tail))))) _ (.inl rfl)
  · obtain rfl : i = 8 := by omega
    have e := entN_len L
    rw [h] at e
    (refine go ?_; intros)
    exact q_ret0 rfl true rfl trivial (by rw [e]; ((try simp only [List.cons_append, List.nil_append]); repeat (first | exact Ent.nil | (apply Ent.cons; repeat (first | exact Pick.head | apply Pick.tail))))) _ (.inr rfl)
def takeN (L : List Slot) (k : Nat) : List Int := ((entF 0 L).take k).map fun e => (e.1 : Int)
theorem takeN_all (L : List Slot) : takeN L ((entF 0 L).map entV).length = takenL L := by unfold takeN takenL; rw [List.length_map, List.take_length]
theorem entF_len8 {L : List Slot} (h : L.length = 8) : (entF 0 L).length ≤ 8 := by rw [entF_len]; have := List.length_filter_le Option.isSome L; omega
theorem takeN_len (L : List Slot) (k : Nat) (h : k ≤ (entF 0 L).length) : (takeN L k).length = k := by unfold takeN; rw [List.length_map, List.length_take]; omega
theorem takeN_snoc (L : List Slot) (k : Nat) (h : k < (entF 0 L).length) : takeN L (k + 1) = takeN L k ++ [((entF 0 L)[k].1 : Int)] := by
  unfold takeN
  rw [List.take_succ_eq_append_getElem h, List.map_append]; rfl
theorem sss_all (t : Nat) (L : List Slot) (h : L.length = 8) : FnDoes Tryd.prog 10 [ptr t] [sssC t L] (fun _ : Value => True) (fun v => v) (fun v => [sssC t L, intsI v (takenL L)]) := by
  have h8 := entF_len8 h
  refine does_ofM Tryd.func10 rfl rfl Tryd.ntmps10 rfl (by simp only [enum, Nat.reduceAdd, Nat.zero_add]; exact rfl) (fun c hrnd hds => ?_)
  (refine go ?_; intros)
  (show wpO _ _ ⟨_, .call _, _, _, _, _⟩ _ _ _ _ _ _; refine o_callA (sss_noneF t L h) (fun _ _ => ?_); try simp only [List.cons_append, List.nil_append])
  (refine go ?_; intro c3)
  (show wpO _ _ ⟨_, .call _, _, _, _, _⟩ _ _ _ _ _ _; refine o_callA (sss_each t) (fun b _ => ?_); try simp only [List.cons_append, List.nil_append])
  (refine go ?_; intros)
  refine wpC_rangeFunc (ps := [9, 10]) (σ := Unit) (R := []) (fun _ _ => True) (fun k _ => [(3, ptr c3), (4, .int .i64 (((entF 0 L)[k]?.getD (0, 0)).1 : Nat))]) (fun k _ => [exI (σ := Value) (fun _ => True) (fun v => [pts c3 (.cells [v].toArray 31 (0, 0)), intsI v (takeN L k)])])
    (fun k => [exI (σ := Value) (fun _ => True) (fun v => [pts c3 (.cells [v].toArray 31 (0, 0)), intsI v (takeN L k)])]) (fun _ => [exI (σ := Unit) (fun _ => False) (fun _ => [])]) hrnd (each_seq b t L h) rfl rfl ?_ ?_ ?_ ?_ ?_ ?_
  · intro e he; obtain ⟨x, _, rfl⟩ := List.mem_map.1 he; rfl
  · refine Ent.cons (by repeat (first | exact Pick.head | apply Pick.tail)) (Ent.cons (by repeat (first | exact Pick.head | apply Pick.tail)) (Ent.fold (σ := Value) (.slice none 0 0) trivial (Ent.cons (by repeat (first | exact Pick.head | apply Pick.tail)) (Ent.slNil Ent.nil))))
  · intro l c' hr' hd' k hk
    simp only [List.getElem_map]
    have hk' : k < (entF 0 L).length := by simpa using hk
    rw [List.getElem?_eq_getElem hk']
    simp only [Option.getD_some]
    (refine go ?_; intros)
    exact q_mid () trivial (by repeat (first | exact trivial | refine ⟨rfl, ?_⟩)) (by ((try simp only [List.cons_append, List.nil_append]); repeat (first | exact Ent.nil | (apply Ent.cons; repeat (first | exact Pick.head | apply Pick.tail)))))
  · intro l c' hr' hd' k hk _ _
    have hk' : k < (entF 0 L).length := by simpa using hk
    have hlen := takeN_len L k (by omega)
    rw [List.getElem?_eq_getElem hk']
    simp only [Option.getD_some]
    refine wpC_unfold .head (fun v _ => ?_)
    simp only [List.cons_append, List.nil_append]
    refine wpC_fact (sl_one (v := v) (by repeat (first | exact Pick.head | apply Pick.tail))) (fun hw => ?_)
    (refine go ?_; intro bb)
    refine o_append (sz := 1) (news := [.int .i64 ((entF 0 L)[k].1 : Int)]) (m := 1) rfl rfl rfl rfl rfl rfl rfl rfl (by repeat (first | exact Pick.head | apply Pick.tail)) ?_ ?_ rfl (fun w' => ?_)
    · exact src_pts rfl (by repeat (first | exact Pick.head | apply Pick.tail)) rfl rfl rfl
    · show (_ + 1) * 8 ≤ 140737488355328
      omega
    rw [intsI_snoc, ← takeN_snoc L k hk']
    refine wpE_fact (sl_one (v := w') (by repeat (first | exact Pick.head | apply Pick.tail))) (fun hw' => ?_)
    (refine go ?_; intros)
    exact q_round1 (Ent.fold (σ := Value) w' trivial (by ((try simp only [List.cons_append, List.nil_append]); repeat (first | exact Ent.nil | (apply Ent.cons; repeat (first | exact Pick.head | apply Pick.tail))))))
  · intro D
    simp only [List.cons_append, List.nil_append]
    refine q_block_normal ?_
    refine q_then ?_
    refine wpC_unfold (.tail (.tail (.tail .head))) (fun v _ => ?_)
    simp only [List.cons_append, List.nil_append]
    refine wpC_fact (sl_one (v := v) (by repeat (first | exact Pick.head | apply Pick.tail))) (fun hw => ?_)
    rw [takeN_all]
    (refine go ?_; intros)
    exact qm_ret1 hds (by repeat (first | exact Pick.head | apply Pick.tail)) (.inl rfl) (q_ret1 rfl rfl v rfl trivial (by ((try simp only [List.cons_append, List.nil_append]); repeat (first | exact Ent.nil | (apply Ent.cons; repeat (first | exact Pick.head | apply Pick.tail))))))
  · intro D j
    exact q_falseP (.tail (.tail (.tail .head))) (fun _ hh => hh)
theorem sss_len (t : Nat) (L : List Slot) (h : L.length = 8) : FnDoes Tryd.prog 15 [ptr t] [sssC t L] (fun _ : Unit => True) (fun _ => .int .i64 (takenL L).length) (fun _ => [sssC t L]) := by
  refine does_of Tryd.func15 rfl rfl Tryd.ntmps15 rfl (by simp only [enum, Nat.reduceAdd, Nat.zero_add]; exact rfl) (fun c => ?_)
  (refine go ?_; intros)
  (show wpO _ _ ⟨_, .call _, _, _, _, _⟩ _ _ _ _ _ _; refine o_callA (sss_all t L h) (fun v _ => ?_); try simp only [List.cons_append, List.nil_append])
  (refine go ?_; intros)
  exact q_ret1 rfl rfl () rfl trivial (by ((try simp only [List.cons_append, List.nil_append]); repeat (first | exact Ent.nil | (apply Ent.cons; repeat (first | exact Pick.head | apply Pick.tail)))))
theorem sss_allN : FnDoes Tryd.prog 10 [.pointer none] [] (fun _ : Unit => True) (fun _ => .slice none 0 0) (fun _ => []) := by
  refine does_ofM Tryd.func10 rfl rfl Tryd.ntmps10 rfl (by simp only [enum, Nat.reduceAdd, Nat.zero_add]; exact rfl) (fun c hrnd hds => ?_)
  (refine go ?_; intros)
  (show wpO _ _ ⟨_, .call _, _, _, _, _⟩ _ _ _ _ _ _; refine o_callA (sss_noneN) (fun _ _ => ?_); try simp only [List.cons_append, List.nil_append])
  (refine go ?_; intros)
  exact qm_ret0 hds (.inl rfl) (q_ret1 rfl rfl () rfl trivial Ent.nil)
theorem sss_allZ (t : Nat) : FnDoes Tryd.prog 10 [ptr t] [zssC t] (fun _ : Unit => True) (fun _ => .slice none 0 0) (fun _ => [zssC t]) := by
  refine does_ofM Tryd.func10 rfl rfl Tryd.ntmps10 rfl (by simp only [enum, Nat.reduceAdd, Nat.zero_add]; exact rfl) (fun c hrnd hds => ?_)
  (refine go ?_; intros)
  (show wpO _ _ ⟨_, .call _, _, _, _, _⟩ _ _ _ _ _ _; refine o_callA (sss_noneZ t) (fun _ _ => ?_); try simp only [List.cons_append, List.nil_append])
  (refine go ?_; intros)
  exact qm_ret0 hds (.inl rfl) (q_ret1 rfl rfl () rfl trivial (by ((try simp only [List.cons_append, List.nil_append]); repeat (first | exact Ent.nil | (apply Ent.cons; repeat (first | exact Pick.head | apply Pick.tail))))))
theorem sss_lenN : FnDoes Tryd.prog 15 [.pointer none] [] (fun _ : Unit => True) (fun _ => .int .i64 0) (fun _ => []) := by
  refine does_of Tryd.func15 rfl rfl Tryd.ntmps15 rfl (by simp only [enum, Nat.reduceAdd, Nat.zero_add]; exact rfl) (fun c => ?_)
  (refine go ?_; intros)
  (show wpO _ _ ⟨_, .call _, _, _, _, _⟩ _ _ _ _ _ _; refine o_callA (sss_allN) (fun _ _ => ?_); try simp only [List.cons_append, List.nil_append])
  (refine go ?_; intros)
  exact q_ret1 rfl rfl () rfl trivial Ent.nil
theorem sss_lenZ (t : Nat) : FnDoes Tryd.prog 15 [ptr t] [zssC t] (fun _ : Unit => True) (fun _ => .int .i64 0) (fun _ => [zssC t]) := by
  refine does_of Tryd.func15 rfl rfl Tryd.ntmps15 rfl (by simp only [enum, Nat.reduceAdd, Nat.zero_add]; exact rfl) (fun c => ?_)
  (refine go ?_; intros)
  (show wpO _ _ ⟨_, .call _, _, _, _, _⟩ _ _ _ _ _ _; refine o_callA (sss_allZ t) (fun _ _ => ?_); try simp only [List.cons_append, List.nil_append])
  (refine go ?_; intros)
  exact q_ret1 rfl rfl () rfl trivial (by ((try simp only [List.cons_append, List.nil_append]); repeat (first | exact Ent.nil | (apply Ent.cons; repeat (first | exact Pick.head | apply Pick.tail)))))
/-- None of the first k taken ones is the client's. -/
def noneK (L : List Slot) (cl : ByteArray) (k : Nat) : Prop := ∀ j (hj : j < (entF 0 L).length), j < k → ∀ o, L[(entF 0 L)[j].1]? = some o → isC cl o = false
theorem noneK_all {L : List Slot} {cl : ByteArray} (h : noneK L cl (entF 0 L).length) : findL L cl = L.length := findL_no fun j o ho => by
  cases o with
  | none => rfl
  | some x =>
    obtain ⟨p, z⟩ := x
    have he := ent_at ho
    obtain ⟨hk, e⟩ := List.getElem?_eq_some_iff.1 he
    exact h _ hk hk _ (by rw [e]; exact ho)
theorem noneK_at {L : List Slot} {cl : ByteArray} {k : Nat} (hk : k < (entF 0 L).length) {z : Ses} (h : noneK L cl k) (e : L[(entF 0 L)[k].1]? = some (some ((entF 0 L)[k].2, z))) (hc : z.client = cl) : findL L cl = (entF 0 L)[k].1 := by
  refine findL_is e (by simp [isC, hc]) (fun j hj o ho => ?_)
  cases o with
  | none => rfl
  | some x =>
    obtain ⟨p, y⟩ := x
    have he := ent_at ho
    obtain ⟨hk', e'⟩ := List.getElem?_eq_some_iff.1 he
    have hkk : entN L (entF 0 L)[k].1 = k := by
      obtain ⟨_, _, e3⟩ := ent_of (List.getElem?_eq_getElem hk); exact e3
    have hlt : entN L j < k := by
      have h1 := entN_mono L (i := j + 1) (j := (entF 0 L)[k].1) hj
      rw [entN_step ho] at h1
      simp at h1
      omega
    exact h _ hk' hlt _ (by rw [e']; exact ho)
theorem noneK_step {L : List Slot} {cl : ByteArray} {k : Nat} (hk : k < (entF 0 L).length) {z : Ses} (h : noneK L cl k) (e : L[(entF 0 L)[k].1]? = some (some ((entF 0 L)[k].2, z))) (hc : z.client ≠ cl) : noneK L cl (k + 1) := fun j hj hjk o ho => by
  rcases Nat.lt_or_ge j k with g | g
  · exact h j hj g o ho
  · obtain rfl : j = k := by omega
    rw [e] at ho; cases ho
    simpa [isC] using hc
set_option maxHeartbeats 1000000 in
theorem sss_find (t : Nat) (L : List Slot) (h : L.length = 8) (cl : ByteArray) : FnDoes Tryd.prog 12 [ptr t, .string cl] [sssC t L, sssS L] (fun _ : Unit => True) (fun _ => if findL L cl < 8 then .tuple #[.int .i64 (findL L cl), .bool true] else .tuple #[.int .i64 0, .bool false]) (fun _ => [sssC t L, sssS L]) := by
  have h8 := entF_len8 h
  refine does_ofM Tryd.func12 rfl rfl Tryd.ntmps12 rfl (by simp only [enum, Nat.reduceAdd, Nat.zero_add]; exact rfl) (fun c hrnd hds => ?_)
  (refine go ?_; intro c3 c4 c5)
  (show wpO _ _ ⟨_, .call _, _, _, _, _⟩ _ _ _ _ _ _; refine o_callA (sss_noneF t L h) (fun _ _ => ?_); try simp only [List.cons_append, List.nil_append])
  (refine go ?_; intros)
  (show wpO _ _ ⟨_, .call _, _, _, _, _⟩ _ _ _ _ _ _; refine o_callA (sss_each t) (fun b _ => ?_); try simp only [List.cons_append, List.nil_append])
  (refine go ?_; intros)
  refine wpC_rangeFunc (ps := [12, 13]) (σ := Unit) (R := []) (fun _ _ => True) (fun k _ => [(3, ptr c3), (4, ptr c4), (5, ptr c5), (6, .int .i64 (((entF 0 L)[k]?.getD (0, 0)).1 : Nat)), (7, ptr ((entF 0 L)[k]?.getD (0, 0)).2)])
    (fun k _ => [exI (σ := Unit) (fun _ => noneK L cl k) (fun _ => [pts c3 (.cells [.string cl].toArray 9 (0, 0)), pts c4 (.cells [.int .i64 0].toArray 3 (0, 0)), pts c5 (.cells [.bool false].toArray 4 (0, 0)), sssS L])])
    (fun k => [exI (σ := Unit) (fun _ => noneK L cl k) (fun _ => [pts c3 (.cells [.string cl].toArray 9 (0, 0)), pts c4 (.cells [.int .i64 0].toArray 3 (0, 0)), pts c5 (.cells [.bool false].toArray 4 (0, 0)), sssS L])])
    (fun j => [exI (σ := Unit) (fun _ => j = none ∧ findL L cl < 8) (fun _ => [pts c4 (.cells [.int .i64 (findL L cl)].toArray 3 (0, 0)), pts c5 (.cells [.bool true].toArray 4 (0, 0)), sssS L])]) hrnd (each_seq b t L h) rfl rfl ?_ ?_ ?_ ?_ ?_ ?_
  · intro e he; obtain ⟨x, _, rfl⟩ := List.mem_map.1 he; rfl
  · refine Ent.cons (by repeat (first | exact Pick.head | apply Pick.tail)) (Ent.cons (by repeat (first | exact Pick.head | apply Pick.tail)) (Ent.fold (σ := Unit) () (fun j hj hk => by omega) (by ((try simp only [List.cons_append, List.nil_append]); repeat (first | exact Ent.nil | (apply Ent.cons; repeat (first | exact Pick.head | apply Pick.tail)))))))
  · intro l c' hr' hd' k hk
    simp only [List.getElem_map]
    have hk' : k < (entF 0 L).length := by simpa using hk
    rw [List.getElem?_eq_getElem hk']
    simp only [Option.getD_some]
    (refine go ?_; intros)
    exact q_mid () trivial (by repeat (first | exact trivial | refine ⟨rfl, ?_⟩)) (by ((try simp only [List.cons_append, List.nil_append]); repeat (first | exact Ent.nil | (apply Ent.cons; repeat (first | exact Pick.head | apply Pick.tail)))))
  · intro l c' hr' hd' k hk _ _
    have hk' : k < (entF 0 L).length := by simpa using hk
    rw [List.getElem?_eq_getElem hk']
    simp only [Option.getD_some]
    obtain ⟨z, hz, hn⟩ := ent_of (List.getElem?_eq_getElem hk')
    refine wpC_unfold .head (fun _ hno => ?_)
    simp only [List.cons_append, List.nil_append]
    refine wpC_ent (sss_out hz (.tail (.tail (.tail .head)))) ?_
    (refine go ?_; intros)
    refine wpC_drawnA [pts c3 (.cells [.string cl].toArray 9 (0, 0))] 3 ?_
    ((first | refine dt 0 ?_ | refine dts 0 ?_); (first | refine dt 2 ?_ | refine dts 2 ?_))
    (refine dcall 1 (ses_client (entF 0 L)[k].2 z) (fun _ _ => ?_); try simp only [List.cons_append, List.nil_append])
    by_cases hc : z.client = cl
    · (refine dl ?_)
      (refine go ?_; intros)
      have hf := noneK_at hk' hno hz hc
      have hlt : (entF 0 L)[k].1 < 8 := by have := (List.getElem?_eq_some_iff.1 hz).1; omega
      exact q_roundX none (Ent.fold (σ := Unit) () ⟨rfl, by omega⟩ (by rw [hf]; exact Ent.cons (by repeat (first | exact Pick.head | apply Pick.tail)) (Ent.cons (by repeat (first | exact Pick.head | apply Pick.tail)) (sss_in1 hz (by repeat (first | exact Pick.head | apply Pick.tail)) (by repeat (first | exact Pick.head | apply Pick.tail))))))
    · (refine dl ?_)
      (refine go ?_; intros)
      exact q_round1 (Ent.fold (σ := Unit) () (noneK_step hk' hno hz hc) (Ent.cons (by repeat (first | exact Pick.head | apply Pick.tail)) (Ent.cons (by repeat (first | exact Pick.head | apply Pick.tail)) (Ent.cons (by repeat (first | exact Pick.head | apply Pick.tail)) (sss_in1 hz (by repeat (first | exact Pick.head | apply Pick.tail)) (by repeat (first | exact Pick.head | apply Pick.tail)))))))
  · intro D
    simp only [List.cons_append, List.nil_append]
    refine q_block_normal ?_
    refine q_then ?_
    refine wpC_unfold (.tail (.tail (.tail .head))) (fun _ hno => ?_)
    simp only [List.cons_append, List.nil_append]
    rw [List.length_map] at hno
    have e := noneK_all hno
    rw [e, h]
    (refine go ?_; intros)
    exact qm_ret1 hds (by repeat (first | exact Pick.head | apply Pick.tail)) (.inl rfl) (q_ret2cc rfl rfl rfl rfl rfl rfl rfl (by repeat (first | exact Pick.head | apply Pick.tail)) (by repeat (first | exact Pick.head | apply Pick.tail)) () rfl trivial (by ((try simp only [List.cons_append, List.nil_append]); repeat (first | exact Ent.nil | (apply Ent.cons; repeat (first | exact Pick.head | apply Pick.tail))))))
  · intro D j
    cases j with
    | some id => exact q_falseP (.tail (.tail (.tail .head))) (fun _ hh => by cases hh.1)
    | none =>
      simp only [List.cons_append, List.nil_append]
      refine q_block_ret ?_
      refine q_then_ret ?_
      refine q_unfoldP (.tail (.tail (.tail .head))) (fun _ hh => ?_)
      simp only [List.cons_append, List.nil_append]
      rw [if_pos hh.2]
      exact qm_ret1 hds (by repeat (first | exact Pick.head | apply Pick.tail)) (.inl rfl) (q_ret2cc rfl rfl rfl rfl rfl rfl rfl (by repeat (first | exact Pick.head | apply Pick.tail)) (by repeat (first | exact Pick.head | apply Pick.tail)) () rfl trivial (by ((try simp only [List.cons_append, List.nil_append]); repeat (first | exact Ent.nil | (apply Ent.cons; repeat (first | exact Pick.head | apply Pick.tail))))))
end Go.Proofs.YtmlcikcdegodaaaDoor
set_option linter.unusedSimpArgs false
set_option linter.unusedVariables false
set_option maxRecDepth 20000
namespace Go.Proofs.YtmlcikcdegodaaaDoor
open Go Go.Sx
attribute [local irreducible] MidQ wpE wpO wpC qE wpQ wpQO wpH wpHO wpD wpDO wpZ Ev own emp exI sl ch PostS LoopQ Rd rowsAt
theorem sss_openS {L : List Slot} {i s : Nat} {z : Ses} {M R R' : List HProp} (h : L[i]? = some none) (pk : Pick M (sesI s z) R) (qk : Pick R (sssS L) R') : Ent M (sssS (L.set i (some (s, z))) :: R') := by
  have hi := (List.getElem?_eq_some_iff.1 h).1
  have h1 : Ent (sssS L :: R') (emp :: sssR L i :: R') := Ent.starOut (by rw [List.getElem?_map, h]; rfl)
  have h2 : Ent M (sesI s z :: sssS L :: R') := Ent.cons pk (Ent.pick qk)
  have h3 : Ent (sesI s z :: sssS L :: R') (sesI s z :: sssR L i :: R') := Ent.cons .head (Ent.trans h1 (Ent.trans (Ent.pick (.tail .head)) (Ent.cons .head (Ent.cons_tail))))
  exact Ent.trans h2 (Ent.trans h3 (sss_inS hi .head .head))
theorem sss_replace {L : List Slot} {i s p : Nat} {z y : Ses} {M R R' : List HProp} (h : L[i]? = some (some (p, y))) (pk : Pick M (sesI s z) R) (qk : Pick R (sssS L) R') : Ent M (sssS (L.set i (some (s, z))) :: R') := by
  have hi := (List.getElem?_eq_some_iff.1 h).1
  have h2 : Ent M (sesI s z :: sssS L :: R') := Ent.cons pk (Ent.pick qk)
  have h3 : Ent (sesI s z :: sssS L :: R') (sesI s z :: sssR L i :: R') := Ent.cons .head (Ent.trans (sss_out h .head) Ent.cons_tail)
  exact Ent.trans h2 (Ent.trans h3 (sss_inS hi .head .head))
set_option maxHeartbeats 2000000 in
theorem sss_open (H : PHeap) (V : ValidIn H) (t : Nat) (L : List Slot) (h : L.length = 8) (cl : ByteArray) (cn : Bool) : FnDoes Tryd.prog 9 [ptr t, .string cl, .bool cn] [own H, sssC t L, sssS L] (fun _ : Nat => True)
    (fun s => .tuple #[.int .i64 (openR (newB cl) L cl cn s).i, .bool (openR (newB cl) L cl cn s).b, .int .i64 (openR (newB cl) L cl cn s).e]) (fun s => [own H, sssC t (openR (newB cl) L cl cn s).L, sssS (openR (newB cl) L cl cn s).L]) := by
  refine does_of Tryd.func9 rfl rfl Tryd.ntmps9 rfl (by simp only [enum, Nat.reduceAdd, Nat.zero_add]; exact rfl) (fun c => ?_)
  rcases hn : newB cl with _ | _
  · have e : ∀ s, openR false L cl cn s = ⟨0, false, 1, L⟩ := fun s => by unfold openR; rw [if_pos rfl]
    simp only [e]
    (refine go ?_; intros)
    (show wpO _ _ ⟨_, .call _, _, _, _, _⟩ _ _ _ _ _ _; refine o_callA (sss_noneF t L h) (fun _ _ => ?_); try simp only [List.cons_append, List.nil_append])
    (refine go ?_; intros)
    (show wpO _ _ ⟨_, .call _, _, _, _, _⟩ _ _ _ _ _ _; refine o_callA (ses_newF H V cl cn hn) (fun _ _ => ?_); try simp only [List.cons_append, List.nil_append])
    (refine go ?_; intros)
    exact q_ret3 rfl rfl rfl rfl 0 rfl trivial (by ((try simp only [List.cons_append, List.nil_append]); repeat (first | exact Ent.nil | (apply Ent.cons; repeat (first | exact Pick.head | apply Pick.tail)))))
  · by_cases hf : findL L cl < 8
    · have F := sss_find t L h cl
      obtain ⟨p, z, hz, hc⟩ := findL_at (L := L) (c := cl) (by omega)
      have ec : cleanAt L (findL L cl) = z.clean := by unfold cleanAt; rw [hz]
      have hg := sss_has hz
      simp only [hf, if_true] at F
      by_cases hcc : cn = false ∧ z.clean = false
      · have e : ∀ s, openR true L cl cn s = ⟨findL L cl, true, 0, L⟩ := fun s => by unfold openR; rw [if_neg (by simp), if_pos hf, if_pos (by rw [ec]; exact hcc)]
        obtain ⟨rfl, hcz⟩ := hcc
        simp only [e]
        (refine go ?_; intros)
        (show wpO _ _ ⟨_, .call _, _, _, _, _⟩ _ _ _ _ _ _; refine o_callA (sss_noneF t L h) (fun _ _ => ?_); try simp only [List.cons_append, List.nil_append])
        (refine go ?_; intros)
        (show wpO _ _ ⟨_, .call _, _, _, _, _⟩ _ _ _ _ _ _; refine o_callA (ses_newT H V cl false hn) (fun s _ => ?_); try simp only [List.cons_append, List.nil_append])
        (refine go ?_; intros)
        (show wpO _ _ ⟨_, .call _, _, _, _, _⟩ _ _ _ _ _ _; refine o_callA (F) (fun _ _ => ?_); try simp only [List.cons_append, List.nil_append])
        (refine go ?_; intros)
        refine wpO_ent (sss_out hz (by repeat (first | exact Pick.head | apply Pick.tail))) ?_
        (show wpO _ _ ⟨_, .call _, _, _, _, _⟩ _ _ _ _ _ _; refine o_callA (ses_clean p z) (fun _ _ => ?_); try simp only [List.cons_append, List.nil_append])
        rw [hcz]
        (refine go ?_; intros)
        refine q_ret3 rfl rfl rfl rfl 0 rfl trivial ?_
        exact Ent.cons (by repeat (first | exact Pick.head | apply Pick.tail)) (Ent.cons (by repeat (first | exact Pick.head | apply Pick.tail)) (sss_in1 hz (by repeat (first | exact Pick.head | apply Pick.tail)) (by repeat (first | exact Pick.head | apply Pick.tail))))
      · have e : ∀ s, openR true L cl cn s = ⟨findL L cl, false, 0, L.set (findL L cl) (some (s, newZ cl cn))⟩ := fun s => by unfold openR; rw [if_neg (by simp), if_pos hf, if_neg (by rw [ec]; exact hcc)]
        simp only [e]
        cases cn with
        | true =>
          (refine go ?_; intros)
          (show wpO _ _ ⟨_, .call _, _, _, _, _⟩ _ _ _ _ _ _; refine o_callA (sss_noneF t L h) (fun _ _ => ?_); try simp only [List.cons_append, List.nil_append])
          (refine go ?_; intros)
          (show wpO _ _ ⟨_, .call _, _, _, _, _⟩ _ _ _ _ _ _; refine o_callA (ses_newT H V cl true hn) (fun s _ => ?_); try simp only [List.cons_append, List.nil_append])
          (refine go ?_; intros)
          (show wpO _ _ ⟨_, .call _, _, _, _, _⟩ _ _ _ _ _ _; refine o_callA (F) (fun _ _ => ?_); try simp only [List.cons_append, List.nil_append])
          (refine go ?_; intros)
          (show wpO _ _ ⟨_, .call _, _, _, _, _⟩ _ _ _ _ _ _; refine o_callA (place_put t L (findL L cl) s (newZ cl true) (by omega)) (fun _ _ => ?_); try simp only [List.cons_append, List.nil_append])
          (refine go ?_; intros)
          exact q_ret3 rfl rfl rfl rfl s rfl trivial (Ent.cons (by repeat (first | exact Pick.head | apply Pick.tail)) (Ent.cons (by repeat (first | exact Pick.head | apply Pick.tail)) (Ent.trans (sss_replace hz (by repeat (first | exact Pick.head | apply Pick.tail)) (by repeat (first | exact Pick.head | apply Pick.tail))) (Ent.cons .head Ent.nil))))
        | false =>
          have hcz : z.clean = true := by
            rcases hzc : z.clean with _ | _
            · exact absurd ⟨rfl, hzc⟩ hcc
            · rfl
          (refine go ?_; intros)
          (show wpO _ _ ⟨_, .call _, _, _, _, _⟩ _ _ _ _ _ _; refine o_callA (sss_noneF t L h) (fun _ _ => ?_); try simp only [List.cons_append, List.nil_append])
          (refine go ?_; intros)
          (show wpO _ _ ⟨_, .call _, _, _, _, _⟩ _ _ _ _ _ _; refine o_callA (ses_newT H V cl false hn) (fun s _ => ?_); try simp only [List.cons_append, List.nil_append])
          (refine go ?_; intros)
          (show wpO _ _ ⟨_, .call _, _, _, _, _⟩ _ _ _ _ _ _; refine o_callA (F) (fun _ _ => ?_); try simp only [List.cons_append, List.nil_append])
          (refine go ?_; intros)
          refine wpO_ent (sss_out hz (by repeat (first | exact Pick.head | apply Pick.tail))) ?_
          (show wpO _ _ ⟨_, .call _, _, _, _, _⟩ _ _ _ _ _ _; refine o_callA (ses_clean p z) (fun _ _ => ?_); try simp only [List.cons_append, List.nil_append])
          rw [hcz]
          (refine go ?_; intros)
          (show wpO _ _ ⟨_, .call _, _, _, _, _⟩ _ _ _ _ _ _; refine o_callA (place_put t L (findL L cl) s (newZ cl false) (by omega)) (fun _ _ => ?_); try simp only [List.cons_append, List.nil_append])
          (refine go ?_; intros)
          refine q_ret3 rfl rfl rfl rfl s rfl trivial ?_
          exact Ent.cons (by repeat (first | exact Pick.head | apply Pick.tail)) (Ent.cons (by repeat (first | exact Pick.head | apply Pick.tail)) (Ent.trans (Ent.cons (A := sesI s (newZ cl false)) (by repeat (first | exact Pick.head | apply Pick.tail)) (sss_in hz (by repeat (first | exact Pick.head | apply Pick.tail)) (by repeat (first | exact Pick.head | apply Pick.tail)))) (Ent.trans (sss_replace hz .head .head) (Ent.cons .head Ent.nil))))
    · have F := sss_find t L h cl
      have G := sss_free t L h
      simp only [hf, if_false] at F
      by_cases hr : freeL L < 8
      · have hz := freeL_at (L := L) (by omega)
        have e : ∀ s, openR true L cl cn s = ⟨freeL L, false, 0, L.set (freeL L) (some (s, newZ cl cn))⟩ := fun s => by unfold openR; rw [if_neg (by simp), if_neg hf, if_pos hr]
        simp only [e]
        simp only [hr, if_true] at G
        (refine go ?_; intros)
        (show wpO _ _ ⟨_, .call _, _, _, _, _⟩ _ _ _ _ _ _; refine o_callA (sss_noneF t L h) (fun _ _ => ?_); try simp only [List.cons_append, List.nil_append])
        (refine go ?_; intros)
        (show wpO _ _ ⟨_, .call _, _, _, _, _⟩ _ _ _ _ _ _; refine o_callA (ses_newT H V cl cn hn) (fun s _ => ?_); try simp only [List.cons_append, List.nil_append])
        (refine go ?_; intros)
        (show wpO _ _ ⟨_, .call _, _, _, _, _⟩ _ _ _ _ _ _; refine o_callA (F) (fun _ _ => ?_); try simp only [List.cons_append, List.nil_append])
        (refine go ?_; intros)
        (show wpO _ _ ⟨_, .call _, _, _, _, _⟩ _ _ _ _ _ _; refine o_callA (G) (fun _ _ => ?_); try simp only [List.cons_append, List.nil_append])
        (refine go ?_; intros)
        (show wpO _ _ ⟨_, .call _, _, _, _, _⟩ _ _ _ _ _ _; refine o_callA (place_put t L (freeL L) s (newZ cl cn) (by omega)) (fun _ _ => ?_); try simp only [List.cons_append, List.nil_append])
        (refine go ?_; intros)
        exact q_ret3 rfl rfl rfl rfl s rfl trivial (Ent.cons (by repeat (first | exact Pick.head | apply Pick.tail)) (Ent.cons (by repeat (first | exact Pick.head | apply Pick.tail)) (Ent.trans (sss_openS hz (by repeat (first | exact Pick.head | apply Pick.tail)) (by repeat (first | exact Pick.head | apply Pick.tail))) (Ent.cons .head Ent.nil))))
      · have e : ∀ s, openR true L cl cn s = ⟨0, false, 6, L⟩ := fun s => by unfold openR; rw [if_neg (by simp), if_neg hf, if_neg hr]
        simp only [e]
        simp only [hr, if_false] at G
        (refine go ?_; intros)
        (show wpO _ _ ⟨_, .call _, _, _, _, _⟩ _ _ _ _ _ _; refine o_callA (sss_noneF t L h) (fun _ _ => ?_); try simp only [List.cons_append, List.nil_append])
        (refine go ?_; intros)
        (show wpO _ _ ⟨_, .call _, _, _, _, _⟩ _ _ _ _ _ _; refine o_callA (ses_newT H V cl cn hn) (fun s _ => ?_); try simp only [List.cons_append, List.nil_append])
        (refine go ?_; intros)
        (show wpO _ _ ⟨_, .call _, _, _, _, _⟩ _ _ _ _ _ _; refine o_callA (F) (fun _ _ => ?_); try simp only [List.cons_append, List.nil_append])
        (refine go ?_; intros)
        (show wpO _ _ ⟨_, .call _, _, _, _, _⟩ _ _ _ _ _ _; refine o_callA (G) (fun _ _ => ?_); try simp only [List.cons_append, List.nil_append])
        (refine go ?_; intros)
        exact q_ret3 rfl rfl rfl rfl s rfl trivial (by ((try simp only [List.cons_append, List.nil_append]); repeat (first | exact Ent.nil | (apply Ent.cons; repeat (first | exact Pick.head | apply Pick.tail)))))
end Go.Proofs.YtmlcikcdegodaaaDoor
