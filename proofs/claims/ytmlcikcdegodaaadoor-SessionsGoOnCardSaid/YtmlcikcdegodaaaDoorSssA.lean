/-
  The package sessions: its slots; what goes over them; who is looked for.
-/
import Derived.Test.YtmlcikcdegodaaaDoorSssM
import Derived.Test.YtmlcikcdegodaaaDoorSesN
import Derived.Test.YtmlcikcdegodaaaDoorSxP
set_option linter.unusedSimpArgs false
set_option linter.unusedVariables false
set_option maxRecDepth 20000
namespace Go.Proofs.YtmlcikcdegodaaaDoor
open Go Go.Sx
def slotC : Slot → List Value
  | none => [.pointer none, .bool false]
  | some (p, _) => [ptr p, .bool true]
theorem slotC_len (o : Slot) : (slotC o).length = 2 := by cases o <;> rfl
def sssV (L : List Slot) : List Value := L.flatMap slotC ++ [.bool true]
abbrev sssC (t : Nat) (L : List Slot) : HProp := pts t (.cells (sssV L).toArray 44 (0, 0))
def slotI : Slot → HProp
  | none => emp
  | some (p, z) => sesI p z
abbrev sssS (L : List Slot) : HProp := starI (L.map slotI)
theorem sss_made {L : List Slot} (h : L.length = 8) : (sssV L)[16]? = some (.bool true) := by
  unfold sssV
  rw [List.getElem?_append_right (by rw [fm_length slotC_len, h]; omega), fm_length slotC_len, h]
  rfl
theorem sss_taken {L : List Slot} {i : Nat} {o : Slot} (h : L[i]? = some o) : (sssV L)[i * 2 + 1]? = some (.bool o.isSome) := by
  have hi : i < L.length := (List.getElem?_eq_some_iff.1 h).1
  have e : L[i] = o := (List.getElem?_eq_some_iff.1 h).2
  exact fm_cell slotC_len L [.bool true] i hi (j := 1) (u := .bool o.isSome) (by rw [e]; cases o <;> rfl)
theorem sss_takT {L : List Slot} {i p : Nat} {z : Ses} (h : L[i]? = some (some (p, z))) : (sssV L)[i * 2 + 1]? = some (.bool true) := sss_taken h
theorem sss_takF {L : List Slot} {i : Nat} (h : L[i]? = some none) : (sssV L)[i * 2 + 1]? = some (.bool false) := sss_taken h
theorem sss_has {L : List Slot} {i p : Nat} {z : Ses} (h : L[i]? = some (some (p, z))) : (sssV L)[i * 2]? = some (ptr p) := by
  have hi : i < L.length := (List.getElem?_eq_some_iff.1 h).1
  have e : L[i] = some (p, z) := (List.getElem?_eq_some_iff.1 h).2
  have := fm_cell slotC_len L [.bool true] i hi (j := 0) (u := ptr p) (by rw [e]; rfl)
  rw [Nat.add_zero] at this
  exact this
theorem get8 {L : List Slot} (h : L.length = 8) {i : Nat} (hi : i < 8) : ∃ o, L[i]? = some o := ⟨L[i], List.getElem?_eq_getElem (by omega)⟩
attribute [local irreducible] MidQ wpE wpO wpC qE wpQ wpQO wpH wpHO wpD wpDO wpZ Ev own emp exI sl ch PostS LoopQ Rd rowsAt
theorem sss_new : FnDoes Tryd.prog 7 [] [] (fun _ : Nat => True) (fun t => ptr t) (fun t => [sssC t (List.replicate 8 none), sssS (List.replicate 8 none)]) := by
  refine does_of Tryd.func7 rfl rfl Tryd.ntmps7 rfl (by simp only [enum, Nat.reduceAdd, Nat.zero_add]; exact rfl) (fun c => ?_)
  (refine go ?_; intro t)
  exact q_ret1 rfl rfl t rfl trivial (Ent.cons (by repeat (first | exact Pick.head | apply Pick.tail)) (Ent.starEmp (fun A hA => by rw [List.map_replicate] at hA; exact List.eq_of_mem_replicate hA) Ent.nil))
theorem sss_noneF (t : Nat) (L : List Slot) (h : L.length = 8) : FnDoes Tryd.prog 26 [ptr t] [sssC t L] (fun _ : Unit => True) (fun _ => .bool false) (fun _ => [sssC t L]) := by
  have h1 := sss_made h
  refine does_of Tryd.func26 rfl rfl Tryd.ntmps26 rfl (by simp only [enum, Nat.reduceAdd, Nat.zero_add]; exact rfl) (fun c => ?_)
  (refine go ?_; intros)
  exact q_ret1 rfl rfl () rfl trivial (by ((try simp only [List.cons_append, List.nil_append]); repeat (first | exact Ent.nil | (apply Ent.cons; repeat (first | exact Pick.head | apply Pick.tail)))))
/-- Nobody made it: nil, or its zero. -/
theorem sss_noneN : FnDoes Tryd.prog 26 [.pointer none] [] (fun _ : Unit => True) (fun _ => .bool true) (fun _ => []) := by
  refine does_of Tryd.func26 rfl rfl Tryd.ntmps26 rfl (by simp only [enum, Nat.reduceAdd, Nat.zero_add]; exact rfl) (fun c => ?_)
  (refine go ?_; intros)
  exact q_ret1 rfl rfl () rfl trivial Ent.nil
def zeroV : List Value := [.pointer none, .bool false, .pointer none, .bool false, .pointer none, .bool false, .pointer none, .bool false, .pointer none, .bool false, .pointer none, .bool false, .pointer none, .bool false, .pointer none, .bool false, .bool false]
abbrev zssC (t : Nat) : HProp := pts t (.cells zeroV.toArray 44 (0, 0))
theorem sss_noneZ (t : Nat) : FnDoes Tryd.prog 26 [ptr t] [zssC t] (fun _ : Unit => True) (fun _ => .bool true) (fun _ => [zssC t]) := by
  have h1 : zeroV[16]? = some (.bool false) := rfl
  refine does_of Tryd.func26 rfl rfl Tryd.ntmps26 rfl (by simp only [enum, Nat.reduceAdd, Nat.zero_add]; exact rfl) (fun c => ?_)
  (refine go ?_; intros)
  exact q_ret1 rfl rfl () rfl trivial (by ((try simp only [List.cons_append, List.nil_append]); repeat (first | exact Ent.nil | (apply Ent.cons; repeat (first | exact Pick.head | apply Pick.tail)))))
theorem sss_hasT (t : Nat) (L : List Slot) (h : L.length = 8) (i p : Nat) (z : Ses) (e : L[i]? = some (some (p, z))) : FnDoes Tryd.prog 24 [ptr t, .int .i64 i] [sssC t L] (fun _ : Unit => True) (fun _ => .bool true) (fun _ => [sssC t L]) := by
  have hi : i < 8 := by have := (List.getElem?_eq_some_iff.1 e).1; omega
  have h1 := sss_takT e
  refine does_of Tryd.func24 rfl rfl Tryd.ntmps24 rfl (by simp only [enum, Nat.reduceAdd, Nat.zero_add]; exact rfl) (fun c => ?_)
  (refine go ?_; intros)
  (show wpO _ _ ⟨_, .call _, _, _, _, _⟩ _ _ _ _ _ _; refine o_callA (sss_noneF t L h) (fun _ _ => ?_); try simp only [List.cons_append, List.nil_append])
  (refine go ?_; intros)
  exact q_ret1 rfl rfl () rfl trivial (by ((try simp only [List.cons_append, List.nil_append]); repeat (first | exact Ent.nil | (apply Ent.cons; repeat (first | exact Pick.head | apply Pick.tail)))))
theorem sss_hasF (t : Nat) (L : List Slot) (h : L.length = 8) (i : Nat) (e : L[i]? = some none) : FnDoes Tryd.prog 24 [ptr t, .int .i64 i] [sssC t L] (fun _ : Unit => True) (fun _ => .bool false) (fun _ => [sssC t L]) := by
  have hi : i < 8 := by have := (List.getElem?_eq_some_iff.1 e).1; omega
  have h1 := sss_takF e
  refine does_of Tryd.func24 rfl rfl Tryd.ntmps24 rfl (by simp only [enum, Nat.reduceAdd, Nat.zero_add]; exact rfl) (fun c => ?_)
  (refine go ?_; intros)
  (show wpO _ _ ⟨_, .call _, _, _, _, _⟩ _ _ _ _ _ _; refine o_callA (sss_noneF t L h) (fun _ _ => ?_); try simp only [List.cons_append, List.nil_append])
  (refine go ?_; intros)
  exact q_ret1 rfl rfl () rfl trivial (by ((try simp only [List.cons_append, List.nil_append]); repeat (first | exact Ent.nil | (apply Ent.cons; repeat (first | exact Pick.head | apply Pick.tail)))))
theorem sss_hasO (t : Nat) (L : List Slot) (h : L.length = 8) (i : Int) (e : i < 0 ∨ 8 ≤ i) : FnDoes Tryd.prog 24 [ptr t, .int .i64 i] [sssC t L] (fun _ : Unit => True) (fun _ => .bool false) (fun _ => [sssC t L]) := by
  refine does_of Tryd.func24 rfl rfl Tryd.ntmps24 rfl (by simp only [enum, Nat.reduceAdd, Nat.zero_add]; exact rfl) (fun c => ?_)
  by_cases c1 : i < 0
  · (refine go ?_; intros)
    (show wpO _ _ ⟨_, .call _, _, _, _, _⟩ _ _ _ _ _ _; refine o_callA (sss_noneF t L h) (fun _ _ => ?_); try simp only [List.cons_append, List.nil_append])
    (refine go ?_; intros)
    exact q_ret1 rfl rfl () rfl trivial (by ((try simp only [List.cons_append, List.nil_append]); repeat (first | exact Ent.nil | (apply Ent.cons; repeat (first | exact Pick.head | apply Pick.tail)))))
  · have c2 : ¬ i < 8 := by omega
    (refine go ?_; intros)
    (show wpO _ _ ⟨_, .call _, _, _, _, _⟩ _ _ _ _ _ _; refine o_callA (sss_noneF t L h) (fun _ _ => ?_); try simp only [List.cons_append, List.nil_append])
    (refine go ?_; intros)
    exact q_ret1 rfl rfl () rfl trivial (by ((try simp only [List.cons_append, List.nil_append]); repeat (first | exact Ent.nil | (apply Ent.cons; repeat (first | exact Pick.head | apply Pick.tail)))))
theorem sss_hasN (i : Int) : FnDoes Tryd.prog 24 [.pointer none, .int .i64 i] [] (fun _ : Unit => True) (fun _ => .bool false) (fun _ => []) := by
  refine does_of Tryd.func24 rfl rfl Tryd.ntmps24 rfl (by simp only [enum, Nat.reduceAdd, Nat.zero_add]; exact rfl) (fun c => ?_)
  (refine go ?_; intros)
  (show wpO _ _ ⟨_, .call _, _, _, _, _⟩ _ _ _ _ _ _; refine o_callA (sss_noneN) (fun _ _ => ?_); try simp only [List.cons_append, List.nil_append])
  (refine go ?_; intros)
  exact q_ret1 rfl rfl () rfl trivial Ent.nil
theorem sss_hasZ (t : Nat) (i : Int) : FnDoes Tryd.prog 24 [ptr t, .int .i64 i] [zssC t] (fun _ : Unit => True) (fun _ => .bool false) (fun _ => [zssC t]) := by
  refine does_of Tryd.func24 rfl rfl Tryd.ntmps24 rfl (by simp only [enum, Nat.reduceAdd, Nat.zero_add]; exact rfl) (fun c => ?_)
  (refine go ?_; intros)
  (show wpO _ _ ⟨_, .call _, _, _, _, _⟩ _ _ _ _ _ _; refine o_callA (sss_noneZ t) (fun _ _ => ?_); try simp only [List.cons_append, List.nil_append])
  (refine go ?_; intros)
  exact q_ret1 rfl rfl () rfl trivial (by ((try simp only [List.cons_append, List.nil_append]); repeat (first | exact Ent.nil | (apply Ent.cons; repeat (first | exact Pick.head | apply Pick.tail)))))
theorem sss_atT (t : Nat) (L : List Slot) (h : L.length = 8) (i p : Nat) (z : Ses) (e : L[i]? = some (some (p, z))) : FnDoes Tryd.prog 11 [ptr t, .int .i64 i] [sssC t L] (fun _ : Unit => True) (fun _ => ptr p) (fun _ => [sssC t L]) := by
  have hi : i < 8 := by have := (List.getElem?_eq_some_iff.1 e).1; omega
  have h1 := sss_has e
  refine does_of Tryd.func11 rfl rfl Tryd.ntmps11 rfl (by simp only [enum, Nat.reduceAdd, Nat.zero_add]; exact rfl) (fun c => ?_)
  (refine go ?_; intros)
  (show wpO _ _ ⟨_, .call _, _, _, _, _⟩ _ _ _ _ _ _; refine o_callA (sss_hasT t L h i p z e) (fun _ _ => ?_); try simp only [List.cons_append, List.nil_append])
  (refine go ?_; intros)
  exact q_ret1 rfl rfl () rfl trivial (by ((try simp only [List.cons_append, List.nil_append]); repeat (first | exact Ent.nil | (apply Ent.cons; repeat (first | exact Pick.head | apply Pick.tail)))))
theorem sss_atF (t : Nat) (L : List Slot) (h : L.length = 8) (i : Nat) (e : L[i]? = some none) : FnDoes Tryd.prog 11 [ptr t, .int .i64 i] [sssC t L] (fun _ : Unit => True) (fun _ => .pointer none) (fun _ => [sssC t L]) := by
  refine does_of Tryd.func11 rfl rfl Tryd.ntmps11 rfl (by simp only [enum, Nat.reduceAdd, Nat.zero_add]; exact rfl) (fun c => ?_)
  (refine go ?_; intros)
  (show wpO _ _ ⟨_, .call _, _, _, _, _⟩ _ _ _ _ _ _; refine o_callA (sss_hasF t L h i e) (fun _ _ => ?_); try simp only [List.cons_append, List.nil_append])
  (refine go ?_; intros)
  exact q_ret1 rfl rfl () rfl trivial (by ((try simp only [List.cons_append, List.nil_append]); repeat (first | exact Ent.nil | (apply Ent.cons; repeat (first | exact Pick.head | apply Pick.tail)))))
theorem sss_atN (i : Int) : FnDoes Tryd.prog 11 [.pointer none, .int .i64 i] [] (fun _ : Unit => True) (fun _ => .pointer none) (fun _ => []) := by
  refine does_of Tryd.func11 rfl rfl Tryd.ntmps11 rfl (by simp only [enum, Nat.reduceAdd, Nat.zero_add]; exact rfl) (fun c => ?_)
  (refine go ?_; intros)
  (show wpO _ _ ⟨_, .call _, _, _, _, _⟩ _ _ _ _ _ _; refine o_callA (sss_hasN i) (fun _ _ => ?_); try simp only [List.cons_append, List.nil_append])
  (refine go ?_; intros)
  exact q_ret1 rfl rfl () rfl trivial Ent.nil
theorem sss_atZ (t : Nat) (i : Int) : FnDoes Tryd.prog 11 [ptr t, .int .i64 i] [zssC t] (fun _ : Unit => True) (fun _ => .pointer none) (fun _ => [zssC t]) := by
  refine does_of Tryd.func11 rfl rfl Tryd.ntmps11 rfl (by simp only [enum, Nat.reduceAdd, Nat.zero_add]; exact rfl) (fun c => ?_)
  (refine go ?_; intros)
  (show wpO _ _ ⟨_, .call _, _, _, _, _⟩ _ _ _ _ _ _; refine o_callA (sss_hasZ t i) (fun _ _ => ?_); try simp only [List.cons_append, List.nil_append])
  (refine go ?_; intros)
  exact q_ret1 rfl rfl () rfl trivial (by ((try simp only [List.cons_append, List.nil_append]); repeat (first | exact Ent.nil | (apply Ent.cons; repeat (first | exact Pick.head | apply Pick.tail)))))
theorem set_two {a b : Value} : ∀ {l : List Value} {i : Nat}, i + 1 < l.length → (l.set i a).set (i + 1) b = l.take i ++ [a, b] ++ l.drop (i + 2)
  | x :: y :: r, 0, _ => by simp
  | x :: r, i + 1, h => by
    have := set_two (a := a) (b := b) (l := r) (i := i) (by simpa using h)
    simp only [List.set_cons_succ, List.take_succ_cons, List.drop_succ_cons, List.cons_append, this]
  | [], _, h => by simp at h
  | [x], 0, h => by simp at h
/-- A slot is filled; emptied. -/
theorem set_slot {L : List Slot} {i : Nat} (hi : i < L.length) (o : Slot) {a b : Value} (e : slotC o = [a, b]) : ((sssV L).set (i * 2) a).set (i * 2 + 1) b = sssV (L.set i o) := by
  have hl : (L.flatMap slotC).length = L.length * 2 := fm_length slotC_len L
  unfold sssV
  rw [List.set_append_left _ _ (by rw [hl]; omega), List.set_append_left _ _ (by rw [List.length_set, hl]; omega)]
  congr 1
  clear hl
  induction L generalizing i with
  | nil => simp at hi
  | cons x r ih =>
    have hx := slotC_len x
    match hsx : slotC x, hx with
    | [u, v], _ =>
      cases i with
      | zero => simp [hsx, e]
      | succ i =>
        have := ih (i := i) (by simpa using hi)
        simp only [List.flatMap_cons, hsx, List.cons_append, List.nil_append, List.set_cons_succ]
        rw [show (i + 1) * 2 = i * 2 + 1 + 1 by omega, show i * 2 + 1 + 1 + 1 = (i * 2 + 1) + 1 + 1 by omega]
        simp only [List.set_cons_succ]
        rw [this]
theorem place_put (t : Nat) (L : List Slot) (i p : Nat) (z : Ses) (hi : i < L.length) : FnDoes Tryd.prog 29 [.pointer (some ⟨t, 0 + i * 2, none⟩), ptr p] [sssC t L] (fun _ : Unit => True) (fun _ => .tuple #[]) (fun _ => [sssC t (L.set i (some (p, z)))]) := by
  have hv : (sssV L).length = L.length * 2 + 1 := by unfold sssV; rw [List.length_append, fm_length slotC_len]; rfl
  have e := set_slot hi (some (p, z)) rfl
  have h1 : 0 + i * 2 < (sssV L).length := by rw [hv]; omega
  have h2 : i * 2 < (sssV L).length := by rw [hv]; omega
  have h3 : i * 2 + 1 < ((sssV L).set (i * 2) (ptr p)).length := by rw [List.length_set, hv]; omega
  refine does_of Tryd.func29 rfl rfl Tryd.ntmps29 rfl (by simp only [enum, Nat.reduceAdd, Nat.zero_add]; exact rfl) (fun c => ?_)
  (refine go ?_; intros)
  rw [e]
  exact q_ret0 rfl () rfl trivial (by ((try simp only [List.cons_append, List.nil_append]); repeat (first | exact Ent.nil | (apply Ent.cons; repeat (first | exact Pick.head | apply Pick.tail))))) _ (.inr rfl)
theorem place_clear (t : Nat) (L : List Slot) (i : Nat) (hi : i < L.length) : FnDoes Tryd.prog 25 [.pointer (some ⟨t, 0 + i * 2, none⟩)] [sssC t L] (fun _ : Unit => True) (fun _ => .tuple #[]) (fun _ => [sssC t (L.set i none)]) := by
  have hv : (sssV L).length = L.length * 2 + 1 := by unfold sssV; rw [List.length_append, fm_length slotC_len]; rfl
  have e := set_slot hi none rfl
  refine does_of Tryd.func25 rfl rfl Tryd.ntmps25 rfl (by simp only [enum, Nat.reduceAdd, Nat.zero_add]; exact rfl) (fun c => ?_)
  (refine go ?_; intros)
  refine o_store_part (vs := [.pointer none, .bool false]) rfl rfl rfl rfl rfl rfl (by repeat (first | exact Pick.head | apply Pick.tail)) (by rw [hv]; simp only [List.length_cons, List.length_nil]; omega) (l' := sssV (L.set i none)) ?_ ?_
  · rw [← e, set_two (by rw [hv]; omega)]
    rfl
  (refine go ?_; intros)
  exact q_ret0 rfl () rfl trivial (by ((try simp only [List.cons_append, List.nil_append]); repeat (first | exact Ent.nil | (apply Ent.cons; repeat (first | exact Pick.head | apply Pick.tail))))) _ (.inr rfl)
theorem sss_drop (t : Nat) (L : List Slot) (h : L.length = 8) (i p : Nat) (z : Ses) (e : L[i]? = some (some (p, z))) : FnDoes Tryd.prog 8 [ptr t, .int .i64 i] [sssC t L] (fun _ : Unit => True) (fun _ => .bool true) (fun _ => [sssC t (L.set i none)]) := by
  have hi : i < 8 := by have := (List.getElem?_eq_some_iff.1 e).1; omega
  refine does_of Tryd.func8 rfl rfl Tryd.ntmps8 rfl (by simp only [enum, Nat.reduceAdd, Nat.zero_add]; exact rfl) (fun c => ?_)
  (refine go ?_; intros)
  (show wpO _ _ ⟨_, .call _, _, _, _, _⟩ _ _ _ _ _ _; refine o_callA (sss_hasT t L h i p z e) (fun _ _ => ?_); try simp only [List.cons_append, List.nil_append])
  (refine go ?_; intros)
  (show wpO _ _ ⟨_, .call _, _, _, _, _⟩ _ _ _ _ _ _; refine o_callA (place_clear t L i (by omega)) (fun _ _ => ?_); try simp only [List.cons_append, List.nil_append])
  (refine go ?_; intros)
  exact q_ret1 rfl rfl () rfl trivial (by ((try simp only [List.cons_append, List.nil_append]); repeat (first | exact Ent.nil | (apply Ent.cons; repeat (first | exact Pick.head | apply Pick.tail)))))
theorem sss_dropF (t : Nat) (L : List Slot) (h : L.length = 8) (i : Nat) (e : L[i]? = some none) : FnDoes Tryd.prog 8 [ptr t, .int .i64 i] [sssC t L] (fun _ : Unit => True) (fun _ => .bool false) (fun _ => [sssC t L]) := by
  refine does_of Tryd.func8 rfl rfl Tryd.ntmps8 rfl (by simp only [enum, Nat.reduceAdd, Nat.zero_add]; exact rfl) (fun c => ?_)
  (refine go ?_; intros)
  (show wpO _ _ ⟨_, .call _, _, _, _, _⟩ _ _ _ _ _ _; refine o_callA (sss_hasF t L h i e) (fun _ _ => ?_); try simp only [List.cons_append, List.nil_append])
  (refine go ?_; intros)
  exact q_ret1 rfl rfl () rfl trivial (by ((try simp only [List.cons_append, List.nil_append]); repeat (first | exact Ent.nil | (apply Ent.cons; repeat (first | exact Pick.head | apply Pick.tail)))))
theorem sss_dropO (t : Nat) (L : List Slot) (h : L.length = 8) (i : Int) (e : i < 0 ∨ 8 ≤ i) : FnDoes Tryd.prog 8 [ptr t, .int .i64 i] [sssC t L] (fun _ : Unit => True) (fun _ => .bool false) (fun _ => [sssC t L]) := by
  refine does_of Tryd.func8 rfl rfl Tryd.ntmps8 rfl (by simp only [enum, Nat.reduceAdd, Nat.zero_add]; exact rfl) (fun c => ?_)
  (refine go ?_; intros)
  (show wpO _ _ ⟨_, .call _, _, _, _, _⟩ _ _ _ _ _ _; refine o_callA (sss_hasO t L h i e) (fun _ _ => ?_); try simp only [List.cons_append, List.nil_append])
  (refine go ?_; intros)
  exact q_ret1 rfl rfl () rfl trivial (by ((try simp only [List.cons_append, List.nil_append]); repeat (first | exact Ent.nil | (apply Ent.cons; repeat (first | exact Pick.head | apply Pick.tail)))))
theorem sss_dropN (i : Int) : FnDoes Tryd.prog 8 [.pointer none, .int .i64 i] [] (fun _ : Unit => True) (fun _ => .bool false) (fun _ => []) := by
  refine does_of Tryd.func8 rfl rfl Tryd.ntmps8 rfl (by simp only [enum, Nat.reduceAdd, Nat.zero_add]; exact rfl) (fun c => ?_)
  (refine go ?_; intros)
  (show wpO _ _ ⟨_, .call _, _, _, _, _⟩ _ _ _ _ _ _; refine o_callA (sss_hasN i) (fun _ _ => ?_); try simp only [List.cons_append, List.nil_append])
  (refine go ?_; intros)
  exact q_ret1 rfl rfl () rfl trivial Ent.nil
theorem sss_dropZ (t : Nat) (i : Int) : FnDoes Tryd.prog 8 [ptr t, .int .i64 i] [zssC t] (fun _ : Unit => True) (fun _ => .bool false) (fun _ => [zssC t]) := by
  refine does_of Tryd.func8 rfl rfl Tryd.ntmps8 rfl (by simp only [enum, Nat.reduceAdd, Nat.zero_add]; exact rfl) (fun c => ?_)
  (refine go ?_; intros)
  (show wpO _ _ ⟨_, .call _, _, _, _, _⟩ _ _ _ _ _ _; refine o_callA (sss_hasZ t i) (fun _ _ => ?_); try simp only [List.cons_append, List.nil_append])
  (refine go ?_; intros)
  exact q_ret1 rfl rfl () rfl trivial (by ((try simp only [List.cons_append, List.nil_append]); repeat (first | exact Ent.nil | (apply Ent.cons; repeat (first | exact Pick.head | apply Pick.tail)))))
/-- The least free slot. -/
theorem sss_free (t : Nat) (L : List Slot) (h : L.length = 8) : FnDoes Tryd.prog 28 [ptr t] [sssC t L] (fun _ : Unit => True) (fun _ => if freeL L < 8 then .tuple #[.int .i64 (freeL L), .bool true] else .tuple #[.int .i64 0, .bool false]) (fun _ => [sssC t L]) := by
  refine does_of Tryd.func28 rfl rfl Tryd.ntmps28 rfl (by simp only [enum, Nat.reduceAdd, Nat.zero_add]; exact rfl) (fun c => ?_)
  (refine go ?_; intros)
  refine wpC_loop (σ := Nat) (fun i => i ≤ 8 ∧ ∀ j, j < i → ∀ o, L[j]? = some o → o.isNone = false) (fun i => [(0, ptr t), (5, .int .i64 i)]) (fun _ => [sssC t L]) (fun i => 8 - i) 0 ⟨Nat.zero_le _, fun j hj => by omega⟩ (by repeat (first | exact trivial | refine ⟨rfl, ?_⟩)) (by ((try simp only [List.cons_append, List.nil_append]); repeat (first | exact Ent.nil | (apply Ent.cons; repeat (first | exact Pick.head | apply Pick.tail))))) (fun i hi => ?_)
  obtain ⟨h1, h2⟩ := hi
  by_cases hl : i < 8
  · obtain ⟨o, ho⟩ := get8 h hl
    cases o with
    | none =>
      have hf := sss_takF ho
      have e := freeL_is ho h2
      (refine go ?_; intros)
      rw [e, if_pos hl]
      exact q_ret2 rfl rfl rfl () rfl trivial (by ((try simp only [List.cons_append, List.nil_append]); repeat (first | exact Ent.nil | (apply Ent.cons; repeat (first | exact Pick.head | apply Pick.tail)))))
    | some x =>
      obtain ⟨p, z⟩ := x
      have hf := sss_takT ho
      (refine go ?_; intros)
      refine q_round (i + 1) ⟨by omega, fun j hj o' ho' => ?_⟩ (by omega) (by repeat (first | exact trivial | refine ⟨rfl, ?_⟩)) (by ((try simp only [List.cons_append, List.nil_append]); repeat (first | exact Ent.nil | (apply Ent.cons; repeat (first | exact Pick.head | apply Pick.tail)))))
      rcases Nat.lt_or_ge j i with g | g
      · exact h2 j g o' ho'
      · obtain rfl : j = i := by omega
        rw [ho] at ho'; cases ho'; rfl
  · have e : freeL L = 8 := by
      rw [freeL_no (fun j o ho => h2 j (by have := (List.getElem?_eq_some_iff.1 ho).1; omega) o ho), h]
    (refine go ?_; intros)
    rw [e]
    exact q_ret2 rfl rfl rfl () rfl trivial (by ((try simp only [List.cons_append, List.nil_append]); repeat (first | exact Ent.nil | (apply Ent.cons; repeat (first | exact Pick.head | apply Pick.tail)))))
end Go.Proofs.YtmlcikcdegodaaaDoor
