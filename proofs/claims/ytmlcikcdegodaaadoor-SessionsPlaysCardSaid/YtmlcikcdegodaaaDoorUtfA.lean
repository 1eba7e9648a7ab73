/-
  A text of the protocol: valid, and no rune of it is 0: the program's walk.
-/
import Derived.Lib.ValidLaws
import Derived.Lib.TrimUEq
import Derived.Lib.MapLaws
import Derived.Test.YtmlcikcdegodaaaDoorRows
import Derived.Test.YtmlcikcdegodaaaDoorSxN
set_option linter.unusedSimpArgs false
set_option linter.unusedVariables false
namespace Go.Sx
open Go Go.Conc
/-! ### the plain law -/
open Go.Lib
def rightG : Nat → List UInt8 → Bool
  | 0, _ => true
  | n + 1, l => if l = [] then true else if ((decodeL l).1 = 65533 ∧ (decodeL l).2 = 1) ∨ (decodeL l).1 = 0 then false else rightG n (l.drop (decodeL l).2)
def rightL (l : List UInt8) : Bool := rightG l.length l
theorem rightG_nil : ∀ n, rightG n [] = true
  | 0 => rfl
  | n + 1 => by unfold rightG; rw [if_pos rfl]
theorem rightG_fuel : ∀ (n m : Nat) (l : List UInt8), l.length ≤ n → l.length ≤ m → rightG n l = rightG m l
  | 0, m, l, h, _ => by
    have : l = [] := List.eq_nil_of_length_eq_zero (by omega)
    subst this; rw [rightG_nil, rightG_nil]
  | n + 1, 0, l, _, h => by
    have : l = [] := List.eq_nil_of_length_eq_zero (by omega)
    subst this; rw [rightG_nil, rightG_nil]
  | n + 1, m + 1, l, h1, h2 => by
    unfold rightG
    by_cases hne : l = []
    · rw [if_pos hne, if_pos hne]
    · have hw := decodeL_width l
      have hl : 0 < l.length := List.length_pos_iff.2 hne
      rw [if_neg hne, if_neg hne, rightG_fuel n m (l.drop (decodeL l).2) (by rw [List.length_drop]; omega) (by rw [List.length_drop]; omega)]
theorem rightL_nil : rightL [] = true := rfl
theorem rightL_step (l : List UInt8) (hne : l ≠ []) : rightL l = if ((decodeL l).1 = 65533 ∧ (decodeL l).2 = 1) ∨ (decodeL l).1 = 0 then false else rightL (l.drop (decodeL l).2) := by
  have hl : 0 < l.length := List.length_pos_iff.2 hne
  have hw := decodeL_width l
  obtain ⟨n, hn⟩ : ∃ n, l.length = n + 1 := ⟨l.length - 1, by omega⟩
  conv => lhs; unfold rightL; rw [hn]; unfold rightG
  rw [if_neg hne, rightG_fuel n (l.drop (decodeL l).2).length _ (by rw [List.length_drop]; omega) (Nat.le_refl _)]
  rfl
theorem right_invalid : ∀ (n : Nat) (l : List UInt8), l.length ≤ n → validD l = false → rightL l = false
  | 0, l, h, hv => by
    have : l = [] := List.eq_nil_of_length_eq_zero (by omega)
    subst this; rw [validD_nil] at hv; cases hv
  | n + 1, l, h, hv => by
    by_cases hne : l = []
    · subst hne; rw [validD_nil] at hv; cases hv
    · have hw := decodeL_width l
      have hl : 0 < l.length := List.length_pos_iff.2 hne
      rw [rightL_step l hne]
      rw [validD_step l hne] at hv
      split
      · rfl
      · rename_i c
        rw [if_neg (fun e => c (Or.inl e))] at hv
        exact right_invalid n _ (by rw [List.length_drop]; omega) hv
def rightD (s : ByteArray) : Bool := decide (s.size ≤ 65535) && rightL s.data.toList
theorem size_list (s : ByteArray) : s.data.toList.length = s.size := (Lib.size_eq s).symm
theorem drop_ne {s : ByteArray} {pos : Nat} (h : pos < s.size) : s.data.toList.drop pos ≠ [] := by
  intro e
  have := congrArg List.length e
  rw [List.length_drop, size_list] at this
  simp at this
  omega
theorem drop_end {s : ByteArray} {pos : Nat} (h : s.size ≤ pos) : s.data.toList.drop pos = [] := by
  apply List.eq_nil_of_length_eq_zero
  rw [List.length_drop, size_list]; omega
/-! ### ranges over strings -/
variable {P : Program} {ops : Array Oper} {Q : Exit → Act → World → Prop} {c : Cx} {n : Nat} {L : Env} {M : List HProp} {rest : List Oper}
variable {dst : Option Nat} {ty : TypeId} {pos : String} {after : Array Edge} {g : Option (Nat × Bool)}
theorem o_range {d : Nat} {t : TypeId} {x : Operand} {s : ByteArray} (hx : opnd L x = some (.string s)) (hu : P.underlying t = some .string) (hd : Nat.blt d n = true)
    (h : ∀ b, wpE P ops rest Q c n ((d, .pointer (some ⟨b, 0, none⟩)) :: L) (pts b (.stringIter s 0) :: M)) : wpO P ops ⟨some d, .range t x, ty, pos, after, g⟩ rest Q c n L M :=
  o_val rfl hd fun T w st => ⟨_, { w with heap := w.heap.push (.stringIter s 0) }, _, _, by
    simp [execOp, opnd_eval st.slots hx, Instr.range, run_underlying hu, newObj, Sem.run], HSt.new st.heap _ rfl rfl rfl rfl, rfl, h _⟩
theorem o_next {d b p : Nat} {x : Operand} {s : ByteArray} {R : List HProp} (hx : opnd L x = some (.pointer (some ⟨b, 0, none⟩))) (hp : Pick M (pts b (.stringIter s p)) R) (hl : p < s.size) (hd : Nat.blt d n = true)
    (h : wpE P ops rest Q c n ((d, .tuple #[.bool true, .int .i64 p, .int .i32 (Utf8.decode s p).1]) :: L) (pts b (.stringIter s (p + (Utf8.decode s p).2)) :: R)) : wpO P ops ⟨some d, .next x true, ty, pos, after, g⟩ rest Q c n L M :=
  o_val rfl hd fun T w st => by
    have hk := st.heap.pts hp
    have hb : b < w.heap.size := (Array.getElem?_eq_some_iff.1 hk).1
    refine ⟨_, { w with heap := w.heap.setIfInBounds b (.stringIter s (p + (Utf8.decode s p).2)) }, _, _, ?_, HSt.put hp st.heap (by simp) (by simp [hb]) (fun k hne => by simp [Ne.symm hne]) rfl rfl rfl, rfl, h⟩
    simp [execOp, opnd_eval st.slots hx, Instr.next, getObj, setObj, Sem.run, hk, hl, goInt]
theorem o_nextEnd {d b p : Nat} {x : Operand} {s : ByteArray} {R : List HProp} (hx : opnd L x = some (.pointer (some ⟨b, 0, none⟩))) (hp : Pick M (pts b (.stringIter s p)) R) (hl : ¬ p < s.size) (hd : Nat.blt d n = true)
    (h : wpE P ops rest Q c n ((d, .tuple #[.bool false]) :: L) M) : wpO P ops ⟨some d, .next x true, ty, pos, after, g⟩ rest Q c n L M :=
  o_val rfl hd fun T w st => by
    have hk := st.heap.pts hp
    refine ⟨_, w, _, _, ?_, st.heap, rfl, h⟩
    simp [execOp, opnd_eval st.slots hx, Instr.next, getObj, Sem.run, hk, hl]
end Go.Sx
set_option maxRecDepth 20000
namespace Go.Proofs.YtmlcikcdegodaaaDoor
open Go Go.Sx
attribute [local irreducible] MidQ wpE wpO wpC qE wpQ wpQO wpH wpHO wpD wpDO wpZ Ev own emp exI sl ch PostS LoopQ Rd rowsAt
theorem utf_right (H : PHeap) (V : ∀ s : ByteArray, s.size ≤ 65535 → FnDoes Tryd.prog 53 [.string s] [own H] (fun _ : Unit => True) (fun _ => .bool (Lib.validD s.data.toList)) (fun _ => [own H]))
    (s : ByteArray) : FnDoes Tryd.prog 39 [.string s] [own H] (fun _ : Unit => True) (fun _ => .bool (rightD s)) (fun _ => [own H]) := by
  refine does_of Tryd.func39 rfl rfl Tryd.ntmps39 rfl (by simp only [enum, Nat.reduceAdd, Nat.zero_add]; exact rfl) (fun c => ?_)
  by_cases h0 : s.size ≤ 65535
  · have hz : ¬ (s.size : Int) > 65535 := by omega
    (refine go ?_; intros)
    (show wpO _ _ ⟨_, .call _, _, _, _, _⟩ _ _ _ _ _ _; refine o_callA (V s h0) (fun _ _ => ?_); try simp only [List.cons_append, List.nil_append])
    rcases hv : Lib.validD s.data.toList with _ | _
    · have e : rightD s = false := by unfold rightD; rw [right_invalid _ _ (Nat.le_refl _) hv, Bool.and_false]
      (refine go ?_; intros)
      exact q_ret1 rfl rfl () (by rw [e]) trivial (by ((try simp only [List.cons_append, List.nil_append]); repeat (first | exact Ent.nil | (apply Ent.cons; repeat (first | exact Pick.head | apply Pick.tail)))))
    · have e : rightD s = rightL s.data.toList := by unfold rightD; rw [decide_eq_true h0, Bool.true_and]
      rw [e]
      (refine go ?_; intros)
      refine o_range rfl Tryd.underlying9 rfl (fun b => ?_)
      (refine go ?_; intros)
      refine wpC_loop (σ := Nat) (fun p => p ≤ s.size ∧ Lib.validD (s.data.toList.drop p) = true ∧ rightL s.data.toList = rightL (s.data.toList.drop p)) (fun _ => [(14, .pointer (some ⟨b, 0, none⟩))]) (fun p => [own H, pts b (.stringIter s p)]) (fun p => s.size - p) 0 ⟨Nat.zero_le _, hv, rfl⟩ (by repeat (first | exact trivial | refine ⟨rfl, ?_⟩)) (by ((try simp only [List.cons_append, List.nil_append]); repeat (first | exact Ent.nil | (apply Ent.cons; repeat (first | exact Pick.head | apply Pick.tail))))) (fun p hp => ?_)
      obtain ⟨p1, p2, p3⟩ := hp
      by_cases hlt : p < s.size
      · have hne := drop_ne hlt
        have hd := Lib.decodeL_drop s p
        have hw := Lib.decodeL_width (s.data.toList.drop p)
        have hle := Lib.decodeL_le (s.data.toList.drop p) hne
        rw [List.length_drop, size_list] at hle
        rw [Lib.validD_step _ hne] at p2
        rw [rightL_step _ hne] at p3
        rw [hd] at hw hle p2 p3
        have hn : ¬ ((Utf8.decode s p).1 = 65533 ∧ (Utf8.decode s p).2 = 1) := fun c => by rw [if_pos c] at p2; cases p2
        rw [if_neg hn] at p2
        (refine go ?_; intros)
        refine o_next rfl (by repeat (first | exact Pick.head | apply Pick.tail)) hlt rfl ?_
        by_cases hc : (Utf8.decode s p).1 = 0
        · rw [if_pos (Or.inr hc)] at p3
          rw [p3, hc]
          (refine go ?_; intros)
          exact q_ret1 rfl rfl () rfl trivial (by ((try simp only [List.cons_append, List.nil_append]); repeat (first | exact Ent.nil | (apply Ent.cons; repeat (first | exact Pick.head | apply Pick.tail)))))
        · rw [if_neg (fun c => c.elim hn hc), List.drop_drop] at p3
          rw [List.drop_drop] at p2
          have hcz : ((Utf8.decode s p).1 : Int) ≠ 0 := by omega
          (refine go ?_; intros)
          refine q_round (p + (Utf8.decode s p).2) ⟨by omega, p2, p3⟩ (by omega) (by repeat (first | exact trivial | refine ⟨rfl, ?_⟩)) (by ((try simp only [List.cons_append, List.nil_append]); repeat (first | exact Ent.nil | (apply Ent.cons; repeat (first | exact Pick.head | apply Pick.tail)))))
      · rw [drop_end (by omega), rightL_nil] at p3
        rw [p3]
        (refine go ?_; intros)
        refine o_nextEnd rfl (by repeat (first | exact Pick.head | apply Pick.tail)) hlt rfl ?_
        (refine go ?_; intros)
        exact q_ret1 rfl rfl () rfl trivial (by ((try simp only [List.cons_append, List.nil_append]); repeat (first | exact Ent.nil | (apply Ent.cons; repeat (first | exact Pick.head | apply Pick.tail)))))
  · have hz : (s.size : Int) > 65535 := by omega
    have e : rightD s = false := by unfold rightD; rw [decide_eq_false h0, Bool.false_and]
    (refine go ?_; intros)
    exact q_ret1 rfl rfl () (by rw [e]) trivial (by ((try simp only [List.cons_append, List.nil_append]); repeat (first | exact Ent.nil | (apply Ent.cons; repeat (first | exact Pick.head | apply Pick.tail)))))
end Go.Proofs.YtmlcikcdegodaaaDoor
