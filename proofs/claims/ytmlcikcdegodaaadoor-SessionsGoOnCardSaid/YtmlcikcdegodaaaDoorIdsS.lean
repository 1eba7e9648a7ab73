/-
  The package ids told by the row of what is taken.
-/
import Derived.Test.YtmlcikcdegodaaaDoorIdsF
import Derived.Test.YtmlcikcdegodaaaDoorSxM
set_option linter.unusedSimpArgs false
set_option linter.unusedVariables false
set_option maxRecDepth 20000
namespace Go.Proofs.YtmlcikcdegodaaaDoor
open Go Go.Sx
structure IdsSt where
  next : Nat
  p : Nat
  q : Nat
  back : List Int
  es : List (Int × Int)
def idsI (d n : Nat) (T : List Bool) : HProp := exI (σ := IdsSt) (fun s => IdsInv n T s.next s.back s.es) fun s => [idsC d n s.next s.p s.q, backI s.p s.back, mapI s.q s.es]
attribute [local irreducible] MidQ wpE wpO wpC qE wpQ wpQO wpH wpHO wpD wpDO wpZ Ev own emp exI sl ch PostS LoopQ Rd rowsAt
theorem idsI_mk {d n : Nat} {T : List Bool} {next p q : Nat} {back : List Int} {es : List (Int × Int)} {M R : List HProp} (I : IdsInv n T next back es) (e : Ent M ([idsC d n next p q, backI p back, mapI q es] ++ R)) : Ent M (idsI d n T :: R) :=
  Ent.fold (⟨next, p, q, back, es⟩ : IdsSt) I e
theorem ids_newS (n : Nat) (h1 : 1 ≤ n) (h2 : n ≤ 65535) : FnDoes Tryd.prog 54 [.int .i64 n] [] (fun _ : Nat => True) (fun d => .tuple #[ptr d, .int .i64 0]) (fun d => [idsI d n (List.replicate (n + 1) false)]) :=
  (ids_new n (by omega) (by omega)).turn (Ent.refl _) fun y _ => ⟨y.1, trivial, rfl, idsI_mk (next := 1) (IdsInv.new h1 h2) (Ent.refl _)⟩
theorem ids_takeS (d n : Nat) (T : List Bool) : FnDoes Tryd.prog 56 [ptr d] [idsI d n T] (fun y : Option Nat => IsFree T y) (fun y => .tuple #[.int .i64 ((y.getD 0 : Nat) : Int), .int .i64 (if y.isSome then 0 else 6)]) (fun y => [idsI d n (tookT T y)]) :=
  FnDoes.unfold (callable Tryd.func56 rfl rfl) fun s I => by
    obtain ⟨next, p, q, back, es⟩ := s
    simp only at I ⊢
    have hsum := I.sum
    have hnx := I.nx
    have hn2 := I.n2
    rcases Nat.eq_zero_or_pos back.length with h0 | h0
    · obtain rfl : back = [] := List.eq_nil_of_length_eq_zero h0
      by_cases hl : next ≤ n
      · obtain ⟨f, I'⟩ := I.step hl
        exact (take_of (es := es) (least_new d n next p q (by omega) (by omega) (by omega))).turn (Ent.refl _) fun _ _ => ⟨some next, f, rfl, idsI_mk (next := next + 1) I' (Ent.refl _)⟩
      · exact (take_full d n next p q es (by omega)).turn (Ent.refl _) fun _ _ => ⟨none, I.full (by omega), rfl, idsI_mk I (Ent.refl _)⟩
    · obtain ⟨k, hv, f, I'⟩ := I.pop h0
      have S := least_back d n next p q back h0 (by omega)
      rw [show popV back = (k : Int) from hv] at S
      exact (take_of (es := es) S).turn (Ent.refl _) fun _ _ => ⟨some k, f, rfl, idsI_mk I' (Ent.refl _)⟩
def giveV (T : List Bool) (id : Int) : Int := if id < 1 ∨ (T.length : Int) ≤ id then 1 else if T.getD id.toNat false then 0 else 7
def gaveT (T : List Bool) (id : Int) : List Bool := if id < 1 ∨ (T.length : Int) ≤ id then T else if T.getD id.toNat false then T.set id.toNat false else T
theorem give_bad {T : List Bool} {id : Int} (h : id < 1 ∨ (T.length : Int) ≤ id) : giveV T id = 1 ∧ gaveT T id = T := by unfold giveV gaveT; rw [if_pos h, if_pos h]; exact ⟨rfl, rfl⟩
theorem give_no {T : List Bool} {k : Nat} (h1 : 1 ≤ k) (h2 : k < T.length) (h : T.getD k false = false) : giveV T k = 7 ∧ gaveT T k = T := by
  have hc : ¬ ((k : Int) < 1 ∨ (T.length : Int) ≤ k) := by omega
  unfold giveV gaveT; rw [if_neg hc, if_neg hc, Int.toNat_natCast, h]; exact ⟨rfl, rfl⟩
theorem give_yes {T : List Bool} {k : Nat} (h1 : 1 ≤ k) (h2 : k < T.length) (h : T.getD k false = true) : giveV T k = 0 ∧ gaveT T k = T.set k false := by
  have hc : ¬ ((k : Int) < 1 ∨ (T.length : Int) ≤ k) := by omega
  unfold giveV gaveT; rw [if_neg hc, if_neg hc, Int.toNat_natCast, h]; exact ⟨rfl, rfl⟩
theorem gaveT_len (T : List Bool) (id : Int) : (gaveT T id).length = T.length := by unfold gaveT; split <;> (try split) <;> simp
theorem tookT_len (T : List Bool) (y : Option Nat) : (tookT T y).length = T.length := by cases y <;> simp [tookT]
theorem ids_lenS (d n : Nat) (T : List Bool) : FnDoes Tryd.prog 88 [ptr d] [idsI d n T] (fun _ : Unit => True) (fun _ => .int .i64 (takenTo T n).length) (fun _ => [idsI d n T]) :=
  FnDoes.unfold (callable Tryd.func88 rfl rfl) fun s I => by
    obtain ⟨next, p, q, back, es⟩ := s
    simp only at I ⊢
    rw [← I.ln]
    exact (ids_len d n next p q es).frame1 (Picks.ent (by repeat (first | exact Picks.nil | (apply Picks.cons; repeat (first | exact Pick.head | apply Pick.tail))))) fun _ _ => idsI_mk I (by ((try simp only [List.cons_append, List.nil_append]); repeat (first | exact Ent.nil | (apply Ent.cons; repeat (first | exact Pick.head | apply Pick.tail)))))
end Go.Proofs.YtmlcikcdegodaaaDoor
