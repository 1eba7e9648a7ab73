/-
  The package ids: its keeper behind heap.Interface, and its functions.
-/
import Derived.Test.YtmlcikcdegodaaaDoorIdsA
set_option linter.unusedSimpArgs false
set_option linter.unusedVariables false
set_option maxRecDepth 20000
namespace Go.Proofs.YtmlcikcdegodaaaDoor
open Go Go.Sx
theorem sep_cell {p : Nat} {T : TypeId} {f : Nat × Nat} {v : Value} {R : List HProp} (h : PHeap) (s : sepL (pts p (.cells [v].toArray T f) :: R) h) : h.cell? ⟨p, 0, none⟩ = some v := by
  obtain ⟨h1, h2, a, _, _, l, _⟩ := s
  have e : h p = some (.cells [v].toArray T f) := l p _ (by rw [show h1 = single p (.cells [v].toArray T f) from a]; simp [single])
  simp [PHeap.cell?, e]
theorem backOps (p : Nat) : HeapOps 144 (ptr p) ltI (backI p) where
  len l := InvDoes.unfold (fun v _ => InvDoes.loaded (e := 145) (d := .slice 3) (back_len p v l) (by decide +kernel) rfl rfl (fun h s => sep_cell h s))
  less l i j hi hj := InvDoes.unfold (fun v _ => InvDoes.loaded (e := 145) (d := .slice 3) (back_less p v l i j hi hj) (by decide +kernel) rfl rfl (fun h s => sep_cell h s))
  swap l i j hi hj := InvDoes.unfold (fun v _ => InvDoes.loaded (e := 145) (d := .slice 3) (back_swap p v l i j hi hj) (by decide +kernel) rfl rfl (fun h s => sep_cell h s))
theorem back_popInv (p : Nat) (l : List Int) (n : Nat) (hn : l.length = n + 1) (hl : l.length ≤ 1000000) : InvDoes Tryd.prog 144 (ptr p) "Pop" [] [backI p l] (fun _ : Unit => True) (fun _ => .iface 3 (.int .i64 (nth l n))) (fun _ => [backI p (l.take n)]) := by
  have h := back_pop p l (by omega) hl
  rw [show l.length - 1 = n by omega] at h
  exact InvDoes.direct h (by decide +kernel)
attribute [local irreducible] MidQ wpE wpO wpC qE wpQ wpQO wpH wpHO wpD wpDO wpZ Ev own emp exI sl ch PostS LoopQ Rd rowsAt
abbrev idsC (d : Nat) (most next : Int) (p q : Nat) : HProp := pts d (.cells [.int .i64 most, .int .i64 next, ptr p, .map (some q)].toArray 148 (0, 0))
theorem ids_none (d : Nat) (most next : Int) (p q : Nat) : FnDoes Tryd.prog 60 [ptr d] [idsC d most next p q] (fun _ : Unit => True) (fun _ => .bool false) (fun _ => [idsC d most next p q]) := by
  refine does_of Tryd.func60 rfl rfl Tryd.ntmps60 rfl (by simp only [enum, Nat.reduceAdd, Nat.zero_add]; exact rfl) (fun c => ?_)
  (refine go ?_; intros)
  refine q_ret1 rfl rfl () rfl trivial ?_
  exact Ent.refl _
theorem ids_len (d : Nat) (most next : Int) (p q : Nat) (es : List (Int × Int)) : FnDoes Tryd.prog 88 [ptr d] [idsC d most next p q, mapI q es] (fun _ : Unit => True) (fun _ => .int .i64 es.length) (fun _ => [idsC d most next p q, mapI q es]) := by
  refine does_of Tryd.func88 rfl rfl Tryd.ntmps88 rfl (by simp only [enum, Nat.reduceAdd, Nat.zero_add]; exact rfl) (fun c => ?_)
  (refine go ?_; intros)
  (show wpO _ _ ⟨_, .call _, _, _, _, _⟩ _ _ _ _ _ _; refine o_callA (ids_none d most next p q) (fun _ _ => ?_); try simp only [List.cons_append, List.nil_append])
  (refine go ?_; intros)
  refine o_evB (ev_len_map rfl rfl (by repeat (first | exact Pick.head | apply Pick.tail))) ?_
  (refine go ?_; intros)
  refine q_ret1 rfl rfl () rfl trivial ?_
  ((try simp only [List.cons_append, List.nil_append]); repeat (first | exact Ent.nil | (apply Ent.cons; repeat (first | exact Pick.head | apply Pick.tail))))
end Go.Proofs.YtmlcikcdegodaaaDoor
