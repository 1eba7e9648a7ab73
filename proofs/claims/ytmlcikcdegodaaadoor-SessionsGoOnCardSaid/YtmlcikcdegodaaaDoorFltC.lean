/-
  The package flight told by the list of what is on its way.
-/
import Derived.Test.YtmlcikcdegodaaaDoorFltB
set_option linter.unusedSimpArgs false
set_option linter.unusedVariables false
set_option maxRecDepth 20000
namespace Go.Proofs.YtmlcikcdegodaaaDoor
open Go Go.Sx
structure FltSt where
  d : Nat
  v : Value
  ps : List Nat
  T : List Bool
def fltI (f : Nat) (L : List PSent) : HProp := exI (σ := FltSt) (fun s => FltInv L s.T ∧ s.ps.length = L.length) fun s => [fltC f s.v s.d, idsI s.d 65535 s.T, ptrsI s.v s.ps, starI (blks s.ps L)]
abbrev sentsI (v : Value) (L : List PSent) : HProp := sl 133 6 v L.length (L.flatMap sentC)
abbrev pktsI (v : Value) (l : List PPkt) : HProp := sl 87 24 v l.length (l.flatMap pktC)
def msgV (m : PMsg) : Value := .agg m.cells.toArray
theorem sentsI_snoc (w : Value) (L : List PSent) (s : PSent) : sl 133 6 w (L.length + 1) (L.flatMap sentC ++ sentC s) = sentsI w (L ++ [s]) := by simp [sentsI]
theorem pktsI_snoc (w : Value) (l : List PPkt) (s : PPkt) : sl 87 24 w (l.length + 1) (l.flatMap pktC ++ pktC s) = pktsI w (l ++ [s]) := by simp [pktsI]
theorem ptrsI_snoc (w : Value) (ps : List Nat) (p : Nat) : sl 131 1 w (ps.length + 1) (ptrs ps ++ [ptr p]) = ptrsI w (ps ++ [p]) := by simp [ptrsI, ptrs]
structure FaSt where
  k : Nat
  w : Value
attribute [local irreducible] MidQ wpE wpO wpC qE wpQ wpQO wpH wpHO wpD wpDO wpZ Ev own emp exI sl ch PostS LoopQ Rd rowsAt
attribute [local irreducible] starI
theorem fltI_mk {f d : Nat} {v : Value} {ps : List Nat} {T : List Bool} {L : List PSent} {M R : List HProp} (I : FltInv L T) (hl : ps.length = L.length) (e : Ent M ([fltC f v d, idsI d 65535 T, ptrsI v ps, starI (blks ps L)] ++ R)) : Ent M (fltI f L :: R) :=
  Ent.fold (⟨d, v, ps, T⟩ : FltSt) ⟨I, hl⟩ e
theorem flt_new : FnDoes Tryd.prog 42 [] [] (fun _ : Nat => True) (fun f => ptr f) (fun f => [fltI f []]) := by
  refine does_of Tryd.func42 rfl rfl Tryd.ntmps42 rfl (by simp only [enum, Nat.reduceAdd, Nat.zero_add]; exact rfl) (fun c => ?_)
  (refine go ?_; intros)
  (show wpO _ _ ⟨_, .call _, _, _, _, _⟩ _ _ _ _ _ _; refine o_callA (ids_newS 65535 (by decide) (by decide)) (fun d _ => ?_); try simp only [List.cons_append, List.nil_append])
  (refine go ?_; intro f)
  (refine go ?_; intros)
  refine q_ret1 rfl rfl f rfl trivial ?_
  exact fltI_mk (v := .slice none 0 0) (ps := []) flt_nil rfl (Ent.cons (by repeat (first | exact Pick.head | apply Pick.tail)) (Ent.cons (by repeat (first | exact Pick.head | apply Pick.tail)) (Ent.slNil (Ent.starNil Ent.nil))))
theorem flt_len (f : Nat) (L : List PSent) : FnDoes Tryd.prog 45 [ptr f] [fltI f L] (fun _ : Unit => True) (fun _ => .int .i64 L.length) (fun _ => [fltI f L]) := by
  refine does_of Tryd.func45 rfl rfl Tryd.ntmps45 rfl (by simp only [enum, Nat.reduceAdd, Nat.zero_add]; exact rfl) (fun c => ?_)
  refine wpC_unfold .head (fun s hs => ?_)
  obtain ⟨d, v, ps, T⟩ := s
  simp only [List.cons_append, List.nil_append] at hs ⊢
  obtain ⟨I, hl⟩ := hs
  (refine go ?_; intros)
  (show wpO _ _ ⟨_, .call _, _, _, _, _⟩ _ _ _ _ _ _; refine o_callA (flt_none f d v) (fun _ _ => ?_); try simp only [List.cons_append, List.nil_append])
  (refine go ?_; intros)
  exact q_ret1 rfl rfl () (by rw [hl]) trivial (fltI_mk I hl (by ((try simp only [List.cons_append, List.nil_append]); repeat (first | exact Ent.nil | (apply Ent.cons; repeat (first | exact Pick.head | apply Pick.tail))))))
theorem flt_send (f : Nat) (L : List PSent) (m : PMsg) : FnDoes Tryd.prog 47 [ptr f, msgV m] [fltI f L] (fun y : SendR => SendOk L m y) (fun y => .tuple #[.int .i64 y.id, .int .i64 y.e]) (fun y => [fltI f y.L]) := by
  refine does_of Tryd.func47 rfl rfl Tryd.ntmps47 rfl (by simp only [enum, Nat.reduceAdd, Nat.zero_add]; exact rfl) (fun c => ?_)
  refine wpC_unfold .head (fun s hs => ?_)
  obtain ⟨d, v, ps, T⟩ := s
  simp only [List.cons_append, List.nil_append] at hs ⊢
  obtain ⟨I, hl⟩ := hs
  have h8 := I.S.len
  by_cases q0 : m.qos < 1 ∨ 2 < m.qos
  · by_cases q1 : m.qos < 1
    all_goals
      (refine go ?_; intro mb)
      (show wpO _ _ ⟨_, .call _, _, _, _, _⟩ _ _ _ _ _ _; refine o_callA (flt_none f d v) (fun _ _ => ?_); try simp only [List.cons_append, List.nil_append])
      (refine go ?_; intros)
      refine q_ret2 rfl rfl rfl ⟨0, 10, L⟩ rfl (by unfold SendOk; rw [if_pos q0]) (fltI_mk I hl (by ((try simp only [List.cons_append, List.nil_append]); repeat (first | exact Ent.nil | (apply Ent.cons; repeat (first | exact Pick.head | apply Pick.tail))))))
  have hq1 : ¬ m.qos < 1 := by omega
  have hq2 : ¬ 2 < m.qos := by omega
  by_cases c8 : 8 ≤ L.length
  · have hc : 8 ≤ (ps.length : Int) := by omega
    (refine go ?_; intro mb)
    (show wpO _ _ ⟨_, .call _, _, _, _, _⟩ _ _ _ _ _ _; refine o_callA (flt_none f d v) (fun _ _ => ?_); try simp only [List.cons_append, List.nil_append])
    (refine go ?_; intros)
    refine q_ret2 rfl rfl rfl ⟨0, 6, L⟩ rfl (by unfold SendOk; rw [if_neg q0, if_pos c8]) (fltI_mk I hl (by ((try simp only [List.cons_append, List.nil_append]); repeat (first | exact Ent.nil | (apply Ent.cons; repeat (first | exact Pick.head | apply Pick.tail))))))
  have hc : ¬ 8 ≤ (ps.length : Int) := by omega
  (refine go ?_; intro mb)
  (show wpO _ _ ⟨_, .call _, _, _, _, _⟩ _ _ _ _ _ _; refine o_callA (flt_none f d v) (fun _ _ => ?_); try simp only [List.cons_append, List.nil_append])
  (refine go ?_; intros)
  (show wpO _ _ ⟨_, .call _, _, _, _, _⟩ _ _ _ _ _ _; refine o_callA (ids_takeS d 65535 T) (fun y hy => ?_); try simp only [List.cons_append, List.nil_append])
  obtain ⟨k, rfl, hk, hk9⟩ := I.free hy
  simp only [Option.getD_some, Option.isSome_some, if_true]
  have hT := I.send (m := m) hk hk9 (by omega) (by omega)
  by_cases hq : m.qos = 2
  · have hst : stOf m = 2 := by simp [stOf, hq]
    rw [hst] at hT
    (refine go ?_; intro p)
    (refine go ?_; intros)
    refine o_append (sz := 1) (news := [ptr p]) (m := 1) rfl rfl rfl rfl rfl rfl rfl rfl (by repeat (first | exact Pick.head | apply Pick.tail)) ?_ ?_ rfl (fun w' => ?_)
    · exact src_pts rfl (by repeat (first | exact Pick.head | apply Pick.tail)) rfl rfl rfl
    · show (ps.length + 1) * 8 ≤ 140737488355328
      omega
    rw [ptrsI_snoc]
    refine wpE_fact (sl_one (v := w') (by repeat (first | exact Pick.head | apply Pick.tail))) (fun hw => ?_)
    (refine go ?_; intros)
    refine q_ret2 rfl rfl rfl ⟨k, 0, L ++ [⟨k, 2, m⟩]⟩ rfl (by unfold SendOk; rw [if_neg q0, if_neg c8, ← hst]; exact ⟨k, hk, rfl⟩) ?_
    refine fltI_mk (d := d) (v := w') (ps := ps ++ [p]) (T := tookT T (some k)) hT (by simp [hl]) ?_
    rw [← blks_snoc hl]
    refine Ent.cons (by repeat (first | exact Pick.head | apply Pick.tail)) (Ent.cons (by repeat (first | exact Pick.head | apply Pick.tail)) (Ent.cons (by repeat (first | exact Pick.head | apply Pick.tail)) ?_))
    exact Ent.trans (N := sentI p ⟨k, 2, m⟩ :: starI (blks ps L) :: []) (by unfold sentI; ((try simp only [List.cons_append, List.nil_append]); repeat (first | exact Ent.nil | (apply Ent.cons; repeat (first | exact Pick.head | apply Pick.tail))))) Ent.starSnoc
  · have hst : stOf m = 1 := by simp [stOf, hq]
    rw [hst] at hT
    (refine go ?_; intro p)
    (refine go ?_; intros)
    refine o_append (sz := 1) (news := [ptr p]) (m := 1) rfl rfl rfl rfl rfl rfl rfl rfl (by repeat (first | exact Pick.head | apply Pick.tail)) ?_ ?_ rfl (fun w' => ?_)
    · exact src_pts rfl (by repeat (first | exact Pick.head | apply Pick.tail)) rfl rfl rfl
    · show (ps.length + 1) * 8 ≤ 140737488355328
      omega
    rw [ptrsI_snoc]
    refine wpE_fact (sl_one (v := w') (by repeat (first | exact Pick.head | apply Pick.tail))) (fun hw => ?_)
    (refine go ?_; intros)
    refine q_ret2 rfl rfl rfl ⟨k, 0, L ++ [⟨k, 1, m⟩]⟩ rfl (by unfold SendOk; rw [if_neg q0, if_neg c8, ← hst]; exact ⟨k, hk, rfl⟩) ?_
    refine fltI_mk (d := d) (v := w') (ps := ps ++ [p]) (T := tookT T (some k)) hT (by simp [hl]) ?_
    rw [← blks_snoc hl]
    refine Ent.cons (by repeat (first | exact Pick.head | apply Pick.tail)) (Ent.cons (by repeat (first | exact Pick.head | apply Pick.tail)) (Ent.cons (by repeat (first | exact Pick.head | apply Pick.tail)) ?_))
    exact Ent.trans (N := sentI p ⟨k, 1, m⟩ :: starI (blks ps L) :: []) (by unfold sentI; ((try simp only [List.cons_append, List.nil_append]); repeat (first | exact Ent.nil | (apply Ent.cons; repeat (first | exact Pick.head | apply Pick.tail))))) Ent.starSnoc
end Go.Proofs.YtmlcikcdegodaaaDoor
