/-
  The package flight: what is sent, and how it is found.
  The package flight: find; taking one out of a row of pointers.
  The package flight told by the list of what is on its way.
-/
import Derived.Test.YtmlcikcdegodaaaDoorIdQ
import Derived.Test.YtmlcikcdegodaaaDoorPlN
import Derived.Test.YtmlcikcdegodaaaDoorSxN
import Derived.LaidEql
set_option linter.unusedSimpArgs false
set_option linter.unusedVariables false
set_option maxRecDepth 20000
namespace Go.Proofs.YtmlcikcdegodaaaDoor
open Go Go.Sx
def sentI (p : Nat) (s : PSent) : HProp := pts p (.cells (sentC s).toArray 135 (0, 0))
def blks (ps : List Nat) (L : List PSent) : List HProp := List.zipWith sentI ps L
theorem blks_len {ps : List Nat} {L : List PSent} (h : ps.length = L.length) : (blks ps L).length = L.length := by simp [blks, h]
theorem blks_at {ps : List Nat} {L : List PSent} {i : Nat} (hp : i < ps.length) (hL : i < L.length) : (blks ps L)[i]? = some (sentI ps[i] L[i]) := by simp [blks, List.getElem?_zipWith, hp, hL]
theorem blks_set {ps : List Nat} {L : List PSent} {i : Nat} {s : PSent} (hp : i < ps.length) (h : ps.length = L.length) : (blks ps L).set i (sentI ps[i] s) = blks ps (L.set i s) := by
  apply List.ext_getElem?
  intro j
  by_cases c : i = j
  · have hL : i < L.length := by omega
    subst c
    rw [List.getElem?_set_self (by simp [blks]; omega)]
    simp [blks, List.getElem?_zipWith, hp, hL]
  · rw [List.getElem?_set_ne c]
    simp only [blks, List.getElem?_zipWith]
    rw [List.getElem?_set_ne c]
theorem blks_snoc {ps : List Nat} {L : List PSent} {p : Nat} {s : PSent} (h : ps.length = L.length) : blks ps L ++ [sentI p s] = blks (ps ++ [p]) (L ++ [s]) := by
  simp [blks, List.zipWith_append h]
theorem blks_erase {ps : List Nat} {L : List PSent} {i : Nat} (h : ps.length = L.length) : (blks ps L).eraseIdx i = blks (ps.eraseIdx i) (L.eraseIdx i) := by
  apply List.ext_getElem?
  intro j
  simp only [blks, List.getElem?_eraseIdx, List.getElem?_zipWith]
  split <;> rfl
def ptrs (ps : List Nat) : List Value := ps.map ptr
theorem ptrs_len (ps : List Nat) : (ptrs ps).length = ps.length := by simp [ptrs]
theorem ptrs_one (ps : List Nat) : (ptrs ps).all (·.oneCell') = true := by simp [ptrs, ptr, Value.oneCell']
theorem ptrs_at {ps : List Nat} {i : Nat} {junk : List Value} (h : i < ps.length) : (ptrs ps ++ junk)[0 + i * 1]? = some (ptr ps[i]) := by
  rw [List.getElem?_append_left (by rw [ptrs_len]; omega), show 0 + i * 1 = i by omega]; simp [ptrs, h]
abbrev ptrsI (v : Value) (ps : List Nat) : HProp := sl 131 1 v ps.length (ptrs ps)
abbrev fltC (f : Nat) (v : Value) (d : Nat) : HProp := pts f (.cells [v, ptr d].toArray 129 (0, 0))
abbrev ptrsB (b : Nat) (l : List Value) : HProp := pts b (.cells l.toArray 131 (0, 0))
section
variable {P : Program} {c : Cx} {n : Nat} {L : Env} {M : List HProp} {dst : Option Nat} {ty : TypeId} {pos : String} {after : Array Edge} {g : Option (Nat × Bool)}
/-- A load from one of many. -/
theorem ev_load_star {t : TypeId} {x : Operand} {b off i : Nat} {l : List Value} {T' : TypeId} {f : Nat × Nat} {its R : List HProp} {d : TypeDesc} {v : Value} (hx : opnd L x = some (.pointer (some ⟨b, off, none⟩))) (hu : P.underlying t = some d) (ha : aggD d = false)
    (hp : Pick M (starI its) R) (hi : its[i]? = some (pts b (.cells l.toArray T' f))) (hv : l[off]? = some v) : Ev P ⟨dst, .load t x, ty, pos, after, g⟩ c n L M v := fun T w s => by
  have hc : w.cell? ⟨b, off, none⟩ = some v := by rw [cell_pts (HSt.star hp s.heap hi), hv]
  simp only [execOp, opnd_eval s.slots hx, Instr.loadAt, Instr.sureAddr, Sem.run_bind, Sem.run_pure, Result.andThen_ok, run_loadVar_one hu ha hc]
theorem ev_load_star_agg {t : TypeId} {x : Operand} {b off i : Nat} {l vs : List Value} {T' : TypeId} {f : Nat × Nat} {its R : List HProp} {d : TypeDesc} {ti : TypeInfo} (hx : opnd L x = some (.pointer (some ⟨b, off, none⟩))) (hu : P.underlying t = some d) (ha : aggD d = true) (hti : P.info? t = some ti)
    (hp : Pick M (starI its) R) (hi : its[i]? = some (pts b (.cells l.toArray T' f))) (hv : (l.drop off).take ti.size = vs) (hs : vs.length = ti.size) : Ev P ⟨dst, .load t x, ty, pos, after, g⟩ c n L M (.agg vs.toArray) := fun T w s => by
  have hc : ∀ j v, vs[j]? = some v → w.cell? ⟨b, off + j, none⟩ = some v := fun j v e => by
    rw [cell_pts (HSt.star hp s.heap hi)]
    rw [← hv, List.getElem?_take] at e
    split at e
    · simpa using e
    · cases e
  simp only [execOp, opnd_eval s.slots hx, Instr.loadAt, Instr.sureAddr, Sem.run_bind, Sem.run_pure, Result.andThen_ok, run_loadVar_agg hu ha hti hs hc]
/-- Two pointers, held against each other. -/
theorem ev_eq_ptr_same {t t' e : TypeId} {x y : Operand} {a : Addr} {i : TypeInfo} (hx : opnd L x = some (.pointer (some a))) (hy : opnd L y = some (.pointer (some a))) (hu : P.underlying t = some (.pointer e)) (hi : P.info? e = some i) (hz : Nat.beq i.size 0 = false) :
    Ev P ⟨dst, .binOp .eql t x y t', ty, pos, after, g⟩ c n L M (.bool true) := ev_bin hx hy fun w _ => by
  have hz' : i.size ≠ 0 := fun e => by rw [e] at hz; cases hz
  exact run_eqn (r := true) (by rintro _ (rfl | rfl) <;> rfl) rfl rfl (by
    rw [Op.equalIn, Sem.run_bind, run_underlying hu]
    simp [sizeOf, typeInfo, run_program, hi, hz', run_sameAddr_same]) rfl
theorem ev_eq_ptr_other {t t' e : TypeId} {x y : Operand} {b b' : Nat} {i : TypeInfo} {its R : List HProp} {j k : Nat} {l l' : List Value} {T1 T2 : TypeId} (hx : opnd L x = some (.pointer (some ⟨b, 0, none⟩))) (hy : opnd L y = some (.pointer (some ⟨b', 0, none⟩))) (hu : P.underlying t = some (.pointer e)) (hi : P.info? e = some i) (hz : Nat.beq i.size 0 = false)
    (hp : Pick M (starI its) R) (h1 : its[j]? = some (pts b (.cells l.toArray T1 (0, 0)))) (h2 : its[k]? = some (pts b' (.cells l'.toArray T2 (0, 0)))) (hjk : j ≠ k) :
    Ev P ⟨dst, .binOp .eql t x y t', ty, pos, after, g⟩ c n L M (.bool false) := ev_bin hx hy fun w s => by
  have hz' : i.size ≠ 0 := fun e => by rw [e] at hz; cases hz
  have hne : (⟨b, 0, none⟩ : Addr) ≠ ⟨b', 0, none⟩ := fun e => by
    have := HSt.star_ne hp s h1 h2 hjk
    cases e; exact this rfl
  exact run_eqn (r := false) (by rintro _ (rfl | rfl) <;> rfl) rfl rfl (by
    rw [Op.equalIn, Sem.run_bind, run_underlying hu]
    simp [sizeOf, typeInfo, run_program, hi, hz']
    exact run_sameAddr_other _ hne (HSt.star hp s h1) (HSt.star hp s h2)) rfl
end
attribute [local irreducible] MidQ wpE wpO wpC qE wpQ wpQO wpH wpHO wpD wpDO wpZ Ev own emp exI sl ch PostS LoopQ Rd rowsAt
attribute [local irreducible] starI
theorem flt_none (f d : Nat) (v : Value) : FnDoes Tryd.prog 55 [ptr f] [fltC f v d] (fun _ : Unit => True) (fun _ => .bool false) (fun _ => [fltC f v d]) := by
  refine does_of Tryd.func55 rfl rfl Tryd.ntmps55 rfl (by simp only [enum, Nat.reduceAdd, Nat.zero_add]; exact rfl) (fun c => ?_)
  (refine go ?_; intros)
  exact q_ret1 rfl rfl () rfl trivial (Ent.refl _)
end Go.Proofs.YtmlcikcdegodaaaDoor
set_option linter.unusedSimpArgs false
set_option linter.unusedVariables false
set_option maxRecDepth 20000
namespace Go.Proofs.YtmlcikcdegodaaaDoor
open Go Go.Sx
def fptr (ps : List Nat) : Option Nat → Value
  | none => .pointer none
  | some i => ptr (ps.getD i 0)
theorem getD_at {ps : List Nat} {i : Nat} (h : i < ps.length) : ps.getD i 0 = ps[i] := by simp [List.getD, h]
abbrev qC (t q : Nat) : HProp := pts t (.cells [ptr q].toArray 131 (0, 0))
/-- A row whose element i is being moved out, m elements done. -/
def mvd (ps : List Nat) (i m : Nat) : List Nat := (ps.eraseIdx i).take m ++ ps.drop m
theorem er_len {ps : List Nat} {i : Nat} (hi : i < ps.length) : (ps.eraseIdx i).length = ps.length - 1 := by rw [List.length_eraseIdx, if_pos hi]
theorem mvd_len {ps : List Nat} {i m : Nat} (hi : i < ps.length) (hm : m < ps.length) : (mvd ps i m).length = ps.length := by
  have := er_len hi
  simp only [mvd, List.length_append, List.length_take, List.length_drop]; omega
theorem mvd_zero {ps : List Nat} {i : Nat} (hi : i < ps.length) : mvd ps i i = ps := by
  unfold mvd
  rw [List.eraseIdx_eq_take_drop_succ, List.take_append_of_le_length (by simp; omega), List.take_take, Nat.min_self, List.take_append_drop]
theorem mvd_get {ps : List Nat} {i m : Nat} (hi : i < ps.length) (hm : m + 1 < ps.length) : (mvd ps i m)[m + 1]? = some ps[m + 1] := by
  have := er_len hi
  unfold mvd
  rw [List.getElem?_append_right (by simp; omega)]
  simp only [List.length_take, List.getElem?_drop]
  rw [show m + (m + 1 - min m (ps.eraseIdx i).length) = m + 1 by omega, List.getElem?_eq_getElem hm]
theorem mvd_step {ps : List Nat} {i m : Nat} (him : i ≤ m) (hm : m + 1 < ps.length) : (mvd ps i m).set m ps[m + 1] = mvd ps i (m + 1) := by
  have hl := er_len (ps := ps) (i := i) (by omega)
  have h1 : ((ps.eraseIdx i).take m).length = m := by rw [List.length_take]; omega
  unfold mvd
  rw [List.set_append_right _ _ (by omega), h1, Nat.sub_self, List.drop_eq_getElem_cons (by omega : m < ps.length), List.set_cons_zero, List.take_add_one, List.getElem?_eq_getElem (by omega : m < (ps.eraseIdx i).length), List.getElem_eraseIdx, dif_neg (by omega)]
  simp
theorem mvd_end {ps : List Nat} {i n : Nat} (hi : i < ps.length) (hn : ps.length = n + 1) : mvd ps i n = ps.eraseIdx i ++ [ps[n]] := by
  have hl := er_len hi
  unfold mvd
  rw [List.take_of_length_le (by omega), List.drop_eq_getElem_cons (by omega), List.drop_eq_nil_of_le (by omega)]
attribute [local irreducible] MidQ wpE wpO wpC qE wpQ wpQO wpH wpHO wpD wpDO wpZ Ev own emp exI sl ch PostS LoopQ Rd rowsAt
attribute [local irreducible] starI
theorem ptrs_put {l : List Nat} {k q : Nat} {junk : List Value} (h : k < l.length) : (ptrs l ++ junk).set (0 + k * 1) (ptr q) = ptrs (l.set k q) ++ junk := by
  rw [show 0 + k * 1 = k by omega, List.set_append_left _ _ (by rw [ptrs_len]; exact h)]
  simp [ptrs, List.map_set]
end Go.Proofs.YtmlcikcdegodaaaDoor
set_option linter.unusedSimpArgs false
set_option linter.unusedVariables false
set_option maxRecDepth 20000
namespace Go.Proofs.YtmlcikcdegodaaaDoor
open Go Go.Sx
structure FltSt where
  d : Nat
  v : Value
  ps : List Nat
  T : List Bool
def fltI (f : Nat) (L : List PSent) : HProp := exI (σ := FltSt) (fun s => FltInv L s.T ∧ s.ps.length = L.length) fun s => [fltC f s.v s.d, idsI s.d 65535 s.T, ptrsI s.v s.ps, starI (blks s.ps L)]
abbrev sentsI (v : Value) (L : List PSent) : HProp := sl 133 6 v L.length (L.flatMap sentC)
abbrev pktsI (v : Value) (l : List PPkt) : HProp := sl 87 24 v l.length (l.flatMap pktC)
def msgV (m : PMsg) : Value := .agg m.cells.toArray
theorem sentsI_snoc (w : Value) (L : List PSent) (s : PSent) : sl 133 6 w (L.length + 1) (L.flatMap sentC ++ sentC s) = sentsI w (L ++ [s]) := by simp [sentsI]
theorem pktsI_snoc (w : Value) (l : List PPkt) (s : PPkt) : sl 87 24 w (l.length + 1) (l.flatMap pktC ++ pktC s) = pktsI w (l ++ [s]) := by simp [pktsI]
theorem ptrsI_snoc (w : Value) (ps : List Nat) (p : Nat) : sl 131 1 w (ps.length + 1) (ptrs ps ++ [ptr p]) = ptrsI w (ps ++ [p]) := by simp [ptrsI, ptrs]
structure FaSt where
  k : Nat
  w : Value
attribute [local irreducible] MidQ wpE wpO wpC qE wpQ wpQO wpH wpHO wpD wpDO wpZ Ev own emp exI sl ch PostS LoopQ Rd rowsAt
attribute [local irreducible] starI
theorem fltI_mk {f d : Nat} {v : Value} {ps : List Nat} {T : List Bool} {L : List PSent} {M R : List HProp} (I : FltInv L T) (hl : ps.length = L.length) (e : Ent M ([fltC f v d, idsI d 65535 T, ptrsI v ps, starI (blks ps L)] ++ R)) : Ent M (fltI f L :: R) :=
  Ent.fold (⟨d, v, ps, T⟩ : FltSt) ⟨I, hl⟩ e
theorem flt_new : FnDoes Tryd.prog 42 [] [] (fun _ : Nat => True) (fun f => ptr f) (fun f => [fltI f []]) := by
  refine does_of Tryd.func42 rfl rfl Tryd.ntmps42 rfl (by simp only [enum, Nat.reduceAdd, Nat.zero_add]; exact rfl) (fun c => ?_)
  (refine go ?_; intros)
  (show wpO _ _ ⟨_, .call _, _, _, _, _⟩ _ _ _ _ _ _; refine o_callA (ids_newS 65535 (by decide) (by decide)) (fun d _ => ?_); try simp only [List.cons_append, List.nil_append])
  (refine go ?_; intro f)
  (refine go ?_; intros)
  refine q_ret1 rfl rfl f rfl trivial ?_
  exact fltI_mk (v := .slice none 0 0) (ps := []) flt_nil rfl (Ent.cons (by repeat (first | exact Pick.head | apply Pick.tail)) (Ent.cons (by repeat (first | exact Pick.head | apply Pick.tail)) (Ent.slNil (Ent.starNil Ent.nil))))
theorem flt_len (f : Nat) (L : List PSent) : FnDoes Tryd.prog 45 [ptr f] [fltI f L] (fun _ : Unit => True) (fun _ => .int .i64 L.length) (fun _ => [fltI f L]) := by
  refine does_of Tryd.func45 rfl rfl Tryd.ntmps45 rfl (by simp only [enum, Nat.reduceAdd, Nat.zero_add]; exact rfl) (fun c => ?_)
  refine wpC_unfold .head (fun s hs => ?_)
  obtain ⟨d, v, ps, T⟩ := s
  simp only [List.cons_append, List.nil_append] at hs ⊢
  obtain ⟨I, hl⟩ := hs
  (refine go ?_; intros)
  (show wpO _ _ ⟨_, .call _, _, _, _, _⟩ _ _ _ _ _ _; refine o_callA (flt_none f d v) (fun _ _ => ?_); try simp only [List.cons_append, List.nil_append])
  (refine go ?_; intros)
  exact q_ret1 rfl rfl () (by rw [hl]) trivial (fltI_mk I hl (by ((try simp only [List.cons_append, List.nil_append]); repeat (first | exact Ent.nil | (apply Ent.cons; repeat (first | exact Pick.head | apply Pick.tail))))))
theorem flt_send (f : Nat) (L : List PSent) (m : PMsg) : FnDoes Tryd.prog 47 [ptr f, msgV m] [fltI f L] (fun y : SendR => SendOk L m y) (fun y => .tuple #[.int .i64 y.id, .int .i64 y.e]) (fun y => [fltI f y.L]) := by
  refine does_of Tryd.func47 rfl rfl Tryd.ntmps47 rfl (by simp only [enum, Nat.reduceAdd, Nat.zero_add]; exact rfl) (fun c => ?_)
  refine wpC_unfold .head (fun s hs => ?_)
  obtain ⟨d, v, ps, T⟩ := s
  simp only [List.cons_append, List.nil_append] at hs ⊢
  obtain ⟨I, hl⟩ := hs
  have h8 := I.S.len
  by_cases q0 : m.qos < 1 ∨ 2 < m.qos
  · by_cases q1 : m.qos < 1
    all_goals
      (refine go ?_; intro mb)
      (show wpO _ _ ⟨_, .call _, _, _, _, _⟩ _ _ _ _ _ _; refine o_callA (flt_none f d v) (fun _ _ => ?_); try simp only [List.cons_append, List.nil_append])
      (refine go ?_; intros)
      refine q_ret2 rfl rfl rfl ⟨0, 10, L⟩ rfl (by unfold SendOk; rw [if_pos q0]) (fltI_mk I hl (by ((try simp only [List.cons_append, List.nil_append]); repeat (first | exact Ent.nil | (apply Ent.cons; repeat (first | exact Pick.head | apply Pick.tail))))))
  have hq1 : ¬ m.qos < 1 := by omega
  have hq2 : ¬ 2 < m.qos := by omega
  by_cases c8 : 8 ≤ L.length
  · have hc : 8 ≤ (ps.length : Int) := by omega
    (refine go ?_; intro mb)
    (show wpO _ _ ⟨_, .call _, _, _, _, _⟩ _ _ _ _ _ _; refine o_callA (flt_none f d v) (fun _ _ => ?_); try simp only [List.cons_append, List.nil_append])
    (refine go ?_; intros)
    refine q_ret2 rfl rfl rfl ⟨0, 6, L⟩ rfl (by unfold SendOk; rw [if_neg q0, if_pos c8]) (fltI_mk I hl (by ((try simp only [List.cons_append, List.nil_append]); repeat (first | exact Ent.nil | (apply Ent.cons; repeat (first | exact Pick.head | apply Pick.tail))))))
  have hc : ¬ 8 ≤ (ps.length : Int) := by omega
  (refine go ?_; intro mb)
  (show wpO _ _ ⟨_, .call _, _, _, _, _⟩ _ _ _ _ _ _; refine o_callA (flt_none f d v) (fun _ _ => ?_); try simp only [List.cons_append, List.nil_append])
  (refine go ?_; intros)
  (show wpO _ _ ⟨_, .call _, _, _, _, _⟩ _ _ _ _ _ _; refine o_callA (ids_takeS d 65535 T) (fun y hy => ?_); try simp only [List.cons_append, List.nil_append])
  obtain ⟨k, rfl, hk, hk9⟩ := I.free hy
  simp only [Option.getD_some, Option.isSome_some, if_true]
  have hT := I.send (m := m) hk hk9 (by omega) (by omega)
  by_cases hq : m.qos = 2
  · have hst : stOf m = 2 := by simp [stOf, hq]
    rw [hst] at hT
    (refine go ?_; intro p)
    (refine go ?_; intros)
    refine o_append (sz := 1) (news := [ptr p]) (m := 1) rfl rfl rfl rfl rfl rfl rfl rfl (by repeat (first | exact Pick.head | apply Pick.tail)) ?_ ?_ rfl (fun w' => ?_)
    · exact src_pts rfl (by repeat (first | exact Pick.head | apply Pick.tail)) rfl rfl rfl
    · show (ps.length + 1) * 8 ≤ 140737488355328
      omega
    rw [ptrsI_snoc]
    refine wpE_fact (sl_one (v := w') (by repeat (first | exact Pick.head | apply Pick.tail))) (fun hw => ?_)
    (refine go ?_; intros)
    refine q_ret2 rfl rfl rfl ⟨k, 0, L ++ [⟨k, 2, m⟩]⟩ rfl (by unfold SendOk; rw [if_neg q0, if_neg c8, ← hst]; exact ⟨k, hk, rfl⟩) ?_
    refine fltI_mk (d := d) (v := w') (ps := ps ++ [p]) (T := tookT T (some k)) hT (by simp [hl]) ?_
    rw [← blks_snoc hl]
    refine Ent.cons (by repeat (first | exact Pick.head | apply Pick.tail)) (Ent.cons (by repeat (first | exact Pick.head | apply Pick.tail)) (Ent.cons (by repeat (first | exact Pick.head | apply Pick.tail)) ?_))
    exact Ent.trans (N := sentI p ⟨k, 2, m⟩ :: starI (blks ps L) :: []) (by unfold sentI; ((try simp only [List.cons_append, List.nil_append]); repeat (first | exact Ent.nil | (apply Ent.cons; repeat (first | exact Pick.head | apply Pick.tail))))) Ent.starSnoc
  · have hst : stOf m = 1 := by simp [stOf, hq]
    rw [hst] at hT
    (refine go ?_; intro p)
    (refine go ?_; intros)
    refine o_append (sz := 1) (news := [ptr p]) (m := 1) rfl rfl rfl rfl rfl rfl rfl rfl (by repeat (first | exact Pick.head | apply Pick.tail)) ?_ ?_ rfl (fun w' => ?_)
    · exact src_pts rfl (by repeat (first | exact Pick.head | apply Pick.tail)) rfl rfl rfl
    · show (ps.length + 1) * 8 ≤ 140737488355328
      omega
    rw [ptrsI_snoc]
    refine wpE_fact (sl_one (v := w') (by repeat (first | exact Pick.head | apply Pick.tail))) (fun hw => ?_)
    (refine go ?_; intros)
    refine q_ret2 rfl rfl rfl ⟨k, 0, L ++ [⟨k, 1, m⟩]⟩ rfl (by unfold SendOk; rw [if_neg q0, if_neg c8, ← hst]; exact ⟨k, hk, rfl⟩) ?_
    refine fltI_mk (d := d) (v := w') (ps := ps ++ [p]) (T := tookT T (some k)) hT (by simp [hl]) ?_
    rw [← blks_snoc hl]
    refine Ent.cons (by repeat (first | exact Pick.head | apply Pick.tail)) (Ent.cons (by repeat (first | exact Pick.head | apply Pick.tail)) (Ent.cons (by repeat (first | exact Pick.head | apply Pick.tail)) ?_))
    exact Ent.trans (N := sentI p ⟨k, 1, m⟩ :: starI (blks ps L) :: []) (by unfold sentI; ((try simp only [List.cons_append, List.nil_append]); repeat (first | exact Ent.nil | (apply Ent.cons; repeat (first | exact Pick.head | apply Pick.tail))))) Ent.starSnoc
end Go.Proofs.YtmlcikcdegodaaaDoor
