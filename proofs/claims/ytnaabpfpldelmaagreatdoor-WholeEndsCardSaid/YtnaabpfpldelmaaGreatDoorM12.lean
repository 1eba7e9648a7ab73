/-
  Maps of which only the kind of the entries is known; ranges over maps; maps in sight. No program in sight.
  Calls of functions without a body. No program in sight.
  A text of the protocol: valid, and no rune of it is 0: the program's walk.
-/
import Derived.Test.YtnaabpfpldelmaaGreatDoorM11
import Derived.Lib.ValidLaws
import Derived.Lib.TrimUEq
import Derived.Lib.MapLaws
import Derived.Test.YtnaabpfpldelmaaGreatDoorProg
import Derived.Test.YtnaabpfpldelmaaGreatDoorM08
set_option linter.unusedSimpArgs false
set_option linter.unusedVariables false
namespace Go.Sx
open Go Go.Conc
variable {P : Program} {ops : Array Oper} {Q : Exit → Act → World → Prop} {c : Cx} {n : Nat} {L : Env} {M : List HProp} {rest : List Oper} {o : Oper}
variable {ty : TypeId} {pos : String} {after : Array Edge} {g : Option (Nat × Bool)}
abbrev EntP := Value → Value → Prop
def entsOk (Φ : EntP) (l : List MapEntry) : Prop := ∀ e ∈ l, Φ e.key e.val
theorem entsOk.nil {Φ : EntP} : entsOk Φ [] := fun _ h => by cases h
def mapS (b : Nat) (Φ : EntP) (m : Nat) : HProp := fun h => ∃ (l : List MapEntry) (ck : Nat), l.length = m ∧ BornOk l ck ∧ entsOk Φ l ∧ h = single b (.map l.toArray ck)
variable {b m : Nat} {Φ : EntP} {R : List HProp}
theorem mapS_open {w : World} (p : Pick M (mapS b Φ m) R) (s : HSt c M w) : ∃ (l : List MapEntry) (ck : Nat), l.length = m ∧ BornOk l ck ∧ entsOk Φ l ∧ HSt c (mapR b l ck :: R) w := by
  obtain ⟨f, h, m, le, d⟩ := s
  obtain ⟨h1, h2, ⟨l, ck, hl, hB, hE, a⟩, r, dj, l1, l2⟩ := p.sep m
  exact ⟨l, ck, hl, hB, hE, f, h, ⟨h1, h2, a, r, dj, l1, l2⟩, le, d⟩
theorem Ent.mapS {ck : Nat} {l : List MapEntry} (hl : l.length = m) (hB : BornOk l ck) (hE : entsOk Φ l) : Ent (mapR b l ck :: R) (Sx.mapS b Φ m :: R) := fun h x => by
  obtain ⟨h1, h2, a, r', dj, l1, l2⟩ := x
  exact ⟨h1, h2, ⟨l, ck, hl, hB, hE, a⟩, r', dj, l1, l2⟩
theorem wpC_mapS {code : Code} (h : ∀ l ck, l.length = m → BornOk l ck → entsOk Φ l → wpC P code Q c n L (mapR b l ck :: R)) (hp : Pick M (mapS b Φ m) R := by (repeat (first | exact Pick.head | apply Pick.tail))) : wpC P code Q c n L M := fun T w s => by
  obtain ⟨l, ck, hl, hB, hE, hs⟩ := mapS_open hp s.heap
  exact h l ck hl hB hE T w ⟨s.size, s.slots, hs⟩
theorem o_makeMapR {d : Nat} {t : TypeId} (h : ∀ b, wpE P ops rest Q c n ((d, .map (some b)) :: L) (mapR b [] 0 :: M)) (hd : Nat.blt d n = true := by rfl) : wpO P ops ⟨some d, .makeMap t none, ty, pos, after, g⟩ rest Q c n L M :=
  o_val rfl hd fun T w s => ⟨_, w.alloc (.map #[] 0), _, _, by
    simp [execOp, Instr.makeMap, newObj, Sem.run], HSt.new s.heap (.map #[] 0) rfl rfl rfl rfl, rfl, h _⟩
theorem o_makeMapS {d : Nat} {t : TypeId} (Φ : EntP) (h : ∀ b, wpE P ops rest Q c n ((d, .map (some b)) :: L) (mapS b Φ 0 :: M)) (hd : Nat.blt d n = true := by rfl) : wpO P ops ⟨some d, .makeMap t none, ty, pos, after, g⟩ rest Q c n L M :=
  o_val rfl hd fun T w s => ⟨_, w.alloc (.map #[] 0), _, _, by
    simp [execOp, Instr.makeMap, newObj, Sem.run], HSt.ent (Ent.mapS (l := []) rfl (bornOk_nil 0) entsOk.nil) (HSt.new s.heap (.map #[] 0) rfl rfl rfl rfl), rfl, h _⟩
theorem ev_lenR {dst : Option Nat} {t kt et : TypeId} {x : Operand} {l : List MapEntry} {ck : Nat} (hx : opnd L x = some (.map (some b))) (hu : P.underlying t = some (.map kt et)) (hp : Pick M (mapR b l ck) R) :
    Ev P ⟨dst, .call { callee := .builtin .len, args := #[x], argTypes := #[t] }, ty, pos, after, g⟩ c n L M (.int .i64 l.length) := fun T w s => by
  have hg : (getObj b).run P w = .ok (.map l.toArray ck) w := by simp [getObj, Sem.run, s.heap.pts hp]
  simp [execOp, resolve, invoke, builtin, opnd_eval s.slots hx, Builtin.len_, run_underlying hu, hg, goInt]
theorem ev_lenS {dst : Option Nat} {t kt et : TypeId} {x : Operand} (hx : opnd L x = some (.map (some b))) (hu : P.underlying t = some (.map kt et)) (hp : Pick M (mapS b Φ m) R) :
    Ev P ⟨dst, .call { callee := .builtin .len, args := #[x], argTypes := #[t] }, ty, pos, after, g⟩ c n L M (.int .i64 m) := fun T w s => by
  obtain ⟨l, ck, hl, hB, hE, hs⟩ := mapS_open hp s.heap
  have hg : (getObj b).run P w = .ok (.map l.toArray ck) w := by simp [getObj, Sem.run, hs.pts .head]
  simp [execOp, resolve, invoke, builtin, opnd_eval s.slots hx, Builtin.len_, run_underlying hu, hg, goInt, hl]
theorem run_checkKey_kind {kd : IntKind} {kt : TypeId} {k : Int} {b : Bool} {w : World} (hk : P.underlying kt = some (.int kd)) : (Instr.checkKey b 10000 kt (.int kd k)).run P w = .ok () w := by
  rw [Instr.checkKey, Sem.run_bind, run_underlying hk]; rfl
def keysOf (kd : IntKind) (Φ : EntP) : Prop := ∀ k v, Φ k v → ∃ a, k = .int kd a
theorem findNow_kind {kd : IntKind} {k : Int} : ∀ {l : List MapEntry} {i : Nat}, (∀ e ∈ l, ∃ a, e.key = .int kd a) →
    Instr.findNow (.int kd) (.int kd k) l i = some none ∨ ∃ j e, i ≤ j ∧ l[j - i]? = some e ∧ e.key = .int kd k ∧ Instr.findNow (.int kd) (.int kd k) l i = some (some (j, e.val))
  | [], i, _ => .inl rfl
  | e :: l, i, h => by
    obtain ⟨a, ha⟩ := h e (List.mem_cons_self ..)
    unfold Instr.findNow
    rw [ha]
    by_cases c : k = a
    · subst c
      exact .inr ⟨i, e, Nat.le_refl _, by rw [Nat.sub_self]; rfl, ha, by simp [Instr.sameNow]⟩
    · have c' : (k == a) = false := by simpa using c
      simp only [Instr.sameNow, if_true, c']
      rcases findNow_kind (k := k) (l := l) (i := i + 1) (fun x hx => h x (List.mem_cons_of_mem _ hx)) with h0 | ⟨j, x, h1, h2, h3, h4⟩
      · exact .inl h0
      · refine .inr ⟨j, x, by omega, ?_, h3, h4⟩
        obtain ⟨q, rfl⟩ : ∃ q, j = i + 1 + q := ⟨j - (i + 1), by omega⟩
        rw [show i + 1 + q - (i + 1) = q from by omega] at h2
        rw [show i + 1 + q - i = q + 1 from by omega]
        exact h2
section
variable {t kt et : TypeId} {x y z : Operand} {k : Int} {kd : IntKind} {i : TypeInfo} {zv : Value}
theorem run_findKey_kind {l : List MapEntry} {w : World} (hk : P.underlying kt = some (.int kd)) (h : ∀ e ∈ l, ∃ a, e.key = .int kd a) :
    (Instr.findKey kt (.int kd k) l).run P w = .ok none w ∨ ∃ (j : Nat) (e : MapEntry), l[j]? = some e ∧ e.key = .int kd k ∧ (Instr.findKey kt (.int kd k) l).run P w = .ok (some (j, e.val)) w := by
  rcases findNow_kind (k := k) (i := 0) h with h0 | ⟨j, e, h1, h2, h3, h4⟩
  · exact .inl (by simp only [Instr.findKey, Sem.run_bind, run_underlying hk, Result.andThen_ok, h0, Sem.run_pure])
  · exact .inr ⟨j, e, h2, h3, by simp only [Instr.findKey, Sem.run_bind, run_underlying hk, Result.andThen_ok, h4, Sem.run_pure]⟩
theorem o_lookupOkS {d : Nat} (hΦ : keysOf kd Φ) (hx : opnd L x = some (.map (some b))) (hy : opnd L y = some (.int kd k)) (hu : P.underlying t = some (.map kt et)) (hk : P.underlying kt = some (.int kd)) (hi : P.info? et = some i) (hz : i.zero = some zv) (hp : Pick M (mapS b Φ m) R)
    (h : ∀ v ok, (ok = false ∧ v = zv) ∨ (ok = true ∧ Φ (.int kd k) v) → wpE P ops rest Q c n ((d, .tuple #[v, .bool ok]) :: L) M) (hd : Nat.blt d n = true := by rfl) :
    wpO P ops ⟨some d, .lookup t x y true, ty, pos, after, g⟩ rest Q c n L M := o_val rfl hd fun T w s => by
  obtain ⟨l, ck, hl, hB, hE, hs⟩ := mapS_open hp s.heap
  have hg : (getObj b).run P w = .ok (.map l.toArray ck) w := by simp [getObj, Sem.run, hs.pts .head]
  have hzv : (zeroValue et).run P w = .ok zv w := by simp [zeroValue, typeInfo, run_program, hi, hz]
  rcases run_findKey_kind (w := w) (k := k) hk (fun e he => hΦ _ _ (hE e he)) with h0 | ⟨j, e, h1, h2, h3⟩
  · refine ⟨_, w, _, _, ?_, s.heap, rfl, h zv false (.inl ⟨rfl, rfl⟩)⟩
    simp [execOp, opnd_eval s.slots hx, opnd_eval s.slots hy, Instr.lookup, run_underlying hu, hg, run_checkKey_kind hk, h0, hzv]
  · refine ⟨_, w, _, _, ?_, s.heap, rfl, h e.val true (.inr ⟨rfl, h2 ▸ hE e (List.mem_of_getElem? h1)⟩)⟩
    simp [execOp, opnd_eval s.slots hx, opnd_eval s.slots hy, Instr.lookup, run_underlying hu, hg, run_checkKey_kind hk, h3]
theorem run_mapUpdateS {w : World} {v : Value} (hΦ : keysOf kd Φ) (hv : Φ (.int kd k) v) (hu : P.underlying t = some (.map kt et)) (hk : P.underlying kt = some (.int kd)) (hp : Pick M (mapS b Φ m) R) (s : HSt c M w) :
    ∃ w' m', (Instr.mapUpdate t (.map (some b)) (.int kd k) v).run P w = .ok () w' ∧ (m' = m ∨ m' = m + 1) ∧ HSt c (mapS b Φ m' :: R) w' := by
  obtain ⟨l, ck, hl, hB, hE, hs⟩ := mapS_open hp s
  have hb := hs.pts .head
  have hg : (getObj b).run P w = .ok (.map l.toArray ck) w := by simp [getObj, Sem.run, hb]
  rcases run_findKey_kind (w := w) (k := k) hk (fun e he => hΦ _ _ (hE e he)) with h0 | ⟨j, e, h1, h2, h3⟩
  · refine ⟨_, m + 1, ?_, .inr rfl, HSt.ent (Ent.mapS (l := l ++ [⟨.int kd k, v, ck⟩]) (by simp [hl]) (hB.push _ _) ?_) (hst_setMap (l' := l ++ [⟨.int kd k, v, ck⟩]) (ck + 1) hs)⟩
    · simp only [Instr.mapUpdate, Sem.run_bind, run_underlying hu, Result.andThen_ok, hg, run_checkKey_kind hk, h0, run_setMap hb, Sem.run_pure]
      simp
    · intro e he
      rcases List.mem_append.1 he with he | he
      · exact hE e he
      · rw [List.mem_singleton] at he; subst he; exact hv
  · have hkey : ((l[j]?).map (·.key)).getD (.int kd k) = .int kd k := by rw [h1]; simp [h2]
    have hst : (Instr.keyThatStays (.int kd k) (.int kd k)).run P w = .ok (.int kd k) w := by simp [Instr.keyThatStays, Instr.sameBits]
    have hmod : (l.toArray.modify j fun (e : MapEntry) => { e with key := .int kd k, val := v }) = (l.modify j fun (e : MapEntry) => { e with key := .int kd k, val := v }).toArray := by simp
    have hborn : (l.modify j fun (e : MapEntry) => { e with key := .int kd k, val := v }).map (·.born) = l.map (·.born) := by
      apply List.ext_getElem?
      intro q
      simp only [List.getElem?_map, List.getElem?_modify]
      by_cases hq : j = q
      · subst hq; rw [h1]; simp
      · simp [hq]
    refine ⟨_, m, ?_, .inl rfl, HSt.ent (Ent.mapS (l := l.modify j fun (e : MapEntry) => { e with key := .int kd k, val := v }) (by simp [hl]) (hB.same hborn) ?_) (hst_setMap (l' := l.modify j fun (e : MapEntry) => { e with key := .int kd k, val := v }) ck hs)⟩
    · simp only [Instr.mapUpdate, Sem.run_bind, run_underlying hu, Result.andThen_ok, hg, run_checkKey_kind hk, h3, List.getElem?_toArray, hkey, hst, hmod, run_setMap hb, Sem.run_pure]
    · intro e' he
      obtain ⟨q, hq⟩ := List.getElem?_of_mem he
      rw [List.getElem?_modify] at hq
      by_cases hjq : j = q
      · subst hjq
        rw [h1] at hq
        simp at hq
        subst hq
        exact hv
      · cases hlq : l[q]? with
        | none => rw [hlq] at hq; simp at hq
        | some e2 =>
          rw [hlq] at hq
          simp [hjq] at hq
          subst hq
          exact hE e2 (List.mem_of_getElem? hlq)
theorem o_mapUpdateS {v : Value} (hΦ : keysOf kd Φ) (hx : opnd L x = some (.map (some b))) (hy : opnd L y = some (.int kd k)) (hz : opnd L z = some v) (hv : Φ (.int kd k) v) (hu : P.underlying t = some (.map kt et)) (hk : P.underlying kt = some (.int kd)) (hp : Pick M (mapS b Φ m) R)
    (h : ∀ m', m' = m ∨ m' = m + 1 → wpE P ops rest Q c n L (mapS b Φ m' :: R)) : wpO P ops ⟨none, .mapUpdate t x y z, ty, pos, after, g⟩ rest Q c n L M := o_unit rfl fun T w s => by
  obtain ⟨w', m', hr, hm, hs⟩ := run_mapUpdateS hΦ hv hu hk hp s.heap
  refine ⟨w', _, ?_, hs, h m' hm⟩
  simp only [execOp, opnd_eval s.slots hx, opnd_eval s.slots hy, opnd_eval s.slots hz, Sem.run_bind, hr, Result.andThen_ok, Sem.run_pure]
end
section
variable {l : List MapEntry} {ck r : Nat} {seen : List Nat} {x : Operand} {t kt et : TypeId}
abbrev itR (r b ck : Nat) (seen : List Nat) : HProp := pts r (.mapIter (some b) ck seen.toArray ck)
theorem o_rangeR {d : Nat} (hx : opnd L x = some (.map (some b))) (hu : P.underlying t = some (.map kt et)) (hp : Pick M (mapR b l ck) R)
    (h : ∀ r, wpE P ops rest Q c n ((d, .pointer (some ⟨r, 0, none⟩)) :: L) (itR r b ck [] :: M)) (hd : Nat.blt d n = true := by rfl) : wpO P ops ⟨some d, .range t x, ty, pos, after, g⟩ rest Q c n L M :=
  o_val rfl hd fun T w s => ⟨_, { w with heap := w.heap.push (.mapIter (some b) ck #[] ck) }, _, _, by
    have hg : (getObj b).run P w = .ok (.map l.toArray ck) w := by simp [getObj, Sem.run, s.heap.pts hp]
    simp [execOp, opnd_eval s.slots hx, Instr.range, run_underlying hu, hg, newObj, Sem.run], HSt.new s.heap _ rfl rfl rfl rfl, rfl, h _⟩
def leftOf (l : List MapEntry) (seen : List Nat) : List MapEntry := l.filter fun e => !seen.contains e.born
theorem left_less {e : MapEntry} {seen : List Nat} (h : e ∈ leftOf l seen) : (leftOf l (seen ++ [e.born])).length < (leftOf l seen).length := by
  unfold leftOf at h ⊢
  have hsub : (l.filter fun e' => !(seen ++ [e.born]).contains e'.born) = (l.filter fun e => !seen.contains e.born).filter fun e' => !(e'.born == e.born) := by
    rw [List.filter_filter]
    apply List.filter_congr
    intro a _
    simp only [List.contains_append, Bool.not_or, List.contains_cons, List.contains_nil, Bool.or_false]
    rw [Bool.and_comm]
  rw [hsub]
  apply List.length_filter_lt_length_iff_exists.2
  exact ⟨e, h, by simp⟩
theorem run_choose (w : World) (n : Nat) (hn : 0 < n) : ∃ i dr, i < n ∧ (choose (.mapNext n)).run P w = .ok i { w with drawn := dr } := by
  by_cases h : n ≤ 1
  · exact ⟨0, w.drawn, hn, by simp [choose, Sem.run, Question.forced, h]⟩
  · exact ⟨_, _, Nat.mod_lt _ hn, by simp [choose, Sem.run, Question.forced, h, Question.cut]; exact ⟨rfl, rfl⟩⟩
theorem run_next {w : World} (hB : BornOk l ck) (hm : w.heap[b]? = some (.map l.toArray ck)) (hr : w.heap[r]? = some (.mapIter (some b) ck seen.toArray ck)) (tt : TypeId) :
    (leftOf l seen = [] ∧ (Instr.next (.pointer (some ⟨r, 0, none⟩)) false tt).run P w = .ok (.tuple #[.bool false]) w)
    ∨ ∃ e dr, e ∈ leftOf l seen ∧ (Instr.next (.pointer (some ⟨r, 0, none⟩)) false tt).run P w = .ok (.tuple #[.bool true, e.key, e.val]) { w with drawn := dr, heap := w.heap.setIfInBounds r (.mapIter (some b) ck (seen ++ [e.born]).toArray ck) } := by
  have hold : ∀ e ∈ l, e.born < ck := hB.2
  have hguard : (!(seen.toArray).isEmpty && !(l.toArray).isEmpty && (l.toArray).all (fun e => decide (e.born ≥ ck))) = false := by
    cases l with
    | nil => simp
    | cons e l =>
      have := hold e (List.mem_cons_self ..)
      have h2 : ¬ (ck ≤ e.born) := by omega
      simp [h2]
  have hleft : (l.toArray.filter fun e => !(seen.toArray).contains e.born) = (leftOf l seen).toArray := by simp [leftOf]
  have holdA : ((leftOf l seen).toArray.filter fun e => decide (e.born < ck)) = (leftOf l seen).toArray := by
    rw [List.filter_toArray, List.filter_eq_self.2]
    intro e he
    simpa using hold e (List.mem_filter.1 he).1
  have hnewA : ((leftOf l seen).toArray.filter fun e => decide (e.born ≥ ck)) = #[] := by
    rw [List.filter_toArray, List.filter_eq_nil_iff.2]
    intro e he
    have := hold e (List.mem_filter.1 he).1
    simp; omega
  have hg1 : (getObj r).run P w = .ok (.mapIter (some b) ck seen.toArray ck) w := by simp [getObj, Sem.run, hr]
  have hg2 : (getObj b).run P w = .ok (.map l.toArray ck) w := by simp [getObj, Sem.run, hm]
  cases hlf : leftOf l seen with
  | nil =>
    left
    rw [hlf] at hleft holdA hnewA
    refine ⟨rfl, ?_⟩
    simp only [Instr.next, Sem.run_bind, hg1, hg2, Result.andThen_ok, hguard, hleft, holdA, hnewA]
    simp [choose, Sem.run, Question.forced]
  | cons e0 l0 =>
    right
    rw [hlf] at hleft holdA hnewA
    obtain ⟨i, dr, hi, hc⟩ := run_choose (P := P) w (e0 :: l0).length (by simp)
    refine ⟨(e0 :: l0)[i], dr, List.getElem_mem hi, ?_⟩
    have hcand : ((if (e0 :: l0).toArray.isEmpty = true then #[none] else #[]) ++ Array.map some ((e0 :: l0).toArray ++ #[])) = ((e0 :: l0).map some).toArray := by simp
    simp only [Instr.next, Sem.run_bind, hg1, hg2, Result.andThen_ok, hguard, hleft, holdA, hnewA, hcand]
    simp only [List.size_toArray, List.length_map, Bool.false_eq_true, if_false, Sem.run_bind, hc, Result.andThen_ok]
    have hget : (((e0 :: l0).map some).toArray)[i]? = some (some (e0 :: l0)[i]) := by
      rw [List.getElem?_toArray, List.getElem?_map, List.getElem?_eq_getElem hi]; rfl
    rw [hget]
    have hr' : (({ w with drawn := dr } : World).heap)[r]? = some (.mapIter (some b) ck seen.toArray ck) := hr
    simp [setObj, Sem.run, hr']
theorem o_nextR {d : Nat} (hB : BornOk l ck) (hx : opnd L x = some (.pointer (some ⟨r, 0, none⟩))) {R2 : List HProp} (p1 : Pick M (mapR b l ck) R) (p2 : Pick M (itR r b ck seen) R2)
    (h0 : leftOf l seen = [] → wpE P ops rest Q c n ((d, .tuple #[.bool false]) :: L) M)
    (h1 : ∀ e, e ∈ leftOf l seen → wpE P ops rest Q c n ((d, .tuple #[.bool true, e.key, e.val]) :: L) (itR r b ck (seen ++ [e.born]) :: R2)) (hd : Nat.blt d n = true := by rfl) :
    wpO P ops ⟨some d, .next x false, ty, pos, after, g⟩ rest Q c n L M := o_val rfl hd fun T w s => by
  have hk := s.heap.pts p2
  have hb : r < w.heap.size := (Array.getElem?_eq_some_iff.1 hk).1
  rcases run_next (P := P) hB (s.heap.pts p1) hk ty with ⟨e1, e2⟩ | ⟨e, dr, he, e2⟩
  · exact ⟨_, w, _, _, by simp [execOp, opnd_eval s.slots hx, e2], s.heap, rfl, h0 e1⟩
  · exact ⟨_, { w with drawn := dr, heap := w.heap.setIfInBounds r (.mapIter (some b) ck (seen ++ [e.born]).toArray ck) }, _, _, by simp [execOp, opnd_eval s.slots hx, e2], HSt.put (o' := .mapIter (some b) ck (seen ++ [e.born]).toArray ck) p2 s.heap (by simp) (Array.getElem?_setIfInBounds_self_of_lt hb) (fun k hne => by simp [Ne.symm hne]) rfl rfl rfl, rfl, h1 e he⟩
theorem o_entryR {d : Nat} {s0 : List Nat} {st : Nat} {R2 : List HProp} {e0 : MapEntry} (hx : opnd L x = some (.pointer (some ⟨r, 0, none⟩))) (p1 : Pick M (mapR b l ck) R) (p2 : Pick M (itR r b ck (s0 ++ [st])) R2) (h0 : e0 ∈ l) (hs : e0.born = st)
    (h : ∀ e, e ∈ l → wpE P ops rest Q c n ((d, .tuple #[e.key, e.val]) :: L) M) (hd : Nat.blt d n = true := by rfl) : wpO P ops ⟨some d, .entry x, ty, pos, after, g⟩ rest Q c n L M := o_val rfl hd fun T w s => by
  have hg1 : (getObj r).run P w = .ok (.mapIter (some b) ck (s0 ++ [st]).toArray ck) w := by simp [getObj, Sem.run, s.heap.pts p2]
  have hg2 : (getObj b).run P w = .ok (.map l.toArray ck) w := by simp [getObj, Sem.run, s.heap.pts p1]
  have hf : ∃ e, l.find? (fun x => x.born == st) = some e := by
    cases hfe : l.find? (fun x => x.born == st) with
    | some e => exact ⟨e, rfl⟩
    | none =>
      have := List.find?_eq_none.1 hfe e0 h0
      simp [hs] at this
  obtain ⟨e, he⟩ := hf
  refine ⟨_, w, _, _, ?_, s.heap, rfl, h e (List.mem_of_find?_eq_some he)⟩
  simp [execOp, opnd_eval s.slots hx, Instr.entry, hg1, hg2, he]
end
theorem o_callB {σ : Type} {d : Nat} {f : FuncId} {x : Operand} {xs : List Operand} {ats : Array TypeId} {bd args fr asx : List Value} {A R : List HProp} {φ : σ → Prop} {val : σ → Value} {B : σ → List HProp}
    (S : FnDoes P f asx A φ val B) (h : ∀ y, φ y → wpE P ops rest Q c n ((d, val y) :: L) (B y ++ R)) (hf : opnd L x = some (.func (.func f) bd.toArray fr.toArray) := by rfl) (has : bd ++ (args ++ fr) = asx := by rfl) (hx : opnds L xs = some args := by rfl) (hnf : ∀ g, x ≠ .func g := by (intro g_ h_; cases h_))
    (hp : Ent M (A ++ R) := by exact Picks.ent pKS) (hd : Nat.blt d n = true := by rfl) :
    wpO P ops ⟨some d, .call { callee := .value x, args := xs.toArray, argTypes := ats }, ty, pos, after, g⟩ rest Q c n L M := fun i hi T w s hw => by
  obtain ⟨h1, h2⟩ := drop_cons hi
  have hr : (execOp (Act.eval ⟨T, c.ds⟩) ⟨some d, .call { callee := .value x, args := xs.toArray, argTypes := ats }, ty, pos, after, g⟩).run P w = .ok (.enter f asx.toArray) w := by
    have e1 := opnds_eval (ds := c.ds) s.slots hx
    have e2 := opnd_eval (ds := c.ds) s.slots hf
    have := S.may asx.toArray w
    simp only [execOp, resolve, e2, Deferred.ofValue, Sem.run_bind, Sem.run_pure, Result.andThen_ok, invoke, List.map_toArray, e1]
    subst has
    simpa using this
  refine wpI_call (i := i) (a := ⟨T, c.ds⟩) (by simpa using h1) hw hr (R := fun v w2 => ∃ y, φ y ∧ v = val y ∧ HSt c (B y ++ R) w2) ?_ ?_
  · intro cs
    obtain ⟨f', hh, m, l, dd⟩ := s.heap
    obtain ⟨ha, hr', a, r, dj, l1, l2⟩ := sepL_append (hp _ m)
    obtain ⟨e, w2, fr, ⟨y, hy, he, hst⟩, hcm, hfr, hl⟩ := S.does w ha a (PHeap.le_trans l1 l) cs
    refine ⟨e, w2, fr, ⟨val y, he, y, hy, rfl, ?_⟩, hcm, hfr, hl⟩
    exact HSt.call f' l dd r dj l1 l2 hst
  · rintro v w2 ⟨y, hy, rfl, hst⟩
    have := h y hy (i + 1) h2 (T.setIfInBounds d (val y)) w2 ⟨by simp [s.size], s.slots.put s.size hd _, hst⟩
    simpa [Act.put] using this
end Go.Sx
set_option linter.unusedSimpArgs false
set_option linter.unusedVariables false
namespace Go.Sx
open Go Go.Conc
variable {P : Program} {ops : Array Oper} {Q : Exit → Act → World → Prop} {c : Cx} {n : Nat} {L : Env} {M : List HProp} {rest : List Oper} {o : Oper}
variable {ty : TypeId} {pos : String} {after : Array Edge} {g : Option (Nat × Bool)}
theorem o_ext {d : Nat} {f : FuncId} {xs : List Operand} {ats : Array TypeId} {args : List Value}
    (h : ∀ w, HSt c M w → ∃ v w' M', (callFunc f args.toArray).run P w = .ok (.value v) w' ∧ HSt c M' w' ∧ wpE P ops rest Q c n ((d, v) :: L) M') (hx : opnds L xs = some args := by rfl) (hd : Nat.blt d n = true := by rfl) :
    wpO P ops ⟨some d, .call { callee := .value (.func f), args := xs.toArray, argTypes := ats }, ty, pos, after, g⟩ rest Q c n L M := o_val rfl hd fun T w s => by
  obtain ⟨v, w', M', h1, h2, h3⟩ := h w s.heap
  refine ⟨v, w', _, M', ?_, h2, rfl, h3⟩
  rw [execOp_call]
  have e1 := opnds_eval (ds := c.ds) s.slots hx
  rw [List.map_toArray, e1]
  simpa using h1
theorem o_extP {d : Nat} {f : FuncId} {xs : List Operand} {ats : Array TypeId} {args : List Value} {v : Value} (hr : ∀ w, (callFunc f args.toArray).run P w = .ok (.value v) w)
    (h : wpE P ops rest Q c n ((d, v) :: L) M) (hx : opnds L xs = some args := by rfl) (hd : Nat.blt d n = true := by rfl) :
    wpO P ops ⟨some d, .call { callee := .value (.func f), args := xs.toArray, argTypes := ats }, ty, pos, after, g⟩ rest Q c n L M := o_ext (fun w s => ⟨v, w, M, hr w, s, h⟩) hx hd
theorem o_extN {d : Nat} {f : FuncId} {xs : List Operand} {ats : Array TypeId} {args : List Value} {v : Nat → Value} {ob : Obj} (hr : ∀ w : World, (callFunc f args.toArray).run P w = .ok (.value (v w.heap.size)) (w.alloc ob))
    (h : ∀ b, wpE P ops rest Q c n ((d, v b) :: L) (pts b ob :: M)) (hx : opnds L xs = some args := by rfl) (hd : Nat.blt d n = true := by rfl) :
    wpO P ops ⟨some d, .call { callee := .value (.func f), args := xs.toArray, argTypes := ats }, ty, pos, after, g⟩ rest Q c n L M := o_ext (fun w s => ⟨_, w.alloc ob, _, hr w, HSt.new s ob rfl rfl rfl rfl, h _⟩) hx hd
theorem o_extR {d : Nat} {f : FuncId} {xs : List Operand} {ats : Array TypeId} {args : List Value} {v u : Value} {a : Addr} (hr : ∀ w : World, w.cell? a = some u → (callFunc f args.toArray).run P w = .ok (.value v) w)
    (hu : ∀ w, HSt c M w → w.cell? a = some u) (h : wpE P ops rest Q c n ((d, v) :: L) M) (hx : opnds L xs = some args := by rfl) (hd : Nat.blt d n = true := by rfl) :
    wpO P ops ⟨some d, .call { callee := .value (.func f), args := xs.toArray, argTypes := ats }, ty, pos, after, g⟩ rest Q c n L M := o_ext (fun w s => ⟨v, w, M, hr w (hu w s), s, h⟩) hx hd
theorem o_iextP {d : Nat} {t : TypeId} {v u : Value} {name : String} {r : Operand} {xs : List Operand} {ats : Array TypeId} {args : List Value} (hr0 : ∀ w, (callMethod (.iface t v) name args.toArray).run P w = .ok (.value u) w)
    (h : wpE P ops rest Q c n ((d, u) :: L) M) (hr : opnd L r = some (.iface t v) := by rfl) (hx : opnds L xs = some args := by rfl) (hd : Nat.blt d n = true := by rfl) :
    wpO P ops ⟨some d, .call { callee := .invoke r name, args := xs.toArray, argTypes := ats }, ty, pos, after, g⟩ rest Q c n L M := o_val rfl hd fun T w s => by
  refine ⟨u, w, _, M, ?_, s.heap, rfl, h⟩
  have e1 := opnds_eval (ds := c.ds) s.slots hx
  have e2 := opnd_eval (ds := c.ds) s.slots hr
  simp only [execOp, resolve, Sem.run_bind, Sem.run_pure, Result.andThen_ok, invoke, List.map_toArray, e1, e2, arr_cons, List.getElem?_toArray, List.getElem?_cons_zero]
  have e6 : ((Value.iface t v :: args).toArray.extract 1 (Value.iface t v :: args).toArray.size) = args.toArray := by simp [List.extract_eq_take_drop]
  rw [e6]
  exact hr0 w
end Go.Sx
set_option linter.unusedSimpArgs false
set_option linter.unusedVariables false
namespace Go.Sx
open Go Go.Conc
open Go.Lib
def rightG : Nat → List UInt8 → Bool
  | 0, _ => true
  | n + 1, l => if l = [] then true else if ((decodeL l).1 = 65533 ∧ (decodeL l).2 = 1) ∨ (decodeL l).1 = 0 then false else rightG n (l.drop (decodeL l).2)
def rightL (l : List UInt8) : Bool := rightG l.length l
theorem rightG_nil : ∀ n, rightG n [] = true
  | 0 => rfl
  | n + 1 => by unfold rightG; rw [if_pos rfl]
theorem rightG_fuel : ∀ (n m : Nat) (l : List UInt8), l.length ≤ n → l.length ≤ m → rightG n l = rightG m l
  | 0, m, l, h, _ => by
    have : l = [] := List.eq_nil_of_length_eq_zero (by omega)
    subst this; rw [rightG_nil, rightG_nil]
  | n + 1, 0, l, _, h => by
    have : l = [] := List.eq_nil_of_length_eq_zero (by omega)
    subst this; rw [rightG_nil, rightG_nil]
  | n + 1, m + 1, l, h1, h2 => by
    unfold rightG
    by_cases hne : l = []
    · rw [if_pos hne, if_pos hne]
    · have hw := decodeL_width l
      have hl : 0 < l.length := List.length_pos_iff.2 hne
      rw [if_neg hne, if_neg hne, rightG_fuel n m (l.drop (decodeL l).2) (by rw [List.length_drop]; omega) (by rw [List.length_drop]; omega)]
theorem rightL_nil : rightL [] = true := rfl
theorem rightL_step (l : List UInt8) (hne : l ≠ []) : rightL l = if ((decodeL l).1 = 65533 ∧ (decodeL l).2 = 1) ∨ (decodeL l).1 = 0 then false else rightL (l.drop (decodeL l).2) := by
  have hl : 0 < l.length := List.length_pos_iff.2 hne
  have hw := decodeL_width l
  obtain ⟨n, hn⟩ : ∃ n, l.length = n + 1 := ⟨l.length - 1, by omega⟩
  conv => lhs; unfold rightL; rw [hn]; unfold rightG
  rw [if_neg hne, rightG_fuel n (l.drop (decodeL l).2).length _ (by rw [List.length_drop]; omega) (Nat.le_refl _)]
  rfl
theorem right_invalid : ∀ (n : Nat) (l : List UInt8), l.length ≤ n → validD l = false → rightL l = false
  | 0, l, h, hv => by
    have : l = [] := List.eq_nil_of_length_eq_zero (by omega)
    subst this; rw [validD_nil] at hv; cases hv
  | n + 1, l, h, hv => by
    by_cases hne : l = []
    · subst hne; rw [validD_nil] at hv; cases hv
    · have hw := decodeL_width l
      have hl : 0 < l.length := List.length_pos_iff.2 hne
      rw [rightL_step l hne]
      rw [validD_step l hne] at hv
      split
      · rfl
      · rename_i c
        rw [if_neg (fun e => c (Or.inl e))] at hv
        exact right_invalid n _ (by rw [List.length_drop]; omega) hv
def rightD (s : ByteArray) : Bool := decide (s.size ≤ 65535) && rightL s.data.toList
theorem size_list (s : ByteArray) : s.data.toList.length = s.size := (Lib.size_eq s).symm
theorem drop_ne {s : ByteArray} {pos : Nat} (h : pos < s.size) : s.data.toList.drop pos ≠ [] := by
  intro e
  have := congrArg List.length e
  rw [List.length_drop, size_list] at this
  simp at this
  omega
theorem drop_end {s : ByteArray} {pos : Nat} (h : s.size ≤ pos) : s.data.toList.drop pos = [] := by
  apply List.eq_nil_of_length_eq_zero
  rw [List.length_drop, size_list]; omega
variable {P : Program} {ops : Array Oper} {Q : Exit → Act → World → Prop} {c : Cx} {n : Nat} {L : Env} {M : List HProp} {rest : List Oper}
variable {dst : Option Nat} {ty : TypeId} {pos : String} {after : Array Edge} {g : Option (Nat × Bool)}
theorem o_range {d : Nat} {t : TypeId} {x : Operand} {s : ByteArray} (hx : opnd L x = some (.string s)) (hu : P.underlying t = some .string) (hd : Nat.blt d n = true)
    (h : ∀ b, wpE P ops rest Q c n ((d, .pointer (some ⟨b, 0, none⟩)) :: L) (pts b (.stringIter s 0) :: M)) : wpO P ops ⟨some d, .range t x, ty, pos, after, g⟩ rest Q c n L M :=
  o_val rfl hd fun T w st => ⟨_, { w with heap := w.heap.push (.stringIter s 0) }, _, _, by
    simp [execOp, opnd_eval st.slots hx, Instr.range, run_underlying hu, newObj, Sem.run], HSt.new st.heap _ rfl rfl rfl rfl, rfl, h _⟩
theorem o_next {d b p : Nat} {x : Operand} {s : ByteArray} {R : List HProp} (hx : opnd L x = some (.pointer (some ⟨b, 0, none⟩))) (hp : Pick M (pts b (.stringIter s p)) R) (hl : p < s.size) (hd : Nat.blt d n = true)
    (h : wpE P ops rest Q c n ((d, .tuple #[.bool true, .int .i64 p, .int .i32 (Utf8.decode s p).1]) :: L) (pts b (.stringIter s (p + (Utf8.decode s p).2)) :: R)) : wpO P ops ⟨some d, .next x true, ty, pos, after, g⟩ rest Q c n L M :=
  o_val rfl hd fun T w st => by
    have hk := st.heap.pts hp
    have hb : b < w.heap.size := (Array.getElem?_eq_some_iff.1 hk).1
    refine ⟨_, { w with heap := w.heap.setIfInBounds b (.stringIter s (p + (Utf8.decode s p).2)) }, _, _, ?_, HSt.put hp st.heap (by simp) (by simp [hb]) (fun k hne => by simp [Ne.symm hne]) rfl rfl rfl, rfl, h⟩
    simp [execOp, opnd_eval st.slots hx, Instr.next, getObj, setObj, Sem.run, hk, hl, goInt]
theorem o_nextEnd {d b p : Nat} {x : Operand} {s : ByteArray} {R : List HProp} (hx : opnd L x = some (.pointer (some ⟨b, 0, none⟩))) (hp : Pick M (pts b (.stringIter s p)) R) (hl : ¬ p < s.size) (hd : Nat.blt d n = true)
    (h : wpE P ops rest Q c n ((d, .tuple #[.bool false]) :: L) M) : wpO P ops ⟨some d, .next x true, ty, pos, after, g⟩ rest Q c n L M :=
  o_val rfl hd fun T w st => by
    have hk := st.heap.pts hp
    refine ⟨_, w, _, _, ?_, st.heap, rfl, h⟩
    simp [execOp, opnd_eval st.slots hx, Instr.next, getObj, Sem.run, hk, hl]
end Go.Sx
set_option maxRecDepth 20000
namespace Go.Proofs.YtnaabpfpldelmaaGreatDoor
open Go Go.Sx
attribute [local irreducible] MidQ wpE wpO wpC qE wpQ wpQO wpH wpHO wpD wpDO wpZ Ev own emp exI sl ch PostS LoopQ Rd rowsAt
theorem utf_right (H : PHeap) (V : ∀ s : ByteArray, s.size ≤ 65535 → FnDoes Tryz.prog 275 [.string s] [own H] (fun _ : Unit => True) (fun _ => .bool (Lib.validD s.data.toList)) (fun _ => [own H]))
    (s : ByteArray) : FnDoes Tryz.prog 210 [.string s] [own H] (fun _ : Unit => True) (fun _ => .bool (rightD s)) (fun _ => [own H]) := by
  refine does_of Tryz.func210 rfl rfl Tryz.ntmps210 rfl eNUM (fun c => ?_)
  by_cases h0 : s.size ≤ 65535
  · have hz : ¬ (s.size : Int) > 65535 := by omega
    (refine go ?_; intros)
    (show wpO _ _ ⟨_, .call _, _, _, _, _⟩ _ _ _ _ _ _; refine o_callA (V s h0) (fun _ _ => ?_); try simp only [List.cons_append, List.nil_append])
    rcases hv : Lib.validD s.data.toList with _ | _
    · have e : rightD s = false := by unfold rightD; rw [right_invalid _ _ (Nat.le_refl _) hv, Bool.and_false]
      (refine go ?_; intros)
      exact q_ret1 rfl rfl () (by rw [e]) trivial eNT
    · have e : rightD s = rightL s.data.toList := by unfold rightD; rw [decide_eq_true h0, Bool.true_and]
      rw [e]
      (refine go ?_; intros)
      refine o_range rfl Tryz.underlying9 rfl (fun b => ?_)
      (refine go ?_; intros)
      refine wpC_loop (σ := Nat) (fun p => p ≤ s.size ∧ Lib.validD (s.data.toList.drop p) = true ∧ rightL s.data.toList = rightL (s.data.toList.drop p)) (fun _ => [(14, .pointer (some ⟨b, 0, none⟩))]) (fun p => [own H, pts b (.stringIter s p)]) (fun p => s.size - p) 0 ⟨Nat.zero_le _, hv, rfl⟩ sUB eNT (fun p hp => ?_)
      obtain ⟨p1, p2, p3⟩ := hp
      by_cases hlt : p < s.size
      · have hne := drop_ne hlt
        have hd := Lib.decodeL_drop s p
        have hw := Lib.decodeL_width (s.data.toList.drop p)
        have hle := Lib.decodeL_le (s.data.toList.drop p) hne
        rw [List.length_drop, size_list] at hle
        rw [Lib.validD_step _ hne] at p2
        rw [rightL_step _ hne] at p3
        rw [hd] at hw hle p2 p3
        have hn : ¬ ((Utf8.decode s p).1 = 65533 ∧ (Utf8.decode s p).2 = 1) := fun c => by rw [if_pos c] at p2; cases p2
        rw [if_neg hn] at p2
        (refine go ?_; intros)
        refine o_next rfl pK hlt rfl ?_
        by_cases hc : (Utf8.decode s p).1 = 0
        · rw [if_pos (Or.inr hc)] at p3
          rw [p3, hc]
          (refine go ?_; intros)
          exact q_ret1 rfl rfl () rfl trivial eNT
        · rw [if_neg (fun c => c.elim hn hc), List.drop_drop] at p3
          rw [List.drop_drop] at p2
          have hcz : ((Utf8.decode s p).1 : Int) ≠ 0 := by omega
          (refine go ?_; intros)
          refine q_round (p + (Utf8.decode s p).2) ⟨by omega, p2, p3⟩ (by omega) sUB eNT
      · rw [drop_end (by omega), rightL_nil] at p3
        rw [p3]
        (refine go ?_; intros)
        refine o_nextEnd rfl pK hlt rfl ?_
        (refine go ?_; intros)
        exact q_ret1 rfl rfl () rfl trivial eNT
  · have hz : (s.size : Int) > 65535 := by omega
    have e : rightD s = false := by unfold rightD; rw [decide_eq_false h0, Bool.false_and]
    (refine go ?_; intros)
    exact q_ret1 rfl rfl () (by rw [e]) trivial eNT
end Go.Proofs.YtnaabpfpldelmaaGreatDoor
