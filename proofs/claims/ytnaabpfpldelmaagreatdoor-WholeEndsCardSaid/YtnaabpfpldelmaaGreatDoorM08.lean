/-
  Invocations as contracts; maps. No program in sight.
  make([]T, n) at elements of one cell. No program in sight.
  Many items in one; function values; clear; a result that is a cell. No program in sight.
-/
import Derived.Test.YtnaabpfpldelmaaGreatDoorM07
import Derived.Laws.CopyRow
set_option linter.unusedSimpArgs false
set_option linter.unusedVariables false
namespace Go.Sx
open Go Go.Conc
variable {P : Program} {ops : Array Oper} {Q : Exit → Act → World → Prop} {c : Cx} {n : Nat} {L : Env} {M : List HProp} {rest : List Oper}
variable {dst : Option Nat} {ty : TypeId} {pos : String} {after : Array Edge} {g : Option (Nat × Bool)}
def InvDoes {σ : Type} (P : Program) (t : TypeId) (v : Value) (name : String) (args : List Value) (A : List HProp) (φ : σ → Prop) (val : σ → Value) (B : σ → List HProp) : Prop :=
  ∀ w h, sepL A h → PHeap.le h (ph w) → ∃ f xs, (callMethod (.iface t v) name args.toArray).run P w = .ok (.enter f xs) w ∧ Calls P f xs w (PostS (Cx.of w fun b => h b ≠ none) φ val B)
theorem arr_cons (a : Value) (l : List Value) : (#[a] ++ l.toArray : Array Value) = (a :: l).toArray := by simp
theorem depth_pos : P.types.size + Made.depth - 1 + 1 = P.types.size + Made.depth := by
  have : 0 < Made.depth := by decide
  omega
theorem InvDoes.direct {σ : Type} {f : FuncId} {t : TypeId} {v : Value} {name : String} {args : List Value} {A : List HProp} {φ : σ → Prop} {val : σ → Value} {B : σ → List HProp} (S : FnDoes P f (v :: args) A φ val B) (hm : methodOf P t name = some f) :
    InvDoes P t v name args A φ val B := fun w h a l => by
  refine ⟨f, _, ?_, S.does w h a l⟩
  have e3 := run_method (P := P) (v := v) (w := w) hm (P.types.size + Made.depth - 1)
  rw [depth_pos] at e3
  simp only [callMethod, Sem.run_bind, run_program, Result.andThen_ok, e3]
  rw [arr_cons]
  exact S.may _ _
def methodAt (P : Program) (t : TypeId) (name : String) : Option (FuncId × TypeId) := match P.info? t with
  | none => none
  | some i => match i.methods.find? (·.name == name) with
    | none => none
    | some m => match m.path.toList, m.func, P.underlying t with
      | [], some (f, false), some (.pointer e) => some (f, e)
      | _, _, _ => none
theorem InvDoes.loaded {σ : Type} {f : FuncId} {t e : TypeId} {a : Addr} {u : Value} {d : TypeDesc} {name : String} {args : List Value} {A : List HProp} {φ : σ → Prop} {val : σ → Value} {B : σ → List HProp} (S : FnDoes P f (u :: args) A φ val B) (hm : methodAt P t name = some (f, e))
    (hu : P.underlying e = some d) (ha : aggD d = false) (hc : ∀ h, sepL A h → h.cell? a = some u) : InvDoes P t (.pointer (some a)) name args A φ val B := fun w h hA l => by
  refine ⟨f, _, ?_, S.does w h hA l⟩
  have hcell : w.cell? a = some u := cell_of_le l (hc h hA)
  have e3 : (method (P.types.size + Made.depth - 1 + 1) t (.pointer (some a)) name).run P w = .ok (f, u) w := by
    unfold methodAt at hm
    cases hi : P.info? t with
    | none => rw [hi] at hm; cases hm
    | some i =>
      rw [hi] at hm
      simp only at hm
      cases hf : i.methods.find? (·.name == name) with
      | none => rw [hf] at hm; cases hm
      | some m =>
        rw [hf] at hm
        simp only at hm
        split at hm
        · rename_i f' e' hp hfn hut
          cases hm
          have e1 : (typeInfo t).run P w = .ok i w := by simp [typeInfo, run_program, hi]
          have e2 := run_loadVar_one (P := P) hu ha hcell
          have hp' : m.path = #[] := Array.toList_eq_nil_iff.1 hp
          have e4 : ∀ nm : String, (Builtin.ssaWrapNilChk_ #[t] t #[.pointer (some a), strVal "", strVal nm]).run P w = .ok (.pointer (some a)) w := fun _ => rfl
          simp [method, Sem.run_bind, e1, Result.andThen_ok, hf, hp', follow, Sem.run_pure, hfn, receiverAt, run_underlying hut, Place.get, e4, asAddr, e2]
        · cases hm
  rw [depth_pos] at e3
  simp only [callMethod, Sem.run_bind, run_program, Result.andThen_ok, e3]
  rw [arr_cons]
  exact S.may _ _
theorem o_invokeI {σ : Type} {d : Nat} {t : TypeId} {v : Value} {name : String} {r : Operand} {xs : List Operand} {ats : Array TypeId}
    {args : List Value} {A R : List HProp} {φ : σ → Prop} {val : σ → Value} {B : σ → List HProp}
    (S : InvDoes P t v name args A φ val B) (h : ∀ y, φ y → wpE P ops rest Q c n ((d, val y) :: L) (B y ++ R)) (hr : opnd L r = some (.iface t v) := by rfl) (hx : opnds L xs = some args := by rfl) (hp : Ent M (A ++ R) := by exact Picks.ent pKS) (hd : Nat.blt d n = true := by rfl) :
    wpO P ops ⟨some d, .call { callee := .invoke r name, args := xs.toArray, argTypes := ats }, ty, pos, after, g⟩ rest Q c n L M := fun i hi T w s hw => by
  obtain ⟨h1, h2⟩ := drop_cons hi
  obtain ⟨f', hh, m, l, dd⟩ := s.heap
  obtain ⟨ha, hr', a, rr, dj, l1, l2⟩ := sepL_append (hp _ m)
  obtain ⟨f, zs, hcm0, hcalls⟩ := S w ha a (PHeap.le_trans l1 l)
  have hrun : (execOp (Act.eval ⟨T, c.ds⟩) ⟨some d, .call { callee := .invoke r name, args := xs.toArray, argTypes := ats }, ty, pos, after, g⟩).run P w = .ok (.enter f zs) w := by
    have e1 := opnds_eval (ds := c.ds) s.slots hx
    have e2 := opnd_eval (ds := c.ds) s.slots hr
    simp only [execOp, resolve, Sem.run_bind, Sem.run_pure, Result.andThen_ok, invoke, List.map_toArray, e1, e2, arr_cons, List.getElem?_toArray, List.getElem?_cons_zero]
    have e6 : ((Value.iface t v :: args).toArray.extract 1 (Value.iface t v :: args).toArray.size) = args.toArray := by simp [List.extract_eq_take_drop]
    rw [e6]
    exact hcm0
  refine wpI_call (i := i) (a := ⟨T, c.ds⟩) (by simpa using h1) hw hrun (R := fun u w2 => ∃ y, φ y ∧ u = val y ∧ HSt c (B y ++ R) w2) ?_ ?_
  · intro cs
    obtain ⟨e, w2, fr, ⟨y, hy, he, hst⟩, hcm, hfr, hl⟩ := hcalls cs
    refine ⟨e, w2, fr, ⟨val y, he, y, hy, rfl, ?_⟩, hcm, hfr, hl⟩
    exact HSt.call f' l dd rr dj l1 l2 hst
  · rintro u w2 ⟨y, hy, rfl, hst⟩
    have := h y hy (i + 1) h2 (T.setIfInBounds d (val y)) w2 ⟨by simp [s.size], s.slots.put s.size hd _, hst⟩
    simpa [Act.put] using this
def BornOk (l : List MapEntry) (clock : Nat) : Prop := (l.map (·.born)).Nodup ∧ ∀ e ∈ l, e.born < clock
theorem bornOk_nil (ck : Nat) : BornOk [] ck := ⟨List.nodup_nil, fun e h => by cases h⟩
theorem BornOk.push {l : List MapEntry} {ck : Nat} (h : BornOk l ck) (k v : Value) : BornOk (l ++ [⟨k, v, ck⟩]) (ck + 1) := by
  refine ⟨?_, fun e he => ?_⟩
  · rw [List.map_append, List.nodup_append]
    refine ⟨h.1, by simp, fun a ha b hb => ?_⟩
    simp at hb
    obtain ⟨e, he, rfl⟩ := List.mem_map.1 ha
    have := h.2 e he
    omega
  · rcases List.mem_append.1 he with c | c
    · have := h.2 e c; omega
    · simp at c; subst c; simp
theorem BornOk.same {l l' : List MapEntry} {ck : Nat} (h : BornOk l ck) (e : l'.map (·.born) = l.map (·.born)) : BornOk l' ck := by
  refine ⟨by rw [e]; exact h.1, fun x hx => ?_⟩
  have : x.born ∈ l.map (·.born) := by rw [← e]; exact List.mem_map.2 ⟨x, hx, rfl⟩
  obtain ⟨y, hy, e'⟩ := List.mem_map.1 this
  rw [← e']
  exact h.2 y hy
theorem BornOk.erase {l : List MapEntry} {ck : Nat} (h : BornOk l ck) (j : Nat) : BornOk (l.eraseIdx j) ck := by
  have hs := List.eraseIdx_sublist l j
  exact ⟨(hs.map _).nodup h.1, fun e he => h.2 e (hs.subset he)⟩
def mapI (b : Nat) (es : List (Int × Int)) : HProp := fun h => ∃ (l : List MapEntry) (clock : Nat), l.map (fun e => (e.key, e.val)) = es.map (fun p => (Value.int .i64 p.1, Value.int .i64 p.2)) ∧ BornOk l clock ∧ h = single b (.map l.toArray clock)
def mfind (k : Int) : List (Int × Int) → Nat → Option (Nat × Int)
  | [], _ => none
  | p :: r, i => if p.1 = k then some (i, p.2) else mfind k r (i + 1)
def mget (es : List (Int × Int)) (k : Int) : Option Int := (mfind k es 0).map (·.2)
def mput (es : List (Int × Int)) (k v : Int) : List (Int × Int) := match mfind k es 0 with
  | some (i, _) => es.set i (k, v)
  | none => es ++ [(k, v)]
def mdel (es : List (Int × Int)) (k : Int) : List (Int × Int) := match mfind k es 0 with
  | some (i, _) => es.eraseIdx i
  | none => es
theorem mfind_some {k : Int} : ∀ {es : List (Int × Int)} {i j : Nat} {v : Int}, mfind k es i = some (j, v) → i ≤ j ∧ es[j - i]? = some (k, v)
  | [], _, _, _, h => by cases h
  | p :: r, i, j, v, h => by
    unfold mfind at h
    split at h
    · rename_i e
      cases h
      refine ⟨Nat.le_refl _, ?_⟩
      rw [Nat.sub_self]
      simp only [List.getElem?_cons_zero]
      rw [← e]
    · obtain ⟨h1, h2⟩ := mfind_some h
      refine ⟨by omega, ?_⟩
      rw [show j - i = (j - (i + 1)) + 1 by omega, List.getElem?_cons_succ]
      exact h2
theorem findNow_ints {k : Int} : ∀ {l : List MapEntry} {es : List (Int × Int)} {i : Nat}, l.map (fun e => (e.key, e.val)) = es.map (fun p => (Value.int .i64 p.1, Value.int .i64 p.2)) → Instr.findNow (.int .i64) (.int .i64 k) l i = some ((mfind k es i).map fun q => (q.1, Value.int .i64 q.2))
  | [], [], _, _ => rfl
  | [], _ :: _, _, h => by simp at h
  | _ :: _, [], _, h => by simp at h
  | e :: l, p :: es, i, h => by
    simp only [List.map_cons, List.cons.injEq, Prod.mk.injEq] at h
    obtain ⟨⟨h1, h2⟩, h3⟩ := h
    unfold Instr.findNow mfind
    rw [h1]
    by_cases c : p.1 = k
    · simp [Instr.sameNow, c, h2]
    · have c' : (k == p.1) = false := by simpa using fun e => c e.symm
      simp only [Instr.sameNow, if_true, c', if_neg c]
      exact findNow_ints h3
theorem mapI_open {b : Nat} {es : List (Int × Int)} {R : List HProp} {w : World} (p : Pick M (mapI b es) R) (s : HSt c M w) : ∃ (l : List MapEntry) (clock : Nat), l.map (fun e => (e.key, e.val)) = es.map (fun p => (Value.int .i64 p.1, Value.int .i64 p.2)) ∧ BornOk l clock ∧ HSt c (pts b (.map l.toArray clock) :: R) w := by
  obtain ⟨f, h, m, le, d⟩ := s
  obtain ⟨h1, h2, ⟨l, ck, hl, hB, a⟩, r, dj, l1, l2⟩ := p.sep m
  exact ⟨l, ck, hl, hB, f, h, ⟨h1, h2, a, r, dj, l1, l2⟩, le, d⟩
theorem Ent.mapI {b ck : Nat} {l : List MapEntry} {es : List (Int × Int)} {R : List HProp} (hl : l.map (fun e => (e.key, e.val)) = es.map (fun p => (Value.int .i64 p.1, Value.int .i64 p.2))) (hB : BornOk l ck) : Ent (pts b (.map l.toArray ck) :: R) (Sx.mapI b es :: R) := fun h x => by
  obtain ⟨h1, h2, a, r', dj, l1, l2⟩ := x
  exact ⟨h1, h2, ⟨l, ck, hl, hB, a⟩, r', dj, l1, l2⟩
theorem run_checkKey_int {kt : TypeId} {k : Int} {b : Bool} {w : World} (hk : P.underlying kt = some (.int .i64)) : (Instr.checkKey b 10000 kt (.int .i64 k)).run P w = .ok () w := by
  rw [Instr.checkKey, Sem.run_bind, run_underlying hk]; rfl
theorem run_findKey_ints {kt : TypeId} {k : Int} {l : List MapEntry} {es : List (Int × Int)} {w : World} (hk : P.underlying kt = some (.int .i64)) (h : l.map (fun e => (e.key, e.val)) = es.map (fun p => (Value.int .i64 p.1, Value.int .i64 p.2))) :
    (Instr.findKey kt (.int .i64 k) l).run P w = .ok ((mfind k es 0).map fun q => (q.1, Value.int .i64 q.2)) w := by
  simp only [Instr.findKey, Sem.run_bind, run_underlying hk, Result.andThen_ok, findNow_ints h, Sem.run_pure]
section
variable {t kt et : TypeId} {x y z : Operand} {b : Nat} {es : List (Int × Int)} {R : List HProp} {k v : Int} {i : TypeInfo}
theorem run_lookup_ints {w : World} {ok : Bool} (hu : P.underlying t = some (.map kt et)) (hk : P.underlying kt = some (.int .i64)) (hi : P.info? et = some i) (hz : i.zero = some (.int .i64 0)) (hp : Pick M (mapI b es) R) (s : HSt c M w) :
    (Instr.lookup t (.map (some b)) (.int .i64 k) ok).run P w = .ok (if ok then .tuple #[.int .i64 ((mget es k).getD 0), .bool (mget es k).isSome] else .int .i64 ((mget es k).getD 0)) w := by
  obtain ⟨l, ck, hl, hB, hs⟩ := mapI_open hp s
  have hg : (getObj b).run P w = .ok (.map l.toArray ck) w := by simp [getObj, Sem.run, hs.pts .head]
  have hzv : (zeroValue et).run P w = .ok (.int .i64 0) w := by simp [zeroValue, typeInfo, run_program, hi, hz]
  simp only [Instr.lookup, Sem.run_bind, run_underlying hu, Result.andThen_ok, hg, Sem.run_pure, run_checkKey_int hk, run_findKey_ints hk hl]
  unfold mget
  cases mfind k es 0 with
  | none => cases ok <;> simp [hzv]
  | some q => cases ok <;> simp
theorem ev_lookupOk (hx : opnd L x = some (.map (some b))) (hy : opnd L y = some (.int .i64 k)) (hu : P.underlying t = some (.map kt et)) (hk : P.underlying kt = some (.int .i64)) (hi : P.info? et = some i) (hz : i.zero = some (.int .i64 0)) (hp : Pick M (mapI b es) R) :
    Ev P ⟨dst, .lookup t x y true, ty, pos, after, g⟩ c n L M (.tuple #[.int .i64 ((mget es k).getD 0), .bool (mget es k).isSome]) := fun T w s => by
  simp only [execOp, opnd_eval s.slots hx, opnd_eval s.slots hy, Sem.run_bind, run_lookup_ints (ok := true) hu hk hi hz hp s.heap, Result.andThen_ok, Sem.run_pure, if_true]
theorem o_makeMap {d : Nat} (hd : Nat.blt d n = true) (h : ∀ b, wpE P ops rest Q c n ((d, .map (some b)) :: L) (mapI b [] :: M)) : wpO P ops ⟨some d, .makeMap t none, ty, pos, after, g⟩ rest Q c n L M :=
  o_val rfl hd fun T w s => ⟨_, w.alloc (.map #[] 0), _, _, by
    simp [execOp, Instr.makeMap, newObj, Sem.run], HSt.ent (Ent.mapI (l := []) rfl (bornOk_nil 0)) (HSt.new s.heap (.map #[] 0) rfl rfl rfl rfl), rfl, h _⟩
theorem hst_setMap {ck : Nat} {l l' : List MapEntry} {w : World} (ck' : Nat) (hs : HSt c (pts b (.map l.toArray ck) :: R) w) : HSt c (pts b (.map l'.toArray ck') :: R) { w with heap := w.heap.setIfInBounds b (.map l'.toArray ck') } := by
  have hb := hs.pts .head
  have hlt : b < w.heap.size := (Array.getElem?_eq_some_iff.1 hb).1
  exact HSt.put (b := b) .head hs (by simp) (by simp [hlt]) (fun k hk => by simp [Array.getElem?_setIfInBounds_ne (Ne.symm hk)]) rfl rfl rfl
theorem run_setMap {o : Obj} {w : World} {es : Array MapEntry} {ck : Nat} (hb : w.heap[b]? = some (.map es ck)) : (setObj b o).run P w = .ok () { w with heap := w.heap.setIfInBounds b o } := by simp [setObj, Sem.run, hb]
def putE (l : List MapEntry) (f : Option (Nat × Int)) (k v : Int) (ck : Nat) : List MapEntry := match f with
  | some (j, _) => (l.toArray.modify j fun (e : MapEntry) => { e with key := .int .i64 k, val := .int .i64 v }).toList
  | none => l ++ [⟨.int .i64 k, .int .i64 v, ck⟩]
theorem mput_entries {l : List MapEntry} {ck : Nat} (hl : l.map (fun e => (e.key, e.val)) = es.map (fun p => (Value.int .i64 p.1, Value.int .i64 p.2))) :
    (putE l (mfind k es 0) k v ck).map (fun e => (e.key, e.val)) = (mput es k v).map (fun p => (Value.int .i64 p.1, Value.int .i64 p.2)) := by
  unfold mput putE
  cases h : mfind k es 0 with
  | none => simp [hl]
  | some q =>
    obtain ⟨j, u⟩ := q
    have hll : l.length = es.length := by have := congrArg List.length hl; simpa using this
    apply List.ext_getElem?
    intro m
    have hm : (l.map (fun e => (e.key, e.val)))[m]? = (es.map (fun p => (Value.int .i64 p.1, Value.int .i64 p.2)))[m]? := by rw [hl]
    simp only [List.getElem?_map] at hm
    simp only [List.getElem?_map, Array.toList_modify, List.getElem?_modify, List.getElem?_set]
    by_cases c : j = m
    · subst c
      have hj := (mfind_some h).2
      rw [Nat.sub_zero] at hj
      have hlt := (List.getElem?_eq_some_iff.1 hj).1
      have hlt' : j < l.length := by omega
      simp [hlt, hlt']
    · simp only [if_neg c]
      cases e1 : l[m]? <;> cases e2 : es[m]? <;> simp_all
theorem putE_born {l : List MapEntry} {ck : Nat} (h : BornOk l ck) (j : Nat) (u : Int) : BornOk (putE l (some (j, u)) k v ck) ck := h.same (by
  unfold putE
  simp only [Array.toList_modify]
  apply List.ext_getElem?
  intro m
  simp only [List.getElem?_map, List.getElem?_modify]
  by_cases c : j = m
  · subst c; cases l[j]? <;> simp
  · simp [c])
theorem run_mapUpdate {w : World} (hu : P.underlying t = some (.map kt et)) (hk : P.underlying kt = some (.int .i64)) (hp : Pick M (mapI b es) R) (s : HSt c M w) : ∃ w', (Instr.mapUpdate t (.map (some b)) (.int .i64 k) (.int .i64 v)).run P w = .ok () w' ∧ HSt c (mapI b (mput es k v) :: R) w' := by
  obtain ⟨l, ck, hl, hB, hs⟩ := mapI_open hp s
  have hb := hs.pts .head
  have hg : (getObj b).run P w = .ok (.map l.toArray ck) w := by simp [getObj, Sem.run, hb]
  have hm := mput_entries (v := v) (k := k) (ck := ck) hl
  have hll : l.length = es.length := by have := congrArg List.length hl; simpa using this
  cases hf : mfind k es 0 with
  | none =>
    rw [hf] at hm
    refine ⟨_, ?_, HSt.ent (Ent.mapI hm (hB.push _ _)) (hst_setMap (l' := putE l none k v ck) (ck + 1) hs)⟩
    simp only [Instr.mapUpdate, Sem.run_bind, run_underlying hu, Result.andThen_ok, hg, run_checkKey_int hk, run_findKey_ints hk hl, hf, Option.map_none, run_setMap hb, Sem.run_pure, putE]
    simp
  | some q =>
    obtain ⟨j, u⟩ := q
    rw [hf] at hm
    have hj := (mfind_some hf).2
    rw [Nat.sub_zero] at hj
    have hkey : ((l[j]?).map (·.key)).getD (.int .i64 k) = .int .i64 k := by
      have : (l.map (fun e => (e.key, e.val)))[j]? = (es.map (fun p => (Value.int .i64 p.1, Value.int .i64 p.2)))[j]? := by rw [hl]
      simp only [List.getElem?_map, hj] at this
      cases e : l[j]? with
      | none => rw [e] at this; simp at this
      | some x => rw [e] at this; simp at this; simp [this.1]
    have hst : (Instr.keyThatStays (.int .i64 k) (.int .i64 k)).run P w = .ok (.int .i64 k) w := by simp [Instr.keyThatStays, Instr.sameBits]
    refine ⟨_, ?_, HSt.ent (Ent.mapI hm (putE_born hB j u)) (hst_setMap (l' := putE l (some (j, u)) k v ck) ck hs)⟩
    simp only [Instr.mapUpdate, Sem.run_bind, run_underlying hu, Result.andThen_ok, hg, run_checkKey_int hk, run_findKey_ints hk hl, hf, Option.map_some, List.getElem?_toArray, hkey, hst, run_setMap hb, Sem.run_pure, putE]
theorem x_mapUpdate {K : Env → List HProp → Prop} (hx : opnd L x = some (.map (some b))) (hy : opnd L y = some (.int .i64 k)) (hv : opnd L z = some (.int .i64 v)) (hu : P.underlying t = some (.map kt et)) (hk : P.underlying kt = some (.int .i64)) (hp : Pick M (mapI b es) R)
    (h : K L (mapI b (mput es k v) :: R)) : OUL P ⟨none, .mapUpdate t x y z, ty, pos, after, g⟩ c n L M K := fun T w s => by
  obtain ⟨w', hr, hs⟩ := run_mapUpdate (k := k) (v := v) hu hk hp s.heap
  refine ⟨w', _, ?_, hs, h⟩
  simp only [execOp, opnd_eval s.slots hx, opnd_eval s.slots hy, opnd_eval s.slots hv, Sem.run_bind, hr, Result.andThen_ok, Sem.run_pure]
def OVN (P : Program) (o : Oper) (c : Cx) (n : Nat) (L : Env) (M : List HProp) (K : Env → List HProp → Prop) : Prop :=
  ∀ T w, St c n L M T w → ∃ v w' M', (execOp (Act.eval ⟨T, c.ds⟩) o).run P w = .ok (.value v) w' ∧ HSt c M' w' ∧ K L M'
theorem x_delete {K : Env → List HProp → Prop} {tk : TypeId} (hx : opnd L x = some (.map (some b))) (hy : opnd L y = some (.int .i64 k)) (hu : P.underlying t = some (.map kt et)) (hk : P.underlying kt = some (.int .i64)) (hp : Pick M (mapI b es) R)
    (h : K L (mapI b (mdel es k) :: R)) : OVN P ⟨dst, .call { callee := .builtin .delete, args := #[x, y], argTypes := #[t, tk] }, ty, pos, after, g⟩ c n L M K := fun T w s => by
  obtain ⟨l, ck, hl, hB, hs⟩ := mapI_open hp s.heap
  have hb := hs.pts .head
  have hg : (getObj b).run P w = .ok (.map l.toArray ck) w := by simp [getObj, Sem.run, hb]
  cases hf : mfind k es 0 with
  | none =>
    refine ⟨.tuple #[], _, _, ?_, HSt.ent (Ent.mapI (l := l) (by unfold mdel; rw [hf]; exact hl) hB) (hst_setMap (l' := l) ck hs), h⟩
    simp [execOp, resolve, invoke, builtin, opnd_eval s.slots hx, opnd_eval s.slots hy, Builtin.delete_, run_underlying hu, hg, run_checkKey_int hk, run_findKey_ints hk hl, hf, run_setMap hb]
  | some q =>
    obtain ⟨j, u⟩ := q
    refine ⟨.tuple #[], _, _, ?_, HSt.ent (Ent.mapI (l := l.eraseIdx j) (by unfold mdel; rw [hf]; simp only [List.eraseIdx_eq_take_drop_succ, List.map_append, List.map_take, List.map_drop, hl]) (hB.erase j)) (hst_setMap (l' := l.eraseIdx j) ck hs), h⟩
    simp [execOp, resolve, invoke, builtin, opnd_eval s.slots hx, opnd_eval s.slots hy, Builtin.delete_, run_underlying hu, hg, run_checkKey_int hk, run_findKey_ints hk hl, hf, run_setMap hb]
end
section
variable {t kt et : TypeId} {x y z : Operand} {b : Nat} {es : List (Int × Int)} {R : List HProp} {k v : Int} {i : TypeInfo}
abbrev mapR (b : Nat) (l : List MapEntry) (ck : Nat) : HProp := pts b (.map l.toArray ck)
theorem wpC_map {code : Code} (hp : Pick M (mapI b es) R) (h : ∀ l ck, l.map (fun e => (e.key, e.val)) = es.map (fun p => (Value.int .i64 p.1, Value.int .i64 p.2)) → BornOk l ck → wpC P code Q c n L (mapR b l ck :: R)) : wpC P code Q c n L M := fun T w s => by
  obtain ⟨l, ck, hl, hB, hs⟩ := mapI_open hp s.heap
  exact h l ck hl hB T w ⟨s.size, s.slots, hs⟩
theorem x_mapEntry {K : Env → List HProp → Prop} {d j s' ck : Nat} {u : Int} {l : List MapEntry} (hx : opnd L x = some (.map (some b))) (hy : opnd L y = some (.int .i64 k)) (hu : P.underlying t = some (.map kt et)) (hk : P.underlying kt = some (.int .i64)) (hp : Pick M (mapR b l ck) R)
    (hl : l.map (fun e => (e.key, e.val)) = es.map (fun p => (Value.int .i64 p.1, Value.int .i64 p.2))) (hf : mfind k es 0 = some (j, u)) (hj : l[j]? = some ⟨.int .i64 k, .int .i64 u, s'⟩)
    (h : K ((d, .tuple #[.int .i64 u, .int .i64 (s' : Int)]) :: L) (mapR b l ck :: R)) : OVL P ⟨some d, .mapEntry t x y, ty, pos, after, g⟩ c n L M d K := fun T w s => by
  have hb := s.heap.pts hp
  have hg : (getObj b).run P w = .ok (.map l.toArray ck) w := by simp [getObj, Sem.run, hb]
  have hst : (Instr.keyThatStays (.int .i64 k) (.int .i64 k)).run P w = .ok (.int .i64 k) w := by simp [Instr.keyThatStays, Instr.sameBits]
  have hs0 : HSt c (pts b (.map l.toArray ck) :: R) w := by
    obtain ⟨f, hh, m, le, dd⟩ := s.heap
    exact ⟨f, hh, hp.sep m, le, dd⟩
  have hmod : l.toArray.modify j (fun e => { e with key := Value.int .i64 k }) = l.toArray := by
    apply Array.toList_inj.1
    rw [Array.toList_modify]
    apply List.ext_getElem?
    intro m
    rw [List.getElem?_modify]
    by_cases c : j = m
    · subst c; simp [hj]
    · simp [c]
  refine ⟨_, _, _, _, ?_, hst_setMap (l' := l) ck hs0, rfl, h⟩
  simp only [execOp, opnd_eval s.slots hx, opnd_eval s.slots hy, Instr.mapEntry, Sem.run_bind, run_underlying hu, Result.andThen_ok, hg, run_checkKey_int hk, run_findKey_ints hk hl, hf, Option.map_some, List.getElem?_toArray, hj, Option.getD_some, hst, hmod, run_setMap hb, Sem.run_pure, goInt]
theorem findIdx_born {l : List MapEntry} (hn : (l.map (·.born)).Nodup) {j : Nat} {e0 : MapEntry} (h : l[j]? = some e0) : l.toArray.findIdx? (fun e => ((e.born : Nat) : Int) == ((e0.born : Nat) : Int)) = some j := by
  rw [List.findIdx?_toArray, List.findIdx?_eq_some_iff_getElem]
  obtain ⟨hj, e⟩ := List.getElem?_eq_some_iff.1 h
  refine ⟨hj, by simp [e], fun i hi => ?_⟩
  have hne := (List.nodup_iff_pairwise_ne.1 hn)
  rw [List.pairwise_map] at hne
  have := List.pairwise_iff_getElem.1 hne i j (by omega) hj hi
  rw [e] at this
  simp only [beq_iff_eq]
  intro c
  exact this (by omega)
theorem x_entryStore {K : Env → List HProp → Prop} {j s' ck : Nat} {u : Value} {k0 u0 : Value} {l : List MapEntry} (hx : opnd L x = some (.map (some b))) (hy : opnd L y = some (.int .i64 (s' : Int))) (hz : opnd L z = some u) (hp : Pick M (mapR b l ck) R)
    (hn : (l.map (·.born)).Nodup) (hj : l[j]? = some ⟨k0, u0, s'⟩)
    (h : K L (mapR b (l.set j ⟨k0, u, s'⟩) ck :: R)) : OUL P ⟨none, .entryStore t x y z, ty, pos, after, g⟩ c n L M K := fun T w s => by
  have hb := s.heap.pts hp
  have hg : (getObj b).run P w = .ok (.map l.toArray ck) w := by simp [getObj, Sem.run, hb]
  have hs0 : HSt c (pts b (.map l.toArray ck) :: R) w := by
    obtain ⟨f, hh, m, le, dd⟩ := s.heap
    exact ⟨f, hh, hp.sep m, le, dd⟩
  have hmod : l.toArray.modify j (fun e => { e with val := u }) = (l.set j ⟨k0, u, s'⟩).toArray := by
    apply Array.toList_inj.1
    rw [Array.toList_modify]
    apply List.ext_getElem?
    intro m
    rw [List.getElem?_modify]
    by_cases c : j = m
    · subst c
      obtain ⟨hlt, he⟩ := List.getElem?_eq_some_iff.1 hj
      simp [hlt, he]
    · simp [c]
  have hfi := findIdx_born hn hj
  simp only at hfi
  refine ⟨_, _, ?_, hst_setMap (l' := l.set j ⟨k0, u, s'⟩) ck hs0, h⟩
  simp only [execOp, opnd_eval s.slots hx, opnd_eval s.slots hy, opnd_eval s.slots hz, Instr.entryStore, Sem.run_bind, Result.andThen_ok, hg, asInt, asIntOf, Sem.run_pure, hfi, hmod, run_setMap hb]
end
end Go.Sx
set_option linter.unusedSimpArgs false
set_option linter.unusedVariables false
namespace Go.Sx
open Go Go.Conc
variable {P : Program} {ops : Array Oper} {Q : Exit → Act → World → Prop} {c : Cx} {n : Nat} {L : Env} {M : List HProp} {rest : List Oper}
variable {dst : Option Nat} {ty : TypeId} {pos : String} {after : Array Edge} {g : Option (Nat × Bool)}
section
variable {S : List HProp} {m r fuel : Nat} {listed : Array Bool}
def wpD1 (P : Program) (ops : Array Oper) (S : List HProp) (m r fuel : Nat) (listed : Array Bool) (i : Nat) (Q : Exit → Act → World → Prop) (c : Cx) (n : Nat) (L : Env) (M : List HProp) : Prop :=
  ∀ T w, St c n L M T w → wpOp P ops (QN Q) i (fun a' w' => HSt c S w' ∧ wpAnyK P .any ops (QN Q) (HSt c S) m (KN P ops Q r) fuel (listed.setIfInBounds i true) a' w') ⟨T, c.ds⟩ w
theorem wpD_two (i j : Nat) (h1 : wpD1 P ops S m r fuel listed i Q c n L M) (h2 : wpD1 P ops S m r fuel listed j Q c n L M) (hr : Region.ready .any ops listed = [i, j] := by decide +kernel) : wpD P ops S m r (fuel + 1) listed Q c n L M := fun T w s => ⟨by rw [hr]; simp, fun k hk => by
  rw [hr] at hk
  rcases List.mem_cons.1 hk with rfl | hk
  · exact h1 T w s
  · obtain rfl : k = j := by simpa using hk
    exact h2 T w s⟩
theorem d1_val {i : Nat} {o : Oper} {d : Nat} (h : OVL P o c n L M d (fun L' M' => Ent M' S ∧ wpD P ops S m r fuel (listed.setIfInBounds i true) Q c n L' M')) (hi : ops[i]? = some o := by rfl) (hg : wantB ops o L = true := by rfl) (ho : o.dst = some d := by rfl) (hd : Nat.blt d n = true := by rfl) :
    wpD1 P ops S m r fuel listed i Q c n L M := fun T w s => by
  obtain ⟨v, w', L', M', hrun, hst, rfl, he, hk⟩ := h T w s
  unfold wpOp
  simp only [hi]
  rw [if_pos (wanted_of hg s.slots)]
  refine .inl ?_
  unfold Oper.wp
  rw [hrun, Oper.upon_value]
  refine ⟨HSt.ent he hst, ?_⟩
  have := hk (T.setIfInBounds d v) w' ⟨by simp [s.size], s.slots.put s.size hd v, hst⟩
  simpa [Act.put, ho] using this
theorem wpD_lastN {o : Oper} (hi : ops[m]? = some o) (hg : wantB ops o L = true) (hr : Region.ready .any ops listed = [m]) (hr' : Region.ready .any ops (listed.setIfInBounds m true) = []) (ho : o.dst = none)
    (h : OVN P o c n L M (fun L' M' => qE Q .normal c n L' M')) : wpD P ops S m 1 0 listed Q c n L M := fun T w s => by
  refine ⟨hr, fun h0 => absurd h0 (by rw [hr]; simp), fun j hj => ?_⟩
  rw [hr] at hj
  obtain rfl : j = m := by simpa using hj
  obtain ⟨v, w', M', hrun, hst, hk⟩ := h T w s
  unfold wpOp
  simp only [hi]
  rw [if_pos (wanted_of hg s.slots)]
  refine .inl ?_
  unfold Oper.wp
  rw [hrun, Oper.upon_value]
  have := hk T w' ⟨s.size, s.slots, hst⟩
  exact ⟨hr', rfl, by simpa [Act.put, ho] using this⟩
end
theorem x_storeP {K : Env → List HProp → Prop} {t : TypeId} {x y : Operand} {i : TypeInfo} {b off : Nat} {l l' vs : List Value} {T' : TypeId} {v : Value} {R : List HProp} (hx : opnd L x = some (.pointer (some ⟨b, off, none⟩))) (hy : opnd L y = some v) (hi : P.info? t = some i) (hv : v.cells = vs.toArray) (hs : vs.length = i.size)
    (h1 : vs.all (·.oneCell') = true) (hp : Pick M (pts b (.cells l.toArray T' (0, 0))) R) (hl : off + vs.length ≤ l.length) (he : l.take off ++ vs ++ l.drop (off + vs.length) = l') (h : K L (pts b (.cells l'.toArray T' (0, 0)) :: R)) :
    OUL P ⟨none, .store t x y, ty, pos, after, g⟩ c n L M K := fun T w s => by
  have hr := run_storeVar_row (P := P) (t := t) hi hv hs (by simpa using h1) (s.heap.pts hp) (off := off) hl
  rw [he] at hr
  refine ⟨_, _, ?_, hst_setRow hp s.heap, h⟩
  simp [execOp, opnd_eval s.slots hx, opnd_eval s.slots hy, Instr.storeAt, Instr.sureAddr, hr]
theorem ev_max {k : IntKind} {x y : Operand} {ts : Array TypeId} {a b r : Int} (hx : opnd L x = some (.int k a)) (hy : opnd L y = some (.int k b)) (h : max a b = r) : Ev P ⟨dst, .call { callee := .builtin .max, args := #[x, y], argTypes := ts }, ty, pos, after, g⟩ c n L M (.int k r) := fun T w s => by
  subst h
  simp [execOp, resolve, invoke, builtin, opnd_eval s.slots hx, opnd_eval s.slots hy, Builtin.max_, Builtin.max2]
  try (split <;> rename_i c <;> simp [Int.max_def] <;> omega)
theorem ev_min {k : IntKind} {x y : Operand} {ts : Array TypeId} {a b r : Int} (hx : opnd L x = some (.int k a)) (hy : opnd L y = some (.int k b)) (h : min a b = r) : Ev P ⟨dst, .call { callee := .builtin .min, args := #[x, y], argTypes := ts }, ty, pos, after, g⟩ c n L M (.int k r) := fun T w s => by
  subst h
  simp [execOp, resolve, invoke, builtin, opnd_eval s.slots hx, opnd_eval s.slots hy, Builtin.min_, Builtin.min2]
  try (split <;> rename_i c <;> simp [Int.min_def] <;> omega)
end Go.Sx
set_option linter.unusedSimpArgs false
set_option linter.unusedVariables false
namespace Go.Sx
open Go Go.Conc
variable {P : Program} {ops : Array Oper} {Q : Exit → Act → World → Prop} {c : Cx} {n : Nat} {L : Env} {M : List HProp} {rest : List Oper}
variable {dst : Option Nat} {ty : TypeId} {pos : String} {after : Array Edge} {g : Option (Nat × Bool)}
def starI (l : List HProp) : HProp := fun h => sepL l h
theorem Ent.star {l R : List HProp} : Ent (starI l :: R) (l ++ R) := fun h s => by
  obtain ⟨h1, h2, a, r, d, l1, l2⟩ := s
  exact sepL_join a r d l1 l2
theorem Ent.unstar {l R : List HProp} : Ent (l ++ R) (starI l :: R) := fun h s => by
  obtain ⟨h1, h2, a, r, d, l1, l2⟩ := sepL_append s
  exact ⟨h1, h2, a, r, d, l1, l2⟩
theorem ev_makeFunc {f : Fn} {bs fs : List Operand} {vb vf : List Value} (hb : opnds L bs = some vb) (hf : opnds L fs = some vf) : Ev P ⟨dst, .makeFunc f bs.toArray fs.toArray, ty, pos, after, g⟩ c n L M (.func f vb.toArray vf.toArray) := fun T w s => by
  have e1 := opnds_eval (ds := c.ds) s.slots hb
  have e2 := opnds_eval (ds := c.ds) s.slots hf
  simp only [execOp, Instr.makeFunc, List.map_toArray, e1, e2, Sem.run_bind, Sem.run_pure, Result.andThen_ok]
theorem o_callV {σ : Type} {d : Nat} {f : FuncId} {x : Operand} {xs : List Operand} {ats : Array TypeId} {args fr : List Value} {A R : List HProp} {φ : σ → Prop} {val : σ → Value} {B : σ → List HProp}
    (S : FnDoes P f (args ++ fr) A φ val B) (hf : opnd L x = some (.func (.func f) #[] fr.toArray)) (hnf : ∀ g, x ≠ .func g) (hx : opnds L xs = some args) (hp : Ent M (A ++ R)) (hd : Nat.blt d n = true)
    (h : ∀ y, φ y → wpE P ops rest Q c n ((d, val y) :: L) (B y ++ R)) :
    wpO P ops ⟨some d, .call { callee := .value x, args := xs.toArray, argTypes := ats }, ty, pos, after, g⟩ rest Q c n L M := fun i hi T w s hw => by
  obtain ⟨h1, h2⟩ := drop_cons hi
  have hr : (execOp (Act.eval ⟨T, c.ds⟩) ⟨some d, .call { callee := .value x, args := xs.toArray, argTypes := ats }, ty, pos, after, g⟩).run P w = .ok (.enter f (args ++ fr).toArray) w := by
    have e1 := opnds_eval (ds := c.ds) s.slots hx
    have e2 := opnd_eval (ds := c.ds) s.slots hf
    have := S.may (args ++ fr).toArray w
    simp only [execOp, resolve, e2, Deferred.ofValue, Sem.run_bind, Sem.run_pure, Result.andThen_ok, invoke, List.map_toArray, e1]
    simpa using this
  refine wpI_call (i := i) (a := ⟨T, c.ds⟩) (by simpa using h1) hw hr (R := fun v w2 => ∃ y, φ y ∧ v = val y ∧ HSt c (B y ++ R) w2) ?_ ?_
  · intro cs
    obtain ⟨f', hh, m, l, dd⟩ := s.heap
    obtain ⟨ha, hr', a, r, dj, l1, l2⟩ := sepL_append (hp _ m)
    obtain ⟨e, w2, fr, ⟨y, hy, he, hst⟩, hcm, hfr, hl⟩ := S.does w ha a (PHeap.le_trans l1 l) cs
    refine ⟨e, w2, fr, ⟨val y, he, y, hy, rfl, ?_⟩, hcm, hfr, hl⟩
    exact HSt.call f' l dd r dj l1 l2 hst
  · rintro v w2 ⟨y, hy, rfl, hst⟩
    have := h y hy (i + 1) h2 (T.setIfInBounds d (val y)) w2 ⟨by simp [s.size], s.slots.put s.size hd _, hst⟩
    simpa [Act.put] using this
theorem o_callVA {σ : Type} {d : Nat} {f : FuncId} {x : Operand} {xs : List Operand} {ats : Array TypeId} {args fr : List Value} {A R : List HProp} {φ : σ → Prop} {val : σ → Value} {B : σ → List HProp}
    (S : FnDoes P f (args ++ fr) A φ val B) (h : ∀ y, φ y → wpE P ops rest Q c n ((d, val y) :: L) (B y ++ R)) (hf : opnd L x = some (.func (.func f) #[] fr.toArray) := by rfl) (hnf : ∀ g, x ≠ .func g := by (intro g_ h_; cases h_)) (hx : opnds L xs = some args := by rfl)
    (hp : Ent M (A ++ R) := by exact Picks.ent pKS) (hd : Nat.blt d n = true := by rfl) :
    wpO P ops ⟨some d, .call { callee := .value x, args := xs.toArray, argTypes := ats }, ty, pos, after, g⟩ rest Q c n L M := o_callV S hf hnf hx hp hd h
theorem q_retCell {σ : Type} {fn : Func} {φ : σ → Prop} {val : σ → Value} {B : σ → List HProp} {a b : Nat} {tt T' : TypeId} {f : Nat × Nat} {l : List Value} {R : List HProp} {d : TypeDesc} {i : TypeInfo} (hr : fn.results = #[.cell a tt]) (ha : L.get a = some (.pointer (some ⟨b, 0, none⟩)))
    (hu : P.underlying tt = some d) (hd : aggD d = true) (hi : P.info? tt = some i) (hp : Pick M (pts b (.cells l.toArray T' f)) R) (hs : l.length = i.size) (y : σ) (hv : Value.agg l.toArray = val y) (hy : φ y) (hM : Ent M (B y)) :
    qE (fnPost c P fn (PostS c φ val B)) .ret c n L M := fun T w s => by
  have h1 := s.slots _ _ ha
  have hl := run_loadVar_agg (P := P) (b := b) (off := 0) hu hd hi hs (w := w) (fun j v e => by rw [cell_pts (s.heap.pts hp)]; simpa using e)
  refine ⟨rfl, val y, ?_, y, hy, rfl, s.heap.ent hM⟩
  simp [results, hr, h1, asAddr, hl, hv]
end Go.Sx
