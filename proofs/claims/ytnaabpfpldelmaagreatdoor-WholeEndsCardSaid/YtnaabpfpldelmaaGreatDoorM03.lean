/-
  Operations that make or write memory; communications in one goroutine; results. No program in sight.
  A region that draws its order and only reads: one walk in the text's order. Pointers of two blocks. No program in sight.
-/
import Derived.Test.YtnaabpfpldelmaaGreatDoorM02
import Derived.Deep.AppendSrc
import Derived.StillTail
set_option linter.unusedSimpArgs false
set_option linter.unusedVariables false
namespace Go.Sx
open Go Go.Conc
variable {P : Program} {ops : Array Oper} {Q : Exit → Act → World → Prop} {c : Cx} {n : Nat} {L : Env} {M : List HProp} {rest : List Oper}
variable {dst : Option Nat} {ty : TypeId} {pos : String} {after : Array Edge} {g : Option (Nat × Bool)}
theorem o_alloc {d e : Nat} {i : TypeInfo} {z : Value} {l : List Value} (hi : P.info? e = some i) (hz : i.zero = some z) (hl : z.cells = l.toArray) (hd : Nat.blt d n = true)
    (h : ∀ b, wpE P ops rest Q c n ((d, .pointer (some ⟨b, 0, none⟩)) :: L) (pts b (.cells l.toArray e (0, 0)) :: M)) : wpO P ops ⟨some d, .alloc e, ty, pos, after, g⟩ rest Q c n L M :=
  o_val rfl hd fun T w s => ⟨_, { w with heap := w.heap.push (.cells l.toArray e (0, 0)) }, _, _, by
    simp [execOp, Instr.alloc, zeroValue, typeInfo, hi, hz, newVar, newRow, newObj, Sem.run, hl, run_program], HSt.new s.heap _ rfl rfl rfl rfl, rfl, h _⟩
theorem o_box {d e : Nat} {x : Operand} {v : Value} {l : List Value} (hx : opnd L x = some v) (hl : v.cells = l.toArray) (hd : Nat.blt d n = true)
    (h : ∀ b, wpE P ops rest Q c n ((d, .pointer (some ⟨b, 0, none⟩)) :: L) (pts b (.cells l.toArray e (0, 0)) :: M)) : wpO P ops ⟨some d, .box e x, ty, pos, after, g⟩ rest Q c n L M :=
  o_val rfl hd fun T w s => ⟨_, { w with heap := w.heap.push (.cells l.toArray e (0, 0)) }, _, _, by
    simp [execOp, opnd_eval s.slots hx, Instr.box, newVar, newRow, newObj, Sem.run, hl], HSt.new s.heap _ rfl rfl rfl rfl, rfl, h _⟩
inductive Upd1 : List Value → Nat → Value → List Value → Prop
  | head {a v : Value} {l : List Value} : Upd1 (a :: l) 0 v (v :: l)
  | tail {a v : Value} {l l' : List Value} {k : Nat} : Upd1 l k v l' → Upd1 (a :: l) (k + 1) v (a :: l')
theorem Upd1.set {l l' : List Value} {k : Nat} {v : Value} (h : Upd1 l k v l') : k < l.length ∧ l.set k v = l' := by
  induction h with
  | head => simp
  | tail _ ih => simp [ih.1, ih.2]
theorem Upd1.of {l : List Value} {k : Nat} {v : Value} (h : k < l.length) : Upd1 l k v (l.set k v) := by
  induction l generalizing k with
  | nil => simp at h
  | cons a l ih =>
    cases k with
    | zero => exact .head
    | succ k => exact .tail (ih (by simpa using h))
theorem hst_setRow {R : List HProp} {b : Nat} {l l' : List Value} {T' : TypeId} {w : World} (p : Pick M (pts b (.cells l.toArray T' (0, 0))) R) (s : HSt c M w) : HSt c (pts b (.cells l'.toArray T' (0, 0)) :: R) (w.setRow b l'.toArray) :=
  HSt.put p s (by simp) (setRow_heap w b _ _ _ _ (s.pts p)) (fun k hk => setRow_other w b k _ hk) rfl rfl rfl
theorem run_storeVar_row {t : TypeId} {i : TypeInfo} {b off : Nat} {l vs : List Value} {T' : TypeId} {v : Value} {w : World} (hi : P.info? t = some i) (hv : v.cells = vs.toArray) (hs : vs.length = i.size) (h1 : ∀ u ∈ vs, u.oneCell' = true)
    (hb : w.heap[b]? = some (.cells l.toArray T' (0, 0))) (hl : off + vs.length ≤ l.length) : (storeVar t ⟨b, off, none⟩ v).run P w = .ok () (w.setRow b (l.take off ++ vs ++ l.drop (off + vs.length)).toArray) := by
  have := run_storeCells_at P b off T' vs 0 l.toArray w hb (by simpa using hl) h1
  simp only [Nat.add_zero] at this
  simp [storeVar, sizeOf, typeInfo, run_program, hi, hv, hs, this]
theorem o_store {t : TypeId} {x y : Operand} {i : TypeInfo} {b off : Nat} {l l' : List Value} {T' : TypeId} {v : Value} {R : List HProp} (hx : opnd L x = some (.pointer (some ⟨b, off, none⟩))) (hy : opnd L y = some v) (hi : P.info? t = some i) (hs : Nat.beq i.size 1 = true)
    (hv : v.oneCell' = true) (hp : Pick M (pts b (.cells l.toArray T' (0, 0))) R) (hu : Upd1 l off v l') (h : wpE P ops rest Q c n L (pts b (.cells l'.toArray T' (0, 0)) :: R)) :
    wpO P ops ⟨none, .store t x y, ty, pos, after, g⟩ rest Q c n L M := o_unit rfl fun T w s => by
  have hvc : v.cells = [v].toArray := by cases v <;> first | rfl | cases hv
  have hsz : [v].length = i.size := by have := Nat.eq_of_beq_eq_true hs; simp [this]
  have hr := run_storeVar_row (P := P) (t := t) hi hvc hsz (by simpa using hv) (s.heap.pts hp) (off := off) (by have := hu.set.1; simp; omega)
  have e : l.take off ++ [v] ++ l.drop (off + [v].length) = l' := by
    rw [← hu.set.2, List.set_eq_take_append_cons_drop, if_pos hu.set.1]; simp
  rw [e] at hr
  refine ⟨_, _, ?_, hst_setRow hp s.heap, h⟩
  simp [execOp, opnd_eval s.slots hx, opnd_eval s.slots hy, Instr.storeAt, Instr.sureAddr, hr]
theorem o_store_whole {t : TypeId} {x y : Operand} {i : TypeInfo} {b : Nat} {l vs : List Value} {T' : TypeId} {v : Value} {R : List HProp} (hx : opnd L x = some (.pointer (some ⟨b, 0, none⟩))) (hy : opnd L y = some v) (hi : P.info? t = some i) (hv : v.cells = vs.toArray) (hs : vs.length = i.size)
    (h1 : vs.all (·.oneCell') = true) (hp : Pick M (pts b (.cells l.toArray T' (0, 0))) R) (hl : l.length = vs.length) (h : wpE P ops rest Q c n L (pts b (.cells vs.toArray T' (0, 0)) :: R)) :
    wpO P ops ⟨none, .store t x y, ty, pos, after, g⟩ rest Q c n L M := o_unit rfl fun T w s => by
  have hr := run_storeVar_row (P := P) (t := t) hi hv hs (by simpa using h1) (s.heap.pts hp) (off := 0) (by omega)
  have e : l.take 0 ++ vs ++ l.drop (0 + vs.length) = vs := by simp [← hl]
  rw [e] at hr
  refine ⟨_, _, ?_, hst_setRow hp s.heap, h⟩
  simp [execOp, opnd_eval s.slots hx, opnd_eval s.slots hy, Instr.storeAt, Instr.sureAddr, hr]
theorem o_store_part {t : TypeId} {x y : Operand} {i : TypeInfo} {b off : Nat} {l l' vs : List Value} {T' : TypeId} {v : Value} {R : List HProp} (hx : opnd L x = some (.pointer (some ⟨b, off, none⟩))) (hy : opnd L y = some v) (hi : P.info? t = some i) (hv : v.cells = vs.toArray) (hs : vs.length = i.size)
    (h1 : vs.all (·.oneCell') = true) (hp : Pick M (pts b (.cells l.toArray T' (0, 0))) R) (hl : off + vs.length ≤ l.length) (he : l.take off ++ vs ++ l.drop (off + vs.length) = l') (h : wpE P ops rest Q c n L (pts b (.cells l'.toArray T' (0, 0)) :: R)) :
    wpO P ops ⟨none, .store t x y, ty, pos, after, g⟩ rest Q c n L M := o_unit rfl fun T w s => by
  have hr := run_storeVar_row (P := P) (t := t) hi hv hs (by simpa using h1) (s.heap.pts hp) (off := off) hl
  rw [he] at hr
  refine ⟨_, _, ?_, hst_setRow hp s.heap, h⟩
  simp [execOp, opnd_eval s.slots hx, opnd_eval s.slots hy, Instr.storeAt, Instr.sureAddr, hr]
def splice (l : List Value) (off : Nat) (vs : List Value) : List Value := l.take off ++ vs ++ l.drop (off + vs.length)
theorem foldl_splice (off : Nat) : ∀ (vs : List Value) (k : Nat) (cs : Array Value), off + k + vs.length ≤ cs.size →
    (vs.zipIdx k).foldl (fun (cs : Array Value) (p : Value × Nat) => cs.setIfInBounds (off + p.2) p.1) cs = (splice cs.toList (off + k) vs).toArray
  | [], k, cs, _ => by simp [splice]
  | v :: vs, k, cs, h => by
    simp only [List.zipIdx_cons, List.foldl_cons]
    rw [foldl_splice off vs (k + 1) _ (by simp at h ⊢; omega)]
    unfold splice
    have e := list_seg_step cs.toList (off + k) v vs (by simp at h ⊢; omega)
    congr 1
    simpa [Array.toList_setIfInBounds, Nat.add_assoc] using e
def bld (pl : List (Nat × Nat)) : List Value → List (Nat × List Value) → Option (List Value)
  | cs, [] => some cs
  | cs, (i, vs) :: r => match pl[i]? with
    | some (off, size) => bif Nat.beq vs.length size && Nat.ble (off + vs.length) cs.length then bld pl (splice cs off vs) r else none
    | none => none
theorem fill_bld {pl : List (Nat × Nat)} {place : Nat → Option (Nat × Nat)} (hp : ∀ i p, pl[i]? = some p → place i = some p) : ∀ {parts : List (Nat × Value)} {cs r : List Value}, bld pl cs (parts.map fun p => (p.1, p.2.cells.toList)) = some r →
    Instr.fill place cs.toArray parts = some r.toArray
  | [], cs, r, h => by cases h; rfl
  | (i, v) :: rest, cs, r, h => by
    simp only [List.map_cons, bld] at h
    split at h
    · rename_i off size ho
      cases hb : (Nat.beq v.cells.toList.length size && Nat.ble (off + v.cells.toList.length) cs.length) with
      | false => rw [hb] at h; cases h
      | true =>
        rw [hb] at h
        simp only [Bool.and_eq_true] at hb
        have h1 : v.cells.size = size := by have := Nat.eq_of_beq_eq_true hb.1; simpa using this
        have h2 : off + v.cells.size ≤ cs.length := by have := Nat.le_of_ble_eq_true hb.2; simpa using this
        have hn : (decide (v.cells.size ≠ size) || decide (off + v.cells.size > cs.toArray.size)) = false := by simp [h1]; omega
        unfold Instr.fill
        rw [hp _ _ ho]
        simp only [hn, Bool.false_eq_true, if_false]
        have e := foldl_splice off v.cells.toList 0 cs.toArray (by simpa using h2)
        simp only [Nat.add_zero] at e
        have e' : v.cells.zipIdx.foldl (fun cs (p : Value × Nat) => cs.setIfInBounds (off + p.2) p.1) cs.toArray = (splice cs off v.cells.toList).toArray := by
          rw [← e, ← Array.foldl_toList]
          simp
        rw [e']
        exact fill_bld hp h
    · cases h
def placesOf (P : Program) : List Field → Option (List (Nat × Nat))
  | [] => some []
  | f :: r => match P.info? f.type, placesOf P r with
    | some i, some l => some ((f.offset, i.size) :: l)
    | _, _ => none
theorem run_places {w : World} : ∀ {fs : List Field} {l : List (Nat × Nat)}, placesOf P fs = some l → (fs.mapM (fun f => do pure (f.offset, ← sizeOf f.type)) : Sem (List (Nat × Nat))).run P w = .ok l w
  | [], l, h => by cases h; rfl
  | f :: r, l, h => by
    unfold placesOf at h
    split at h
    · rename_i i l' hi hl
      cases h
      have := run_places (w := w) hl
      simp only [List.mapM_cons, Sem.run_bind, sizeOf, typeInfo, run_program, Result.andThen_ok, hi, Sem.run_pure] at this ⊢
      rw [this]; rfl
    · cases h
def partsOf (L : Env) : List (Nat × Operand) → Option (List (Nat × List Value))
  | [] => some []
  | (i, x) :: r => match opnd L x, partsOf L r with
    | some v, some l => some ((i, v.cells.toList) :: l)
    | _, _ => none
theorem partsOf_eval {T : Array Value} {ds : List Deferred} (h : Slots L T) : ∀ {ps : List (Nat × Operand)} {l : List (Nat × List Value)}, partsOf L ps = some l → (ps.map fun p => (p.1, Act.eval ⟨T, ds⟩ p.2)).map (fun p => (p.1, p.2.cells.toList)) = l
  | [], l, e => by cases e; rfl
  | (i, x) :: r, l, e => by
    unfold partsOf at e
    split at e
    · rename_i v l' hv hl
      cases e
      have := partsOf_eval (ds := ds) h hl
      simp only [List.map_cons, opnd_eval h hv] at this ⊢
      rw [this]
    · cases e
theorem ev_build {t : TypeId} {ps : List (Nat × Operand)} {i : TypeInfo} {z : Value} {zs r : List Value} {fs : Array Field} {pl : List (Nat × Nat)} {qs : List (Nat × List Value)} (hi : P.info? t = some i) (hz : i.zero = some z) (hzs : z.cells = zs.toArray)
    (hu : P.underlying t = some (.struct fs)) (hpl : placesOf P fs.toList = some pl) (hps : partsOf L ps = some qs) (hb : bld pl zs qs = some r) : Ev P ⟨dst, .build t ps.toArray, ty, pos, after, g⟩ c n L M (.agg r.toArray) := fun T w s => by
  have e := partsOf_eval (ds := c.ds) s.slots hps
  rw [← e] at hb
  have hf := fill_bld (place := fun i => pl.toArray[i]?) (fun i p h => by simpa using h) hb
  have hm := run_places (w := w) hpl
  have hm' : (fs.mapM (fun f => do pure (f.offset, ← sizeOf f.type)) : Sem (Array (Nat × Nat))).run P w = .ok pl.toArray w := by
    rw [← Array.toArray_toList (xs := fs), List.mapM_toArray]
    simp only [Sem.run_map, hm, Result.andThen_ok]
  simp only [execOp, Instr.build, zeroValue, typeInfo, run_program, hi, hz, Sem.run_bind, Sem.run_pure, Result.andThen_ok, run_underlying hu, hm', List.map_toArray, hzs, hf]
theorem o_makeChan {d : Nat} {t e : TypeId} {dir : ChanDir} {x : Operand} {k : IntKind} {m : Int} {i : TypeInfo} (hx : opnd L x = some (.int k m)) (hu : P.underlying t = some (.chan dir e)) (hi : P.info? e = some i) (h0 : 0 ≤ m) (h1 : i.bytes * m ≤ 281474976710544) (h2 : m ≤ 9223372036854775807) (hd : Nat.blt d n = true)
    (h : ∀ b, wpE P ops rest Q c n ((d, .chan (some b)) :: L) (pts b (.chan m.toNat #[] false 0 0 false) :: M)) : wpO P ops ⟨some d, .makeChan t x, ty, pos, after, g⟩ rest Q c n L M :=
  o_val rfl hd fun T w s => ⟨_, { w with heap := w.heap.push (.chan m.toNat #[] false 0 0 false) }, _, _, by
    have hn : ¬ (m < 0 ∨ m > IntKind.i64.max ∨ i.bytes * m > 2 ^ 48 - 112) := by
      have : IntKind.i64.max = 9223372036854775807 := by decide
      rw [this]; omega
    simp only [execOp, opnd_eval s.slots hx, Instr.makeChan, asInt, asIntOf, Sem.run_bind, Sem.run_pure, Result.andThen_ok, run_underlying hu, typeInfo, run_program, hi, hn, if_false, newObj, Sem.run], HSt.new s.heap _ rfl rfl rfl rfl, rfl, h _⟩
def sl (e size : Nat) (v : Value) (len : Nat) (xs : List Value) : HProp := fun h => xs.length = len * size ∧ xs.all (·.oneCell') = true ∧
  ((v = .slice none 0 0 ∧ len = 0) ∨ ∃ b cap junk, v = .slice (some ⟨b, 0, none⟩) len cap ∧ len ≤ cap ∧ cap ≤ maxLen ∧ (xs ++ junk).length = cap * size ∧ h = single b (.cells (xs ++ junk).toArray e (0, 0)))
theorem sl_open {e size len : Nat} {v : Value} {xs : List Value} {R : List HProp} {w : World} (p : Pick M (sl e size v len xs) R) (s : HSt c M w) : xs.length = len * size ∧ xs.all (·.oneCell') = true ∧
    ((v = .slice none 0 0 ∧ len = 0 ∧ HSt c R w) ∨ ∃ b cap junk, v = .slice (some ⟨b, 0, none⟩) len cap ∧ len ≤ cap ∧ cap ≤ maxLen ∧ (xs ++ junk).length = cap * size ∧ HSt c (pts b (.cells (xs ++ junk).toArray e (0, 0)) :: R) w) := by
  obtain ⟨f, h, m, l, d⟩ := s
  obtain ⟨h1, h2, ⟨a1, a2, a3⟩, r, dj, l1, l2⟩ := p.sep m
  refine ⟨a1, a2, ?_⟩
  rcases a3 with ⟨a, b⟩ | ⟨b, cap, junk, a, b1, b2, b3, b4⟩
  · exact .inl ⟨a, b, f, h, sepL_mono l2 r, l, d⟩
  · exact .inr ⟨b, cap, junk, a, b1, b2, b3, f, h, ⟨h1, h2, b4, r, dj, l1, l2⟩, l, d⟩
theorem sl_nil {e size : Nat} {w : World} (s : HSt c M w) : HSt c (sl e size (.slice none 0 0) 0 [] :: M) w := by
  obtain ⟨f, h, m, l, d⟩ := s
  exact ⟨f, h, ⟨fun _ => none, h, ⟨by simp, rfl, .inl ⟨rfl, rfl⟩⟩, m, fun _ => .inl rfl, (fun _ _ e => by cases e), PHeap.le_refl _⟩, l, d⟩
theorem sl_close {e size len b cap : Nat} {xs junk : List Value} (h1 : xs.length = len * size) (h2 : xs.all (·.oneCell') = true) (h3 : len ≤ cap) (h4 : cap ≤ maxLen) (h5 : (xs ++ junk).length = cap * size) {R : List HProp} :
    Ent (pts b (.cells (xs ++ junk).toArray e (0, 0)) :: R) (sl e size (.slice (some ⟨b, 0, none⟩) len cap) len xs :: R) := fun h s => by
  obtain ⟨ha, hr, a, r, d, l1, l2⟩ := s
  exact ⟨ha, hr, ⟨h1, h2, .inr ⟨b, cap, junk, rfl, h3, h4, h5, a⟩⟩, r, d, l1, l2⟩
theorem Ent.slNil {e size : Nat} {N : List HProp} (h : Ent M N) : Ent M (sl e size (.slice none 0 0) 0 [] :: N) := fun hh s =>
  ⟨fun _ => none, hh, ⟨by simp, rfl, .inl ⟨rfl, rfl⟩⟩, h _ s, fun _ => .inl rfl, (fun _ _ e => by cases e), PHeap.le_refl _⟩
theorem run_append_fit {t tx ty e : TypeId} {i : TypeInfo} {w : World} (ht : P.underlying t = some (.slice e)) (hi : P.info? e = some i) {b len cap m : Nat} {cur : Array Value} {x : Value} {news : List Value} (hs : Src P i.size tx x m news w)
    (hb : w.heap[b]? = some (.cells cur e (0, 0))) (hroom : len + m ≤ cap) (hfit : len * i.size + news.length ≤ cur.size) :
    (Builtin.append_ #[t, tx] ty #[.slice (some ⟨b, 0, none⟩) len cap, x]).run P w = .ok (.slice (some ⟨b, 0, none⟩) (len + m) cap) (w.setRow b (cur.toList.take (len * i.size) ++ news ++ cur.toList.drop (len * i.size + news.length)).toArray) := by
  have hst := run_storeCells_at P b (len * i.size) e news 0 cur w hb (by simpa using hfit) hs.one
  simp only [Nat.add_zero] at hst
  rcases hs.kind with ⟨e', hk⟩ | hk <;> simp [Builtin.append_, run_underlying ht, run_underlying hk, sizeOf, typeInfo, hi, hs.len, hroom, hs.cells, Addr.add_lit, hst]
theorem run_append_zero {t tx ty e : TypeId} {i : TypeInfo} {w : World} (ht : P.underlying t = some (.slice e)) (hi : P.info? e = some i) {x : Value} {news : List Value} (hs : Src P i.size tx x 0 news w) :
    (Builtin.append_ #[t, tx] ty #[.slice none 0 0, x]).run P w = .ok (.slice none 0 0) w := by
  rcases hs.kind with ⟨e', hk⟩ | hk <;> simp [Builtin.append_, run_underlying ht, run_underlying hk, sizeOf, typeInfo, hi, hs.len, hs.cells]
theorem o_append {d : Nat} {t tx e : TypeId} {s' x' : Operand} {i : TypeInfo} {z v x : Value} {len m sz : Nat} {xs news : List Value} {R : List HProp} (hs : opnd L s' = some v) (hx : opnd L x' = some x) (ht : P.underlying t = some (.slice e)) (hi : P.info? e = some i) (hz : i.zero = some z)
    (hsz : i.size = sz) (hzs : Nat.beq z.cells.size sz = true) (hby : Nat.blt 0 i.bytes = true) (hp : Pick M (sl e sz v len xs) R) (src : ∀ w, HSt c M w → Src P sz tx x m news w)
    (hb : (len + m) * i.bytes ≤ 140737488355328) (hd : Nat.blt d n = true) (h : ∀ v', wpE P ops rest Q c n ((d, v') :: L) (sl e sz v' (len + m) (xs ++ news) :: R)) :
    wpO P ops ⟨some d, .call { callee := .builtin .append, args := #[s', x'], argTypes := #[t, tx] }, ty, pos, after, g⟩ rest Q c n L M := o_val rfl hd fun T w s => by
  subst hsz
  have hS := src w s.heap
  have hby' : 0 < i.bytes := by simpa [Nat.blt_eq] using hby
  have hzs' : z.cells.size = i.size := Nat.eq_of_beq_eq_true hzs
  have hlen : len + m ≤ 140737488355328 := Nat.le_trans (Nat.le_mul_of_pos_right _ hby') hb
  obtain ⟨a1, a2, a3⟩ := sl_open hp s.heap
  have hx1 : (xs ++ news).length = (len + m) * i.size := by rw [List.length_append, a1, hS.newsLen, Nat.add_mul]
  have hx2 : (xs ++ news).all (·.oneCell') = true := by simp only [List.all_append, a2, Bool.true_and]; simpa using hS.one
  have hexec : ∀ v' w', (Builtin.append_ #[t, tx] ty #[v, x]).run P w = .ok v' w' → (execOp (Act.eval ⟨T, c.ds⟩) ⟨some d, .call { callee := .builtin .append, args := #[s', x'], argTypes := #[t, tx] }, ty, pos, after, g⟩).run P w = .ok (.value v') w' := fun v' w' hr => by
    simp [execOp, resolve, invoke, builtin, opnd_eval s.slots hs, opnd_eval s.slots hx, hr]
  have grown : ∀ (cap : Nat) (w0 : World), w0.heap = w.heap → w0.os = w.os → w0.tape = w.tape → w0.output = w.output → HSt c R w → len + m ≤ cap → cap ≤ maxLen →
      HSt c (sl e i.size (.slice (some ⟨w.heap.size, 0, none⟩) (len + m) cap) (len + m) (xs ++ news) :: R) (w0.alloc (.cells ((xs ++ news).toArray ++ Builtin.zeroCells z.cells (cap - (len + m))) e)) := fun cap w0 e1 e2 e3 e4 hR h1 h2 => by
    have hz : (xs ++ news ++ (Builtin.zeroCells z.cells (cap - (len + m))).toList).length = cap * i.size := by
      rw [List.length_append, hx1, Array.length_toList, size_zeroCells, hzs', ← Nat.add_mul]; congr 1; omega
    have := HSt.new (w' := w0.alloc (.cells ((xs ++ news).toArray ++ Builtin.zeroCells z.cells (cap - (len + m))) e)) (HSt.same hR e1 e2 e3 e4) (.cells (xs ++ news ++ (Builtin.zeroCells z.cells (cap - (len + m))).toList).toArray e (0, 0)) (by
      show w0.heap.push _ = _
      congr 2
      apply Array.ext'; simp) rfl rfl rfl
    rw [show w0.heap.size = w.heap.size by rw [e1]] at this
    exact HSt.ent (sl_close hx1 hx2 h1 h2 hz) this
  rcases a3 with ⟨rfl, rfl, hR⟩ | ⟨b, cap, junk, rfl, b1, b2, b3, hR⟩
  · have hxs : xs = [] := List.eq_nil_of_length_eq_zero (by simpa using a1)
    subst hxs
    rcases Nat.eq_zero_or_pos m with rfl | hm
    · have hn : news = [] := List.eq_nil_of_length_eq_zero (by simpa using hS.newsLen)
      subst hn
      exact ⟨_, w, _, _, hexec _ _ (run_append_zero ht hi hS), sl_nil hR, rfl, by simpa using h (.slice none 0 0)⟩
    · have hr := run_append_grow_src (P := P) w t tx ty e i z ht hi hz none 0 0 [] (by exact run_firstCells_none w.drew i.size 0 0 0) x m news hS (by omega) (by omega) (growslice_fits (by omega) (by simpa using hb))
      exact ⟨_, _, _, _, hexec _ _ hr, grown _ w.drew rfl rfl rfl rfl hR (grownCap_ge _ _ _ _) (grownCap_le_maxLen _ _ _ _ (by simp only [maxLen]; omega)), rfl, h _⟩
  · by_cases hroom : len + m ≤ cap
    · have hfit : len * i.size + news.length ≤ (xs ++ junk).toArray.size := by
        rw [hS.newsLen, List.size_toArray, b3, ← Nat.add_mul]; exact Nat.mul_le_mul_right _ hroom
      have hr := run_append_fit (P := P) (ty := ty) ht hi hS (hR.pts .head) hroom hfit
      have e1 : ((xs ++ junk).toArray.toList.take (len * i.size) ++ news ++ (xs ++ junk).toArray.toList.drop (len * i.size + news.length)) = xs ++ news ++ junk.drop news.length := by
        simp [← a1, List.take_append_of_le_length, List.drop_append]
      rw [e1] at hr
      refine ⟨_, _, _, _, hexec _ _ hr, HSt.ent (sl_close hx1 hx2 hroom b2 ?_) (hst_setRow .head hR), rfl, h _⟩
      have e2 : junk.length = cap * i.size - len * i.size := by rw [List.length_append, a1] at b3; omega
      rw [List.length_append, hx1, List.length_drop, e2, hS.newsLen, Nat.add_mul]
      have : len * i.size + m * i.size ≤ cap * i.size := by rw [← Nat.add_mul]; exact Nat.mul_le_mul_right _ hroom
      omega
    · have hold : (Builtin.firstCells i.size len (.slice (some ⟨b, 0, none⟩) len cap)).run P w.drew = .ok xs.toArray w.drew := by
        refine run_firstCells_some w.drew i.size len ⟨b, 0, none⟩ len cap xs a1 (fun j u hu => ?_)
        rw [add_lit]
        have hb' := hR.pts .head
        show w.drew.cell? _ = some u
        rw [World.cell?_drew, cell_pts hb']
        have : j < xs.length := (List.getElem?_eq_some_iff.1 hu).1
        rw [Nat.zero_add, List.getElem?_append_left this, hu]
      have hr := run_append_grow_src (P := P) w t tx ty e i z ht hi hz (some ⟨b, 0, none⟩) len cap xs hold x m news hS (by omega) (by omega) (growslice_fits (by omega) hb)
      exact ⟨_, _, _, _, hexec _ _ hr, grown _ w.drew rfl rfl rfl rfl (HSt.ent (fun hh ss => by obtain ⟨_, _, _, r, _, _, l2⟩ := ss; exact sepL_mono l2 r) hR) (grownCap_ge _ _ _ _) (grownCap_le_maxLen _ _ _ _ (by simp only [maxLen]; omega)), rfl, h _⟩
theorem src_pts {tx e' : TypeId} {sz b off m cx : Nat} {l news : List Value} {T' : TypeId} {f : Nat × Nat} {R : List HProp} (hk : P.underlying tx = some (.slice e')) (hp : Pick M (pts b (.cells l.toArray T' f)) R) (hn : (l.drop off).take (m * sz) = news) (hl : news.length = m * sz) (h1 : news.all (·.oneCell') = true) :
    ∀ w, HSt c M w → Src P sz tx (.slice (some ⟨b, off, none⟩) m cx) m news w := fun w s =>
  Src.ofSlice w hk _ m cx news hl (fun j u hu => by
    rw [add_lit, cell_pts (s.pts hp)]
    rw [← hn, List.getElem?_take] at hu
    split at hu
    · simpa using hu
    · cases hu) (by simpa using h1)
theorem src_nil {tx e' : TypeId} {sz cx : Nat} (hk : P.underlying tx = some (.slice e')) : ∀ w, HSt c M w → Src P sz tx (.slice none 0 cx) 0 [] w := fun w _ => Src.ofNil w hk cx
theorem src_sl {tx e' e : TypeId} {sz m : Nat} {x : Value} {news : List Value} {R : List HProp} (hk : P.underlying tx = some (.slice e')) (hp : Pick M (sl e sz x m news) R) : ∀ w, HSt c M w → Src P sz tx x m news w := fun w s => by
  obtain ⟨a1, a2, a3⟩ := sl_open hp s
  rcases a3 with ⟨rfl, rfl, _⟩ | ⟨b, cap, junk, rfl, _, _, _, hR⟩
  · have hxs : news = [] := List.eq_nil_of_length_eq_zero (by simpa using a1)
    subst hxs
    exact Src.ofNil w hk 0
  · refine Src.ofSlice w hk _ m cap news a1 (fun j u hu => ?_) (by simpa using a2)
    rw [add_lit, cell_pts (hR.pts .head)]
    have : j < news.length := (List.getElem?_eq_some_iff.1 hu).1
    rw [Nat.zero_add, List.getElem?_append_left this, hu]
theorem ev_len_sl {t e e' : TypeId} {x : Operand} {sz len : Nat} {v : Value} {xs : List Value} {R : List HProp} (hx : opnd L x = some v) (hu : P.underlying t = some (.slice e)) (hp : Pick M (sl e' sz v len xs) R) :
    Ev P ⟨dst, .call { callee := .builtin .len, args := #[x], argTypes := #[t] }, ty, pos, after, g⟩ c n L M (.int .i64 len) := fun T w s => by
  obtain ⟨_, _, a3⟩ := sl_open hp s.heap
  rcases a3 with ⟨rfl, rfl, _⟩ | ⟨b, cap, junk, rfl, _⟩
  · exact ev_len_slice hx hu T w s
  · exact ev_len_slice hx hu T w s
theorem o_buildSlice1 {d : Nat} {t e : TypeId} {x : Operand} {i : TypeInfo} {z v : Value} {l : List Value} (hx : opnd L x = some v) (hl : v.cells = l.toArray) (hu : P.underlying t = some (.slice e)) (hi : P.info? e = some i) (hz : i.zero = some z) (hs : Nat.beq l.length i.size = true) (hs0 : Nat.blt 0 i.size = true) (hs1 : Nat.ble i.size 16777216 = true)
    (hd : Nat.blt d n = true) (h : ∀ b, wpE P ops rest Q c n ((d, .slice (some ⟨b, 0, none⟩) 1 1) :: L) (pts b (.cells l.toArray e (0, 0)) :: M)) : wpO P ops ⟨some d, .buildSlice t 1 #[(0, x)], ty, pos, after, g⟩ rest Q c n L M :=
  o_val rfl hd fun T w s => ⟨_, { w with heap := w.heap.push (.cells l.toArray e (0, 0)) }, _, _, by
    have h1 : l.length = i.size := Nat.eq_of_beq_eq_true hs
    have h2 : 0 < i.size := by simpa [Nat.blt_eq] using hs0
    have h3 : ¬ (1 * i.size > 2 ^ 24) := by have := Nat.le_of_ble_eq_true hs1; omega
    have h4 : ¬ (1 * i.size = 0) := by omega
    have hb : bld [(0, i.size)] ((Array.range (1 * i.size)).map (z.cells[· % z.cells.size]!)).toList [(0, l)] = some l := by
      have hq : Nat.ble i.size i.size = true := Nat.ble_eq_true_of_le (Nat.le_refl _)
      simp [bld, h1, splice, hq]
    have hpl : ∀ (j : Nat) (p : Nat × Nat), [((0 : Nat), i.size)][j]? = some p → (fun i' => some (i' * i.size, i.size)) j = some p := fun j p hj => by
      cases j with
      | zero => simp only [List.getElem?_cons_zero, Option.some.injEq] at hj; rw [← hj]; simp
      | succ j => simp at hj
    have hf := fill_bld (place := fun i' => some (i' * i.size, i.size)) (parts := [(0, v)]) hpl (cs := ((Array.range (1 * i.size)).map (z.cells[· % z.cells.size]!)).toList) (r := l) (by simpa [hl] using hb)
    rw [Array.toArray_toList] at hf
    simp only [execOp, Instr.buildSlice, Sem.run_bind, run_underlying hu, Result.andThen_ok, sizeOf, zeroValue, typeInfo, run_program, hi, Sem.run_pure, h3, h4, if_false, hz, List.map_toArray, List.map_cons, List.map_nil, opnd_eval s.slots hx, hf, newRow, newObj, Sem.run], HSt.new s.heap _ rfl rfl rfl rfl, rfl, h _⟩
theorem o_buildSlice0 {d : Nat} {t e : TypeId} {i : TypeInfo} (hu : P.underlying t = some (.slice e)) (hi : P.info? e = some i)
    (hd : Nat.blt d n = true) (h : ∀ b, wpE P ops rest Q c n ((d, .slice (some ⟨b, 0, none⟩) 0 0) :: L) (pts b (.cells [].toArray e (0, 0)) :: M)) : wpO P ops ⟨some d, .buildSlice t 0 #[], ty, pos, after, g⟩ rest Q c n L M :=
  o_val rfl hd fun T w s => ⟨_, { w with heap := w.heap.push (.cells [].toArray e (0, 0)) }, _, _, by
    have e0 : (Array.map (fun _ => (default : Value)) (Array.range 0)) = #[] := by simp
    simp [execOp, Instr.buildSlice, run_underlying hu, sizeOf, typeInfo, run_program, hi, Instr.fill, newRow, newObj, Sem.run]
    exact congrArg (fun a => w.alloc (.cells a e (0, 0))) e0, HSt.new s.heap _ rfl rfl rfl rfl, rfl, h _⟩
def ch (b cap : Nat) (l : List Value) : HProp := fun h => ∃ s r, h = single b (.chan cap l.toArray false s r false)
theorem ch_open {b cap : Nat} {l : List Value} {R : List HProp} {w : World} (p : Pick M (ch b cap l) R) (s : HSt c M w) : ∃ s' r', HSt c (pts b (.chan cap l.toArray false s' r' false) :: R) w := by
  obtain ⟨f, h, m, le, d⟩ := s
  obtain ⟨h1, h2, ⟨s', r', a⟩, r, dj, l1, l2⟩ := p.sep m
  exact ⟨s', r', f, h, ⟨h1, h2, a, r, dj, l1, l2⟩, le, d⟩
theorem Ent.ch {b cap s r : Nat} {l : List Value} {R : List HProp} : Ent (pts b (.chan cap l.toArray false s r false) :: R) (Sx.ch b cap l :: R) := fun h x => by
  obtain ⟨h1, h2, a, r', dj, l1, l2⟩ := x
  exact ⟨h1, h2, ⟨s, r, a⟩, r', dj, l1, l2⟩
theorem o_comm {d : Nat} {o : Oper} (ho : o.dst = some d) (hd : Nat.blt d n = true)
    (h : ∀ T w, St c n L M T w → ∃ v w' L' M' cases bl sh w1, (execOp (Act.eval ⟨T, c.ds⟩) o).run P w = .ok (.comm cases bl sh) w1 ∧
      (∀ fr cs es, stepG P true (G fr cs) w = .comm (G fr cs) cases bl sh w1 es → step P (solo (G fr cs) w) = .next (solo (G (fr.finish v) cs) w')) ∧ HSt c M' w' ∧ L' = (d, v) :: L ∧ wpE P ops rest Q c n L' M') : wpO P ops o rest Q c n L M := fun i hi T w s hw => by
  obtain ⟨h1, h2⟩ := drop_cons hi
  obtain ⟨v, w', L', M', cases, bl, sh, w1, hr, hst, hs, rfl, hn⟩ := h T w s
  have := hn (i + 1) h2 (T.setIfInBounds d v) w' ⟨by simp [s.size], s.slots.put s.size hd v, hs⟩
  have hio : ops[i]? = some o := by simpa using h1
  refine wpI_comm (i := i) (o := o) (a := ⟨T, c.ds⟩) (v := v) (w' := w') hio (fun b k cs => ?_) (by simpa [Act.put, ho] using this)
  obtain ⟨es, he⟩ := stepG_comm_here (P := P) (b := b) (k := k) (cs := cs) (rest := List.range' (i + 1) rest.length) (a := ⟨T, c.ds⟩) hio hw hr
  exact hst _ _ _ he
variable {d e : Nat} {x y : Operand} {b cap : Nat} {l : List Value} {v z : Value} {R : List HProp} {i : TypeInfo}
theorem o_sel_empty (hx : opnd L x = some (.chan (some b))) (hi : P.info? e = some i) (hz : i.zero = some z) (hp : Pick M (ch b cap []) R) (hd : Nat.blt d n = true)
    (h : wpE P ops rest Q c n ((d, .tuple #[.int .i64 (-1), .bool false, z]) :: L) M) : wpO P ops ⟨some d, .select #[⟨x, none, e⟩] false, ty, pos, after, g⟩ rest Q c n L M := o_comm rfl hd fun T w s => by
  obtain ⟨s', r', hs⟩ := ch_open hp s.heap
  exact ⟨.tuple #[goInt (-1), .bool false, z], _, _, _, #[rcase b z], false, .select, w, by simp [execOp, opnd_eval s.slots hx, zeroValue, typeInfo, run_program, hi, hz, rcase], fun fr cs es he => step_lone_select_default he (hs.pts .head), s.heap, rfl, h⟩
theorem ev_len_ch {t e' : TypeId} {dir : ChanDir} (hx : opnd L x = some (.chan (some b))) (hu : P.underlying t = some (.chan dir e')) (hp : Pick M (ch b cap l) R) :
    Ev P ⟨dst, .call { callee := .builtin .len, args := #[x], argTypes := #[t] }, ty, pos, after, g⟩ c n L M (.int .i64 l.length) := fun T w s => by
  obtain ⟨s', r', hs⟩ := ch_open hp s.heap
  have := run_len_chan (P := P) t ty hu (hs.pts .head)
  simp [execOp, resolve, invoke, builtin, opnd_eval s.slots hx, this, goInt]
theorem ev_cap_ch {t e' : TypeId} {dir : ChanDir} (hx : opnd L x = some (.chan (some b))) (hu : P.underlying t = some (.chan dir e')) (hp : Pick M (ch b cap l) R) :
    Ev P ⟨dst, .call { callee := .builtin .cap, args := #[x], argTypes := #[t] }, ty, pos, after, g⟩ c n L M (.int .i64 cap) := fun T w s => by
  obtain ⟨s', r', hs⟩ := ch_open hp s.heap
  have := run_cap_chan (P := P) t ty hu (hs.pts .head)
  simp [execOp, resolve, invoke, builtin, opnd_eval s.slots hx, this, goInt]
end Go.Sx
set_option linter.unusedSimpArgs false
set_option linter.unusedVariables false
namespace Go.Sx
open Go Go.Conc
variable {P : Program} {ops : Array Oper} {Q : Exit → Act → World → Prop} {c : Cx} {n : Nat} {L : Env} {M : List HProp} {rest : List Oper} {o : Oper}
def wpQ (P : Program) (ops : Array Oper) (rest : List Oper) (Q : Exit → Act → World → Prop) (c : Cx) (n : Nat) (L : Env) (M : List HProp) : Prop :=
  ∀ T : Array Value, T.size = n → Slots L T → wpQuiet P ops (HSt c M) (fun a' => ∀ w', HSt c M w' → Q .normal a' w') rest ⟨T, c.ds⟩
def wpQO (P : Program) (ops : Array Oper) (o : Oper) (rest : List Oper) (Q : Exit → Act → World → Prop) (c : Cx) (n : Nat) (L : Env) (M : List HProp) : Prop :=
  ∀ T : Array Value, T.size = n → Slots L T → o.quiet P ⟨T, c.ds⟩ (HSt c M) (wpQuiet P ops (HSt c M) (fun a' => ∀ w', HSt c M w' → Q .normal a' w') rest)
theorem wpQ_nil (h : qE Q .normal c n L M) : wpQ P ops [] Q c n L M := fun T hs hl => wpQuiet_nil (fun w' hw => h T w' ⟨hs, hl, hw⟩)
theorem gq_none (hg : o.guard = none) (h : wpQO P ops o rest Q c n L M) : wpQ P ops (o :: rest) Q c n L M := fun T hs hl => by
  unfold wpQuiet
  rw [if_pos (by simp [Region.wanted, hg])]
  exact h T hs hl
theorem gq_yes {j d : Nat} {b : Bool} (hg : o.guard = some (j, b)) (hd : (ops[j]?).bind (·.dst) = some d) (hv : L.get d = some (.bool b)) (h : wpQO P ops o rest Q c n L M) : wpQ P ops (o :: rest) Q c n L M := fun T hs hl => by
  unfold wpQuiet
  rw [if_pos (by
    have := hl _ _ hv
    simp [Region.wanted, hg, yielded, hd, this])]
  exact h T hs hl
theorem gq_no {j d d' : Nat} {b : Bool} {v : Value} (hg : o.guard = some (j, b)) (hd : (ops[j]?).bind (·.dst) = some d) (hv : L.get d = some v) (hb : isB b v = false) (ho : o.dst = some d') (hdn : Nat.blt d' n = true)
    (h : wpQ P ops rest Q c n ((d', undef) :: L) M) : wpQ P ops (o :: rest) Q c n L M := fun T hs hl => by
  have hT := hl _ _ hv
  have hw : Region.wanted o (yielded ops T) = false := by
    simp only [Region.wanted, hg, yielded, hd, Option.bind_some, hT]
    cases v <;> simp_all [isB]
  unfold wpQuiet
  rw [if_neg (by simp [hw])]
  have := h (T.setIfInBounds d' undef) (by simp [hs]) (hl.put hs hdn undef)
  simpa [Act.put, ho] using this
theorem oq_ev {d : Nat} {v : Value} (ho : o.dst = some d) (he : Ev P o c n L M v) (hd : Nat.blt d n = true) (h : wpQ P ops rest Q c n ((d, v) :: L) M) : wpQO P ops o rest Q c n L M := fun T hs hl =>
  ⟨v, fun w hw => by unfold Oper.quietAt; rw [he T w ⟨hs, hl, hw⟩]; exact ⟨rfl, rfl⟩, by
    have := h (T.setIfInBounds d v) (by simp [hs]) (hl.put hs hd v)
    simpa [Act.put, ho] using this⟩
theorem ev_ptr_same {op : BinOp} {t t' e : TypeId} {x y : Operand} {a : Addr} {i : TypeInfo} {r : Bool} {dst : Option Nat} {ty : TypeId} {pos : String} {after : Array Edge} {g : Option (Nat × Bool)}
    (hx : opnd L x = some (.pointer (some a))) (hy : opnd L y = some (.pointer (some a))) (hu : P.underlying t = some (.pointer e)) (hi : P.info? e = some i) (hz : Nat.beq i.size 0 = false) (hr : nilOp op true = some r) :
    Ev P ⟨dst, .binOp op t x y t', ty, pos, after, g⟩ c n L M (.bool r) := ev_bin hx hy fun w s => by
  have hz' : i.size ≠ 0 := fun e => by rw [e] at hz; cases hz
  refine run_eqn (by rintro _ (rfl | rfl) <;> rfl) rfl rfl ?_ hr
  rw [Op.equalIn, Sem.run_bind, run_underlying hu]
  simp [sizeOf, typeInfo, run_program, hi, hz', sameAddr]
def wpH (P : Program) (ops : Array Oper) (m : Nat) (tl : List Oper) (rest : List Oper) (Q : Exit → Act → World → Prop) (c : Cx) (n : Nat) (L : Env) (M : List HProp) : Prop :=
  ∀ T w, St c n L M T w → wpStill P ops w (fun a' => wpI c.rnd P ops Q (List.range' m tl.length) a' w) rest ⟨T, c.ds⟩
def wpHO (P : Program) (ops : Array Oper) (m : Nat) (tl : List Oper) (o : Oper) (rest : List Oper) (Q : Exit → Act → World → Prop) (c : Cx) (n : Nat) (L : Env) (M : List HProp) : Prop :=
  ∀ T w, St c n L M T w → o.still P ⟨T, c.ds⟩ w (wpStill P ops w (fun a' => wpI c.rnd P ops Q (List.range' m tl.length) a' w) rest)
variable {m : Nat} {tl : List Oper}
theorem wpC_sl {x : Code} {e size len : Nat} {v : Value} {xs : List Value} {R : List HProp} (p : Pick M (sl e size v len xs) R)
    (h0 : v = .slice none 0 0 → len = 0 → xs = [] → wpC P x Q c n L R)
    (h1 : ∀ b cap junk, v = .slice (some ⟨b, 0, none⟩) len cap → len ≤ cap → cap ≤ maxLen → (xs ++ junk).length = cap * size → wpC P x Q c n L (pts b (.cells (xs ++ junk).toArray e (0, 0)) :: R)) : wpC P x Q c n L M := fun T w s => by
  obtain ⟨a1, a2, a3⟩ := sl_open p s.heap
  rcases a3 with ⟨hv, hl, hR⟩ | ⟨b, cap, junk, hv, b1, b2, b3, hR⟩
  · exact h0 hv hl (List.eq_nil_of_length_eq_zero (by rw [a1, hl]; simp)) T w ⟨s.size, s.slots, hR⟩
  · exact h1 b cap junk hv b1 b2 b3 T w ⟨s.size, s.slots, hR⟩
theorem wpE_sl {e size len : Nat} {v : Value} {xs : List Value} {R : List HProp} (p : Pick M (sl e size v len xs) R)
    (h0 : v = .slice none 0 0 → len = 0 → xs = [] → wpE P ops rest Q c n L R)
    (h1 : ∀ b cap junk, v = .slice (some ⟨b, 0, none⟩) len cap → len ≤ cap → cap ≤ maxLen → (xs ++ junk).length = cap * size → wpE P ops rest Q c n L (pts b (.cells (xs ++ junk).toArray e (0, 0)) :: R)) : wpE P ops rest Q c n L M := fun i hi T w s => by
  obtain ⟨a1, a2, a3⟩ := sl_open p s.heap
  rcases a3 with ⟨hv, hl, hR⟩ | ⟨b, cap, junk, hv, b1, b2, b3, hR⟩
  · exact h0 hv hl (List.eq_nil_of_length_eq_zero (by rw [a1, hl]; simp)) i hi T w ⟨s.size, s.slots, hR⟩
  · exact h1 b cap junk hv b1 b2 b3 i hi T w ⟨s.size, s.slots, hR⟩
theorem Ent.slClose {e size len b cap : Nat} {xs junk : List Value} {R N : List HProp} (p : Pick M (pts b (.cells (xs ++ junk).toArray e (0, 0))) R) (h1 : xs.length = len * size) (h2 : xs.all (·.oneCell') = true) (h3 : len ≤ cap) (h4 : cap ≤ maxLen)
    (h5 : (xs ++ junk).length = cap * size) (h : Ent R N) : Ent M (sl e size (.slice (some ⟨b, 0, none⟩) len cap) len xs :: N) := fun hh s => sl_close h1 h2 h3 h4 h5 hh (Ent.cons p h hh s)
end Go.Sx
