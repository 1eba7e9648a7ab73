/-
  Parts of rows. No program in sight.
-/
import Derived.Test.YtnaabpfpldelmaaGreatDoorM04
import Derived.OrdersHeld
set_option linter.unusedSimpArgs false
set_option linter.unusedVariables false
namespace Go.Sx
open Go Go.Conc
variable {P : Program} {ops : Array Oper} {Q : Exit → Act → World → Prop} {c : Cx} {n : Nat} {L : Env} {M : List HProp} {rest : List Oper}
def OVL (P : Program) (o : Oper) (c : Cx) (n : Nat) (L : Env) (M : List HProp) (d : Nat) (K : Env → List HProp → Prop) : Prop :=
  ∀ T w, St c n L M T w → ∃ v w' L' M', (execOp (Act.eval ⟨T, c.ds⟩) o).run P w = .ok (.value v) w' ∧ HSt c M' w' ∧ L' = (d, v) :: L ∧ K L' M'
def OUL (P : Program) (o : Oper) (c : Cx) (n : Nat) (L : Env) (M : List HProp) (K : Env → List HProp → Prop) : Prop :=
  ∀ T w, St c n L M T w → ∃ w' M', (execOp (Act.eval ⟨T, c.ds⟩) o).run P w = .ok .skip w' ∧ HSt c M' w' ∧ K L M'
section
variable {dst : Option Nat} {ty : TypeId} {pos : String} {after : Array Edge} {g : Option (Nat × Bool)}
theorem x_append {K : Env → List HProp → Prop} {d : Nat} {t tx e : TypeId} {s' x' : Operand} {i : TypeInfo} {z v x : Value} {len m sz : Nat} {xs news : List Value} {R : List HProp} (hs : opnd L s' = some v) (hx : opnd L x' = some x) (ht : P.underlying t = some (.slice e)) (hi : P.info? e = some i) (hz : i.zero = some z)
    (hsz : i.size = sz) (hzs : Nat.beq z.cells.size sz = true) (hby : Nat.blt 0 i.bytes = true) (hp : Pick M (sl e sz v len xs) R) (src : ∀ w, HSt c M w → Src P sz tx x m news w)
    (hb : (len + m) * i.bytes ≤ 140737488355328) (h : ∀ v', K ((d, v') :: L) (sl e sz v' (len + m) (xs ++ news) :: R)) :
    OVL P ⟨some d, .call { callee := .builtin .append, args := #[s', x'], argTypes := #[t, tx] }, ty, pos, after, g⟩ c n L M d K := fun T w s => by
  subst hsz
  have hS := src w s.heap
  have hby' : 0 < i.bytes := by simpa [Nat.blt_eq] using hby
  have hzs' : z.cells.size = i.size := Nat.eq_of_beq_eq_true hzs
  have hlen : len + m ≤ 140737488355328 := Nat.le_trans (Nat.le_mul_of_pos_right _ hby') hb
  obtain ⟨a1, a2, a3⟩ := sl_open hp s.heap
  have hx1 : (xs ++ news).length = (len + m) * i.size := by rw [List.length_append, a1, hS.newsLen, Nat.add_mul]
  have hx2 : (xs ++ news).all (·.oneCell') = true := by simp only [List.all_append, a2, Bool.true_and]; simpa using hS.one
  have hexec : ∀ v' w', (Builtin.append_ #[t, tx] ty #[v, x]).run P w = .ok v' w' → (execOp (Act.eval ⟨T, c.ds⟩) ⟨some d, .call { callee := .builtin .append, args := #[s', x'], argTypes := #[t, tx] }, ty, pos, after, g⟩).run P w = .ok (.value v') w' := fun v' w' hr => by
    simp [execOp, resolve, invoke, builtin, opnd_eval s.slots hs, opnd_eval s.slots hx, hr]
  have grown : ∀ (cap : Nat) (w0 : World), w0.heap = w.heap → w0.os = w.os → w0.tape = w.tape → w0.output = w.output → HSt c R w → len + m ≤ cap → cap ≤ maxLen →
      HSt c (sl e i.size (.slice (some ⟨w.heap.size, 0, none⟩) (len + m) cap) (len + m) (xs ++ news) :: R) (w0.alloc (.cells ((xs ++ news).toArray ++ Builtin.zeroCells z.cells (cap - (len + m))) e)) := fun cap w0 e1 e2 e3 e4 hR h1 h2 => by
    have hz : (xs ++ news ++ (Builtin.zeroCells z.cells (cap - (len + m))).toList).length = cap * i.size := by
      rw [List.length_append, hx1, Array.length_toList, size_zeroCells, hzs', ← Nat.add_mul]; congr 1; omega
    have := HSt.new (w' := w0.alloc (.cells ((xs ++ news).toArray ++ Builtin.zeroCells z.cells (cap - (len + m))) e)) (HSt.same hR e1 e2 e3 e4) (.cells (xs ++ news ++ (Builtin.zeroCells z.cells (cap - (len + m))).toList).toArray e (0, 0)) (by
      show w0.heap.push _ = _
      congr 2
      apply Array.ext'; simp) rfl rfl rfl
    rw [show w0.heap.size = w.heap.size by rw [e1]] at this
    exact HSt.ent (sl_close hx1 hx2 h1 h2 hz) this
  rcases a3 with ⟨rfl, rfl, hR⟩ | ⟨b, cap, junk, rfl, b1, b2, b3, hR⟩
  · have hxs : xs = [] := List.eq_nil_of_length_eq_zero (by simpa using a1)
    subst hxs
    rcases Nat.eq_zero_or_pos m with rfl | hm
    · have hn : news = [] := List.eq_nil_of_length_eq_zero (by simpa using hS.newsLen)
      subst hn
      exact ⟨_, w, _, _, hexec _ _ (run_append_zero ht hi hS), sl_nil hR, rfl, by simpa using h (.slice none 0 0)⟩
    · have hr := run_append_grow_src (P := P) w t tx ty e i z ht hi hz none 0 0 [] (by exact run_firstCells_none w.drew i.size 0 0 0) x m news hS (by omega) (by omega) (growslice_fits (by omega) (by simpa using hb))
      exact ⟨_, _, _, _, hexec _ _ hr, grown _ w.drew rfl rfl rfl rfl hR (grownCap_ge _ _ _ _) (grownCap_le_maxLen _ _ _ _ (by simp only [maxLen]; omega)), rfl, h _⟩
  · by_cases hroom : len + m ≤ cap
    · have hfit : len * i.size + news.length ≤ (xs ++ junk).toArray.size := by
        rw [hS.newsLen, List.size_toArray, b3, ← Nat.add_mul]; exact Nat.mul_le_mul_right _ hroom
      have hr := run_append_fit (P := P) (ty := ty) ht hi hS (hR.pts .head) hroom hfit
      have e1 : ((xs ++ junk).toArray.toList.take (len * i.size) ++ news ++ (xs ++ junk).toArray.toList.drop (len * i.size + news.length)) = xs ++ news ++ junk.drop news.length := by
        simp [← a1, List.take_append_of_le_length, List.drop_append]
      rw [e1] at hr
      refine ⟨_, _, _, _, hexec _ _ hr, HSt.ent (sl_close hx1 hx2 hroom b2 ?_) (hst_setRow .head hR), rfl, h _⟩
      have e2 : junk.length = cap * i.size - len * i.size := by rw [List.length_append, a1] at b3; omega
      rw [List.length_append, hx1, List.length_drop, e2, hS.newsLen, Nat.add_mul]
      have : len * i.size + m * i.size ≤ cap * i.size := by rw [← Nat.add_mul]; exact Nat.mul_le_mul_right _ hroom
      omega
    · have hold : (Builtin.firstCells i.size len (.slice (some ⟨b, 0, none⟩) len cap)).run P w.drew = .ok xs.toArray w.drew := by
        refine run_firstCells_some w.drew i.size len ⟨b, 0, none⟩ len cap xs a1 (fun j u hu => ?_)
        rw [add_lit]
        have hb' := hR.pts .head
        show w.drew.cell? _ = some u
        rw [World.cell?_drew, cell_pts hb']
        have : j < xs.length := (List.getElem?_eq_some_iff.1 hu).1
        rw [Nat.zero_add, List.getElem?_append_left this, hu]
      have hr := run_append_grow_src (P := P) w t tx ty e i z ht hi hz (some ⟨b, 0, none⟩) len cap xs hold x m news hS (by omega) (by omega) (growslice_fits (by omega) hb)
      exact ⟨_, _, _, _, hexec _ _ hr, grown _ w.drew rfl rfl rfl rfl (HSt.ent (fun hh ss => by obtain ⟨_, _, _, r, _, _, l2⟩ := ss; exact sepL_mono l2 r) hR) (grownCap_ge _ _ _ _) (grownCap_le_maxLen _ _ _ _ (by simp only [maxLen]; omega)), rfl, h _⟩
theorem x_buildSlice1 {K : Env → List HProp → Prop} {d : Nat} {t e : TypeId} {x : Operand} {i : TypeInfo} {z v : Value} {l : List Value} (hx : opnd L x = some v) (hl : v.cells = l.toArray) (hu : P.underlying t = some (.slice e)) (hi : P.info? e = some i) (hz : i.zero = some z) (hs : Nat.beq l.length i.size = true) (hs0 : Nat.blt 0 i.size = true) (hs1 : Nat.ble i.size 16777216 = true)
    (h : ∀ b, K ((d, .slice (some ⟨b, 0, none⟩) 1 1) :: L) (pts b (.cells l.toArray e (0, 0)) :: M)) : OVL P ⟨some d, .buildSlice t 1 #[(0, x)], ty, pos, after, g⟩ c n L M d K :=
  fun T w s => ⟨_, { w with heap := w.heap.push (.cells l.toArray e (0, 0)) }, _, _, by
    have h1 : l.length = i.size := Nat.eq_of_beq_eq_true hs
    have h2 : 0 < i.size := by simpa [Nat.blt_eq] using hs0
    have h3 : ¬ (1 * i.size > 2 ^ 24) := by have := Nat.le_of_ble_eq_true hs1; omega
    have h4 : ¬ (1 * i.size = 0) := by omega
    have hb : bld [(0, i.size)] ((Array.range (1 * i.size)).map (z.cells[· % z.cells.size]!)).toList [(0, l)] = some l := by
      have hq : Nat.ble i.size i.size = true := Nat.ble_eq_true_of_le (Nat.le_refl _)
      simp [bld, h1, splice, hq]
    have hpl : ∀ (j : Nat) (p : Nat × Nat), [((0 : Nat), i.size)][j]? = some p → (fun i' => some (i' * i.size, i.size)) j = some p := fun j p hj => by
      cases j with
      | zero => simp only [List.getElem?_cons_zero, Option.some.injEq] at hj; rw [← hj]; simp
      | succ j => simp at hj
    have hf := fill_bld (place := fun i' => some (i' * i.size, i.size)) (parts := [(0, v)]) hpl (cs := ((Array.range (1 * i.size)).map (z.cells[· % z.cells.size]!)).toList) (r := l) (by simpa [hl] using hb)
    rw [Array.toArray_toList] at hf
    simp only [execOp, Instr.buildSlice, Sem.run_bind, run_underlying hu, Result.andThen_ok, sizeOf, zeroValue, typeInfo, run_program, hi, Sem.run_pure, h3, h4, if_false, hz, List.map_toArray, List.map_cons, List.map_nil, opnd_eval s.slots hx, hf, newRow, newObj, Sem.run], HSt.new s.heap _ rfl rfl rfl rfl, rfl, h _⟩
theorem x_store {K : Env → List HProp → Prop} {t : TypeId} {x y : Operand} {i : TypeInfo} {b off : Nat} {l l' : List Value} {T' : TypeId} {v : Value} {R : List HProp} (hx : opnd L x = some (.pointer (some ⟨b, off, none⟩))) (hy : opnd L y = some v) (hi : P.info? t = some i) (hs : Nat.beq i.size 1 = true)
    (hv : v.oneCell' = true) (hp : Pick M (pts b (.cells l.toArray T' (0, 0))) R) (hu : Upd1 l off v l') (h : K L (pts b (.cells l'.toArray T' (0, 0)) :: R)) :
    OUL P ⟨none, .store t x y, ty, pos, after, g⟩ c n L M K := fun T w s => by
  have hvc : v.cells = [v].toArray := by cases v <;> first | rfl | cases hv
  have hsz : [v].length = i.size := by have := Nat.eq_of_beq_eq_true hs; simp [this]
  have hr := run_storeVar_row (P := P) (t := t) hi hvc hsz (by simpa using hv) (s.heap.pts hp) (off := off) (by have := hu.set.1; simp; omega)
  have e : l.take off ++ [v] ++ l.drop (off + [v].length) = l' := by
    rw [← hu.set.2, List.set_eq_take_append_cons_drop, if_pos hu.set.1]; simp
  rw [e] at hr
  refine ⟨_, _, ?_, hst_setRow hp s.heap, h⟩
  simp [execOp, opnd_eval s.slots hx, opnd_eval s.slots hy, Instr.storeAt, Instr.sureAddr, hr]
theorem x_alloc {K : Env → List HProp → Prop} {d e : Nat} {i : TypeInfo} {z : Value} {l : List Value} (hi : P.info? e = some i) (hz : i.zero = some z) (hl : z.cells = l.toArray)
    (h : ∀ b, K ((d, .pointer (some ⟨b, 0, none⟩)) :: L) (pts b (.cells l.toArray e (0, 0)) :: M)) : OVL P ⟨some d, .alloc e, ty, pos, after, g⟩ c n L M d K :=
  fun T w s => ⟨_, { w with heap := w.heap.push (.cells l.toArray e (0, 0)) }, _, _, by
    simp [execOp, Instr.alloc, zeroValue, typeInfo, hi, hz, newVar, newRow, newObj, Sem.run, hl, run_program], HSt.new s.heap _ rfl rfl rfl rfl, rfl, h _⟩
theorem x_box {K : Env → List HProp → Prop} {d e : Nat} {x : Operand} {v : Value} {l : List Value} (hx : opnd L x = some v) (hl : v.cells = l.toArray)
    (h : ∀ b, K ((d, .pointer (some ⟨b, 0, none⟩)) :: L) (pts b (.cells l.toArray e (0, 0)) :: M)) : OVL P ⟨some d, .box e x, ty, pos, after, g⟩ c n L M d K :=
  fun T w s => ⟨_, { w with heap := w.heap.push (.cells l.toArray e (0, 0)) }, _, _, by
    simp [execOp, opnd_eval s.slots hx, Instr.box, newVar, newRow, newObj, Sem.run, hl], HSt.new s.heap _ rfl rfl rfl rfl, rfl, h _⟩
theorem x_ev {o : Oper} {d : Nat} {v : Value} {K : Env → List HProp → Prop} (he : Ev P o c n L M v) (h : K ((d, v) :: L) M) : OVL P o c n L M d K := fun T w s => ⟨v, w, _, _, he T w s, s.heap, rfl, h⟩
end
section
variable {md : Region.Mode} {S : World → Prop} {m : Nat} {K : Array Bool → Act → World → Prop}
def wpAnyK (P : Program) (md : Region.Mode) (ops : Array Oper) (Q : Exit → Act → World → Prop) (S : World → Prop) (m : Nat) (K : Array Bool → Act → World → Prop) : Nat → Array Bool → Act → World → Prop
  | 0, listed, a, w => Region.ready md ops listed = [m] ∧ K listed a w
  | fuel + 1, listed, a, w => Region.ready md ops listed ≠ [] ∧
    ∀ i ∈ Region.ready md ops listed, wpOp P ops Q i (fun a' w' => S w' ∧ wpAnyK P md ops Q S m K fuel (listed.setIfInBounds i true) a' w') a w
theorem wpAny_of_K {gg : Nat} (hK : ∀ listed a w, K listed a w → wpAny P md ops Q gg listed a w) : ∀ (fuel : Nat) (listed : Array Bool) (a : Act) (w : World), wpAnyK P md ops Q S m K fuel listed a w → wpAny P md ops Q (fuel + gg) listed a w
  | 0, _, _, _, h => by rw [Nat.zero_add]; exact hK _ _ _ h.2
  | fuel + 1, _, _, _, h => by
    rw [show fuel + 1 + gg = (fuel + gg) + 1 by omega]
    exact ⟨fun h0 => absurd h0 h.1, fun i hi => wpOp_mono (fun a' w' h' => wpAny_of_K hK fuel _ a' w' h'.2) (h.2 i hi)⟩
def predsOf (md : Region.Mode) (ops : Array Oper) (j : Nat) : List Nat := match ops[j]? with
  | some o => (o.after.toList.filter fun e => Region.binds md e).map (·.on)
  | none => []
inductive Wt (md : Region.Mode) (ops : Array Oper) (m : Nat) : Nat → Prop
  | one {k : Nat} : k ∈ predsOf md ops m → Wt md ops m k
  | more {k l : Nat} : Wt md ops m k → l ∈ predsOf md ops k → Wt md ops m l
def Shut (md : Region.Mode) (ops : Array Oper) (listed : Array Bool) : Prop := ∀ j, listed.getD j false = true → ∀ k ∈ predsOf md ops j, listed.getD k false = true
theorem ready_preds {listed : Array Bool} {j : Nat} (h : j ∈ Region.ready md ops listed) : ∀ k ∈ predsOf md ops j, listed.getD k false = true := by
  obtain ⟨_, oj, hoj, hall⟩ := mem_ready.1 h
  intro k hk
  simp only [predsOf, hoj, List.mem_map, List.mem_filter] at hk
  obtain ⟨e, ⟨he, hb⟩, rfl⟩ := hk
  exact hall e (by simpa using he) hb
theorem getD_set_true {a : Array Bool} {j k : Nat} (h : a.getD k false = true) : (a.setIfInBounds j true).getD k false = true := by
  by_cases e : j = k
  · subst e
    rcases Nat.lt_or_ge j a.size with h' | h'
    · simp [h']
    · simp [Array.getElem?_eq_none h'] at h
  · simp only [Array.getD_eq_getD_getElem?] at h ⊢
    rw [Array.getElem?_setIfInBounds_ne e]
    exact h
theorem Shut.set {listed : Array Bool} {j : Nat} (s : Shut md ops listed) (h : j ∈ Region.ready md ops listed) : Shut md ops (listed.setIfInBounds j true) := fun l hl k hk => by
  by_cases e : j = l
  · subst e; exact getD_set_true (ready_preds h k hk)
  · refine getD_set_true (s l ?_ k hk)
    simp only [Array.getD_eq_getD_getElem?] at hl ⊢
    rwa [Array.getElem?_setIfInBounds_ne e] at hl
theorem Wt.listed {listed : Array Bool} {m k : Nat} (w : Wt md ops m k) (s : Shut md ops listed) (h : m ∈ Region.ready md ops listed) : listed.getD k false = true := by
  induction w with
  | one hk => exact ready_preds h _ hk
  | more _ hl ih => exact s _ ih _ hl
theorem wpAnyK_first {i : Nat} {oi : Oper} {v : Value} (hi : ops[i]? = some oi) (hsel : ∀ (j : Nat) (o : Oper) cs b, ops[j]? = some o → o.op ≠ .select cs b)
    (hQ : ∀ c a w, Q (.panic c) (a.put oi.dst v) w → Q (.panic c) a w) (hm : Wt md ops m i) :
    ∀ (fuel : Nat) (listed : Array Bool) (a : Act) (w : World), Shut md ops listed →
      (∀ j oj, ops[j]? = some oj → j ≠ i → listed.getD j true = false → (∀ e ∈ oj.after, Region.binds md e = true → e.on ≠ i) → oi.apart ops oj = true) →
      i ∈ Region.ready md ops listed → YieldsIf P ops S oi v a → S w →
      wpAnyK P md ops Q S m K fuel (listed.setIfInBounds i true) (a.put oi.dst v) w → wpAnyK P md ops Q S m K (fuel + 1) listed a w := by
  have waits : ∀ {listed : Array Bool} {j : Nat} {oj : Oper}, i ∈ Region.ready md ops listed → (∀ e ∈ oj.after, Region.binds md e = true → listed.getD e.on false = true) → ∀ e ∈ oj.after, Region.binds md e = true → e.on ≠ i := by
    intro listed j oj hr hall e he hb heq
    have h1 := hall e he hb
    have h0 := (mem_ready.1 hr).1
    rw [heq] at h1
    rcases Nat.lt_or_ge i listed.size with h' | h'
    · simp [h'] at h0 h1; rw [h0] at h1; cases h1
    · simp [Array.getElem?_eq_none h'] at h1
  intro fuel
  induction fuel with
  | zero =>
    intro listed a w hsh _ hr hy hS H
    refine ⟨fun h => (by rw [h] at hr; cases hr), fun j hj => ?_⟩
    by_cases hji : j = i
    · subst hji; exact hy.wpOp hi hS ⟨hS, H⟩
    · exfalso
      have h1 := ready_mono hj hji
      rw [H.1] at h1
      have hjm : j = m := by simpa using h1
      subst hjm
      have h1 := hm.listed hsh hj
      have h0 := (mem_ready.1 hr).1
      rcases Nat.lt_or_ge i listed.size with h' | h'
      · simp [h'] at h0 h1; rw [h0] at h1; cases h1
      · simp [Array.getElem?_eq_none h'] at h1
  | succ fuel ih =>
    intro listed a w hsh hfree hr hy hS H
    refine ⟨fun h => (by rw [h] at hr; cases hr), fun j hj => ?_⟩
    by_cases hji : j = i
    · subst hji; exact hy.wpOp hi hS ⟨hS, H⟩
    · have h1 := H.2 j (ready_mono hj hji)
      obtain ⟨hjun, oj, hoj, hall⟩ := mem_ready.1 hj
      have hnot := waits (j := j) hr hall
      have h2 := wpOp_putIf hoj (hfree j oj hoj hji hjun hnot) (fun cs b => hsel i oi cs b hi) (fun cs b => hsel j oj cs b hoj) hQ hy h1
      have hfree' : ∀ k ok, ops[k]? = some ok → k ≠ i → (listed.setIfInBounds j true).getD k true = false →
          (∀ e ∈ ok.after, Region.binds md e = true → e.on ≠ i) → oi.apart ops ok = true := fun k ok hk hki hun hno => by
        refine hfree k ok hk hki ?_ hno
        by_cases hjk : j = k
        · subst hjk; exact hjun
        · rw [getD_set_ne true hjk] at hun; exact hun
      refine wpOp_mono (fun a' w' h3 => ⟨h3.2.1, ih (listed.setIfInBounds j true) a' w' (hsh.set hj) hfree' (ready_mono hr (Ne.symm hji)) h3.1 h3.2.1 ?_⟩) h2
      rw [Array.setIfInBounds_comm _ _ hji]
      exact h3.2.2
end
def KN (P : Program) (ops : Array Oper) (Q : Exit → Act → World → Prop) (r : Nat) (listed : Array Bool) (a : Act) (w : World) : Prop := wpAny P .any ops (QN Q) r listed a w
def ancs (ops : Array Oper) (m : Nat) : List Nat := (List.range ops.size).reverse.foldl (fun s j => if j == m || s.contains j then s ++ (predsOf .any ops j).filter (fun k => !s.contains k) else s) []
theorem ancs_wt {m i : Nat} (h : i ∈ ancs ops m) : Wt .any ops m i := by
  have : ∀ (l s : List Nat), (∀ x ∈ s, Wt .any ops m x) → ∀ x ∈ l.foldl (fun s j => if j == m || s.contains j then s ++ (predsOf .any ops j).filter (fun k => !s.contains k) else s) s, Wt .any ops m x := by
    intro l
    induction l with
    | nil => exact fun s hs x hx => hs x hx
    | cons j l ih =>
      intro s hs x hx
      refine ih _ ?_ x hx
      intro y hy
      simp only at hy
      split at hy
      · rename_i hc
        rcases List.mem_append.1 hy with hy | hy
        · exact hs y hy
        · have hy' := (List.mem_filter.1 hy).1
          simp only [Bool.or_eq_true, beq_iff_eq, List.contains_iff_mem] at hc
          rcases hc with rfl | hc
          · exact .one hy'
          · exact .more (hs _ hc) hy'
      · exact hs y hy
  exact this _ [] (fun _ h => by cases h) i h
def shutB (ops : Array Oper) (listed : Array Bool) : Bool := (List.range listed.size).all fun j => !listed.getD j false || (predsOf .any ops j).all fun k => listed.getD k false
theorem shutB_shut {listed : Array Bool} (h : shutB ops listed = true) : Shut .any ops listed := fun j hj k hk => by
  have hlt : j < listed.size := by
    rcases Nat.lt_or_ge j listed.size with h' | h'
    · exact h'
    · simp [Array.getElem?_eq_none h'] at hj
  have := List.all_eq_true.1 h j (List.mem_range.2 hlt)
  rw [hj] at this
  simp only [Bool.not_true, Bool.false_or] at this
  exact List.all_eq_true.1 this k hk
def waitsB (ops : Array Oper) (listed : Array Bool) (m i : Nat) : Bool := (ancs ops m).contains i && shutB ops listed
def wantB (ops : Array Oper) (o : Oper) (L : Env) : Bool := match o.guard with
  | none => true
  | some (j, b) => match (ops[j]?).bind (·.dst) with
    | none => false
    | some d => match L.get d with
      | some (.bool b') => b == b'
      | _ => false
theorem wanted_of {o : Oper} {T : Array Value} (h : wantB ops o L = true) (s : Slots L T) : Region.wanted o (yielded ops T) = true := by
  unfold wantB at h
  cases hg : o.guard with
  | none => simp [Region.wanted, hg]
  | some jb =>
    obtain ⟨j, b⟩ := jb
    simp only [hg] at h
    cases hd : (ops[j]?).bind (·.dst) with
    | none => rw [hd] at h; cases h
    | some d =>
      rw [hd] at h
      simp only at h
      cases hv : L.get d with
      | none => rw [hv] at h; cases h
      | some v =>
        rw [hv] at h
        cases v <;> first | (cases h; done) | skip
        rename_i b'
        have hb : b = b' := by simpa using h
        subst hb
        have := s _ _ hv
        simp [Region.wanted, hg, yielded, hd, this]
def wpD (P : Program) (ops : Array Oper) (S : List HProp) (m : Nat) (r : Nat) (fuel : Nat) (listed : Array Bool) (Q : Exit → Act → World → Prop) (c : Cx) (n : Nat) (L : Env) (M : List HProp) : Prop :=
  ∀ T w, St c n L M T w → wpAnyK P .any ops (QN Q) (HSt c S) m (KN P ops Q r) fuel listed ⟨T, c.ds⟩ w
def wpDO (P : Program) (ops : Array Oper) (S : List HProp) (m r i : Nat) (listed : Array Bool) (o : Oper) (fuel : Nat) (Q : Exit → Act → World → Prop) (c : Cx) (n : Nat) (L : Env) (M : List HProp) : Prop :=
  ∃ d v, o.dst = some d ∧ Ev P o c n L S v ∧ Nat.blt d n = true ∧ wpD P ops S m r fuel (listed.setIfInBounds i true) Q c n ((d, v) :: L) M
variable {S : List HProp} {m r fuel : Nat} {listed : Array Bool}
theorem wpC_drawnR {id : Nat} {l : List Oper} (S : List HProp) (m r fuel : Nat) (hm : P.follows .mixedOrders = true) (hnd : noDefer l = true) (hl : Nat.beq l.length (fuel + r) = true) (h : wpD P l.toArray S m r fuel (Array.replicate l.toArray.size false) Q c n L M) : wpC P (.region id l.toArray true) Q c n L M := fun T w s => by
  refine cwp_region_any hm hnd ?_
  have hs : l.toArray.size = fuel + r := by simpa using Nat.eq_of_beq_eq_true hl
  have := wpAny_of_K (gg := r) (fun _ _ _ h => h) fuel _ _ _ (h T { w with drawn := w.drawn + 1 } ⟨s.size, s.slots, HSt.same s.heap rfl rfl rfl rfl⟩)
  rw [← hs] at this
  exact this
theorem wpC_drawn {id : Nat} {l : List Oper} (S : List HProp) (m fuel : Nat) (hm : P.follows .mixedOrders = true) (hnd : noDefer l = true) (hl : Nat.beq l.length (fuel + 1) = true) (h : wpD P l.toArray S m 1 fuel (Array.replicate l.toArray.size false) Q c n L M) : wpC P (.region id l.toArray true) Q c n L M := wpC_drawnR S m 1 fuel hm hnd hl h
theorem wpD_take (i : Nat) {o : Oper} (hi : ops[i]? = some o) (hg : wantB ops o L = true) (hs : Region.noSelect ops = true) (hf : Region.free .any ops listed i = true) (hr : (Region.ready .any ops listed).contains i = true)
    (hw : waitsB ops listed m i = true) (he : Ent M S) (h : wpDO P ops S m r i listed o fuel Q c n L M) : wpD P ops S m r (fuel + 1) listed Q c n L M := fun T w s => by
  obtain ⟨d, v, ho, hev, hd, h⟩ := h
  simp only [waitsB, Bool.and_eq_true, List.contains_iff_mem] at hw
  · refine wpAnyK_first (v := v) hi (Region.noSelect_spec hs) (fun _ _ _ h => by cases h.1) (ancs_wt hw.1) fuel listed _ w (shutB_shut hw.2) (Region.free_spec hi hf) (by simpa using hr) (.inl ⟨wanted_of hg s.slots, fun w' hw' => hev T w' ⟨s.size, s.slots, hw'⟩⟩) (HSt.ent he s.heap) ?_
    have := h (T.setIfInBounds d v) w ⟨by simp [s.size], s.slots.put s.size hd v, s.heap⟩
    simpa [Act.put, ho] using this
theorem od_ev {i : Nat} {o : Oper} {d : Nat} {v : Value} (ho : o.dst = some d) (he : Ev P o c n L S v) (hd : Nat.blt d n = true) (h : wpD P ops S m r fuel (listed.setIfInBounds i true) Q c n ((d, v) :: L) M) : wpDO P ops S m r i listed o fuel Q c n L M := ⟨d, v, ho, he, hd, h⟩
theorem wpD_eff (i : Nat) {o : Oper} {d : Nat} (hi : ops[i]? = some o) (hg : wantB ops o L = true) (hr : Region.ready .any ops listed = [i]) (ho : o.dst = some d) (hd : Nat.blt d n = true)
    (h : OVL P o c n L M d (fun L' M' => Ent M' S ∧ wpD P ops S m r fuel (listed.setIfInBounds i true) Q c n L' M')) : wpD P ops S m r (fuel + 1) listed Q c n L M := fun T w s => by
  refine ⟨by rw [hr]; simp, fun j hj => ?_⟩
  rw [hr] at hj
  obtain rfl : j = i := by simpa using hj
  obtain ⟨v, w', L', M', hrun, hst, rfl, he, hk⟩ := h T w s
  unfold wpOp
  simp only [hi]
  rw [if_pos (wanted_of hg s.slots)]
  refine .inl ?_
  unfold Oper.wp
  rw [hrun, Oper.upon_value]
  refine ⟨HSt.ent he hst, ?_⟩
  have := hk (T.setIfInBounds d v) w' ⟨by simp [s.size], s.slots.put s.size hd v, hst⟩
  simpa [Act.put, ho] using this
theorem wpD_effU (i : Nat) {o : Oper} (hi : ops[i]? = some o) (hg : wantB ops o L = true) (hr : Region.ready .any ops listed = [i]) (ho : o.dst = none)
    (h : OUL P o c n L M (fun L' M' => Ent M' S ∧ wpD P ops S m r fuel (listed.setIfInBounds i true) Q c n L' M')) : wpD P ops S m r (fuel + 1) listed Q c n L M := fun T w s => by
  refine ⟨by rw [hr]; simp, fun j hj => ?_⟩
  rw [hr] at hj
  obtain rfl : j = i := by simpa using hj
  obtain ⟨w', M', hrun, hst, he, hk⟩ := h T w s
  unfold wpOp
  simp only [hi]
  rw [if_pos (wanted_of hg s.slots)]
  refine .inl ?_
  unfold Oper.wp
  rw [hrun, Oper.upon_skip]
  refine ⟨HSt.ent he hst, ?_⟩
  have := hk T w' ⟨s.size, s.slots, hst⟩
  simpa [Act.put, ho] using this
theorem wpD_evf (i : Nat) {o : Oper} (hi : ops[i]? = some o) (hg : wantB ops o L = true) (hr : Region.ready .any ops listed = [i]) (he : Ent M S) (h : wpDO P ops S m r i listed o fuel Q c n L M) : wpD P ops S m r (fuel + 1) listed Q c n L M := by
  obtain ⟨d, v, ho, hev, hd, h⟩ := h
  exact wpD_eff i hi hg hr ho hd fun T w s => ⟨v, w, _, _, hev T w ⟨s.size, s.slots, HSt.ent he s.heap⟩, s.heap, rfl, he, h⟩
theorem wpD_call (i : Nat) {σ : Type} {d : Nat} {f : FuncId} {xs : List Operand} {ats : Array TypeId} {ty : TypeId} {pos : String} {after : Array Edge} {guard : Option (Nat × Bool)}
    {args : List Value} {A R : List HProp} {φ : σ → Prop} {val : σ → Value} {B : σ → List HProp}
    (S' : FnDoes P f args A φ val B) (hi : ops[i]? = some ⟨some d, .call { callee := .value (.func f), args := xs.toArray, argTypes := ats }, ty, pos, after, guard⟩)
    (hg : wantB ops ⟨some d, .call { callee := .value (.func f), args := xs.toArray, argTypes := ats }, ty, pos, after, guard⟩ L = true) (hr : Region.ready .any ops listed = [i]) (hx : opnds L xs = some args) (hp : Ent M (A ++ R)) (hd : Nat.blt d n = true)
    (h : ∀ y, φ y → Ent (B y ++ R) S ∧ wpD P ops S m r fuel (listed.setIfInBounds i true) Q c n ((d, val y) :: L) (B y ++ R)) : wpD P ops S m r (fuel + 1) listed Q c n L M := fun T w s => by
  refine ⟨by rw [hr]; simp, fun j hj => ?_⟩
  rw [hr] at hj
  obtain rfl : j = i := by simpa using hj
  have hrun : (execOp (Act.eval ⟨T, c.ds⟩) ⟨some d, .call { callee := .value (.func f), args := xs.toArray, argTypes := ats }, ty, pos, after, guard⟩).run P w = .ok (.enter f args.toArray) w := by
    rw [execOp_call]
    have := opnds_eval (ds := c.ds) s.slots hx
    simp only [List.map_toArray, this, Array.empty_append, Array.append_empty]
    exact S'.may _ _
  unfold wpOp
  simp only [hi]
  rw [if_pos (wanted_of hg s.slots)]
  refine .inl ?_
  unfold Oper.wp
  rw [hrun]
  intro cs
  obtain ⟨f', hh, m, l, dd⟩ := s.heap
  obtain ⟨ha, hr', a, r, dj, l1, l2⟩ := sepL_append (hp _ m)
  obtain ⟨e, w2, fr, ⟨y, hy, he, hst⟩, hcm, hfr, hl⟩ := S'.does w ha a (PHeap.le_trans l1 l) cs
  refine ⟨e, w2, fr, ?_, hcm, hfr, hl⟩
  subst he
  have hst' := HSt.call f' l dd r dj l1 l2 hst
  obtain ⟨h1, h2⟩ := h y hy
  refine ⟨HSt.ent h1 hst', ?_⟩
  have := h2 (T.setIfInBounds d (val y)) w2 ⟨by simp [s.size], s.slots.put s.size hd _, hst'⟩
  simpa [Act.put] using this
def unwantB (ops : Array Oper) (o : Oper) (L : Env) : Bool := match o.guard with
  | none => false
  | some (j, b) => match (ops[j]?).bind (·.dst) with
    | none => false
    | some d => match L.get d with
      | some v => !isB b v
      | none => false
theorem unwanted_of {o : Oper} {T : Array Value} (h : unwantB ops o L = true) (s : Slots L T) : Region.wanted o (yielded ops T) = false := by
  unfold unwantB at h
  cases hg : o.guard with
  | none => rw [hg] at h; cases h
  | some jb =>
    obtain ⟨j, b⟩ := jb
    simp only [hg] at h
    cases hd : (ops[j]?).bind (·.dst) with
    | none => simp only [hd] at h; cases h
    | some d =>
      simp only [hd] at h
      cases hv : L.get d with
      | none => simp only [hv] at h; cases h
      | some v =>
        simp only [hv] at h
        have hT := s _ _ hv
        simp only [Region.wanted, hg, yielded, hd, Option.bind_some, hT]
        cases v <;> simp_all [isB]
theorem wpD_skip (i : Nat) {o : Oper} {d : Nat} (hi : ops[i]? = some o) (hg : unwantB ops o L = true) (hs : Region.noSelect ops = true) (hf : Region.free .any ops listed i = true) (hr : (Region.ready .any ops listed).contains i = true)
    (hw : waitsB ops listed m i = true) (he : Ent M S) (ho : o.dst = some d) (hd : Nat.blt d n = true) (h : wpD P ops S m r fuel (listed.setIfInBounds i true) Q c n ((d, undef) :: L) M) : wpD P ops S m r (fuel + 1) listed Q c n L M := fun T w s => by
  simp only [waitsB, Bool.and_eq_true, List.contains_iff_mem] at hw
  · refine wpAnyK_first (v := undef) hi (Region.noSelect_spec hs) (fun _ _ _ h => by cases h.1) (ancs_wt hw.1) fuel listed _ w (shutB_shut hw.2) (Region.free_spec hi hf) (by simpa using hr) (.inr ⟨unwanted_of hg s.slots, rfl⟩) (HSt.ent he s.heap) ?_
    have := h (T.setIfInBounds d undef) w ⟨by simp [s.size], s.slots.put s.size hd undef, s.heap⟩
    simpa [Act.put, ho] using this
theorem wpD_skipF (i : Nat) {o : Oper} {d : Nat} (hi : ops[i]? = some o) (hg : unwantB ops o L = true) (hr : Region.ready .any ops listed = [i]) (he : Ent M S) (ho : o.dst = some d) (hd : Nat.blt d n = true)
    (h : wpD P ops S m r fuel (listed.setIfInBounds i true) Q c n ((d, undef) :: L) M) : wpD P ops S m r (fuel + 1) listed Q c n L M := fun T w s => by
  refine ⟨by rw [hr]; simp, fun j hj => ?_⟩
  rw [hr] at hj
  obtain rfl : j = i := by simpa using hj
  unfold wpOp
  simp only [hi]
  rw [if_neg (by rw [unwanted_of hg s.slots]; simp)]
  refine ⟨HSt.ent he s.heap, ?_⟩
  have := h (T.setIfInBounds d undef) w ⟨by simp [s.size], s.slots.put s.size hd undef, s.heap⟩
  simpa [Act.put, ho] using this
theorem sl_one {e size len : Nat} {v : Value} {xs : List Value} {R : List HProp} (hp : Pick M (sl e size v len xs) R) : ∀ w, HSt c M w → v.oneCell' = true := fun w s => by
  obtain ⟨_, _, h⟩ := sl_open hp s
  rcases h with ⟨rfl, _, _⟩ | ⟨b, cap, junk, rfl, _⟩ <;> rfl
theorem wpD_lastU {o : Oper} (hi : ops[m]? = some o) (hg : wantB ops o L = true) (hr : Region.ready .any ops listed = [m]) (hr' : Region.ready .any ops (listed.setIfInBounds m true) = []) (ho : o.dst = none)
    (h : OUL P o c n L M (fun L' M' => qE Q .normal c n L' M')) : wpD P ops S m 1 0 listed Q c n L M := fun T w s => by
  refine ⟨hr, fun h0 => absurd h0 (by rw [hr]; simp), fun j hj => ?_⟩
  rw [hr] at hj
  obtain rfl : j = m := by simpa using hj
  obtain ⟨w', M', hrun, hst, hk⟩ := h T w s
  unfold wpOp
  simp only [hi]
  rw [if_pos (wanted_of hg s.slots)]
  refine .inl ?_
  unfold Oper.wp
  rw [hrun, Oper.upon_skip]
  have := hk T w' ⟨s.size, s.slots, hst⟩
  exact ⟨hr', rfl, by simpa [Act.put, ho] using this⟩
theorem wpD_lastV {o : Oper} {d : Nat} (hi : ops[m]? = some o) (hg : wantB ops o L = true) (hr : Region.ready .any ops listed = [m]) (hr' : Region.ready .any ops (listed.setIfInBounds m true) = []) (ho : o.dst = some d) (hd : Nat.blt d n = true)
    (h : OVL P o c n L M d (fun L' M' => qE Q .normal c n L' M')) : wpD P ops S m 1 0 listed Q c n L M := fun T w s => by
  refine ⟨hr, fun h0 => absurd h0 (by rw [hr]; simp), fun j hj => ?_⟩
  rw [hr] at hj
  obtain rfl : j = m := by simpa using hj
  obtain ⟨v, w', L', M', hrun, hst, rfl, hk⟩ := h T w s
  unfold wpOp
  simp only [hi]
  rw [if_pos (wanted_of hg s.slots)]
  refine .inl ?_
  unfold Oper.wp
  rw [hrun, Oper.upon_value]
  have := hk (T.setIfInBounds d v) w' ⟨by simp [s.size], s.slots.put s.size hd v, hst⟩
  exact ⟨hr', rfl, by simpa [Act.put, ho] using this⟩
def wpZ (P : Program) (ops : Array Oper) (r : Nat) (listed : Array Bool) (Q : Exit → Act → World → Prop) (c : Cx) (n : Nat) (L : Env) (M : List HProp) : Prop :=
  ∀ T w, St c n L M T w → wpAny P .any ops (QN Q) r listed ⟨T, c.ds⟩ w
theorem wpD_toZ (hr : Region.ready .any ops listed = [m]) (h : wpZ P ops r listed Q c n L M) : wpD P ops S m r 0 listed Q c n L M := fun T w s => ⟨hr, h T w s⟩
theorem wpZ_nil (hr : Region.ready .any ops listed = []) (h : qE Q .normal c n L M) : wpZ P ops 0 listed Q c n L M := fun T w s => ⟨hr, rfl, h T w s⟩
theorem wpZ_val (i : Nat) {o : Oper} {d : Nat} (hi : ops[i]? = some o) (hg : wantB ops o L = true) (hr : Region.ready .any ops listed = [i]) (ho : o.dst = some d) (hd : Nat.blt d n = true)
    (h : OVL P o c n L M d (fun L' M' => wpZ P ops r (listed.setIfInBounds i true) Q c n L' M')) : wpZ P ops (r + 1) listed Q c n L M := fun T w s => by
  refine ⟨fun h0 => (by rw [hr] at h0; cases h0), fun j hj => ?_⟩
  rw [hr] at hj
  obtain rfl : j = i := by simpa using hj
  obtain ⟨v, w', L', M', hrun, hst, rfl, hk⟩ := h T w s
  unfold wpOp
  simp only [hi]
  rw [if_pos (wanted_of hg s.slots)]
  refine .inl ?_
  unfold Oper.wp
  rw [hrun, Oper.upon_value]
  have := hk (T.setIfInBounds d v) w' ⟨by simp [s.size], s.slots.put s.size hd v, hst⟩
  simpa [Act.put, ho] using this
theorem wpZ_ev (i : Nat) {o : Oper} {d : Nat} {v : Value} (hi : ops[i]? = some o) (hev : Ev P o c n L M v) (h : wpZ P ops r (listed.setIfInBounds i true) Q c n ((d, v) :: L) M) (hg : wantB ops o L = true) (hr : Region.ready .any ops listed = [i]) (ho : o.dst = some d) (hd : Nat.blt d n = true) : wpZ P ops (r + 1) listed Q c n L M :=
  wpZ_val i hi hg hr ho hd fun T w s => ⟨v, w, _, _, hev T w s, s.heap, rfl, h⟩
theorem wpZ_unit (i : Nat) {o : Oper} (hi : ops[i]? = some o) (hg : wantB ops o L = true) (hr : Region.ready .any ops listed = [i]) (ho : o.dst = none)
    (h : OUL P o c n L M (fun L' M' => wpZ P ops r (listed.setIfInBounds i true) Q c n L' M')) : wpZ P ops (r + 1) listed Q c n L M := fun T w s => by
  refine ⟨fun h0 => (by rw [hr] at h0; cases h0), fun j hj => ?_⟩
  rw [hr] at hj
  obtain rfl : j = i := by simpa using hj
  obtain ⟨w', M', hrun, hst, hk⟩ := h T w s
  unfold wpOp
  simp only [hi]
  rw [if_pos (wanted_of hg s.slots)]
  refine .inl ?_
  unfold Oper.wp
  rw [hrun, Oper.upon_skip]
  have := hk T w' ⟨s.size, s.slots, hst⟩
  simpa [Act.put, ho] using this
theorem wpZ_take (i : Nat) {o : Oper} {d : Nat} {v : Value} (hi : ops[i]? = some o) (hev : ∀ c', Ev P o c' n L [] v) (h : wpZ P ops r (listed.setIfInBounds i true) Q c n ((d, v) :: L) M) (hg : wantB ops o L = true) (hs : Region.noSelect ops = true) (hf : Region.free .any ops listed i = true)
    (hr : (Region.ready .any ops listed).contains i = true) (ho : o.dst = some d) (hd : Nat.blt d n = true) : wpZ P ops (r + 1) listed Q c n L M := fun T w s => by
  refine wpAny_take (v := v) hi hs hf hr (fun _ _ _ h => by cases h.1) (.inl ⟨wanted_of hg s.slots, fun w' => hev ⟨w', fun _ => True, c.rnd, c.ds⟩ T w' ⟨s.size, s.slots, Fr.refl _ _, fun _ => none, trivial, (fun _ _ e => by cases e), fun _ e => absurd rfl e⟩⟩) ?_
  have := h (T.setIfInBounds d v) w ⟨by simp [s.size], s.slots.put s.size hd v, s.heap⟩
  simpa [Act.put, ho] using this
theorem wpZ_D (S : List HProp) (m r fuel : Nat) (h : wpD P ops S m r fuel listed Q c n L M) : wpZ P ops (fuel + r) listed Q c n L M := fun T w s =>
  wpAny_of_K (gg := r) (fun _ _ _ h => h) fuel _ _ _ (h T w s)
theorem wpC_drawn0 {id : Nat} {l : List Oper} (hm : P.follows .mixedOrders = true) (hnd : noDefer l = true) (h : wpZ P l.toArray l.length (Array.replicate l.toArray.size false) Q c n L M) : wpC P (.region id l.toArray true) Q c n L M := fun T w s => by
  refine cwp_region_any hm hnd ?_
  exact h T { w with drawn := w.drawn + 1 } ⟨s.size, s.slots, HSt.same s.heap rfl rfl rfl rfl⟩
end Go.Sx
