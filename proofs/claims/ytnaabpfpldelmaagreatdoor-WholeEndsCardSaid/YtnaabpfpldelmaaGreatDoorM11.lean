/-
  A region grows: rows appended, made, written. No program in sight.
  Numbers of which only the kind is known; scopes without jumps. No program in sight.
-/
import Derived.Test.YtnaabpfpldelmaaGreatDoorM10
set_option linter.unusedSimpArgs false
set_option linter.unusedVariables false
namespace Go.Sx
open Go Go.Conc
variable {P : Program} {ops : Array Oper} {Q : Exit → Act → World → Prop} {c : Cx} {n : Nat} {L : Env} {M : List HProp} {rest : List Oper}
variable {ty : TypeId} {pos : String} {after : Array Edge} {g : Option (Nat × Bool)}
variable {S : Shp} {ρ : Rho} {H : PHeap}
abbrev rowOf (xs : List Value) (sz i : Nat) : List Value := (xs.drop (i * sz)).take sz
theorem rowOf_left {A B : List Value} {sz a i : Nat} (ha : A.length = a * sz) (hi : i < a) : rowOf (A ++ B) sz i = rowOf A sz i := by
  have h3 : (i + 1) * sz ≤ a * sz := Nat.mul_le_mul_right _ hi
  rw [Nat.add_mul] at h3
  unfold rowOf
  rw [List.drop_append_of_le_length (by omega), List.take_append_of_le_length (by rw [List.length_drop]; omega)]
theorem rowOf_right {A B : List Value} {sz a i : Nat} (ha : A.length = a * sz) (hi : a ≤ i) : rowOf (A ++ B) sz i = rowOf B sz (i - a) := by
  have h3 : a * sz ≤ i * sz := Nat.mul_le_mul_right _ hi
  unfold rowOf
  rw [List.drop_append, List.drop_eq_nil_of_le (by omega), List.nil_append, ha, ← Nat.sub_mul]
theorem rowOf_take {A : List Value} {sz a i : Nat} (hi : i < a) : rowOf (A.take (a * sz)) sz i = rowOf A sz i := by
  have h3 : (i + 1) * sz ≤ a * sz := Nat.mul_le_mul_right _ hi
  rw [Nat.add_mul] at h3
  unfold rowOf
  rw [List.drop_take, List.take_take, Nat.min_eq_left (by omega)]
theorem rowOf_drop {A : List Value} {sz a i : Nat} : rowOf (A.drop (a * sz)) sz i = rowOf A sz (a + i) := by
  unfold rowOf
  rw [List.drop_drop, Nat.add_mul]
theorem rowOf_one {A : List Value} {sz : Nat} (h : A.length = sz) : rowOf A sz 0 = A := by
  unfold rowOf; rw [Nat.zero_mul, List.drop_zero, List.take_of_length_le (by omega)]
def okRows (S : Shp) (ρ : Rho) (e : TypeId) (xs : List Value) (m : Nat) : Prop := xs.length = m * (S e).length ∧ ∀ i, i < m → okR S ρ (S e) (rowOf xs (S e).length i)
theorem okRows.mono {ρ' : Rho} {e : TypeId} {xs : List Value} {m : Nat} (h : okRows S ρ e xs m) (l : Rho.le ρ ρ') : okRows S ρ' e xs m := ⟨h.1, fun i hi => (h.2 i hi).mono l⟩
theorem okRows.app {e : TypeId} {xs ys : List Value} {a b : Nat} (h : okRows S ρ e xs a) (k : okRows S ρ e ys b) : okRows S ρ e (xs ++ ys) (a + b) := by
  refine ⟨by rw [List.length_append, h.1, k.1, Nat.add_mul], fun i hi => ?_⟩
  by_cases hia : i < a
  · rw [rowOf_left h.1 hia]; exact h.2 i hia
  · rw [rowOf_right h.1 (by omega)]; exact k.2 _ (by omega)
theorem okRows.tk {e : TypeId} {xs : List Value} {a b : Nat} (h : okRows S ρ e xs b) (hab : a ≤ b) : okRows S ρ e (xs.take (a * (S e).length)) a := by
  have := Nat.mul_le_mul_right (S e).length hab
  exact ⟨by rw [List.length_take, h.1]; omega, fun i hi => by rw [rowOf_take hi]; exact h.2 i (by omega)⟩
theorem okRows.one {e : TypeId} {vs : List Value} (h : okR S ρ (S e) vs) : okRows S ρ e vs 1 :=
  ⟨by rw [h.len]; omega, fun i hi => by obtain rfl : i = 0 := by omega
                                        rw [rowOf_one h.len]; exact h⟩
theorem okRows.nil {e : TypeId} : okRows S ρ e [] 0 := ⟨by simp, fun i hi => by omega⟩
theorem WT.rows {b : Nat} {e : TypeId} {u m : Nat} (h : WT S ρ H) (hb : ρ b = some (e, u, m)) : ∃ xs, H b = some (.cells (List.toArray xs) e (0, 0)) ∧ xs.length = m * (S e).length ∧ u ≤ m ∧ xs.all (·.oneCell') = true ∧ okRows S ρ e (xs.take (u * (S e).length)) u := by
  obtain ⟨xs, a1, a2, a3, a4, a5⟩ := h.row b e u m hb
  have := Nat.mul_le_mul_right (S e).length a3
  exact ⟨xs, a1, a2, a3, a4, by rw [List.length_take, a2]; omega, fun i hi => by rw [rowOf_take hi]; exact a5 i hi⟩
theorem all_take {l : List Value} (k : Nat) (h : l.all (·.oneCell') = true) : (l.take k).all (·.oneCell') = true := by
  rw [List.all_eq_true] at h ⊢; exact fun x hx => h x (List.mem_of_mem_take hx)
theorem all_drop {l : List Value} (k : Nat) (h : l.all (·.oneCell') = true) : (l.drop k).all (·.oneCell') = true := by
  rw [List.all_eq_true] at h ⊢; exact fun x hx => h x (List.mem_of_mem_drop hx)
theorem okRows.reps {e : TypeId} {z : List Value} (h : okR S ρ (S e) z) : ∀ m, okRows S ρ e (List.replicate m z).flatten m
  | 0 => okRows.nil
  | m + 1 => by
    have := (okRows.one h).app (okRows.reps h m)
    rw [Nat.add_comm 1 m] at this
    simpa [List.replicate_succ] using this
theorem okRows.allOne {e : TypeId} {xs : List Value} {m : Nat} (h : okRows S ρ e xs m) : xs.all (·.oneCell') = true := by
  rw [List.all_eq_true]
  intro x hx
  obtain ⟨j, hj, hjx⟩ := List.getElem_of_mem hx
  have hlen := h.1
  rw [hlen] at hj
  have hpos : 0 < (S e).length := Nat.pos_of_ne_zero (fun hz => by simp [hz] at hj)
  have hi : j / (S e).length < m := (Nat.div_lt_iff_lt_mul hpos).2 hj
  have ho := (h.2 _ hi).one
  rw [List.all_eq_true] at ho
  refine ho x ?_
  have hm : j % (S e).length < (S e).length := Nat.mod_lt _ hpos
  have hdm := Nat.div_add_mod j (S e).length
  rw [Nat.mul_comm] at hdm
  apply List.mem_iff_getElem?.2
  refine ⟨j % (S e).length, ?_⟩
  rw [List.getElem?_take_of_lt hm, List.getElem?_drop, hdm, ← hjx, List.getElem?_eq_getElem (by rw [hlen]; exact hj)]
def zB : List CT → List Value → Bool
  | [], [] => true
  | .int k :: cs, .int k' n :: vs => k == k' && n == 0 && zB cs vs
  | .bool :: cs, .bool _ :: vs => zB cs vs
  | .str :: cs, .string s :: vs => s.size == 0 && zB cs vs
  | .slc _ :: cs, .slice none 0 0 :: vs => zB cs vs
  | .one :: cs, v :: vs => v.oneCell' && zB cs vs
  | _, _ => false
theorem okZ : ∀ {cs : List CT} {vs : List Value}, zB cs vs = true → okR S ρ cs vs
  | [], [], _ => trivial
  | .int k :: cs, .int k' n :: vs, h => by
    simp only [zB, Bool.and_eq_true, beq_iff_eq] at h
    obtain ⟨⟨rfl, rfl⟩, h⟩ := h
    exact ⟨⟨0, rfl, by cases k <;> decide⟩, okZ h⟩
  | .bool :: cs, .bool b :: vs, h => ⟨⟨b, rfl⟩, okZ h⟩
  | .str :: cs, .string s :: vs, h => by
    simp only [zB, Bool.and_eq_true, beq_iff_eq] at h
    exact ⟨⟨s, rfl, by omega⟩, okZ h.2⟩
  | .slc e :: cs, .slice none 0 0 :: vs, h => ⟨⟨0, okSl.nil, by omega⟩, okZ h⟩
  | .one :: cs, v :: vs, h => by
    simp only [zB, Bool.and_eq_true] at h
    exact ⟨h.1, okZ h.2⟩
theorem hst_regNew {b u m : Nat} {e : TypeId} {xs junk : List Value} {R : List HProp} {w : World} (s : HSt c (pts b (.cells (xs ++ junk).toArray e (0, 0)) :: own H :: R) w) (hW : WT S ρ H) (hx : okRows S ρ e xs u) (hl : (xs ++ junk).length = m * (S e).length) (hu : u ≤ m) (hj : junk.all (·.oneCell') = true) :
    ∃ ρ' H', WT S ρ' H' ∧ Gr ρ H ρ' H' ∧ ρ' b = some (e, u, m) ∧ HSt c (own H' :: R) w := by
  have hb : H b = none := s.ne_own .head .head
  obtain ⟨h1, h2⟩ := hW.new (u := u) hb hl hu (by rw [List.all_append, hx.allOne, hj]; rfl) (fun i hi => by
    have := hx.2 i hi
    rw [← rowOf_left (B := junk) hx.1 hi] at this
    exact this)
  exact ⟨_, _, h1, h2, by simp [Rho.set], s.ent own_join⟩
theorem okSl.ofNew {b u m k : Nat} {e : TypeId} (h : ρ b = some (e, u, m)) (hk : k ≤ u) (hu : u ≤ m) : okSl S ρ e (.slice (some ⟨b, 0, none⟩) k m) k := .inr ⟨b, 0, m, u, m, by simp, by omega, h, by omega, by omega⟩
theorem zeroCells_list (z : Array Value) (k : Nat) : (Builtin.zeroCells z k).toList = (List.replicate k z.toList).flatten := by
  induction k with
  | zero => simp [Builtin.zeroCells]
  | succ k ih =>
    rw [List.replicate_succ', List.flatten_concat, ← ih]
    simp only [Builtin.zeroCells, Array.toList_map, Array.toList_range, Nat.add_mul, Nat.one_mul, List.range_add, List.map_append, List.map_map]
    congr 1
    apply List.ext_getElem
    · simp
    · intro j h1 h2
      simp at h1 h2
      simp [Nat.mod_eq_of_lt h2, h2]
theorem run_appendR {t tx e : TypeId} {i : TypeInfo} {z v x : Value} {len m : Nat} {news : List Value} {R : List HProp} {w : World} (hW : WT S ρ H) (hv : okSl S ρ e v len) (hn : okRows S ρ e news m) (hb : (len + m) * i.bytes ≤ 140737488355328)
    (src : ∀ w, HSt c M w → Src P (S e).length tx x m news w) (ht : P.underlying t = some (.slice e)) (hi : P.info? e = some i) (hz : i.zero = some z)
    (hsz : i.size = (S e).length) (hzl : Nat.beq z.cells.size i.size = true) (hzr : z.cells.toList.all (·.oneCell') = true) (hby : Nat.blt 0 i.bytes = true) (hp : Pick M (own H) R) (s : HSt c M w) :
    ∃ v' w' ρ' H', (Builtin.append_ #[t, tx] ty #[v, x]).run P w = .ok v' w' ∧ WT S ρ' H' ∧ Gr ρ H ρ' H' ∧ okSl S ρ' e v' (len + m) ∧ HSt c (own H' :: R) w' := by
  have hS : Src P i.size tx x m news w := by rw [hsz]; exact src w s
  have hby' : 0 < i.bytes := by simpa [Nat.blt_eq] using hby
  have hzs' : z.cells.size = i.size := Nat.eq_of_beq_eq_true hzl
  have hlen : len + m ≤ 140737488355328 := Nat.le_trans (Nat.le_mul_of_pos_right _ hby') hb
  have sH : HSt c (own H :: R) w := s.ent (Ent.cons hp (Ent.refl _))
  obtain ⟨olds, ho, ho2⟩ := hv.rd hW
  have hor : okRows S ρ e olds len := ⟨(ho H rfl).1, ho2⟩
  have grown : ∀ (cap : Nat) (w0 : World), w0.heap = w.heap → w0.os = w.os → w0.tape = w.tape → w0.output = w.output → len + m ≤ cap →
      ∃ ρ' H', WT S ρ' H' ∧ Gr ρ H ρ' H' ∧ okSl S ρ' e (.slice (some ⟨w.heap.size, 0, none⟩) (len + m) cap) (len + m) ∧ HSt c (own H' :: R) (w0.alloc (.cells ((olds ++ news).toArray ++ Builtin.zeroCells z.cells (cap - (len + m))) e)) := fun cap w0 e1 e2 e3 e4 h1 => by
    have := HSt.new (w' := w0.alloc (.cells ((olds ++ news).toArray ++ Builtin.zeroCells z.cells (cap - (len + m))) e)) (HSt.same sH e1 e2 e3 e4) (.cells (olds ++ news ++ (Builtin.zeroCells z.cells (cap - (len + m))).toList).toArray e (0, 0)) (by
      show w0.heap.push _ = _
      congr 2
      apply Array.ext'; simp) rfl rfl rfl
    rw [show w0.heap.size = w.heap.size by rw [e1]] at this
    have hxn := hor.app hn
    have hzl2 : (Builtin.zeroCells z.cells (cap - (len + m))).toList.length = (cap - (len + m)) * (S e).length := by rw [Array.length_toList, size_zeroCells, hzs', hsz]
    obtain ⟨ρ', H', a1, a2, a3, a4⟩ := hst_regNew (m := cap) this hW hxn (by
      rw [List.length_append, hxn.1, hzl2, ← Nat.add_mul]; congr 1; omega) h1 (by
      rw [zeroCells_list, List.all_eq_true]
      intro x hx
      obtain ⟨y, hy, hxy⟩ := List.mem_flatten.1 hx
      rw [(List.mem_replicate.1 hy).2] at hxy
      rw [List.all_eq_true] at hzr
      exact hzr x hxy)
    exact ⟨ρ', H', a1, a2, okSl.ofNew a3 (Nat.le_refl _) h1, a4⟩
  have hold : ∀ a cap, v = .slice a len cap → (Builtin.firstCells i.size len (.slice a len cap)).run P w.drew = .ok olds.toArray w.drew := fun a cap hva => by
    subst hva
    obtain ⟨f, hh, mm, l, dd⟩ := sH
    obtain ⟨h1, h2, aa, rr, _, l1, l2⟩ := mm
    have aa' : h1 = H := aa
    subst aa'
    obtain ⟨b1, b2, b3⟩ := ho h1 rfl
    rcases b3 with ⟨e1, e2⟩ | ⟨a0, c0, e1, hc, hsp, k⟩
    · cases e1
      have : olds = [] := List.eq_nil_of_length_eq_zero (by simpa using b1)
      subst this
      exact run_firstCells_none w.drew i.size 0 0 0
    · cases e1
      refine run_firstCells_some w.drew i.size len a0 len cap olds (by rw [hsz]; exact b1) (fun j u hu => ?_)
      rw [World.cell?_drew]
      exact cell_of_le (PHeap.le_trans l1 l) (k j u hu)
  obtain ⟨a, cap, rfl, hcap⟩ := hv.isSlice
  by_cases hroom : len + m ≤ cap
  · rcases Nat.eq_zero_or_pos cap with rfl | hcp
    · obtain rfl : len = 0 := by omega
      obtain rfl : m = 0 := by omega
      have hn0 : news = [] := List.eq_nil_of_length_eq_zero (by simpa using hS.newsLen)
      subst hn0
      have hr : (Builtin.append_ #[t, tx] ty #[.slice a 0 0, x]).run P w = .ok (.slice a 0 0) w := by
        have hc0 := hS.cells
        rcases hS.kind with ⟨e', hk⟩ | hk <;> cases a <;> simp [Builtin.append_, run_underlying ht, run_underlying hk, sizeOf, typeInfo, hi, hS.len, hc0, storeCells]
      exact ⟨_, w, ρ, H, hr, hW, Gr.refl _ _, hv, sH⟩
    · rcases hv with ⟨he, _⟩ | ⟨b, off, cap', used, tot, he, hc, h1, h2, h4⟩
      · cases he; omega
      · cases he
        obtain ⟨cur, k1, k2, k3, k4, k5⟩ := hW.rows h1
        have hblk : w.heap[b]? = some (.cells cur.toArray e (0, 0)) := HSt.own .head sH b _ k1
        have hle : (off + len + m) * (S e).length ≤ tot * (S e).length := Nat.mul_le_mul_right _ (by omega)
        have hfit : off * (S e).length + len * i.size + news.length ≤ cur.toArray.size := by
          rw [hS.newsLen, List.size_toArray, k2, hsz, ← Nat.add_mul, ← Nat.add_mul]; exact hle
        have hst := run_storeCells_at P b (off * (S e).length + len * i.size) e news 0 cur.toArray w hblk (by simpa using hfit) hS.one
        simp only [Nat.add_zero] at hst
        have hr : (Builtin.append_ #[t, tx] ty #[.slice (some ⟨b, off * (S e).length, none⟩) len cap, x]).run P w = .ok (.slice (some ⟨b, off * (S e).length, none⟩) (len + m) cap) (w.setRow b (cur.take (off * (S e).length + len * i.size) ++ news ++ cur.drop (off * (S e).length + len * i.size + news.length)).toArray) := by
          rcases hS.kind with ⟨e', hk⟩ | hk <;> simp [Builtin.append_, run_underlying ht, run_underlying hk, sizeOf, typeInfo, hi, hS.len, hroom, hS.cells, add_lit, hst]
        have hpos : off * (S e).length + len * i.size = (off + len) * (S e).length := by rw [hsz, Nat.add_mul]
        have hpos2 : off * (S e).length + len * i.size + news.length = (off + len + m) * (S e).length := by rw [hS.newsLen, hsz, Nat.add_mul, Nat.add_mul]
        have hA : okRows S ρ e (cur.take ((off + len) * (S e).length)) (off + len) := by
          have := k5.tk (a := off + len) (by omega)
          rw [List.take_take, Nat.min_eq_left (Nat.mul_le_mul_right _ (by omega))] at this
          exact this
        have hlenA : (cur.take (off * (S e).length + len * i.size) ++ news ++ cur.drop (off * (S e).length + len * i.size + news.length)).length = tot * (S e).length := by
          have := hA.1
          rw [hpos2, hpos, List.length_append, List.length_append, this, hn.1, List.length_drop, k2, ← Nat.sub_mul, ← Nat.add_mul, ← Nat.add_mul]
          congr 1; omega
        have hone : (cur.take (off * (S e).length + len * i.size) ++ news ++ cur.drop (off * (S e).length + len * i.size + news.length)).all (·.oneCell') = true := by
          rw [List.all_append, List.all_append, all_take _ k4, all_drop _ k4, hn.allOne]; rfl
        have hrows : ∀ ii, ii < max used (off + len + m) → okR S ρ (S e) (rowOf (cur.take (off * (S e).length + len * i.size) ++ news ++ cur.drop (off * (S e).length + len * i.size + news.length)) (S e).length ii) := fun ii hii => by
          rw [hpos2, hpos]
          have hAn := hA.app hn
          by_cases hlt : ii < off + len + m
          · rw [rowOf_left hAn.1 hlt]; exact hAn.2 ii hlt
          · rw [rowOf_right hAn.1 (by omega), rowOf_drop, show off + len + m + (ii - (off + len + m)) = ii by omega]
            have := k5.2 ii (by omega)
            rwa [rowOf_take (by omega)] at this
        obtain ⟨u1, u2⟩ := hW.upd (u' := max used (off + len + m)) h1 (Nat.le_max_left _ _) (by omega) hlenA hone hrows
        refine ⟨_, _, _, _, hr, u1, u2, .inr ⟨b, off, cap, max used (off + len + m), tot, rfl, hroom, by simp [Rho.set], by omega, h4⟩, ?_⟩
        rw [← put_del (H := H)]
        exact (hst_setRow .head (sH.ent (own_split k1))).ent own_join
  · have hr := run_append_grow_src (P := P) w t tx ty e i z ht hi hz a len cap olds (hold a cap rfl) x m news hS (by omega) (by omega) (growslice_fits (by omega) hb)
    obtain ⟨ρ', H', a1, a2, a3, a4⟩ := grown _ w.drew rfl rfl rfl rfl (grownCap_ge _ _ _ _)
    exact ⟨_, _, ρ', H', hr, a1, a2, a3, a4⟩
theorem exec_append {d : Nat} {t tx : TypeId} {s' x' : Operand} {v x v' : Value} {w w' : World} {T : Array Value} (s : St c n L M T w) (hs : opnd L s' = some v) (hx : opnd L x' = some x) (hr : (Builtin.append_ #[t, tx] ty #[v, x]).run P w = .ok v' w') :
    (execOp (Act.eval ⟨T, c.ds⟩) ⟨some d, .call { callee := .builtin .append, args := #[s', x'], argTypes := #[t, tx] }, ty, pos, after, g⟩).run P w = .ok (.value v') w' := by
  simp [execOp, resolve, invoke, builtin, opnd_eval s.slots hs, opnd_eval s.slots hx, hr]
section
variable {d : Nat} {t tx e : TypeId} {s' x' : Operand} {i : TypeInfo} {z v x : Value} {len m : Nat} {news : List Value} {R : List HProp}
theorem o_appendR (hW : WT S ρ H) (hv : okSl S ρ e v len) (hn : okRows S ρ e news m) (hb : (len + m) * i.bytes ≤ 140737488355328)
    (h : ∀ v' ρ' H', WT S ρ' H' → Gr ρ H ρ' H' → okSl S ρ' e v' (len + m) → wpE P ops rest Q c n ((d, v') :: L) (own H' :: R))
    (src : ∀ w, HSt c M w → Src P (S e).length tx x m news w)
    (hs : opnd L s' = some v := by rfl) (hx : opnd L x' = some x := by rfl) (ht : P.underlying t = some (.slice e) := by rfl) (hi : P.info? e = some i := by rfl) (hz : i.zero = some z := by rfl)
    (hsz : i.size = (S e).length := by rfl) (hzl : Nat.beq z.cells.size i.size = true := by rfl) (hzr : z.cells.toList.all (·.oneCell') = true := by rfl) (hby : Nat.blt 0 i.bytes = true := by rfl) (hp : Pick M (own H) R := by (repeat (first | exact Pick.head | apply Pick.tail))) (hd : Nat.blt d n = true := by rfl) :
    wpO P ops ⟨some d, .call { callee := .builtin .append, args := #[s', x'], argTypes := #[t, tx] }, ty, pos, after, g⟩ rest Q c n L M := o_val rfl hd fun T w s => by
  obtain ⟨v', w', ρ', H', hr, a1, a2, a3, a4⟩ := run_appendR (ty := ty) hW hv hn hb src ht hi hz hsz hzl hzr hby hp s.heap
  exact ⟨v', w', _, _, exec_append s hs hx hr, a4, rfl, h v' ρ' H' a1 a2 a3⟩
theorem x_appendR {K : Env → List HProp → Prop} (hp : Pick M (own H) R) (hW : WT S ρ H) (hv : okSl S ρ e v len) (hn : okRows S ρ e news m) (hb : (len + m) * i.bytes ≤ 140737488355328)
    (h : ∀ v' ρ' H', WT S ρ' H' → Gr ρ H ρ' H' → okSl S ρ' e v' (len + m) → K ((d, v') :: L) (own H' :: R))
    (src : ∀ w, HSt c M w → Src P (S e).length tx x m news w)
    (hs : opnd L s' = some v := by rfl) (hx : opnd L x' = some x := by rfl) (ht : P.underlying t = some (.slice e) := by rfl) (hi : P.info? e = some i := by rfl) (hz : i.zero = some z := by rfl)
    (hsz : i.size = (S e).length := by rfl) (hzl : Nat.beq z.cells.size i.size = true := by rfl) (hzr : z.cells.toList.all (·.oneCell') = true := by rfl) (hby : Nat.blt 0 i.bytes = true := by rfl) :
    OVL P ⟨some d, .call { callee := .builtin .append, args := #[s', x'], argTypes := #[t, tx] }, ty, pos, after, g⟩ c n L M d K := fun T w s => by
  obtain ⟨v', w', ρ', H', hr, a1, a2, a3, a4⟩ := run_appendR (ty := ty) hW hv hn hb src ht hi hz hsz hzl hzr hby hp s.heap
  exact ⟨v', w', _, _, exec_append s hs hx hr, a4, rfl, h v' ρ' H' a1 a2 a3⟩
end
theorem hst_regPut {b : Nat} {e : TypeId} {R : List HProp} {w : World} {xs xs' : List Value} (k1 : H b = some (.cells xs.toArray e (0, 0))) (s : HSt c (own H :: R) w) : HSt c (own (H.put b (.cells xs'.toArray e (0, 0))) :: R) (w.setRow b xs'.toArray) := by
  rw [← put_del (H := H)]
  exact (hst_setRow .head (s.ent (own_split k1))).ent own_join
theorem o_storeR {t e : TypeId} {x y : Operand} {i : TypeInfo} {b o len cap m k : Nat} {vs : List Value} {v : Value} {R : List HProp} (hW : WT S ρ H) (hs : okSl S ρ e (.slice (some ⟨b, o, none⟩) len cap) m) (hk : k < len) (hvs : okR S ρ (S e) vs)
    (h : ∀ ρ' H', WT S ρ' H' → Gr ρ H ρ' H' → wpE P ops rest Q c n L (own H' :: R))
    (hx : opnd L x = some (.pointer (some ⟨b, o + k * (S e).length, none⟩)) := by rfl) (hy : opnd L y = some v := by rfl) (hv : v.cells = vs.toArray := by rfl) (hi : P.info? t = some i := by rfl) (hsz : i.size = (S e).length := by rfl) (hp : Pick M (own H) R := by (repeat (first | exact Pick.head | apply Pick.tail))) :
    wpO P ops ⟨none, .store t x y, ty, pos, after, g⟩ rest Q c n L M := o_unit rfl fun T w s => by
  have sH : HSt c (own H :: R) w := s.heap.ent (Ent.cons hp (Ent.refl _))
  rcases hs with ⟨he, _⟩ | ⟨b', off, cap', used, tot, he, hc, h1, h2, h4⟩
  · cases he
  · cases he
    obtain ⟨cur, k1, k2, k3, k4, k5⟩ := hW.rows h1
    have hlen := hvs.len
    have hle : (off + k + 1) * (S e).length ≤ tot * (S e).length := Nat.mul_le_mul_right _ (by omega)
    have e1 : off * (S e).length + k * (S e).length = (off + k) * (S e).length := by rw [Nat.add_mul]
    have e2 : off * (S e).length + k * (S e).length + vs.length = (off + k + 1) * (S e).length := by rw [hlen, Nat.add_mul, Nat.add_mul]; omega
    have hr := run_storeVar_row (P := P) (t := t) (w := w) (l := cur) hi hv (by rw [hsz, hlen]) (by have := hvs.one; rw [List.all_eq_true] at this; exact this) (HSt.own .head sH b _ k1) (off := off * (S e).length + k * (S e).length) (by rw [e2, k2]; exact hle)
    have hA : okRows S ρ e (cur.take ((off + k) * (S e).length)) (off + k) := by
      have := k5.tk (a := off + k) (by omega)
      rw [List.take_take, Nat.min_eq_left (Nat.mul_le_mul_right _ (by omega))] at this
      exact this
    have hAn := hA.app (okRows.one hvs)
    have hlenA : (cur.take (off * (S e).length + k * (S e).length) ++ vs ++ cur.drop (off * (S e).length + k * (S e).length + vs.length)).length = tot * (S e).length := by
      rw [e2, e1, List.length_append, hAn.1, List.length_drop, k2, ← Nat.sub_mul, ← Nat.add_mul]
      congr 1; omega
    have hone : (cur.take (off * (S e).length + k * (S e).length) ++ vs ++ cur.drop (off * (S e).length + k * (S e).length + vs.length)).all (·.oneCell') = true := by
      rw [List.all_append, List.all_append, all_take _ k4, all_drop _ k4, hvs.one]; rfl
    have hrows : ∀ ii, ii < used → okR S ρ (S e) (rowOf (cur.take (off * (S e).length + k * (S e).length) ++ vs ++ cur.drop (off * (S e).length + k * (S e).length + vs.length)) (S e).length ii) := fun ii hii => by
      rw [e2, e1]
      by_cases hlt : ii < off + k + 1
      · rw [rowOf_left hAn.1 hlt]; exact hAn.2 ii hlt
      · rw [rowOf_right hAn.1 (by omega), rowOf_drop, show off + k + 1 + (ii - (off + k + 1)) = ii by omega]
        have := k5.2 ii hii
        rwa [rowOf_take hii] at this
    obtain ⟨u1, u2⟩ := hW.upd h1 (Nat.le_refl _) k3 hlenA hone hrows
    refine ⟨_, _, ?_, hst_regPut k1 sH, h _ _ u1 u2⟩
    simp [execOp, opnd_eval s.slots hx, opnd_eval s.slots hy, Instr.storeAt, Instr.sureAddr, hr]
theorem o_makeSliceR {d l : Nat} {t e : TypeId} {i : TypeInfo} {z : Value} {x : Operand} {R : List HProp} (hW : WT S ρ H) (hb : l * i.bytes ≤ 140737488355328) (hl : l ≤ 10000)
    (h : ∀ v ρ' H', WT S ρ' H' → Gr ρ H ρ' H' → okSl S ρ' e v l → wpE P ops rest Q c n ((d, v) :: L) (own H' :: R)) (hx : opnd L x = some (.int .i64 l) := by rfl) (hu : P.underlying t = some (.slice e) := by rfl) (hi : P.info? e = some i := by rfl) (hz : i.zero = some z := by rfl)
    (hsz : i.size = (S e).length := by rfl) (hs100 : Nat.ble i.size 1000 = true := by rfl) (hzr : ∀ ρ, okR S ρ (S e) z.cells.toList := by (intro _; exact okZ rfl)) (hp : Pick M (own H) R := by (repeat (first | exact Pick.head | apply Pick.tail))) (hd : Nat.blt d n = true := by rfl) : wpO P ops ⟨some d, .makeSlice t x x, ty, pos, after, g⟩ rest Q c n L M := o_val rfl hd fun T w s => by
  have wl : IntKind.i64.wrap (l : Int) = l := by rw [IntKind.wrap_i64]; omega
  have n1 : ¬ (l : Int) < 0 := by omega
  have n2 : ¬ (281474976710656 < (i.bytes : Int) * l) := by
    have : (i.bytes : Int) * l = ((l * i.bytes : Nat) : Int) := by push_cast; rw [Int.mul_comm]
    omega
  have n5 : ¬ (140737488355328 < l * i.bytes) := by omega
  have n6 : ¬ (16777216 < l * i.size) := by
    have h1 := Nat.le_of_ble_eq_true hs100
    have := Nat.mul_le_mul hl h1
    omega
  have sH : HSt c (own H :: R) w := s.heap.ent (Ent.cons hp (Ent.refl _))
  have hzs' : z.cells.size = i.size := by have := (hzr ρ).len; rw [hsz, ← this]; simp
  have h0 := HSt.new (w' := { w with heap := w.heap.push (.cells (Builtin.zeroCells z.cells l).toList.toArray e (0, 0)) }) sH (.cells (Builtin.zeroCells z.cells l).toList.toArray e (0, 0)) rfl rfl rfl rfl
  have hzz : okRows S ρ e (Builtin.zeroCells z.cells l).toList l := by rw [zeroCells_list]; exact okRows.reps (hzr ρ) l
  obtain ⟨ρ', H', a1, a2, a3, a4⟩ := hst_regNew (junk := []) (m := l) (by rw [List.append_nil]; exact h0) hW hzz (by rw [List.append_nil]; exact hzz.1) (Nat.le_refl _) rfl
  refine ⟨.slice (some ⟨w.heap.size, 0, none⟩) l l, _, _, _, ?_, a4, rfl, h _ ρ' H' a1 a2 (okSl.ofNew a3 (Nat.le_refl _) (Nat.le_refl _))⟩
  simp [execOp, opnd_eval s.slots hx, Instr.makeSlice, run_underlying hu, asInt, asIntOf, typeInfo, hi, sizeOf, zeroValue, hz, wl, n1, n2, n5, n6, newRow, newObj, askRoom, roomBytes, Sem.run, Builtin.zeroCells, hzs']
  have e3 : (List.map (fun x => z.cells[x % i.size]!) (List.range (l * i.size))).toArray = Array.map (fun x => z.cells[x % i.size]!) (Array.range (l * i.size)) := by apply Array.ext'; simp
  rw [e3]
  split
  · rename_i h0
    have e0 : ∀ f : Nat → Value, Array.map f (Array.range 0) = #[] := fun f => by apply Array.ext' ; simp
    rw [h0, e0, e0]
  · rfl
end Go.Sx
set_option linter.unusedSimpArgs false
set_option linter.unusedVariables false
namespace Go.Sx
open Go Go.Conc
variable {P : Program} {ops : Array Oper} {Q : Exit → Act → World → Prop} {c : Cx} {n : Nat} {L : Env} {M : List HProp} {rest : List Oper} {o : Oper}
variable {ty : TypeId} {pos : String} {after : Array Edge} {g : Option (Nat × Bool)}
abbrev inK (k : IntKind) (n : Int) : Prop := k.wrap n = n
theorem inK_u64 {m : Int} : inK .u64 m ↔ 0 ≤ m ∧ m ≤ 18446744073709551615 := by
  simp [inK, IntKind.wrap, IntKind.bits, IntKind.signed]; omega
theorem inK_u32 {m : Int} : inK .u32 m ↔ 0 ≤ m ∧ m ≤ 4294967295 := by
  simp [inK, IntKind.wrap, IntKind.bits, IntKind.signed]; omega
theorem inK_u8 {m : Int} : inK .u8 m ↔ 0 ≤ m ∧ m ≤ 255 := by
  simp [inK, IntKind.wrap, IntKind.bits, IntKind.signed]; omega
theorem inK_i64 {m : Int} : inK .i64 m ↔ -9223372036854775808 ≤ m ∧ m ≤ 9223372036854775807 := by
  unfold inK; rw [IntKind.wrap_i64]; omega
theorem wrap_in (k : IntKind) (m : Int) : inK k (k.wrap m) := by
  cases k
  case i64 => rw [inK_i64, IntKind.wrap_i64]; omega
  case u64 => rw [inK_u64]; simp [IntKind.wrap, IntKind.bits, IntKind.signed]; omega
  case u32 => rw [inK_u32]; simp [IntKind.wrap, IntKind.bits, IntKind.signed]; omega
  case u8 => rw [inK_u8]; simp [IntKind.wrap, IntKind.bits, IntKind.signed]; omega
  all_goals (simp only [inK, IntKind.wrap, IntKind.bits, IntKind.signed]; try simp; try (repeat' split) <;> omega)
theorem inK0 (k : IntKind) : inK k 0 := by cases k <;> decide
theorem o_evI {d : Nat} {k : IntKind} {r : Int} (he : Ev P o c n L M (.int k r)) (hr : inK k r) (h : ∀ m, inK k m → wpE P ops rest Q c n ((d, .int k m) :: L) M) (ho : o.dst = some d := by rfl) (hd : Nat.blt d n = true := by rfl) : wpO P ops o rest Q c n L M := o_ev ho he hd (h r hr)
theorem q_retAT {σ : Type} {fn : Func} {φ : σ → Prop} {val : σ → Value} {B : σ → List HProp} {a1 b1 x : Nat} {t1 T1 : TypeId} {f1 : Nat × Nat} {l1 : List Value} {v' : Value} {R1 : List HProp} {d1 : TypeDesc} {i1 : TypeInfo} (hr : fn.results = #[.cell a1 t1, .tmp x]) (h1 : L.get a1 = some (.pointer (some ⟨b1, 0, none⟩))) (hx : L.get x = some v')
    (hu1 : P.underlying t1 = some d1) (hg1 : aggD d1 = true) (hi1 : P.info? t1 = some i1) (hs : l1.length = i1.size) (hp1 : Pick M (pts b1 (.cells l1.toArray T1 f1)) R1) (y : σ) (hv : Value.tuple #[.agg l1.toArray, v'] = val y) (hy : φ y) (hM : Ent M (B y)) :
    qE (fnPost c P fn (PostS c φ val B)) .ret c n L M := fun T w s => by
  have e1 := s.slots _ _ h1
  have e3 := s.slots _ _ hx
  have l1' := run_loadVar_agg (P := P) (b := b1) (off := 0) hu1 hg1 hi1 hs (w := w) (fun j v e => by rw [cell_pts (s.heap.pts hp1)]; simpa using e)
  exact ⟨rfl, .tuple #[.agg l1.toArray, v'], by simp [results, hr, e1, e3, asAddr, l1'], y, hy, by rw [hv], s.heap.ent hM⟩
theorem d1_call {S : List HProp} {m r fuel : Nat} {listed : Array Bool} {i : Nat} {σ : Type} {d : Nat} {f : FuncId} {xs : List Operand} {ats : Array TypeId} {guard : Option (Nat × Bool)}
    {args : List Value} {A R : List HProp} {φ : σ → Prop} {val : σ → Value} {B : σ → List HProp}
    (S' : FnDoes P f args A φ val B) (h : ∀ y, φ y → wpD P ops S m r fuel (listed.setIfInBounds i true) Q c n ((d, val y) :: L) (B y ++ R)) (hi : ops[i]? = some ⟨some d, .call { callee := .value (.func f), args := xs.toArray, argTypes := ats }, ty, pos, after, guard⟩ := by rfl)
    (hg : wantB ops ⟨some d, .call { callee := .value (.func f), args := xs.toArray, argTypes := ats }, ty, pos, after, guard⟩ L = true := by rfl) (hx : opnds L xs = some args := by rfl) (hp : Ent M (A ++ R) := by exact Picks.ent pKS)
    (he : ∀ y, φ y → Ent (B y ++ R) S := by (intro y hy; exact eNT)) (hd : Nat.blt d n = true := by rfl) : wpD1 P ops S m r fuel listed i Q c n L M := fun T w s => by
  have hrun : (execOp (Act.eval ⟨T, c.ds⟩) ⟨some d, .call { callee := .value (.func f), args := xs.toArray, argTypes := ats }, ty, pos, after, guard⟩).run P w = .ok (.enter f args.toArray) w := by
    rw [execOp_call]
    have := opnds_eval (ds := c.ds) s.slots hx
    simp only [List.map_toArray, this, Array.empty_append, Array.append_empty]
    exact S'.may _ _
  unfold wpOp
  simp only [hi]
  rw [if_pos (wanted_of hg s.slots)]
  refine .inl ?_
  unfold Oper.wp
  rw [hrun]
  intro cs
  obtain ⟨f', hh, m, l, dd⟩ := s.heap
  obtain ⟨ha, hr', a, r, dj, l1, l2⟩ := sepL_append (hp _ m)
  obtain ⟨e, w2, fr, ⟨y, hy, he', hst⟩, hcm, hfr, hl⟩ := S'.does w ha a (PHeap.le_trans l1 l) cs
  refine ⟨e, w2, fr, ?_, hcm, hfr, hl⟩
  subst he'
  have hst' := HSt.call f' l dd r dj l1 l2 hst
  refine ⟨HSt.ent (he y hy) hst', ?_⟩
  have := h y hy (T.setIfInBounds d (val y)) w2 ⟨by simp [s.size], s.slots.put s.size hd _, hst'⟩
  simpa [Act.put] using this
def plN (sz m : Nat) : List (Nat × Nat) := (List.range m).map fun k => (k * sz, sz)
theorem run_buildSliceN {d m : Nat} {t e : TypeId} {ps : List (Nat × Operand)} {i : TypeInfo} {z : Value} {qs : List (Nat × List Value)} {l : List Value} {T : Array Value} {w : World} (s : St c n L M T w) (hu : P.underlying t = some (.slice e)) (hi : P.info? e = some i) (hz : i.zero = some z) (hps : partsOf L ps = some qs)
    (hzs : Nat.beq z.cells.size i.size = true) (hb : bld (plN i.size m) (List.replicate m z.cells.toList).flatten qs = some l) (hs0 : Nat.blt 0 (m * i.size) = true) (hs1 : Nat.ble (m * i.size) 16777216 = true) :
    (execOp (Act.eval ⟨T, c.ds⟩) ⟨some d, .buildSlice t m ps.toArray, ty, pos, after, g⟩).run P w = .ok (.value (.slice (some ⟨w.heap.size, 0, none⟩) m m)) { w with heap := w.heap.push (.cells l.toArray e (0, 0)) } := by
  have h2 : 0 < m * i.size := by simpa [Nat.blt_eq] using hs0
  have h3 : ¬ (m * i.size > 2 ^ 24) := by have := Nat.le_of_ble_eq_true hs1; omega
  have h4 : ¬ (m * i.size = 0) := by omega
  have e1 := partsOf_eval (ds := c.ds) s.slots hps
  have hzz : z.cells.size = i.size := Nat.eq_of_beq_eq_true hzs
  have hzs' : (Array.range (m * i.size)).map (z.cells[· % z.cells.size]!) = ((List.replicate m z.cells.toList).flatten).toArray := by
    rw [← zeroCells_list, ← hzz]; simp only [Builtin.zeroCells]
  rw [← e1] at hb
  have hf := fill_bld (place := fun i' => some (i' * i.size, i.size)) (fun j p hj => by
    simp only [plN, List.getElem?_map] at hj
    cases hk : (List.range m)[j]? with
    | none => rw [hk] at hj; cases hj
    | some x =>
      rw [hk] at hj
      have hx : x = j := by
        have := List.getElem?_eq_some_iff.1 hk
        obtain ⟨h5, h6⟩ := this
        simpa using h6.symm
      subst hx; simpa using hj) hb
  simp only [execOp, Instr.buildSlice, Sem.run_bind, run_underlying hu, Result.andThen_ok, sizeOf, zeroValue, typeInfo, run_program, hi, Sem.run_pure, h3, h4, if_false, hz, List.map_toArray, hzs', hf, newRow, newObj, Sem.run]
theorem x_buildSliceN {K : Env → List HProp → Prop} {d m : Nat} {t e : TypeId} {ps : List (Nat × Operand)} {i : TypeInfo} {z : Value} {qs : List (Nat × List Value)} {l : List Value} (hu : P.underlying t = some (.slice e)) (hi : P.info? e = some i) (hz : i.zero = some z) (hps : partsOf L ps = some qs)
    (hzs : Nat.beq z.cells.size i.size = true) (hb : bld (plN i.size m) (List.replicate m z.cells.toList).flatten qs = some l) (hs0 : Nat.blt 0 (m * i.size) = true) (hs1 : Nat.ble (m * i.size) 16777216 = true)
    (h : ∀ b, K ((d, .slice (some ⟨b, 0, none⟩) m m) :: L) (pts b (.cells l.toArray e (0, 0)) :: M)) : OVL P ⟨some d, .buildSlice t m ps.toArray, ty, pos, after, g⟩ c n L M d K := fun T w s =>
  ⟨_, _, _, _, run_buildSliceN s hu hi hz hps hzs hb hs0 hs1, HSt.new s.heap _ rfl rfl rfl rfl, rfl, h _⟩
theorem o_buildSliceN {d m : Nat} {t e : TypeId} {ps : List (Nat × Operand)} {i : TypeInfo} {z : Value} {qs : List (Nat × List Value)} {l : List Value} (hu : P.underlying t = some (.slice e)) (hi : P.info? e = some i) (hz : i.zero = some z) (hps : partsOf L ps = some qs)
    (hzs : Nat.beq z.cells.size i.size = true) (hb : bld (plN i.size m) (List.replicate m z.cells.toList).flatten qs = some l) (hs0 : Nat.blt 0 (m * i.size) = true) (hs1 : Nat.ble (m * i.size) 16777216 = true) (hd : Nat.blt d n = true)
    (h : ∀ b, wpE P ops rest Q c n ((d, .slice (some ⟨b, 0, none⟩) m m) :: L) (pts b (.cells l.toArray e (0, 0)) :: M)) : wpO P ops ⟨some d, .buildSlice t m ps.toArray, ty, pos, after, g⟩ rest Q c n L M := o_val rfl hd fun T w s =>
  ⟨_, _, _, _, run_buildSliceN s hu hi hz hps hzs hb hs0 hs1, HSt.new s.heap _ rfl rfl rfl rfl, rfl, h _⟩
def ngQ (Q : Exit → Act → World → Prop) : Exit → Act → World → Prop
  | .goto _, _, _ => False
  | e, a, w => Q e a w
theorem q_ng {e : Exit} (h : qE Q e c n L M) (he : ∀ j, e ≠ .goto j := by (intro _ h_; cases h_)) : qE (ngQ Q) e c n L M := fun T w s => by
  have := h T w s
  cases e <;> first | exact this | exact absurd rfl (he _)
theorem wpC_scope1 {body : Code} (h : wpC P body (ngQ Q) c n L M) : wpC P (.scope body) Q c n L M := fun T w s b k cs hb => by
  obtain ⟨e, a1, w1, hq, harr⟩ := h T w s b (.inScope body :: k) cs hb
  have fin : ∃ e a' w', Q e a' w' ∧ ArrR P (lone (b.atR ⟨T, c.ds⟩ (.code body :: .inScope body :: k)) cs w) b k cs e a' w' := by
    cases e with
    | normal => exact ⟨.normal, a1, w1, hq, Steps.trans harr (.one stepR_inScope)⟩
    | exit id => obtain ⟨k1, e1, hs⟩ := harr; exact ⟨.exit id, a1, w1, hq, k1, e1.trans (exitTo_item (fun _ e => by cases e)), hs⟩
    | ret => exact ⟨.ret, a1, w1, hq, harr⟩
    | goto j => exact hq.elim
    | panic ch => exact harr.elim
    | outgrown => exact harr.elim
  obtain ⟨e2, a2, w2, hq2, harr2⟩ := fin
  exact ⟨e2, a2, w2, hq2, .of_steps (.one stepR_scope) harr2⟩
end Go.Sx
