/-
  The plain law of what comes due: a heap of entries and a map of their places, against a row of times.
-/
import Derived.Test.YtjhlpieehhpmgaaIdsM
set_option linter.unusedSimpArgs false
set_option linter.unusedVariables false
namespace Go.Sx
abbrev DE := Int × Int
def ltE (a b : DE) : Bool := if a.2 = b.2 then decide (a.1 < b.1) else decide (a.2 < b.2)
theorem ltE_iff {a b : DE} : ltE a b = true ↔ a.2 < b.2 ∨ (a.2 = b.2 ∧ a.1 < b.1) := by
  unfold ltE; split <;> simp <;> omega
theorem ltE_not {a b : DE} : ltE a b = false ↔ b.2 < a.2 ∨ (a.2 = b.2 ∧ b.1 ≤ a.1) := by
  have := ltE_iff (a := a) (b := b)
  cases h : ltE a b with
  | true => rw [h] at this; simp at this ⊢; omega
  | false => rw [h] at this; simp at this ⊢; omega
theorem ltE_ok : LtOk ltE := ⟨fun h => by rw [ltE_iff] at h; rw [ltE_not]; omega, fun h1 h2 => by rw [ltE_not] at *; omega⟩
theorem ltE_irr (a : DE) : ltE a a = false := by rw [ltE_not]; omega

/-! ### heaps: an element that changed, an element taken out -/
section
variable {α : Type} [Inhabited α] {lt : α → α → Bool}
def siftL (lt : α → α → Bool) (l : List α) (n i : Nat) : List α := if i < (downL lt l n i).2 then (downL lt l n i).1 else upL lt (downL lt l n i).1 i
theorem upL_above (l : List α) (j : Nat) (hj : j < l.length) (k : Nat) (hk : j < k) : nth (upL lt l j) k = nth l k := by
  induction j using Nat.strongRecOn generalizing l with
  | _ j ih =>
    rw [upL]
    split
    · rfl
    · split
      · have hp : par j < j := by simp only [par]; omega
        rw [ih (par j) hp _ (by rw [swp_length]; omega) (by omega), nth_swp (by omega) hj, if_neg (by omega), if_neg (by omega)]
      · rfl
theorem siftL_all (ok : LtOk lt) (l : List α) (n i : Nat) (hn : n ≤ l.length) (hi : i < n) (hb : HeapB lt l n i) : (siftL lt l n i).length = l.length ∧ (siftL lt l n i).Perm l ∧ HeapN lt (siftL lt l n i) n ∧ ∀ k, n ≤ k → nth (siftL lt l n i) k = nth l k := by
  obtain ⟨a1, a2, a3, a4⟩ := downL_all (lt := lt) l n i hn hi
  obtain ⟨b1, b2⟩ := downL_both ok l n i hn hi hb
  unfold siftL
  split
  · exact ⟨a1, a2, b2 (by omega), a4⟩
  · obtain ⟨c1, c2⟩ := b1 (by omega)
    have hl : i < (downL lt l n i).1.length := by omega
    refine ⟨by rw [upL_length, a1], (upL_perm _ _ hl).trans a2, ?_, fun k hk => by rw [upL_above _ _ hl k (by omega)]; exact a4 k hk⟩
    rw [c1]
    exact upL_heap ok l n i hn hi c2
/-- An element of a heap changed. -/
theorem heapB_set {l l' : List α} {n i : Nat} (ok : LtOk lt) (h : HeapN lt l n) (hs : ∀ k, k ≠ i → k < n → nth l' k = nth l k) : HeapB lt l' n i := by
  refine ⟨fun k k1 k2 k3 k4 => ?_, fun k k1 k2 k3 k4 => ?_⟩
  · rw [hs k k3 k2, hs (par k) k4 (by simp only [par]; omega)]
    exact h k k1 k2
  · rw [hs k (by simp only [par] at k3; omega) k2, hs (par i) (by simp only [par]; omega) (by simp only [par] at *; omega)]
    have h1 := h k k1 k2
    rw [k3] at h1
    exact ok.ntr (h i k4 (by simp only [par] at k3; omega)) h1
/-- The list behind a removal, ahead of the last one's leaving. -/
def remL (lt : α → α → Bool) (l : List α) (i n : Nat) : List α := if n = i then l else siftL lt (swp l i n) n i
theorem remL_all (ok : LtOk lt) (l : List α) (i n : Nat) (hn : l.length = n + 1) (hi : i ≤ n) (h : HeapN lt l l.length) : (remL lt l i n).length = n + 1 ∧ (remL lt l i n).Perm l ∧ HeapN lt (remL lt l i n) n ∧ nth (remL lt l i n) n = nth l i := by
  have hh : HeapN lt l n := fun k k1 k2 => h k k1 (by omega)
  unfold remL
  split
  · rename_i e; subst e
    exact ⟨hn, List.Perm.refl _, hh, rfl⟩
  · rename_i e
    have g := nth_swp (l := l) (i := i) (j := n) (by omega) (by omega)
    have hb : HeapB lt (swp l i n) n i := heapB_set ok hh (fun k k1 k2 => by rw [g k, if_neg (by omega), if_neg k1])
    obtain ⟨a1, a2, a3, a4⟩ := siftL_all ok (swp l i n) n i (by rw [swp_length]; omega) (by omega) hb
    refine ⟨by rw [a1, swp_length, hn], a2.trans (swp_perm (by omega) (by omega)), a3, ?_⟩
    rw [a4 n (Nat.le_refl _), g n, if_pos rfl]
theorem heapN_take {l : List α} {n : Nat} (h : HeapN lt l n) : HeapN lt (l.take n) n := fun k k1 k2 => by
  rw [nth_take k2, nth_take (by simp only [par]; omega)]
  exact h k k1 k2
theorem take_last {l : List α} {n : Nat} (hn : l.length = n + 1) : l.take n ++ [nth l n] = l := by
  rw [nth_eq (by omega)]
  have := List.take_append_drop n l
  rw [List.drop_eq_getElem_cons (by omega), List.drop_eq_nil_of_le (by omega)] at this
  exact this
theorem nth_mem {l : List α} {i : Nat} (h : i < l.length) : nth l i ∈ l := by rw [nth_eq h]; exact List.getElem_mem h
theorem mem_nth {l : List α} {x : α} (h : x ∈ l) : ∃ i, i < l.length ∧ nth l i = x := by
  obtain ⟨i, hi, e⟩ := List.getElem_of_mem h
  exact ⟨i, hi, by rw [nth_eq hi, e]⟩
theorem nth_app_left {l r : List α} {i : Nat} (h : i < l.length) : nth (l ++ r) i = nth l i := by simp only [nth, List.getD]; rw [List.getElem?_append_left h]
theorem nth_snoc (l : List α) (a : α) : nth (l ++ [a]) l.length = a := by simp [nth, List.getD]
end

/-! ### the map of the places -/
structure Wh (l : List DE) (es : List (Int × Int)) : Prop where
  kd : (es.map (·.1)).Nodup
  at' : ∀ j, j < l.length → mget es (nth l j).1 = some (j : Int)
  no : ∀ k : Int, (∀ j, j < l.length → (nth l j).1 ≠ k) → mget es k = none
theorem Wh.inj {l : List DE} {es : List (Int × Int)} (h : Wh l es) {i j : Nat} (hi : i < l.length) (hj : j < l.length) (e : (nth l i).1 = (nth l j).1) : i = j := by
  have h1 := h.at' i hi
  rw [e, h.at' j hj] at h1
  simp at h1; omega
theorem wh_nil : Wh [] [] := ⟨List.nodup_nil, fun j h => by simp at h, fun k _ => rfl⟩
theorem Wh.swap {l : List DE} {es : List (Int × Int)} (h : Wh l es) {i j : Nat} (hi : i < l.length) (hj : j < l.length) : Wh (swp l i j) (mput (mput es (nth l j).1 i) (nth l i).1 j) := by
  obtain ⟨p1, p2, p3⟩ := mkeys_put (nth l j).1 i es h.kd
  have g := nth_swp (l := l) (i := i) (j := j) hi hj
  have mg : ∀ k, mget (mput (mput es (nth l j).1 i) (nth l i).1 j) k = if k = (nth l i).1 then some (j : Int) else if k = (nth l j).1 then some (i : Int) else mget es k := fun k => by rw [mget_mput, mget_mput]
  refine ⟨(mkeys_put _ _ _ p1).1, fun k hk => ?_, fun k hk => ?_⟩
  · rw [swp_length] at hk
    rw [mg, g k]
    by_cases c1 : k = j
    · subst c1; rw [if_pos rfl, if_pos rfl]
    · rw [if_neg c1]
      by_cases c2 : k = i
      · subst c2
        rw [if_pos rfl]
        by_cases c3 : (nth l j).1 = (nth l k).1
        · exact absurd (h.inj hk hj c3.symm) c1
        · rw [if_neg c3, if_pos rfl]
      · rw [if_neg c2, if_neg (fun c => c2 (h.inj hk hi c)), if_neg (fun c => c1 (h.inj hk hj c))]
        exact h.at' k hk
  · have n1 : k ≠ (nth l i).1 := fun c => by have := hk j (by rw [swp_length]; exact hj); rw [g j, if_pos rfl] at this; exact this c.symm
    have n2 : k ≠ (nth l j).1 := fun c => by
      have := hk i (by rw [swp_length]; exact hi)
      rw [g i] at this
      split at this
      · rename_i e; subst e; exact n1 c
      · rw [if_pos rfl] at this; exact this c.symm
    rw [mg, if_neg n1, if_neg n2]
    refine h.no k (fun m hm => ?_)
    have := hk m (by rw [swp_length]; exact hm)
    rw [g m] at this
    split at this
    · rename_i e; subst e; exact fun c => n2 c.symm
    · split at this
      · rename_i e; subst e; exact fun c => n1 c.symm
      · exact this
theorem Wh.push {l : List DE} {es : List (Int × Int)} (h : Wh l es) {e : DE} (hn : ∀ j, j < l.length → (nth l j).1 ≠ e.1) : Wh (l ++ [e]) (mput es e.1 l.length) := by
  refine ⟨(mkeys_put _ _ _ h.kd).1, fun k hk => ?_, fun k hk => ?_⟩
  · rw [List.length_append, List.length_singleton] at hk
    rw [mget_mput]
    by_cases c : k < l.length
    · rw [nth_app_left c, if_neg (hn k c)]; exact h.at' k c
    · obtain rfl : k = l.length := by omega
      rw [nth_snoc, if_pos rfl]
  · have n1 : k ≠ e.1 := fun c => by have := hk l.length (by simp); rw [nth_snoc] at this; exact this c.symm
    rw [mget_mput, if_neg n1]
    refine h.no k (fun m hm => ?_)
    have := hk m (by simp; omega)
    rw [nth_app_left hm] at this
    exact this
theorem Wh.pop {l : List DE} {es : List (Int × Int)} (h : Wh l es) {n : Nat} (hn : l.length = n + 1) : Wh (l.take n) (mdel es (nth l n).1) := by
  obtain ⟨p1, p2, p3, p4⟩ := mkeys_del (nth l n).1 es h.kd
  have hl : (l.take n).length = n := by rw [List.length_take]; omega
  refine ⟨p1, fun k hk => ?_, fun k hk => ?_⟩
  · rw [hl] at hk
    rw [p4, nth_take hk, if_neg (fun c => by have := h.inj (by omega) (by omega) c; omega)]
    exact h.at' k (by omega)
  · rw [p4]
    split
    · rfl
    · rename_i c
      refine h.no k (fun m hm => ?_)
      by_cases cm : m < n
      · have := hk m (by rw [hl]; exact cm)
        rw [nth_take cm] at this
        exact this
      · obtain rfl : m = n := by omega
        exact fun e => c e.symm
theorem Wh.same {l l' : List DE} {es : List (Int × Int)} (h : Wh l es) (hl : l'.length = l.length) (hk : ∀ j, j < l.length → (nth l' j).1 = (nth l j).1) : Wh l' es :=
  ⟨h.kd, fun j hj => by rw [hk j (by omega)]; exact h.at' j (by omega), fun k hn => h.no k fun j hj => by rw [← hk j hj]; exact hn j (by omega)⟩
theorem mget_mfind {es : List (Int × Int)} {k u : Int} (h : mget es k = some u) : ∃ x, mfind k es 0 = some (x, u) := by
  unfold mget at h
  cases hf : mfind k es 0 with
  | none => rw [hf] at h; cases h
  | some q => obtain ⟨x, v⟩ := q; rw [hf] at h; simp at h; subst h; exact ⟨x, rfl⟩

/-! ### times -/
/-- When k comes due; below 0: never. -/
def dueOf (T : List Int) (k : Nat) : Int := T.getD k (-1)
theorem due_set {T : List Int} {k j : Nat} {d : Int} (hk : k < T.length) : dueOf (T.set k d) j = if j = k then d else dueOf T j := by
  unfold dueOf
  by_cases h : j = k
  · subst h; simp [List.getD, hk]
  · rw [if_neg h]; simp only [List.getD]; rw [List.getElem?_set_ne (Ne.symm h)]
theorem due_out {T : List Int} {k : Nat} (h : T.length ≤ k) : dueOf T k = -1 := by unfold dueOf; simp only [List.getD]; rw [List.getElem?_eq_none h]; rfl
theorem due_get {T : List Int} {k : Nat} (h : k < T.length) : T[k] = dueOf T k := by simp [dueOf, List.getD, h]
def cntD (T : List Int) : Nat := T.countP (fun d => decide (0 ≤ d))
theorem cnt_set : ∀ {T : List Int} {k : Nat} (d : Int), k < T.length → cntD (T.set k d) + (if 0 ≤ dueOf T k then 1 else 0) = cntD T + (if 0 ≤ d then 1 else 0)
  | a :: T, 0, d, _ => by simp [cntD, dueOf, List.countP_cons]; split <;> split <;> omega
  | a :: T, k + 1, d, h => by
    have := cnt_set (T := T) (k := k) d (by simpa using h)
    have e : dueOf (a :: T) (k + 1) = dueOf T k := rfl
    rw [e]
    simp only [cntD, List.set_cons_succ, List.countP_cons] at this ⊢
    omega
structure ClkInv (T : List Int) (l : List DE) : Prop where
  len : T.length = 8
  hp : HeapN ltE l l.length
  mem : ∀ w d : Int, (w, d) ∈ l ↔ ∃ k : Nat, w = k ∧ k < 8 ∧ dueOf T k = d ∧ 0 ≤ d
  cnt : l.length = cntD T
theorem clk_nil : ClkInv (List.replicate 8 (-1)) [] where
  len := by simp
  hp := fun i _ h => by simp at h
  mem := fun w d => by
    constructor
    · intro h; cases h
    · rintro ⟨k, _, hk, h, h0⟩
      have : dueOf (List.replicate 8 (-1)) k = -1 := by
        unfold dueOf List.getD
        rw [List.getElem?_replicate, if_pos hk]; rfl
      omega
  cnt := by decide
section
variable {T : List Int} {l : List DE} {es : List (Int × Int)}
theorem ClkInv.le (I : ClkInv T l) : l.length ≤ 8 := by
  have := I.cnt
  have h2 : cntD T ≤ T.length := List.countP_le_length
  have := I.len
  omega
/-- Whether one is there, and where. -/
theorem ClkInv.there (I : ClkInv T l) (W : Wh l es) (k : Nat) (hk : k < 8) : (dueOf T k < 0 ∧ mget es k = none ∧ ∀ j, j < l.length → (nth l j).1 ≠ k) ∨ ∃ j, j < l.length ∧ nth l j = ((k : Int), dueOf T k) ∧ mget es k = some (j : Int) ∧ 0 ≤ dueOf T k := by
  by_cases c : 0 ≤ dueOf T k
  · right
    obtain ⟨j, hj, e⟩ := mem_nth ((I.mem k (dueOf T k)).2 ⟨k, rfl, hk, rfl, c⟩)
    refine ⟨j, hj, e, ?_, c⟩
    have := W.at' j hj
    rw [e] at this
    exact this
  · left
    have hn : ∀ j, j < l.length → (nth l j).1 ≠ k := fun j hj e => by
      have hm := nth_mem hj
      rw [show nth l j = ((nth l j).1, (nth l j).2) from rfl, I.mem] at hm
      obtain ⟨k', e', _, h1, h2⟩ := hm
      obtain rfl : k' = k := by omega
      omega
    exact ⟨by omega, W.no k hn, hn⟩
/-- Nobody else is there. -/
theorem ClkInv.notThere (I : ClkInv T l) (W : Wh l es) {w : Int} (h : w < 0 ∨ 8 ≤ w) : mget es w = none := W.no w fun j hj e => by
  have hm := nth_mem hj
  rw [show nth l j = ((nth l j).1, (nth l j).2) from rfl, I.mem] at hm
  obtain ⟨k', e', hk, _, _⟩ := hm
  omega
theorem ClkInv.push (I : ClkInv T l) {k : Nat} {d : Int} (hk : k < 8) (hd : 0 ≤ d) (hf : dueOf T k < 0) : ClkInv (T.set k d) (upL ltE (l ++ [((k : Int), d)]) l.length) := by
  have hl := I.len
  have hp := hpush_perm (lt := ltE) l ((k : Int), d)
  have hlen := hp.length_eq
  rw [List.length_append, List.length_singleton] at hlen
  refine ⟨by simpa using I.len, by rw [hlen]; exact hpush_heap ltE_ok l _ I.hp, fun w x => ?_, ?_⟩
  · rw [hp.mem_iff, List.mem_append, I.mem]
    constructor
    · rintro (⟨j, e, j1, j2, j3⟩ | h)
      · refine ⟨j, e, j1, ?_, j3⟩
        rw [due_set (by omega), if_neg (fun c => by subst c; omega)]; exact j2
      · simp at h
        exact ⟨k, h.1, hk, by rw [due_set (by omega), if_pos rfl, h.2], by omega⟩
    · rintro ⟨j, e, j1, j2, j3⟩
      rw [due_set (by omega)] at j2
      split at j2
      · rename_i c; subst c; right; simp; exact ⟨e, j2.symm⟩
      · left; exact ⟨j, e, j1, j2, j3⟩
  · have := cnt_set (T := T) (k := k) d (by omega)
    rw [if_neg (by omega), if_pos hd] at this
    have := I.cnt
    omega
theorem ClkInv.reset (I : ClkInv T l) (W : Wh l es) {k i : Nat} {d : Int} (hk : k < 8) (hd : 0 ≤ d) (hi : i < l.length) (hn : nth l i = ((k : Int), dueOf T k)) (h0 : 0 ≤ dueOf T k) : ClkInv (T.set k d) (siftL ltE (l.set i ((k : Int), d)) l.length i) := by
  have hl := I.len
  have hs : ∀ j, j ≠ i → j < l.length → nth (l.set i ((k : Int), d)) j = nth l j := fun j j1 j2 => by rw [nth_set hi, if_neg j1]
  obtain ⟨a1, a2, a3, a4⟩ := siftL_all ltE_ok (l.set i ((k : Int), d)) l.length i (by simp) hi (heapB_set ltE_ok I.hp hs)
  have hlen : (siftL ltE (l.set i ((k : Int), d)) l.length i).length = l.length := by rw [a1]; simp
  refine ⟨by simpa using I.len, by rw [hlen]; exact a3, fun w x => ?_, ?_⟩
  · rw [a2.mem_iff]
    constructor
    · intro h
      obtain ⟨j, hj, e⟩ := mem_nth h
      rw [List.length_set] at hj
      rw [nth_set hi] at e
      split at e
      · cases e
        exact ⟨k, rfl, hk, by rw [due_set (by omega), if_pos rfl], hd⟩
      · rename_i c
        have hm : (w, x) ∈ l := by rw [← e]; exact nth_mem hj
        obtain ⟨q, q1, q2, q3, q4⟩ := (I.mem w x).1 hm
        refine ⟨q, q1, q2, ?_, q4⟩
        rw [due_set (by omega), if_neg ?_]
        · exact q3
        · intro c2
          subst c2
          refine c (W.inj hj hi ?_)
          rw [e, hn]; exact q1
    · rintro ⟨j, e, j1, j2, j3⟩
      rw [due_set (by omega)] at j2
      split at j2
      · rename_i c; subst c; subst j2
        have : nth (l.set i ((j : Int), d)) i ∈ l.set i ((j : Int), d) := nth_mem (by simpa using hi)
        rw [nth_set hi, if_pos rfl] at this
        rw [e]; exact this
      · rename_i c
        obtain ⟨q, hq, e'⟩ := mem_nth ((I.mem w x).2 ⟨j, e, j1, j2, j3⟩)
        have : nth (l.set i ((k : Int), d)) q ∈ l.set i ((k : Int), d) := nth_mem (by simpa using hq)
        rw [nth_set hi, if_neg ?_, e'] at this
        · exact this
        · intro c2
          subst c2
          rw [hn] at e'
          simp at e'
          omega
  · have := cnt_set (T := T) (k := k) d (by omega)
    rw [if_pos h0, if_pos hd] at this
    have := I.cnt
    omega
/-- One taken out, wherever it stands: the rest. -/
theorem ClkInv.out (I : ClkInv T l) (W : Wh l es) {k i n : Nat} {l' : List DE} (hk : k < 8) (hn : l.length = n + 1) (hi : i ≤ n) (hv : nth l i = ((k : Int), dueOf T k)) (h0 : 0 ≤ dueOf T k) (hp : l'.Perm l) (hh : HeapN ltE l' n) (hl : nth l' n = nth l i) : ClkInv (T.set k (-1)) (l'.take n) := by
  have hlT := I.len
  have hl' : l'.length = n + 1 := by rw [hp.length_eq, hn]
  have hlen : (l'.take n).length = n := by rw [List.length_take]; omega
  have hsp := take_last hl'
  have hperm : (l'.take n ++ [((k : Int), dueOf T k)]).Perm l := by rw [← hv, ← hl, hsp]; exact hp
  have hnd : (l.map (·.1)).Nodup := by
    rw [List.nodup_iff_pairwise_ne, List.pairwise_map, List.pairwise_iff_getElem]
    intro a b ha hb hab e
    have := W.inj ha hb (by rw [nth_eq ha, nth_eq hb]; exact e)
    omega
  have hnd' := (hperm.map (·.1)).nodup_iff.2 hnd
  rw [List.map_append, List.nodup_append] at hnd'
  refine ⟨by simpa using I.len, by rw [hlen]; exact heapN_take hh, fun w x => ?_, ?_⟩
  · have hm := hperm.mem_iff (a := (w, x))
    rw [List.mem_append, I.mem] at hm
    constructor
    · intro h
      obtain ⟨q, q1, q2, q3, q4⟩ := hm.1 (.inl h)
      refine ⟨q, q1, q2, ?_, q4⟩
      rw [due_set (by omega), if_neg ?_]
      · exact q3
      · intro c
        subst c
        exact hnd'.2.2 w (List.mem_map.2 ⟨_, h, rfl⟩) (q : Int) (by simp) q1
    · rintro ⟨q, q1, q2, q3, q4⟩
      rw [due_set (by omega)] at q3
      split at q3
      · omega
      · rename_i c
        rcases hm.2 ⟨q, q1, q2, q3, q4⟩ with h | h
        · exact h
        · simp at h; omega
  · have := cnt_set (T := T) (k := k) (-1) (by omega)
    rw [if_pos h0, if_neg (by omega)] at this
    have := I.cnt
    omega
end

/-- Who comes due first. -/
def IsFirst (T : List Int) (m : Nat) (y : Option Nat) : Prop := match y with
  | none => ∀ k, k < m → dueOf T k < 0
  | some k => k < m ∧ 0 ≤ dueOf T k ∧ ∀ j, j < m → 0 ≤ dueOf T j → dueOf T k < dueOf T j ∨ (dueOf T k = dueOf T j ∧ k ≤ j)
theorem IsFirst.eq {T : List Int} {m : Nat} {y z : Option Nat} (h : IsFirst T m y) (h' : IsFirst T m z) : y = z := by
  cases y with
  | none => cases z with
    | none => rfl
    | some k => have := h k h'.1; have := h'.2.1; omega
  | some k => cases z with
    | none => have := h' k h.1; have := h.2.1; omega
    | some j =>
      have a := h.2.2 j h'.1 h'.2.1
      have b := h'.2.2 k h.1 h.2.1
      have : k = j := by omega
      rw [this]
theorem IsFirst.zero (T : List Int) : IsFirst T 0 none := fun k h => by omega
theorem IsFirst.stay {T : List Int} {m : Nat} {y : Option Nat} (h : IsFirst T m y) (hn : dueOf T m < 0 ∨ ∃ k, y = some k ∧ dueOf T k ≤ dueOf T m) : IsFirst T (m + 1) y := by
  cases y with
  | none =>
    intro k hk
    rcases hn with hn | ⟨k', e, _⟩
    · by_cases c : k = m
      · subst c; exact hn
      · exact h k (by omega)
    · cases e
  | some q =>
    refine ⟨by have := h.1; omega, h.2.1, fun j j1 j2 => ?_⟩
    by_cases c : j = m
    · subst c
      rcases hn with hn | ⟨k', e, he⟩
      · omega
      · cases e; have := h.1; omega
    · exact h.2.2 j (by omega) j2
theorem IsFirst.take {T : List Int} {m : Nat} {y : Option Nat} (h : IsFirst T m y) (h0 : 0 ≤ dueOf T m) (hn : ∀ k, y = some k → dueOf T m < dueOf T k) : IsFirst T (m + 1) (some m) := by
  refine ⟨by omega, h0, fun j j1 j2 => ?_⟩
  by_cases c : j = m
  · subst c; omega
  · cases y with
    | none => have := h j (by omega); omega
    | some q =>
      have := hn q rfl
      have := h.2.2 j (by omega) j2
      omega
theorem ClkInv.first {T : List Int} {l : List DE} (I : ClkInv T l) : (l = [] ∧ IsFirst T 8 none) ∨ ∃ k : Nat, 0 < l.length ∧ nth l 0 = ((k : Int), dueOf T k) ∧ IsFirst T 8 (some k) := by
  cases hl : l with
  | nil =>
    left
    refine ⟨rfl, fun k hk => ?_⟩
    by_cases c : 0 ≤ dueOf T k
    · have := (I.mem k (dueOf T k)).2 ⟨k, rfl, hk, rfl, c⟩
      rw [hl] at this; cases this
    · omega
  | cons a r =>
    right
    rw [← hl]
    have h0 : 0 < l.length := by rw [hl]; simp
    have hm := nth_mem h0
    rw [show nth l 0 = ((nth l 0).1, (nth l 0).2) from rfl, I.mem] at hm
    obtain ⟨k, e1, e2, e3, e4⟩ := hm
    refine ⟨k, h0, by rw [e3, ← e1], e2, by omega, fun j j1 j2 => ?_⟩
    have := heap_first ltE_ok ltE_irr l I.hp _ ((I.mem j (dueOf T j)).2 ⟨j, rfl, j1, rfl, j2⟩)
    rw [ltE_not] at this
    simp only at this
    omega
/-- All that come due, in order. -/
inductive Fires (now : Int) : List Int → List Int → List Int → Prop
  | none {T : List Int} : IsFirst T 8 none → Fires now T [] T
  | late {T : List Int} {k : Nat} : IsFirst T 8 (some k) → now < dueOf T k → Fires now T [] T
  | one {T T' : List Int} {k : Nat} {out : List Int} : IsFirst T 8 (some k) → dueOf T k ≤ now → Fires now (T.set k (-1)) out T' → Fires now T ((k : Int) :: out) T'
theorem Fires.det {now : Int} {T o T' : List Int} (h : Fires now T o T') : ∀ {o2 T2 : List Int}, Fires now T o2 T2 → o = o2 ∧ T' = T2 := by
  induction h with
  | none f =>
    intro o2 T2 h2
    cases h2 with
    | none _ => exact ⟨rfl, rfl⟩
    | late _ _ => exact ⟨rfl, rfl⟩
    | one g _ _ => cases f.eq g
  | late f hf =>
    intro o2 T2 h2
    cases h2 with
    | none _ => exact ⟨rfl, rfl⟩
    | late _ _ => exact ⟨rfl, rfl⟩
    | one g hg _ => cases f.eq g; omega
  | one f hf _ ih =>
    intro o2 T2 h2
    cases h2 with
    | none g => cases f.eq g
    | late g hg => cases f.eq g; omega
    | one g hg r =>
      cases f.eq g
      obtain ⟨e1, e2⟩ := ih r
      exact ⟨by rw [e1], e2⟩
theorem Fires.facts {now : Int} {T o T' : List Int} (h : Fires now T o T') (hl : T.length = 8) : T'.length = 8 ∧ o.length ≤ 8 ∧ (∀ w ∈ o, ∃ k : Nat, w = k ∧ k < 8 ∧ 0 ≤ dueOf T k ∧ dueOf T k ≤ now) ∧ o.Nodup ∧
    (∀ k : Nat, k < 8 → dueOf T' k = if (k : Int) ∈ o then -1 else dueOf T k) ∧ (∀ k : Nat, k < 8 → 0 ≤ dueOf T' k → now < dueOf T' k) ∧
    o.Pairwise (fun a b => dueOf T a.toNat < dueOf T b.toNat ∨ (dueOf T a.toNat = dueOf T b.toNat ∧ a < b)) ∧ o.length + cntD T' = cntD T := by
  induction h with
  | none f => exact ⟨hl, Nat.zero_le _, (fun w h => by cases h), List.nodup_nil, (fun k _ => by simp), (fun k hk h => by have := f k hk; omega), List.Pairwise.nil, by simp⟩
  | late f hf => exact ⟨hl, Nat.zero_le _, (fun w h => by cases h), List.nodup_nil, (fun k _ => by simp), (fun k hk h => by have := f.2.2 k hk h; omega), List.Pairwise.nil, by simp⟩
  | @one T T' k out f hf _ ih =>
    obtain ⟨i1, i2, i3, i4, i5, i6, i7, i8⟩ := ih (by simpa using hl)
    have hk := f.1
    have hk0 := f.2.1
    have ds : ∀ j, dueOf (T.set k (-1)) j = if j = k then -1 else dueOf T j := fun j => due_set (by omega)
    have hnk : (k : Int) ∉ out := fun c => by
      obtain ⟨j, e, _, j2, _⟩ := i3 _ c
      obtain rfl : k = j := by omega
      rw [ds, if_pos rfl] at j2; omega
    have hc := cnt_set (T := T) (k := k) (-1) (by omega)
    rw [if_pos hk0, if_neg (by omega)] at hc
    have h8 : cntD T ≤ 8 := by have : cntD T ≤ T.length := List.countP_le_length; omega
    have dj : ∀ w ∈ out, dueOf (T.set k (-1)) w.toNat = dueOf T w.toNat := fun w hw => by
      rw [ds, if_neg]
      intro c
      obtain ⟨j, e, _, _, _⟩ := i3 w hw
      exact hnk (by rw [← c, e] ; simp; rw [← e]; exact hw)
    refine ⟨i1, by rw [List.length_cons]; omega, fun w hw => ?_, List.nodup_cons.2 ⟨hnk, i4⟩, fun j hj => ?_, i6, ?_, by rw [List.length_cons]; omega⟩
    · rcases List.mem_cons.1 hw with rfl | hw
      · exact ⟨k, rfl, hk, hk0, hf⟩
      · obtain ⟨j, e, j1, j2, j3⟩ := i3 w hw
        rw [ds] at j2 j3
        split at j2
        · omega
        · rename_i c; rw [if_neg c] at j3; exact ⟨j, e, j1, j2, j3⟩
    · rw [i5 j hj, ds]
      by_cases c : j = k
      · subst c; simp
      · have : (j : Int) ≠ k := by omega
        simp [c, this]
    · rw [List.pairwise_cons]
      refine ⟨fun w hw => ?_, i7.imp_of_mem fun {a b} ha hb hab => by rw [dj a ha, dj b hb] at hab; exact hab⟩
      obtain ⟨j, e, j1, j2, j3⟩ := i3 w hw
      have hne : j ≠ k := fun c => by subst c; rw [ds, if_pos rfl] at j2; omega
      rw [ds, if_neg hne] at j2
      subst e
      have := f.2.2 j j1 j2
      simp only [Int.toNat_natCast]
      omega
/-- The list that a pop swaps and sifts, ahead of the last one's leaving. -/
theorem popD_all {α : Type} [Inhabited α] {lt : α → α → Bool} (ok : LtOk lt) (l : List α) (n : Nat) (hn : l.length = n + 1) (h : HeapN lt l l.length) :
    (downL lt (swp l 0 n) n 0).1.length = n + 1 ∧ (downL lt (swp l 0 n) n 0).1.Perm l ∧ HeapN lt (downL lt (swp l 0 n) n 0).1 n ∧ nth (downL lt (swp l 0 n) n 0).1 n = nth l 0 := by
  have g := nth_swp (l := l) (i := 0) (j := n) (by omega) (by omega)
  have hp0 : (swp l 0 n).Perm l := swp_perm (by omega) (by omega)
  rcases Nat.eq_zero_or_pos n with h0 | h0
  · subst h0
    rw [downL_none]
    exact ⟨by rw [swp_length, hn], hp0, fun k k1 k2 => by omega, by rw [g 0, if_pos rfl]⟩
  · obtain ⟨a1, a2, a3, a4⟩ := downL_all (lt := lt) (swp l 0 n) n 0 (by rw [swp_length]; omega) h0
    have hh : HeapN lt l n := fun k k1 k2 => h k k1 (by omega)
    have hb : HeapB lt (swp l 0 n) n 0 := heapB_set ok hh (fun k k1 k2 => by rw [g k, if_neg (by omega), if_neg k1])
    exact ⟨by rw [a1, swp_length, hn], a2.trans hp0, downL_heap ok _ n 0 (by rw [swp_length]; omega) h0 hb (fun c => by omega), by rw [a4 n (Nat.le_refl _), g n, if_pos rfl]⟩
theorem cnt_zero {T : List Int} (hl : T.length = 8) (h : cntD T = 0) : IsFirst T 8 none := fun k hk => by
  unfold cntD at h
  rw [List.countP_eq_zero] at h
  have := h T[k] (List.getElem_mem (by omega))
  rw [due_get (by omega)] at this
  simp at this
  exact this
theorem cnt_le (T : List Int) : cntD T ≤ T.length := List.countP_le_length
/-! ### what the calls answer -/
def setV (who due : Int) : Int := if who < 0 ∨ 8 ≤ who then 1 else if due < 0 then 5 else 0
def setT (T : List Int) (who due : Int) : List Int := if who < 0 ∨ 8 ≤ who ∨ due < 0 then T else T.set who.toNat due
theorem setT_len (T : List Int) (who due : Int) : (setT T who due).length = T.length := by unfold setT; split <;> simp
theorem set_bad {T : List Int} {who due : Int} (h : who < 0 ∨ 8 ≤ who) : setV who due = 1 ∧ setT T who due = T := by
  have h' : who < 0 ∨ 8 ≤ who ∨ due < 0 := by omega
  unfold setV setT; rw [if_pos h, if_pos h']; exact ⟨rfl, rfl⟩
theorem set_range {T : List Int} {who due : Int} (h : ¬ (who < 0 ∨ 8 ≤ who)) (hd : due < 0) : setV who due = 5 ∧ setT T who due = T := by
  have h' : who < 0 ∨ 8 ≤ who ∨ due < 0 := by omega
  unfold setV setT; rw [if_neg h, if_pos hd, if_pos h']; exact ⟨rfl, rfl⟩
theorem set_ok {T : List Int} {k : Nat} {due : Int} (hk : k < 8) (hd : 0 ≤ due) : setV k due = 0 ∧ setT T k due = T.set k due := by
  have h1 : ¬ ((k : Int) < 0 ∨ 8 ≤ (k : Int)) := by omega
  have h2 : ¬ ((k : Int) < 0 ∨ 8 ≤ (k : Int) ∨ due < 0) := by omega
  unfold setV setT; rw [if_neg h1, if_neg (by omega), if_neg h2, Int.toNat_natCast]; exact ⟨rfl, rfl⟩
def dropV (T : List Int) (who : Int) : Bool := decide (0 ≤ who ∧ who < 8 ∧ 0 ≤ dueOf T who.toNat)
def dropT (T : List Int) (who : Int) : List Int := if 0 ≤ who ∧ who < 8 ∧ 0 ≤ dueOf T who.toNat then T.set who.toNat (-1) else T
theorem dropT_len (T : List Int) (who : Int) : (dropT T who).length = T.length := by unfold dropT; split <;> simp
theorem drop_no {T : List Int} {who : Int} (h : ¬ (0 ≤ who ∧ who < 8 ∧ 0 ≤ dueOf T who.toNat)) : dropV T who = false ∧ dropT T who = T := by
  unfold dropV dropT; rw [decide_eq_false h, if_neg h]; exact ⟨rfl, rfl⟩
theorem drop_yes {T : List Int} {k : Nat} (hk : k < 8) (h : 0 ≤ dueOf T k) : dropV T k = true ∧ dropT T k = T.set k (-1) := by
  have h' : 0 ≤ (k : Int) ∧ (k : Int) < 8 ∧ 0 ≤ dueOf T (k : Int).toNat := by simp; omega
  unfold dropV dropT; rw [decide_eq_true h', if_pos h', Int.toNat_natCast]; exact ⟨rfl, rfl⟩
def firstV (T : List Int) : Option Nat → Int
  | none => 0
  | some k => dueOf T k
end Go.Sx
