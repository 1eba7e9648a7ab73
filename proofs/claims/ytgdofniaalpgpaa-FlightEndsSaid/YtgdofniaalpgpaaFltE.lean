/-
  FlightEnds: its walk.
-/
import Derived.Test.YtgdofniaalpgpaaFltP
set_option linter.unusedSimpArgs false
set_option linter.unusedVariables false
set_option maxRecDepth 20000
namespace Go.Proofs.Ytgdofniaalpgpaa
open Go Go.Sx
def boolC (b : Bool) : List Value := [.bool b]
def tM (b : Bool) : PMsg := ⟨⟨#[116]⟩, ⟨#[]⟩, if b then 2 else 1, false⟩
def tS (j : Nat) (b : Bool) : PSent := ⟨((j + 1 : Nat) : Int), if b then 2 else 1, tM b⟩
/-- All that were sent, one for each of a row. -/
def eL (bs : List Bool) : List PSent := bs.mapIdx tS
theorem eL_len (bs : List Bool) : (eL bs).length = bs.length := by simp [eL]
theorem eL_at {bs : List Bool} {i : Nat} (h : i < (eL bs).length) : (eL bs)[i] = tS i (bs[i]'(by rw [eL_len] at h; exact h)) := by simp [eL]
theorem eL_snoc (bs : List Bool) (b : Bool) : eL (bs ++ [b]) = eL bs ++ [tS bs.length b] := by simp [eL, List.mapIdx_append]
theorem eL_least (bs : List Bool) : LeastF (eL bs) (bs.length + 1) := by
  refine ⟨by omega, fun s hs e => ?_, fun j j1 j2 => ?_⟩
  · obtain ⟨i, hi, rfl⟩ := List.getElem_of_mem hs
    rw [eL_at hi] at e
    rw [eL_len] at hi
    simp only [tS] at e
    omega
  · have hj : j - 1 < (eL bs).length := by rw [eL_len]; omega
    refine ⟨(eL bs)[j - 1], List.getElem_mem hj, ?_⟩
    rw [eL_at hj]
    simp only [tS]
    omega
theorem tM_st (b : Bool) : stOf (tM b) = if b then 2 else 1 := by cases b <;> rfl
theorem eL_send {bs : List Bool} {b : Bool} {y : SendR} (h8 : bs.length < 8) (h : SendOk (eL bs) (tM b) y) : y = ⟨((bs.length + 1 : Nat) : Int), 0, eL (bs ++ [b])⟩ := by
  unfold SendOk at h
  rw [if_neg (by cases b <;> decide), if_neg (by rw [eL_len]; omega)] at h
  obtain ⟨k, hk, rfl⟩ := h
  cases hk.eq (eL_least bs)
  rw [eL_snoc, tM_st]
  rfl
theorem eL_idx {bs : List Bool} {k : Nat} (h : k < bs.length) : idxF (eL bs) ((k + 1 : Nat) : Int) = some k := by
  have hk : k < (eL bs).length := by rw [eL_len]; exact h
  refine idxF_some hk (by rw [eL_at hk]; rfl) (fun j hj hjk => ?_)
  rw [eL_at hj]
  simp only [tS]
  omega
theorem er_idx {bs : List Bool} {k : Nat} (h : k < bs.length) : idxF ((eL bs).eraseIdx k) ((k + 1 : Nat) : Int) = none := by
  refine idxF_none (fun j hj => ?_)
  have hk : k < (eL bs).length := by rw [eL_len]; exact h
  rw [List.length_eraseIdx, if_pos hk] at hj
  rw [List.getElem_eraseIdx]
  split
  · rw [eL_at (by omega)]; simp only [tS]; omega
  · rw [eL_at (by omega)]; simp only [tS]; omega
theorem er_least {bs : List Bool} {k : Nat} (h : k < bs.length) : LeastF ((eL bs).eraseIdx k) (k + 1) := by
  have hk : k < (eL bs).length := by rw [eL_len]; exact h
  refine ⟨by omega, fun s hs => idxF_no (er_idx h) s hs, fun j j1 j2 => ?_⟩
  have hj : j - 1 < ((eL bs).eraseIdx k).length := by rw [List.length_eraseIdx, if_pos hk]; omega
  refine ⟨_, List.getElem_mem hj, ?_⟩
  rw [List.getElem_eraseIdx, dif_pos (by omega), eL_at (by omega)]
  simp only [tS]; omega
theorem er_send {bs : List Bool} {k : Nat} {b : Bool} {y : SendR} (h : k < bs.length) (h8 : bs.length ≤ 8) (hy : SendOk ((eL bs).eraseIdx k) (tM b) y) : ∃ L, y = ⟨((k + 1 : Nat) : Int), 0, L⟩ := by
  have hk : k < (eL bs).length := by rw [eL_len]; exact h
  unfold SendOk at hy
  rw [if_neg (by cases b <;> decide), if_neg (by rw [List.length_eraseIdx, if_pos hk, eL_len]; omega)] at hy
  obtain ⟨q, hq, rfl⟩ := hy
  cases hq.eq (er_least h)
  exact ⟨_, rfl⟩
theorem idxF_map (L : List PSent) (id : Int) : idxF L id = (L.map (·.id)).findIdx? (fun x => decide (x = id)) := by
  unfold idxF; rw [List.findIdx?_map]; rfl
theorem idxF_set {L : List PSent} {i : Nat} (hi : i < L.length) (id : Int) : idxF (L.set i { L[i] with st := 3 }) id = idxF L id := by
  rw [idxF_map, idxF_map]
  congr 1
  apply List.ext_getElem?
  intro j
  rw [List.getElem?_map, List.getElem?_map]
  by_cases c : i = j
  · subst c; simp [hi]
  · rw [List.getElem?_set_ne c]
theorem er_at {bs : List Bool} {k i : Nat} (h : k < bs.length) (hi : i < ((eL bs).eraseIdx k).length) : ∃ (j : Nat) (b : Bool), ((eL bs).eraseIdx k)[i] = tS j b ∧ j = if i < k then i else i + 1 := by
  have hk : k < (eL bs).length := by rw [eL_len]; exact h
  have hl := hi
  rw [List.length_eraseIdx, if_pos hk, eL_len] at hl
  rw [List.getElem_eraseIdx]
  split
  · rename_i c; exact ⟨i, _, eL_at (by rw [eL_len]; omega), rfl⟩
  · rename_i c; exact ⟨i + 1, _, eL_at (by rw [eL_len]; omega), rfl⟩
def nums (i : Nat) : List Int := (List.range i).map fun j => ((j + 1 : Nat) : Int)
theorem nums_len (i : Nat) : (nums i).length = i := by simp [nums]
theorem nums_at {i j : Nat} (h : j < i) : (ints (nums i))[j * 1]? = some (.int .i64 ((j + 1 : Nat) : Int)) := by
  rw [Nat.mul_one, ints_get (by rw [nums_len]; exact h)]
  simp [nums]
theorem nums_snoc (i : Nat) : nums i ++ [((i + 1 : Nat) : Int)] = nums (i + 1) := by simp [nums, List.range_succ]
structure FeSt where
  i : Nat
  w : Value
attribute [local irreducible] MidQ wpE wpO wpC qE wpQ wpQO wpH wpHO wpD wpDO wpZ Ev own emp exI sl ch PostS LoopQ Rd rowsAt
abbrev boolB (b : Nat) (m : PMsg) : HProp := pts b (.cells m.cells.toArray 31 (0, 0))
set_option maxHeartbeats 16000000 in
theorem law_ends (H : PHeap) (v : Value) (bs : List Bool) (at' : Int) (hv : rowsAt H 1 v (bs.map boolC)) (ha1 : 0 ≤ at') (ha2 : at' ≤ 255) :
    FnDoes Try.prog 5 [v, .int .u8 at'] [own H] (fun _ : Unit => True) (fun _ => .bool true) (fun _ => [own H]) := by
  refine does_of Try.func5 rfl rfl Try.ntmps5 rfl (by simp only [enum, Nat.reduceAdd, Nat.zero_add]; exact rfl) (fun c => ?_)
  obtain ⟨a, cap, rfl⟩ := hv.slice
  have hv' := hv
  simp only [List.length_map] at hv' ⊢
  (refine go ?_; intros)
  (show wpO _ _ ⟨_, .call _, _, _, _, _⟩ _ _ _ _ _ _; refine o_callA (flt_new) (fun f _ => ?_); try simp only [List.cons_append, List.nil_append])
  (refine goB ?_; intros)
  refine wpC_meet (σ := FeSt) (fun s => s.i ≤ bs.length ∧ s.i ≤ 8) (fun s => [(0, .slice a bs.length cap), (1, .int .u8 at'), (5, ptr f), (6, s.w)]) (fun s => [own H, fltI f (eL (bs.take s.i)), intsI s.w (nums s.i)]) ?_ (fun s hs => ?_)
  · refine wpC_block ?_
    refine wpC_loop (σ := FeSt) (fun s => s.i ≤ bs.length ∧ s.i ≤ 8) (fun s => [(0, .slice a bs.length cap), (1, .int .u8 at'), (5, ptr f), (6, s.w), (7, .int .i64 s.i)])
      (fun s => [own H, fltI f (eL (bs.take s.i)), intsI s.w (nums s.i)]) (fun s => 8 - s.i) ⟨0, .slice none 0 0⟩ ⟨Nat.zero_le _, Nat.zero_le _⟩ (by repeat (first | exact trivial | refine ⟨rfl, ?_⟩)) (Ent.cons (by repeat (first | exact Pick.head | apply Pick.tail)) (Ent.cons (by repeat (first | exact Pick.head | apply Pick.tail)) (Ent.slNil Ent.nil))) (fun s hs => ?_)
    obtain ⟨i, w⟩ := s
    simp only at hs ⊢
    obtain ⟨s1, s2⟩ := hs
    by_cases hi : i < bs.length ∧ i < 8
    · obtain ⟨i1, i2⟩ := hi
      obtain ⟨b', off, cap', e, hc⟩ := hv'.at i (by simpa using i1)
      simp only [List.length_map, Value.slice.injEq] at e
      obtain ⟨rfl, _, rfl⟩ := e
      have hc' : H.cell? ⟨b', off + i * 1, none⟩ = some (.bool bs[i]) := by
        have := hc 0 (.bool bs[i]) (by simp [boolC])
        simpa using this
      clear hc
      have htl : (bs.take i).length = i := by rw [List.length_take]; omega
      have htk : bs.take i ++ [bs[i]] = bs.take (i + 1) := by rw [List.take_add_one, List.getElem?_eq_getElem i1]; rfl
      have S := flt_send f (eL (bs.take i)) (tM bs[i])
      have hsend := fun y => eL_send (bs := bs.take i) (b := bs[i]) (y := y) (by omega)
      rw [htk, htl] at hsend
      generalize bs[i] = b at hc' S hsend
      cases b
      all_goals
        (refine go ?_; intro mb)
        (show wpO _ _ ⟨_, .call _, _, _, _, _⟩ _ _ _ _ _ _; refine o_callA (S) (fun y hy => ?_); try simp only [List.cons_append, List.nil_append])
        cases hsend y hy
        have e1 : (i : Int) + 1 = ((i + 1 : Nat) : Int) := by omega
        (refine go ?_; intro eb)
        refine o_append (sz := 1) (news := [.int .i64 ((i + 1 : Nat) : Int)]) (m := 1) rfl rfl rfl rfl rfl rfl rfl rfl (by repeat (first | exact Pick.head | apply Pick.tail)) ?_ ?_ rfl (fun w' => ?_)
        · exact src_pts rfl (by repeat (first | exact Pick.head | apply Pick.tail)) rfl rfl rfl
        · show ((nums i).length + 1) * 8 ≤ 140737488355328
          rw [nums_len]; omega
        rw [show sl 3 1 w' ((nums i).length + 1) (ints (nums i) ++ [.int .i64 ((i + 1 : Nat) : Int)]) = intsI w' (nums (i + 1)) by rw [← nums_snoc]; simp [intsI, ints_snoc]]
        (refine go ?_; intros)
        refine q_round ⟨i + 1, w'⟩ ⟨by simp only; omega, by simp only; omega⟩ (by simp only; omega) (by repeat (first | exact trivial | refine ⟨rfl, ?_⟩)) (by ((try simp only [List.cons_append, List.nil_append]); repeat (first | exact Ent.nil | (apply Ent.cons; repeat (first | exact Pick.head | apply Pick.tail)))))
    · by_cases hi1 : i < bs.length
      all_goals
        (refine go ?_; intros)
        exact q_mid ⟨i, w⟩ ⟨s1, s2⟩ (by repeat (first | exact trivial | refine ⟨rfl, ?_⟩)) (by ((try simp only [List.cons_append, List.nil_append]); repeat (first | exact Ent.nil | (apply Ent.cons; repeat (first | exact Pick.head | apply Pick.tail)))))
  obtain ⟨m, w⟩ := s
  simp only at hs ⊢
  obtain ⟨m1, m2⟩ := hs
  have hrw : Rd (intsI w (nums m)) 1 w (nums m).length (ints (nums m)) := Rd.ofSl
  refine wpC_fact (hrw.isSlice (by repeat (first | exact Pick.head | apply Pick.tail))) (fun hkw => ?_)
  obtain ⟨wa, wc, rfl, hkw⟩ := hkw
  simp only [nums_len] at hkw hrw ⊢
  by_cases hm0 : m = 0
  · subst hm0
    (refine go ?_; intros)
    (show wpO _ _ ⟨_, .call _, _, _, _, _⟩ _ _ _ _ _ _; refine o_callA (law_awake) (fun _ _ => ?_); try simp only [List.cons_append, List.nil_append])
    (refine go ?_; intros)
    refine q_ret1 rfl rfl () rfl trivial ?_
    ((try simp only [List.cons_append, List.nil_append]); repeat (first | exact Ent.nil | (apply Ent.cons; repeat (first | exact Pick.head | apply Pick.tail))))
  obtain ⟨wb, wo, rfl, _⟩ := hkw (by omega)
  have hr1 : 0 ≤ at' % (m : Int) := Int.emod_nonneg _ (by omega)
  have hr2 : at' % (m : Int) < m := Int.emod_lt_of_pos _ (by omega)
  obtain ⟨k, hk⟩ : ∃ k : Nat, at' % (m : Int) = k := ⟨(at' % (m : Int)).toNat, by omega⟩
  have hkm : k < m := by omega
  have hkb : k < bs.length := by omega
  obtain ⟨b', off, cap', e, hc⟩ := hv'.at k (by simpa using hkb)
  simp only [List.length_map, Value.slice.injEq] at e
  obtain ⟨rfl, _, rfl⟩ := e
  have hc' : H.cell? ⟨b', off + k * 1, none⟩ = some (.bool bs[k]) := by
    have := hc 0 (.bool bs[k]) (by simp [boolC])
    simpa using this
  clear hc
  have hbs : ∃ cs : List Bool, cs = bs.take m ∧ cs.length = m ∧ ∀ (h : k < cs.length), cs[k] = bs[k] := ⟨_, rfl, by rw [List.length_take]; omega, fun h => by rw [List.getElem_take]⟩
  obtain ⟨cs, hcs, hcl, hck⟩ := hbs
  rw [← hcs]
  have hkc : k < cs.length := by omega
  have hkL : k < (eL cs).length := by rw [eL_len]; exact hkc
  have hx := eL_idx hkc
  have hn := er_idx hkc
  have hat := eL_at (bs := cs) hkL
  rw [hck hkc] at hat
  generalize bs[k] = b at hc' hat
  have hcell : (ints (nums m))[k * 1]? = some (.int .i64 ((k + 1 : Nat) : Int)) := nums_at hkm
  have hlen1 : ((eL cs).map againP).length = m := by rw [List.length_map, eL_len, hcl]
  have hel : ((eL cs).eraseIdx k).length = m - 1 := by rw [List.length_eraseIdx, if_pos hkL, eL_len, hcl]
  refine wpC_ent (N := intsI (.slice (some ⟨wb, wo, none⟩) m wc) (nums m) :: fltI f (eL cs) :: own H :: []) (by rw [show intsI (.slice (some ⟨wb, wo, none⟩) m wc) (nums m) = intsI (.slice (some ⟨wb, wo, none⟩) m wc) (nums m) from rfl]; ((try simp only [List.cons_append, List.nil_append]); repeat (first | exact Ent.nil | (apply Ent.cons; repeat (first | exact Pick.head | apply Pick.tail))))) ?_
  (refine go ?_; intros)
  rw [hk]
  (refine goB ?_; intros)
  refine wpC_meet (σ := Unit) (fun _ => True) (fun _ => [(5, ptr f), (6, .slice (some ⟨wb, wo, none⟩) m wc), (11, .int .i64 k)]) (fun _ => [own H, fltI f ((eL cs).eraseIdx k), intsI (.slice (some ⟨wb, wo, none⟩) m wc) (nums m)]) ?_ (fun _ _ => ?_)
  · refine wpC_cond rfl (fun hb => ?_) (fun hb => ?_)
    · subst hb
      obtain ⟨L3, hL3⟩ : ∃ L3, L3 = (eL cs).set k { (eL cs)[k] with st := 3 } := ⟨_, rfl⟩
      have hst : (eL cs)[k].st = 2 := by rw [hat]; rfl
      have hx3 : idxF L3 ((k + 1 : Nat) : Int) = some k := by rw [hL3, idxF_set hkL]; exact hx
      have hl3 : L3.length = m := by rw [hL3, List.length_set, eL_len, hcl]
      have hk3 : k < L3.length := by omega
      have hst3 : L3[k].st = 3 := by simp [hL3]
      have her : L3.eraseIdx k = (eL cs).eraseIdx k := by rw [hL3, List.eraseIdx_set_eq]
      have hset3 : L3.set k { L3[k] with st := 3 } = L3 := by
        have : ({ L3[k] with st := 3 } : PSent) = L3[k] := by rw [← hst3]
        rw [this, List.set_getElem_self]
      have A1 := flt_ack f (eL cs) ((k + 1 : Nat) : Int)
      obtain ⟨g1, g2⟩ := end_not (st := 1) hx hkL (by rw [hst]; decide)
      rw [g1, g2] at A1
      have C1 := flt_comp f (eL cs) ((k + 1 : Nat) : Int)
      obtain ⟨g1, g2⟩ := end_not (st := 3) hx hkL (by rw [hst]; decide)
      rw [g1, g2] at C1
      have R1 := flt_rec f (eL cs) ((k + 1 : Nat) : Int)
      obtain ⟨g1, g2⟩ := rec_yes hx hkL (by rw [hst]; decide)
      rw [g1, g2, ← hL3] at R1
      have R2 := flt_rec f L3 ((k + 1 : Nat) : Int)
      obtain ⟨g1, g2⟩ := rec_yes hx3 hk3 (by rw [hst3]; decide)
      rw [g1, g2, hset3] at R2
      have C2 := flt_comp f L3 ((k + 1 : Nat) : Int)
      obtain ⟨g1, g2⟩ := end_yes (st := 3) hx3 hk3 hst3
      rw [g1, g2, her] at C2
      have R3 := flt_rec f ((eL cs).eraseIdx k) ((k + 1 : Nat) : Int)
      obtain ⟨g1, g2⟩ := rec_no hn
      rw [g1, g2] at R3
      (refine go ?_; intros)
      refine o_evB (ev_load_rd rfl rfl rfl hrw (by repeat (first | exact Pick.head | apply Pick.tail)) rfl hcell) ?_
      (refine go ?_; intros)
      (show wpO _ _ ⟨_, .call _, _, _, _, _⟩ _ _ _ _ _ _; refine o_callA (A1) (fun _ _ => ?_); try simp only [List.cons_append, List.nil_append])
      (refine go ?_; intros)
      refine o_evB (ev_load_rd rfl rfl rfl hrw (by repeat (first | exact Pick.head | apply Pick.tail)) rfl hcell) ?_
      (refine go ?_; intros)
      (show wpO _ _ ⟨_, .call _, _, _, _, _⟩ _ _ _ _ _ _; refine o_callA (C1) (fun _ _ => ?_); try simp only [List.cons_append, List.nil_append])
      (refine go ?_; intros)
      refine o_evB (ev_load_rd rfl rfl rfl hrw (by repeat (first | exact Pick.head | apply Pick.tail)) rfl hcell) ?_
      (refine go ?_; intros)
      (show wpO _ _ ⟨_, .call _, _, _, _, _⟩ _ _ _ _ _ _; refine o_callA (R1) (fun _ _ => ?_); try simp only [List.cons_append, List.nil_append])
      (refine go ?_; intros)
      (show wpO _ _ ⟨_, .call _, _, _, _, _⟩ _ _ _ _ _ _; refine o_callA (flt_again f L3) (fun hw _ => ?_); try simp only [List.cons_append, List.nil_append])
      have hrh : Rd (pktsI hw (L3.map againP)) 24 hw (L3.map againP).length ((L3.map againP).flatMap pktC) := Rd.ofSl
      refine wpE_fact (hrh.isSlice (by repeat (first | exact Pick.head | apply Pick.tail))) (fun hkh => ?_)
      obtain ⟨ha, hc2, rfl, hkh⟩ := hkh
      have hml : (L3.map againP).length = m := by rw [List.length_map, hl3]
      simp only [hml] at hkh hrh ⊢
      obtain ⟨hb2, ho2, rfl, _⟩ := hkh (by omega)
      have hpk : ((L3.map againP).flatMap pktC)[k * 24 + 0]? = some (.int .i64 6) := by
        have hkk : k < (L3.map againP).length := by omega
        have : (L3.map againP)[k] = ⟨6, L3[k].id, false, zeroMsg⟩ := by rw [List.getElem_map, againP, if_pos hst3]
        exact pkt_cell hkk (by rw [this]; rfl)
      (refine go ?_; intros)
      refine o_evB (ev_indexS (i := k) 24 rfl rfl rfl rfl rfl rfl hkm) ?_
      (refine go ?_; intros)
      refine o_evB (ev_load_rd rfl rfl rfl hrh (by repeat (first | exact Pick.head | apply Pick.tail)) rfl hpk) ?_
      (refine go ?_; intros)
      refine o_evB (ev_load_rd rfl rfl rfl hrw (by repeat (first | exact Pick.head | apply Pick.tail)) rfl hcell) ?_
      (refine go ?_; intros)
      (show wpO _ _ ⟨_, .call _, _, _, _, _⟩ _ _ _ _ _ _; refine o_callA (R2) (fun _ _ => ?_); try simp only [List.cons_append, List.nil_append])
      (refine go ?_; intros)
      refine o_evB (ev_load_rd rfl rfl rfl hrw (by repeat (first | exact Pick.head | apply Pick.tail)) rfl hcell) ?_
      (refine go ?_; intros)
      (show wpO _ _ ⟨_, .call _, _, _, _, _⟩ _ _ _ _ _ _; refine o_callA (C2) (fun _ _ => ?_); try simp only [List.cons_append, List.nil_append])
      (refine go ?_; intros)
      refine o_evB (ev_load_rd rfl rfl rfl hrw (by repeat (first | exact Pick.head | apply Pick.tail)) rfl hcell) ?_
      (refine go ?_; intros)
      (show wpO _ _ ⟨_, .call _, _, _, _, _⟩ _ _ _ _ _ _; refine o_callA (R3) (fun _ _ => ?_); try simp only [List.cons_append, List.nil_append])
      (refine go ?_; intros)
      exact q_mid () trivial (by repeat (first | exact trivial | refine ⟨rfl, ?_⟩)) (by ((try simp only [List.cons_append, List.nil_append]); repeat (first | exact Ent.nil | (apply Ent.cons; repeat (first | exact Pick.head | apply Pick.tail)))))
    · subst hb
      have hst : (eL cs)[k].st = 1 := by rw [hat]; rfl
      have R1 := flt_rec f (eL cs) ((k + 1 : Nat) : Int)
      obtain ⟨g1, g2⟩ := rec_not hx hkL hst
      rw [g1, g2] at R1
      have C1 := flt_comp f (eL cs) ((k + 1 : Nat) : Int)
      obtain ⟨g1, g2⟩ := end_not (st := 3) hx hkL (by rw [hst]; decide)
      rw [g1, g2] at C1
      have A1 := flt_ack f (eL cs) ((k + 1 : Nat) : Int)
      obtain ⟨g1, g2⟩ := end_yes (st := 1) hx hkL hst
      rw [g1, g2] at A1
      have A2 := flt_ack f ((eL cs).eraseIdx k) ((k + 1 : Nat) : Int)
      obtain ⟨g1, g2⟩ := end_no (st := 1) hn
      rw [g1, g2] at A2
      (refine go ?_; intros)
      refine o_evB (ev_load_rd rfl rfl rfl hrw (by repeat (first | exact Pick.head | apply Pick.tail)) rfl hcell) ?_
      (refine go ?_; intros)
      (show wpO _ _ ⟨_, .call _, _, _, _, _⟩ _ _ _ _ _ _; refine o_callA (R1) (fun _ _ => ?_); try simp only [List.cons_append, List.nil_append])
      (refine go ?_; intros)
      refine o_evB (ev_load_rd rfl rfl rfl hrw (by repeat (first | exact Pick.head | apply Pick.tail)) rfl hcell) ?_
      (refine go ?_; intros)
      (show wpO _ _ ⟨_, .call _, _, _, _, _⟩ _ _ _ _ _ _; refine o_callA (C1) (fun _ _ => ?_); try simp only [List.cons_append, List.nil_append])
      (refine go ?_; intros)
      refine o_evB (ev_load_rd rfl rfl rfl hrw (by repeat (first | exact Pick.head | apply Pick.tail)) rfl hcell) ?_
      (refine go ?_; intros)
      (show wpO _ _ ⟨_, .call _, _, _, _, _⟩ _ _ _ _ _ _; refine o_callA (A1) (fun _ _ => ?_); try simp only [List.cons_append, List.nil_append])
      (refine go ?_; intros)
      refine o_evB (ev_load_rd rfl rfl rfl hrw (by repeat (first | exact Pick.head | apply Pick.tail)) rfl hcell) ?_
      (refine go ?_; intros)
      (show wpO _ _ ⟨_, .call _, _, _, _, _⟩ _ _ _ _ _ _; refine o_callA (A2) (fun _ _ => ?_); try simp only [List.cons_append, List.nil_append])
      (refine go ?_; intros)
      exact q_mid () trivial (by repeat (first | exact trivial | refine ⟨rfl, ?_⟩)) (by ((try simp only [List.cons_append, List.nil_append]); repeat (first | exact Ent.nil | (apply Ent.cons; repeat (first | exact Pick.head | apply Pick.tail)))))
  · have era := fun i hi => er_at (i := i) hkc hi
    have ers := fun y => er_send (b := false) (y := y) hkc (by omega)
    generalize (eL cs).eraseIdx k = L' at hel era ers
    have hme : (m : Int) - 1 = ((m - 1 : Nat) : Int) := by omega
    (refine go ?_; intros)
    (show wpO _ _ ⟨_, .call _, _, _, _, _⟩ _ _ _ _ _ _; refine o_callA (flt_all f L') (fun sw _ => ?_); try simp only [List.cons_append, List.nil_append])
    (refine go ?_; intros)
    (show wpO _ _ ⟨_, .call _, _, _, _, _⟩ _ _ _ _ _ _; refine o_callA (flt_again f L') (fun pw _ => ?_); try simp only [List.cons_append, List.nil_append])
    have hrs : Rd (sentsI sw L') 6 sw L'.length (L'.flatMap sentC) := Rd.ofSl
    have hrp : Rd (pktsI pw (L'.map againP)) 24 pw (L'.map againP).length ((L'.map againP).flatMap pktC) := Rd.ofSl
    refine wpE_fact (hrs.isSlice (by repeat (first | exact Pick.head | apply Pick.tail))) (fun hks => ?_)
    refine wpE_fact (hrp.isSlice (by repeat (first | exact Pick.head | apply Pick.tail))) (fun hkp => ?_)
    obtain ⟨sa, sc, rfl, hks⟩ := hks
    obtain ⟨pa, pc, rfl, hkp⟩ := hkp
    have hml : (L'.map againP).length = m - 1 := by rw [List.length_map, hel]
    simp only [hml, hel] at hks hkp hrs hrp ⊢
    (refine go ?_; intros)
    refine wpC_loop (σ := Nat) (fun i => i ≤ m - 1) (fun i => [(5, ptr f), (6, .slice (some ⟨wb, wo, none⟩) m wc), (11, .int .i64 k), (13, .slice sa (m - 1) sc), (14, .slice pa (m - 1) pc), (15, .int .i64 i)])
      (fun _ => [own H, fltI f L', intsI (.slice (some ⟨wb, wo, none⟩) m wc) (nums m), sentsI (.slice sa (m - 1) sc) L', pktsI (.slice pa (m - 1) pc) (L'.map againP)]) (fun i => m - 1 - i) 0 (Nat.zero_le _) (by repeat (first | exact trivial | refine ⟨rfl, ?_⟩)) (by ((try simp only [List.cons_append, List.nil_append]); repeat (first | exact Ent.nil | (apply Ent.cons; repeat (first | exact Pick.head | apply Pick.tail))))) (fun i hi => ?_)
    by_cases him : i < m - 1
    · obtain ⟨sb, so, rfl, _⟩ := hks (by omega)
      obtain ⟨pb, po, rfl, _⟩ := hkp (by omega)
      have hiL : i < L'.length := by omega
      obtain ⟨j, bj, ej, hj⟩ := era i hiL
      have hn1 : (ints (nums m))[i * 1]? = some (.int .i64 ((i + 1 : Nat) : Int)) := nums_at (by omega)
      have hn2 : (ints (nums m))[(i + 1) * 1]? = some (.int .i64 ((i + 1 + 1 : Nat) : Int)) := nums_at (by omega)
      have hs1 : (L'.flatMap sentC)[i * 6 + 0]? = some (.int .i64 ((j + 1 : Nat) : Int)) := sent_cell hiL (by rw [ej]; rfl)
      have him2 : i < (L'.map againP).length := by omega
      have hap : (L'.map againP)[i] = ⟨3, ((j + 1 : Nat) : Int), true, tM bj⟩ := by
        rw [List.getElem_map, ej, againP, if_neg (by cases bj <;> simp [tS])]; rfl
      have hp0 : ((L'.map againP).flatMap pktC)[i * 24 + 0]? = some (.int .i64 3) := pkt_cell him2 (by rw [hap]; rfl)
      have hp1 : ((L'.map againP).flatMap pktC)[i * 24 + 1]? = some (.int .i64 ((j + 1 : Nat) : Int)) := pkt_cell him2 (by rw [hap]; rfl)
      have hp2 : ((L'.map againP).flatMap pktC)[i * 24 + 2]? = some (.bool true) := pkt_cell him2 (by rw [hap]; rfl)
      by_cases hik : i < k
      · rw [if_pos hik] at hj
        subst hj
        (refine go ?_; intros)
        refine o_evB (ev_load_rd rfl rfl rfl hrw (by repeat (first | exact Pick.head | apply Pick.tail)) rfl hn1) ?_
        (refine go ?_; intros)
        refine o_evB (ev_load_rd rfl rfl rfl hrs (by repeat (first | exact Pick.head | apply Pick.tail)) rfl hs1) ?_
        (refine go ?_; intros)
        refine o_evB (ev_indexS (i := j) 24 rfl rfl rfl rfl rfl rfl him) ?_
        (refine go ?_; intros)
        refine o_evB (ev_load_rd rfl rfl rfl hrp (by repeat (first | exact Pick.head | apply Pick.tail)) rfl hp1) ?_
        (refine go ?_; intros)
        refine o_evB (ev_indexS (i := j) 24 rfl rfl rfl rfl rfl rfl him) ?_
        (refine go ?_; intros)
        refine o_evB (ev_load_rd rfl rfl rfl hrp (by repeat (first | exact Pick.head | apply Pick.tail)) rfl hp2) ?_
        (refine go ?_; intros)
        refine o_evB (ev_indexS (i := j) 24 rfl rfl rfl rfl rfl rfl him) ?_
        (refine go ?_; intros)
        refine o_evB (ev_load_rd rfl rfl rfl hrp (by repeat (first | exact Pick.head | apply Pick.tail)) rfl hp0) ?_
        (refine go ?_; intros)
        exact q_round (j + 1) (by omega) (by omega) (by repeat (first | exact trivial | refine ⟨rfl, ?_⟩)) (by ((try simp only [List.cons_append, List.nil_append]); repeat (first | exact Ent.nil | (apply Ent.cons; repeat (first | exact Pick.head | apply Pick.tail)))))
      · rw [if_neg hik] at hj
        subst hj
        have ei : (i : Int) + 1 = ((i + 1 : Nat) : Int) := by omega
        (refine go ?_; intros)
        refine o_evB (ev_load_rd rfl rfl rfl hrw (by repeat (first | exact Pick.head | apply Pick.tail)) rfl hn1) ?_
        (refine go ?_; intros)
        rw [ei]
        (refine go ?_; intros)
        refine o_evB (ev_load_rd rfl rfl rfl hrw (by repeat (first | exact Pick.head | apply Pick.tail)) rfl hn2) ?_
        (refine go ?_; intros)
        refine o_evB (ev_load_rd rfl rfl rfl hrs (by repeat (first | exact Pick.head | apply Pick.tail)) rfl hs1) ?_
        (refine go ?_; intros)
        refine o_evB (ev_indexS (i := i) 24 rfl rfl rfl rfl rfl rfl him) ?_
        (refine go ?_; intros)
        refine o_evB (ev_load_rd rfl rfl rfl hrp (by repeat (first | exact Pick.head | apply Pick.tail)) rfl hp1) ?_
        (refine go ?_; intros)
        refine o_evB (ev_indexS (i := i) 24 rfl rfl rfl rfl rfl rfl him) ?_
        (refine go ?_; intros)
        refine o_evB (ev_load_rd rfl rfl rfl hrp (by repeat (first | exact Pick.head | apply Pick.tail)) rfl hp2) ?_
        (refine go ?_; intros)
        refine o_evB (ev_indexS (i := i) 24 rfl rfl rfl rfl rfl rfl him) ?_
        (refine go ?_; intros)
        refine o_evB (ev_load_rd rfl rfl rfl hrp (by repeat (first | exact Pick.head | apply Pick.tail)) rfl hp0) ?_
        (refine go ?_; intros)
        exact q_round (i + 1) (by omega) (by omega) (by repeat (first | exact trivial | refine ⟨rfl, ?_⟩)) (by ((try simp only [List.cons_append, List.nil_append]); repeat (first | exact Ent.nil | (apply Ent.cons; repeat (first | exact Pick.head | apply Pick.tail)))))
    · (refine go ?_; intros)
      (show wpO _ _ ⟨_, .call _, _, _, _, _⟩ _ _ _ _ _ _; refine o_callA (flt_send f L' (tM false)) (fun y hy => ?_); try simp only [List.cons_append, List.nil_append])
      obtain ⟨L9, rfl⟩ := ers y hy
      (refine go ?_; intros)
      refine o_evB (ev_load_rd rfl rfl rfl hrw (by repeat (first | exact Pick.head | apply Pick.tail)) rfl hcell) ?_
      (refine go ?_; intros)
      (show wpO _ _ ⟨_, .call _, _, _, _, _⟩ _ _ _ _ _ _; refine o_callA (law_awake) (fun _ _ => ?_); try simp only [List.cons_append, List.nil_append])
      (refine go ?_; intros)
      refine q_ret1 rfl rfl () rfl trivial ?_
      ((try simp only [List.cons_append, List.nil_append]); repeat (first | exact Ent.nil | (apply Ent.cons; repeat (first | exact Pick.head | apply Pick.tail))))
end Go.Proofs.Ytgdofniaalpgpaa
