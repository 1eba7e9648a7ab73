/-
  The pile of entries: its methods.
-/
import Derived.Test.YtjhlpieehhpmgaaHeapY
import Derived.Test.YtjhlpieehhpmgaaSxM
set_option linter.unusedSimpArgs false
set_option linter.unusedVariables false
namespace Go.Proofs.Ytjhlpieehhpmgaa
open Go Go.Sx
def ptr (q : Nat) : Value := .pointer (some ⟨q, 0, none⟩)
def entC (e : DE) : List Value := [.int .i64 e.1, .int .i64 e.2]
theorem entC_len (e : DE) : (entC e).length = 2 := rfl
theorem entC_one (e : DE) : (entC e).all (·.oneCell') = true := rfl
abbrev entsI (v : Value) (l : List DE) : HProp := sl 64 2 v l.length (l.flatMap entC)
abbrev pileC (p : Nat) (v : Value) (q : Nat) : HProp := pts p (.cells [v, .map (some q)].toArray 59 (0, 0))
abbrev entB (b : Nat) (e : DE) : HProp := pts b (.cells (entC e).toArray 64 (0, 0))
structure PileSt where
  v : Value
  es : List (Int × Int)
def pileI (p q : Nat) (l : List DE) : HProp := exI (σ := PileSt) (fun s => Wh l s.es) fun s => [pileC p s.v q, entsI s.v l, mapI q s.es]
theorem store_step {Lm : List MapEntry} {es : List (Int × Int)} {ck x : Nat} {k u v : Int} (hl : Lm.map (fun e => (e.key, e.val)) = es.map (fun p => (Value.int .i64 p.1, Value.int .i64 p.2))) (hB : BornOk Lm ck) (hf : mfind k es 0 = some (x, u)) :
    ∃ s, Lm[x]? = some ⟨.int .i64 k, .int .i64 u, s⟩ ∧ (Lm.set x ⟨.int .i64 k, .int .i64 v, s⟩).map (fun e => (e.key, e.val)) = (mput es k v).map (fun p => (Value.int .i64 p.1, Value.int .i64 p.2)) ∧ BornOk (Lm.set x ⟨.int .i64 k, .int .i64 v, s⟩) ck := by
  obtain ⟨s, hs⟩ := keys_at hl hf
  refine ⟨s, hs, ?_, hB.same ?_⟩
  · unfold mput
    rw [hf]
    simp only [List.map_set, hl]
  · obtain ⟨hlt, he⟩ := List.getElem?_eq_some_iff.1 hs
    rw [List.map_set]
    apply List.ext_getElem?
    intro m
    by_cases c : x = m
    · subst c; simp [hlt, he]
    · rw [List.getElem?_set_ne c]
attribute [local irreducible] MidQ wpE wpO wpC qE wpQ wpQO wpH wpHO wpD wpDO wpZ Ev own emp exI sl ch PostS LoopQ Rd rowsAt
theorem pile_len (p q : Nat) (l : List DE) : FnDoes Try.prog 48 [ptr p] [pileI p q l] (fun _ : Unit => True) (fun _ => .int .i64 l.length) (fun _ => [pileI p q l]) := by
  refine does_of Try.func48 rfl rfl Try.ntmps48 rfl (by simp only [enum, Nat.reduceAdd, Nat.zero_add]; exact rfl) (fun c => ?_)
  refine wpC_unfold .head (fun s W => ?_)
  obtain ⟨v, es⟩ := s
  simp only [List.cons_append, List.nil_append] at W ⊢
  (refine go ?_; intros)
  refine q_ret1 rfl rfl () rfl trivial ?_
  exact Ent.fold (⟨v, es⟩ : PileSt) W (by ((try simp only [List.cons_append, List.nil_append]); repeat (first | exact Ent.nil | (apply Ent.cons; repeat (first | exact Pick.head | apply Pick.tail)))))
theorem pile_close {p q b cap : Nat} {l l' : List DE} {es : List (Int × Int)} {junk : List Value} {M R : List HProp} (hl : l'.length = l.length) (W : Wh l' es) (q1 : l.length ≤ cap) (q2 : cap ≤ maxLen) (q3 : (l.flatMap entC ++ junk).length = cap * 2)
    (e : Ent M (pileC p (.slice (some ⟨b, 0, none⟩) l.length cap) q :: pts b (.cells (l'.flatMap entC ++ junk).toArray 64 (0, 0)) :: mapI q es :: R)) : Ent M (pileI p q l' :: R) := by
  refine Ent.trans e (Ent.fold (⟨.slice (some ⟨b, 0, none⟩) l.length cap, es⟩ : PileSt) W (Ent.cons .head ?_))
  rw [entsI, hl]
  exact Ent.slClose .head (by rw [fm_length entC_len]; omega) (fm_one entC_one _) q1 q2 (by rw [List.length_append, fm_length entC_len, hl, ← fm_length (f := entC) entC_len l, ← List.length_append]; exact q3) (Ent.refl _)
theorem ent_at {l : List DE} {junk : List Value} {i : Nat} (hi : i < l.length) : ((l.flatMap entC ++ junk).drop (0 + i * 2)).take 2 = entC (nth l i) := by
  rw [Nat.zero_add, fm_at entC_len l junk i hi, nth_eq hi]
theorem ent_who {l : List DE} {junk : List Value} {i : Nat} (hi : i < l.length) : (l.flatMap entC ++ junk)[i * 2]? = some (.int .i64 (nth l i).1) := by
  rw [nth_eq hi]
  exact fm_cell entC_len l junk i hi (j := 0) rfl
theorem ent_due {l : List DE} {junk : List Value} {i : Nat} (hi : i < l.length) : (l.flatMap entC ++ junk)[i * 2 + 1]? = some (.int .i64 (nth l i).2) := by
  rw [nth_eq hi]
  exact fm_cell entC_len l junk i hi (j := 1) rfl
set_option maxHeartbeats 2000000 in
theorem pile_less (p q : Nat) (l : List DE) (i j : Nat) (hi : i < l.length) (hj : j < l.length) : FnDoes Try.prog 49 [ptr p, .int .i64 i, .int .i64 j] [pileI p q l] (fun _ : Unit => True) (fun _ => .bool (ltE (nth l i) (nth l j))) (fun _ => [pileI p q l]) := by
  refine does_of Try.func49 rfl rfl Try.ntmps49 rfl (by simp only [enum, Nat.reduceAdd, Nat.zero_add]; exact rfl) (fun c => ?_)
  refine wpC_unfold .head (fun s W => ?_)
  obtain ⟨v, es⟩ := s
  simp only [List.cons_append, List.nil_append] at W ⊢
  refine wpC_sl (.tail .head) (fun _ h _ => by omega) (fun b cap junk e q1 q2 q3 => ?_)
  subst e
  have hci := ent_at (junk := junk) hi
  have hcj := ent_at (junk := junk) hj
  (refine go ?_; intros)
  refine wpC_meet (σ := Nat × Nat) (fun _ => True) (fun y => [(7, ptr y.1), (8, ptr y.2)]) (fun y => [entB y.1 (nth l i), entB y.2 (nth l j), pileC p (.slice (some ⟨b, 0, none⟩) l.length cap) q, pts b (.cells (l.flatMap entC ++ junk).toArray 64 (0, 0)), mapI q es]) ?_ (fun y _ => ?_)
  · refine wpC_drawnA [pileC p (.slice (some ⟨b, 0, none⟩) l.length cap) q, pts b (.cells (l.flatMap entC ++ junk).toArray 64 (0, 0))] 17 ?_
    ((first | refine dt 0 ?_ | refine dts 0 ?_); (first | refine dt 1 ?_ | refine dts 1 ?_); (first | refine dt 2 ?_ | refine dts 2 ?_); (first | refine dt 3 ?_ | refine dts 3 ?_); (first | refine dt 4 ?_ | refine dts 4 ?_); (first | refine dt 5 ?_ | refine dts 5 ?_))
    refine dtB 6 rfl (ev_load_agg rfl rfl rfl rfl (by repeat (first | exact Pick.head | apply Pick.tail)) hci rfl) ?_
    ((first | refine dt 7 ?_ | refine dts 7 ?_); (first | refine dt 8 ?_ | refine dts 8 ?_); (first | refine dt 9 ?_ | refine dts 9 ?_); (first | refine dt 10 ?_ | refine dts 10 ?_); (first | refine dt 11 ?_ | refine dts 11 ?_); (first | refine dt 12 ?_ | refine dts 12 ?_))
    refine dtB 13 rfl (ev_load_agg rfl rfl rfl rfl (by repeat (first | exact Pick.head | apply Pick.tail)) hcj rfl) ?_
    refine wpD_two 14 15 ?_ ?_
    · refine d1_val (i := 14) ?_
      refine x_alloc (by rfl) (by rfl) (by rfl) (fun b1 => ⟨(by (try simp only [List.cons_append, List.nil_append]); repeat (first | exact Ent.nil | (apply Ent.cons; repeat (first | exact Pick.head | apply Pick.tail)))), ?_⟩)
      (refine wpD_eff 15 rfl rfl (by kernel_rfl) rfl rfl ?_; show OVL _ ⟨_, .alloc _, _, _, _, _⟩ _ _ _ _ _ _)
      refine x_alloc (by rfl) (by rfl) (by rfl) (fun b2 => ⟨(by (try simp only [List.cons_append, List.nil_append]); repeat (first | exact Ent.nil | (apply Ent.cons; repeat (first | exact Pick.head | apply Pick.tail)))), ?_⟩)
      refine wpD_effU 16 rfl rfl (by decide +kernel) rfl ?_
      refine x_storeP (l' := entC (nth l i)) (vs := entC (nth l i)) (by rfl) (by rfl) (by rfl) (by rfl) (by rfl) (by rfl) (by repeat (first | exact Pick.head | apply Pick.tail)) (Nat.le_refl 2) rfl ⟨(by (try simp only [List.cons_append, List.nil_append]); repeat (first | exact Ent.nil | (apply Ent.cons; repeat (first | exact Pick.head | apply Pick.tail)))), ?_⟩
      (refine wpD_lastU rfl rfl (by kernel_rfl) (by kernel_rfl) rfl ?_; show OUL _ ⟨_, .store _ _ _, _, _, _, _⟩ _ _ _ _ _)
      refine x_storeP (l' := entC (nth l j)) (vs := entC (nth l j)) (by rfl) (by rfl) (by rfl) (by rfl) (by rfl) (by rfl) (by repeat (first | exact Pick.head | apply Pick.tail)) (Nat.le_refl 2) rfl ?_
      exact q_mid (b1, b2) trivial (by repeat (first | exact trivial | refine ⟨rfl, ?_⟩)) (by ((try simp only [List.cons_append, List.nil_append]); repeat (first | exact Ent.nil | (apply Ent.cons; repeat (first | exact Pick.head | apply Pick.tail)))))
    · refine d1_val (i := 15) ?_
      refine x_alloc (by rfl) (by rfl) (by rfl) (fun b2 => ⟨(by (try simp only [List.cons_append, List.nil_append]); repeat (first | exact Ent.nil | (apply Ent.cons; repeat (first | exact Pick.head | apply Pick.tail)))), ?_⟩)
      (refine wpD_eff 14 rfl rfl (by kernel_rfl) rfl rfl ?_; show OVL _ ⟨_, .alloc _, _, _, _, _⟩ _ _ _ _ _ _)
      refine x_alloc (by rfl) (by rfl) (by rfl) (fun b1 => ⟨(by (try simp only [List.cons_append, List.nil_append]); repeat (first | exact Ent.nil | (apply Ent.cons; repeat (first | exact Pick.head | apply Pick.tail)))), ?_⟩)
      refine wpD_effU 16 rfl rfl (by decide +kernel) rfl ?_
      refine x_storeP (l' := entC (nth l i)) (vs := entC (nth l i)) (by rfl) (by rfl) (by rfl) (by rfl) (by rfl) (by rfl) (by repeat (first | exact Pick.head | apply Pick.tail)) (Nat.le_refl 2) rfl ⟨(by (try simp only [List.cons_append, List.nil_append]); repeat (first | exact Ent.nil | (apply Ent.cons; repeat (first | exact Pick.head | apply Pick.tail)))), ?_⟩
      (refine wpD_lastU rfl rfl (by kernel_rfl) (by kernel_rfl) rfl ?_; show OUL _ ⟨_, .store _ _ _, _, _, _, _⟩ _ _ _ _ _)
      refine x_storeP (l' := entC (nth l j)) (vs := entC (nth l j)) (by rfl) (by rfl) (by rfl) (by rfl) (by rfl) (by rfl) (by repeat (first | exact Pick.head | apply Pick.tail)) (Nat.le_refl 2) rfl ?_
      exact q_mid (b1, b2) trivial (by repeat (first | exact trivial | refine ⟨rfl, ?_⟩)) (by ((try simp only [List.cons_append, List.nil_append]); repeat (first | exact Ent.nil | (apply Ent.cons; repeat (first | exact Pick.head | apply Pick.tail)))))
  · obtain ⟨b1, b2⟩ := y
    simp only
    by_cases h1 : (nth l i).2 = (nth l j).2
    · by_cases h2 : (nth l i).1 < (nth l j).1
      all_goals
        (refine go ?_; intros)
        refine q_ret1 rfl rfl () (by simp [ltE, h1, h2]) trivial ?_
        exact pile_close rfl W q1 q2 q3 (by ((try simp only [List.cons_append, List.nil_append]); repeat (first | exact Ent.nil | (apply Ent.cons; repeat (first | exact Pick.head | apply Pick.tail)))))
    · by_cases h2 : (nth l i).2 < (nth l j).2
      all_goals
        (refine go ?_; intros)
        refine q_ret1 rfl rfl () (by simp [ltE, h1, h2]) trivial ?_
        exact pile_close rfl W q1 q2 q3 (by ((try simp only [List.cons_append, List.nil_append]); repeat (first | exact Ent.nil | (apply Ent.cons; repeat (first | exact Pick.head | apply Pick.tail)))))
set_option maxHeartbeats 4000000 in
theorem pile_swap (p q : Nat) (l : List DE) (i j : Nat) (hi : i < l.length) (hj : j < l.length) : FnDoes Try.prog 52 [ptr p, .int .i64 i, .int .i64 j] [pileI p q l] (fun _ : Unit => True) (fun _ => .tuple #[]) (fun _ => [pileI p q (swp l i j)]) := by
  refine does_of Try.func52 rfl rfl Try.ntmps52 rfl (by simp only [enum, Nat.reduceAdd, Nat.zero_add]; exact rfl) (fun c => ?_)
  refine wpC_unfold .head (fun s W => ?_)
  obtain ⟨v, es⟩ := s
  simp only [List.cons_append, List.nil_append] at W ⊢
  refine wpC_sl (.tail .head) (fun _ h _ => by omega) (fun b cap junk e q1 q2 q3 => ?_)
  subst e
  have hci := ent_at (junk := junk) hi
  have hcj := ent_at (junk := junk) hj
  have hL : (l.flatMap entC ++ junk).length = l.length * 2 + junk.length := by rw [List.length_append, fm_length entC_len]
  (refine go ?_; intros)
  refine wpC_drawnT ?_
  (refine zt 9 ?_)
  refine wpZ_D [pileC p (.slice (some ⟨b, 0, none⟩) l.length cap) q, pts b (.cells (l.flatMap entC ++ junk).toArray 64 (0, 0))] 25 3 24 ?_
  ((first | refine dt 0 ?_ | refine dts 0 ?_); (first | refine dt 1 ?_ | refine dts 1 ?_); (first | refine dt 2 ?_ | refine dts 2 ?_); (first | refine dt 3 ?_ | refine dts 3 ?_); (first | refine dt 4 ?_ | refine dts 4 ?_); (first | refine dt 5 ?_ | refine dts 5 ?_); (first | refine dt 6 ?_ | refine dts 6 ?_); (first | refine dt 7 ?_ | refine dts 7 ?_); (first | refine dt 8 ?_ | refine dts 8 ?_); (first | refine dt 10 ?_ | refine dts 10 ?_); (first | refine dt 11 ?_ | refine dts 11 ?_); (first | refine dt 12 ?_ | refine dts 12 ?_); (first | refine dt 13 ?_ | refine dts 13 ?_); (first | refine dt 14 ?_ | refine dts 14 ?_); (first | refine dt 15 ?_ | refine dts 15 ?_))
  refine dtB 16 rfl (ev_load_agg rfl rfl rfl rfl (by repeat (first | exact Pick.head | apply Pick.tail)) hcj rfl) ?_
  ((first | refine dt 17 ?_ | refine dts 17 ?_); (first | refine dt 18 ?_ | refine dts 18 ?_); (first | refine dt 19 ?_ | refine dts 19 ?_); (first | refine dt 20 ?_ | refine dts 20 ?_); (first | refine df 21 ?_ | refine dfs 21 ?_); (first | refine df 22 ?_ | refine dfs 22 ?_))
  refine dfB 23 rfl (ev_load_agg rfl rfl rfl rfl (by repeat (first | exact Pick.head | apply Pick.tail)) hci rfl) ?_
  ((first | refine df 24 ?_ | refine dfs 24 ?_))
  refine dz ?_
  have hp1 := fm_put entC_len (m' := nth l j) (junk := junk) l i hi
  have hp2 := fm_put entC_len (m' := nth l i) (junk := junk) (l.set i (nth l j)) j (by simpa using hj)
  have hL1 : ((l.set i (nth l j)).flatMap entC ++ junk).length = l.length * 2 + junk.length := by rw [List.length_append, fm_length entC_len, List.length_set]
  (refine wpZ_unit 25 rfl rfl (by decide +kernel) rfl ?_; show OUL _ ⟨_, .store _ _ _, _, _, _, _⟩ _ _ _ _ _)
  refine x_storeP (l' := (l.set i (nth l j)).flatMap entC ++ junk) (vs := entC (nth l j)) (by rfl) (by rfl) (by rfl) (by rfl) (by rfl) (by rfl) (by repeat (first | exact Pick.head | apply Pick.tail)) (by rw [entC_len]; omega) (by rw [Nat.zero_add, entC_len]; exact hp1) ?_
  (refine zf 26 ?_)
  (refine wpZ_unit 27 rfl rfl (by decide +kernel) rfl ?_; show OUL _ ⟨_, .store _ _ _, _, _, _, _⟩ _ _ _ _ _)
  refine x_storeP (l' := (swp l i j).flatMap entC ++ junk) (vs := entC (nth l i)) (by rfl) (by rfl) (by rfl) (by rfl) (by rfl) (by rfl) (by repeat (first | exact Pick.head | apply Pick.tail)) (by rw [entC_len]; omega) (by rw [Nat.zero_add, entC_len]; exact hp2) ?_
  refine zend ?_
  (refine go ?_; intros)
  have hsl : (swp l i j).length = l.length := swp_length _ _ _
  have hwi := ent_who (junk := junk) (l := swp l i j) (i := i) (by omega)
  have hwj := ent_who (junk := junk) (l := swp l i j) (i := j) (by omega)
  have gi : nth (swp l i j) i = nth l j := by
    rw [nth_swp hi hj]; split
    · rename_i e; rw [e]
    · rw [if_pos rfl]
  have gj : nth (swp l i j) j = nth l i := by rw [nth_swp hi hj, if_pos rfl]
  rw [gi] at hwi
  rw [gj] at hwj
  obtain ⟨x1, hf1⟩ := mget_mfind (W.at' j hj)
  have hm2 : ∃ u, mget (mput es (nth l j).1 i) (nth l i).1 = some u := by
    rw [mget_mput]; split
    · exact ⟨_, rfl⟩
    · exact ⟨_, W.at' i hi⟩
  obtain ⟨u2, hm2⟩ := hm2
  obtain ⟨x2, hf2⟩ := mget_mfind hm2
  refine wpC_map (by repeat (first | exact Pick.head | apply Pick.tail)) (fun Lm ck hlm hB => ?_)
  obtain ⟨s1, hj1, hlm1, hB1⟩ := store_step (v := (i : Int)) hlm hB hf1
  obtain ⟨s2, hj2, hlm2, hB2⟩ := store_step (v := (j : Int)) hlm1 hB1 hf2
  refine wpC_drawnT ?_
  (refine zt 24 ?_; refine zt 25 ?_)
  refine wpZ_D [pileC p (.slice (some ⟨b, 0, none⟩) l.length cap) q, pts b (.cells ((swp l i j).flatMap entC ++ junk).toArray 64 (0, 0))] 26 6 24 ?_
  ((first | refine dt 0 ?_ | refine dts 0 ?_); (first | refine dt 1 ?_ | refine dts 1 ?_); (first | refine dt 2 ?_ | refine dts 2 ?_); (first | refine dt 3 ?_ | refine dts 3 ?_); (first | refine dt 4 ?_ | refine dts 4 ?_); (first | refine dt 5 ?_ | refine dts 5 ?_); (first | refine dt 6 ?_ | refine dts 6 ?_); (first | refine dt 7 ?_ | refine dts 7 ?_); (first | refine dt 8 ?_ | refine dts 8 ?_); (first | refine dt 9 ?_ | refine dts 9 ?_); (first | refine dt 10 ?_ | refine dts 10 ?_); (first | refine dt 11 ?_ | refine dts 11 ?_); (first | refine dt 12 ?_ | refine dts 12 ?_); (first | refine dt 13 ?_ | refine dts 13 ?_); (first | refine dt 14 ?_ | refine dts 14 ?_); (first | refine dt 15 ?_ | refine dts 15 ?_); (first | refine dt 16 ?_ | refine dts 16 ?_); (first | refine dt 17 ?_ | refine dts 17 ?_); (first | refine dt 18 ?_ | refine dts 18 ?_); (first | refine dt 19 ?_ | refine dts 19 ?_); (first | refine dt 20 ?_ | refine dts 20 ?_); (first | refine dt 21 ?_ | refine dts 21 ?_); (first | refine dt 22 ?_ | refine dts 22 ?_); (first | refine df 23 ?_ | refine dfs 23 ?_))
  refine dz ?_
  (refine wpZ_val 26 rfl rfl (by decide +kernel) rfl rfl ?_; show OVL _ ⟨_, .mapEntry _ _ _, _, _, _, _⟩ _ _ _ _ _ _)
  refine x_mapEntry (by rfl) (by rfl) (by rfl) (by rfl) (by repeat (first | exact Pick.head | apply Pick.tail)) hlm hf1 hj1 ?_
  (refine zf 27 ?_)
  (refine wpZ_unit 28 rfl rfl (by decide +kernel) rfl ?_; show OUL _ ⟨_, .entryStore _ _ _ _, _, _, _, _⟩ _ _ _ _ _)
  refine x_entryStore (by rfl) (by rfl) (by rfl) (by repeat (first | exact Pick.head | apply Pick.tail)) hB.1 hj1 ?_
  (refine wpZ_val 29 rfl rfl (by decide +kernel) rfl rfl ?_; show OVL _ ⟨_, .mapEntry _ _ _, _, _, _, _⟩ _ _ _ _ _ _)
  refine x_mapEntry (by rfl) (by rfl) (by rfl) (by rfl) (by repeat (first | exact Pick.head | apply Pick.tail)) hlm1 hf2 hj2 ?_
  (refine zf 30 ?_)
  (refine wpZ_unit 31 rfl rfl (by decide +kernel) rfl ?_; show OUL _ ⟨_, .entryStore _ _ _ _, _, _, _, _⟩ _ _ _ _ _)
  refine x_entryStore (by rfl) (by rfl) (by rfl) (by repeat (first | exact Pick.head | apply Pick.tail)) hB1.1 hj2 ?_
  refine zend ?_
  (refine go ?_; intros)
  refine q_ret0 rfl () rfl trivial ?_ _ (Or.inr rfl)
  refine pile_close (l := l) hsl (W.swap hi hj) q1 q2 q3 (Ent.trans (N := mapR q _ ck :: pileC p (.slice (some ⟨b, 0, none⟩) l.length cap) q :: pts b (.cells ((swp l i j).flatMap entC ++ junk).toArray 64 (0, 0)) :: []) (by ((try simp only [List.cons_append, List.nil_append]); repeat (first | exact Ent.nil | (apply Ent.cons; repeat (first | exact Pick.head | apply Pick.tail))))) (Ent.trans (Ent.mapI hlm2 hB2) (by ((try simp only [List.cons_append, List.nil_append]); repeat (first | exact Ent.nil | (apply Ent.cons; repeat (first | exact Pick.head | apply Pick.tail)))))))
end Go.Proofs.Ytjhlpieehhpmgaa
