/-
  The package flight told by the list of what is on its way.
-/
import Derived.Test.YtaodhkiejnipmaaDoorFltB
set_option linter.unusedSimpArgs false
set_option linter.unusedVariables false
set_option maxRecDepth 20000
namespace Go.Proofs.YtaodhkiejnipmaaDoor
open Go Go.Sx
structure FltSt where
  d : Nat
  v : Value
  ps : List Nat
  T : List Bool
def fltI (f : Nat) (L : List PSent) : HProp := exI (σ := FltSt) (fun s => FltInv L s.T ∧ s.ps.length = L.length) fun s => [fltC f s.v s.d, idsI s.d 65535 s.T, ptrsI s.v s.ps, starI (blks s.ps L)]
abbrev sentsI (v : Value) (L : List PSent) : HProp := sl 86 6 v L.length (L.flatMap sentC)
abbrev pktsI (v : Value) (l : List PPkt) : HProp := sl 83 24 v l.length (l.flatMap pktC)
def msgV (m : PMsg) : Value := .agg m.cells.toArray
theorem sentsI_snoc (w : Value) (L : List PSent) (s : PSent) : sl 86 6 w (L.length + 1) (L.flatMap sentC ++ sentC s) = sentsI w (L ++ [s]) := by simp [sentsI]
theorem pktsI_snoc (w : Value) (l : List PPkt) (s : PPkt) : sl 83 24 w (l.length + 1) (l.flatMap pktC ++ pktC s) = pktsI w (l ++ [s]) := by simp [pktsI]
theorem ptrsI_snoc (w : Value) (ps : List Nat) (p : Nat) : sl 119 1 w (ps.length + 1) (ptrs ps ++ [ptr p]) = ptrsI w (ps ++ [p]) := by simp [ptrsI, ptrs]
structure FaSt where
  k : Nat
  w : Value
attribute [local irreducible] MidQ wpE wpO wpC qE wpQ wpQO wpH wpHO wpD wpDO wpZ Ev own emp exI sl ch PostS LoopQ Rd rowsAt
attribute [local irreducible] starI
theorem fltI_mk {f d : Nat} {v : Value} {ps : List Nat} {T : List Bool} {L : List PSent} {M R : List HProp} (I : FltInv L T) (hl : ps.length = L.length) (e : Ent M ([fltC f v d, idsI d 65535 T, ptrsI v ps, starI (blks ps L)] ++ R)) : Ent M (fltI f L :: R) :=
  Ent.fold (⟨d, v, ps, T⟩ : FltSt) ⟨I, hl⟩ e
theorem flt_new : FnDoes Tryd.prog 30 [] [] (fun _ : Nat => True) (fun f => ptr f) (fun f => [fltI f []]) := by
  refine does_of Tryd.func30 rfl rfl Tryd.ntmps30 rfl (by simp only [enum, Nat.reduceAdd, Nat.zero_add]; exact rfl) (fun c => ?_)
  (refine go ?_; intros)
  (show wpO _ _ ⟨_, .call _, _, _, _, _⟩ _ _ _ _ _ _; refine o_callA (ids_newS 65535 (by decide) (by decide)) (fun d _ => ?_); try simp only [List.cons_append, List.nil_append])
  (refine go ?_; intro f)
  (refine go ?_; intros)
  refine q_ret1 rfl rfl f rfl trivial ?_
  exact fltI_mk (v := .slice none 0 0) (ps := []) flt_nil rfl (Ent.cons (by repeat (first | exact Pick.head | apply Pick.tail)) (Ent.cons (by repeat (first | exact Pick.head | apply Pick.tail)) (Ent.slNil (Ent.starNil Ent.nil))))
theorem flt_len (f : Nat) (L : List PSent) : FnDoes Tryd.prog 56 [ptr f] [fltI f L] (fun _ : Unit => True) (fun _ => .int .i64 L.length) (fun _ => [fltI f L]) := by
  refine does_of Tryd.func56 rfl rfl Tryd.ntmps56 rfl (by simp only [enum, Nat.reduceAdd, Nat.zero_add]; exact rfl) (fun c => ?_)
  refine wpC_unfold .head (fun s hs => ?_)
  obtain ⟨d, v, ps, T⟩ := s
  simp only [List.cons_append, List.nil_append] at hs ⊢
  obtain ⟨I, hl⟩ := hs
  (refine go ?_; intros)
  (show wpO _ _ ⟨_, .call _, _, _, _, _⟩ _ _ _ _ _ _; refine o_callA (flt_none f d v) (fun _ _ => ?_); try simp only [List.cons_append, List.nil_append])
  (refine go ?_; intros)
  exact q_ret1 rfl rfl () (by rw [hl]) trivial (fltI_mk I hl (by ((try simp only [List.cons_append, List.nil_append]); repeat (first | exact Ent.nil | (apply Ent.cons; repeat (first | exact Pick.head | apply Pick.tail))))))
theorem flt_all (f : Nat) (L : List PSent) : FnDoes Tryd.prog 38 [ptr f] [fltI f L] (fun _ : Value => True) (fun w => w) (fun w => [fltI f L, sentsI w L]) := by
  refine does_of Tryd.func38 rfl rfl Tryd.ntmps38 rfl (by simp only [enum, Nat.reduceAdd, Nat.zero_add]; exact rfl) (fun c => ?_)
  refine wpC_unfold .head (fun s hs => ?_)
  obtain ⟨d, v, ps, T⟩ := s
  simp only [List.cons_append, List.nil_append] at hs ⊢
  obtain ⟨I, hl⟩ := hs
  have h8 := I.S.len
  have hr : Rd (ptrsI v ps) 1 v ps.length (ptrs ps) := Rd.ofSl
  refine wpC_fact (hr.isSlice (by repeat (first | exact Pick.head | apply Pick.tail))) (fun hk => ?_)
  obtain ⟨a, cap, rfl, hk⟩ := hk
  (refine go ?_; intros)
  (show wpO _ _ ⟨_, .call _, _, _, _, _⟩ _ _ _ _ _ _; refine o_callA (flt_none f d (.slice a ps.length cap)) (fun _ _ => ?_); try simp only [List.cons_append, List.nil_append])
  (refine go ?_; intros)
  refine wpC_loop (σ := FaSt) (fun s => s.k ≤ L.length) (fun s => [(0, ptr f), (3, s.w), (11, .slice a ps.length cap), (12, .int .i64 ps.length), (13, .int .i64 s.k)])
    (fun s => [fltC f (.slice a ps.length cap) d, idsI d 65535 T, ptrsI (.slice a ps.length cap) ps, starI (blks ps L), sentsI s.w (L.take s.k)]) (fun s => L.length - s.k) ⟨0, .slice none 0 0⟩ (Nat.zero_le _) (by repeat (first | exact trivial | refine ⟨rfl, ?_⟩)) (Ent.cons (by repeat (first | exact Pick.head | apply Pick.tail)) (Ent.cons (by repeat (first | exact Pick.head | apply Pick.tail)) (Ent.cons (by repeat (first | exact Pick.head | apply Pick.tail)) (Ent.cons (by repeat (first | exact Pick.head | apply Pick.tail)) (Ent.slNil Ent.nil))))) (fun s hs => ?_)
  obtain ⟨j, w⟩ := s
  simp only at hs ⊢
  by_cases hjl : j < L.length
  · obtain ⟨b, o, rfl, _⟩ := hk (by omega)
    have hjp : j < ps.length := by omega
    have hcell : (ptrs ps)[j * 1]? = some (ptr ps[j]) := by rw [Nat.mul_one]; simp [ptrs, hjp]
    have hb := blks_at (ps := ps) (L := L) (i := j) hjp hjl
    have htk : L.take (j + 1) = L.take j ++ [L[j]] := by rw [List.take_add_one, List.getElem?_eq_getElem hjl]; rfl
    have hlt : (L.take j).length = j := by rw [List.length_take]; omega
    (refine go ?_; intros)
    refine o_evB (ev_load_rd rfl rfl rfl hr (by repeat (first | exact Pick.head | apply Pick.tail)) rfl hcell) ?_
    (refine go ?_; intros)
    refine o_evB (ev_load_star_agg (i := j) (vs := sentC L[j]) rfl rfl rfl rfl (by repeat (first | exact Pick.head | apply Pick.tail)) hb rfl rfl) ?_
    (refine go ?_; intro eb)
    refine o_append (sz := 6) (news := sentC L[j]) (m := 1) rfl rfl rfl rfl rfl rfl rfl rfl (by repeat (first | exact Pick.head | apply Pick.tail)) ?_ ?_ rfl (fun w' => ?_)
    · exact src_pts rfl (by repeat (first | exact Pick.head | apply Pick.tail)) rfl rfl rfl
    · show ((L.take j).length + 1) * 64 ≤ 140737488355328
      omega
    rw [sentsI_snoc, ← htk]
    (refine go ?_; intros)
    refine q_round ⟨j + 1, w'⟩ (by simp only; omega) (by simp only; omega) (by repeat (first | exact trivial | refine ⟨rfl, ?_⟩)) (by ((try simp only [List.cons_append, List.nil_append]); repeat (first | exact Ent.nil | (apply Ent.cons; repeat (first | exact Pick.head | apply Pick.tail)))))
  · obtain rfl : j = L.length := by omega
    rw [List.take_length]
    (refine go ?_; intros)
    exact q_ret1 rfl rfl w rfl trivial (fltI_mk I hl (by ((try simp only [List.cons_append, List.nil_append]); repeat (first | exact Ent.nil | (apply Ent.cons; repeat (first | exact Pick.head | apply Pick.tail))))))
theorem flt_again (f : Nat) (L : List PSent) : FnDoes Tryd.prog 37 [ptr f] [fltI f L] (fun _ : Value => True) (fun w => w) (fun w => [fltI f L, pktsI w (L.map againP)]) := by
  refine does_of Tryd.func37 rfl rfl Tryd.ntmps37 rfl (by simp only [enum, Nat.reduceAdd, Nat.zero_add]; exact rfl) (fun c => ?_)
  refine wpC_unfold .head (fun s hs => ?_)
  obtain ⟨d, v, ps, T⟩ := s
  simp only [List.cons_append, List.nil_append] at hs ⊢
  obtain ⟨I, hl⟩ := hs
  have h8 := I.S.len
  have hr : Rd (ptrsI v ps) 1 v ps.length (ptrs ps) := Rd.ofSl
  refine wpC_fact (hr.isSlice (by repeat (first | exact Pick.head | apply Pick.tail))) (fun hk => ?_)
  obtain ⟨a, cap, rfl, hk⟩ := hk
  (refine go ?_; intros)
  (show wpO _ _ ⟨_, .call _, _, _, _, _⟩ _ _ _ _ _ _; refine o_callA (flt_none f d (.slice a ps.length cap)) (fun _ _ => ?_); try simp only [List.cons_append, List.nil_append])
  (refine go ?_; intros)
  refine wpC_loop (σ := FaSt) (fun s => s.k ≤ L.length) (fun s => [(0, ptr f), (3, s.w), (11, .slice a ps.length cap), (12, .int .i64 ps.length), (13, .int .i64 s.k)])
    (fun s => [fltC f (.slice a ps.length cap) d, idsI d 65535 T, ptrsI (.slice a ps.length cap) ps, starI (blks ps L), pktsI s.w ((L.map againP).take s.k)]) (fun s => L.length - s.k) ⟨0, .slice none 0 0⟩ (Nat.zero_le _) (by repeat (first | exact trivial | refine ⟨rfl, ?_⟩)) (Ent.cons (by repeat (first | exact Pick.head | apply Pick.tail)) (Ent.cons (by repeat (first | exact Pick.head | apply Pick.tail)) (Ent.cons (by repeat (first | exact Pick.head | apply Pick.tail)) (Ent.cons (by repeat (first | exact Pick.head | apply Pick.tail)) (Ent.slNil Ent.nil))))) (fun s hs => ?_)
  obtain ⟨j, w⟩ := s
  simp only at hs ⊢
  by_cases hjl : j < L.length
  · obtain ⟨b, o, rfl, _⟩ := hk (by omega)
    have hjp : j < ps.length := by omega
    have hcell : (ptrs ps)[j * 1]? = some (ptr ps[j]) := by rw [Nat.mul_one]; simp [ptrs, hjp]
    have hb := blks_at (ps := ps) (L := L) (i := j) hjp hjl
    have hbl := blks_len hl
    have hbs := blks_set (ps := ps) (L := L) (i := j) (s := L[j]) hjp hl
    rw [List.set_getElem_self] at hbs
    have hml : j < (L.map againP).length := by rw [List.length_map]; exact hjl
    have htk : (L.map againP).take (j + 1) = (L.map againP).take j ++ [againP L[j]] := by rw [List.take_add_one, List.getElem?_eq_getElem hml, List.getElem_map]; rfl
    have hlt : ((L.map againP).take j).length = j := by rw [List.length_take]; omega
    (refine go ?_; intros)
    refine o_evB (ev_load_rd rfl rfl rfl hr (by repeat (first | exact Pick.head | apply Pick.tail)) rfl hcell) ?_
    (refine go ?_; intros)
    refine wpO_ent (Ent.out (by repeat (first | exact Pick.head | apply Pick.tail)) hb) ?_
    (show wpO _ _ ⟨_, .call _, _, _, _, _⟩ _ _ _ _ _ _; refine o_callA (sent_again ps[j] L[j]) (fun _ _ => ?_); try simp only [List.cons_append, List.nil_append])
    refine wpE_ent (Ent.back (l := blks ps L) (i := j) (by repeat (first | exact Pick.head | apply Pick.tail)) (by repeat (first | exact Pick.head | apply Pick.tail)) (by omega)) ?_
    rw [hbs]
    (refine go ?_; intro eb)
    refine o_append (sz := 24) (news := pktC (againP L[j])) (m := 1) rfl rfl rfl rfl rfl rfl rfl rfl (by repeat (first | exact Pick.head | apply Pick.tail)) ?_ ?_ rfl (fun w' => ?_)
    · exact src_pts rfl (by repeat (first | exact Pick.head | apply Pick.tail)) rfl rfl rfl
    · show (((L.map againP).take j).length + 1) * 280 ≤ 140737488355328
      omega
    rw [pktsI_snoc, ← htk]
    (refine go ?_; intros)
    refine q_round ⟨j + 1, w'⟩ (by simp only; omega) (by simp only; omega) (by repeat (first | exact trivial | refine ⟨rfl, ?_⟩)) (by ((try simp only [List.cons_append, List.nil_append]); repeat (first | exact Ent.nil | (apply Ent.cons; repeat (first | exact Pick.head | apply Pick.tail)))))
  · obtain rfl : j = L.length := by omega
    rw [List.take_of_length_le (by simp)]
    (refine go ?_; intros)
    exact q_ret1 rfl rfl w rfl trivial (fltI_mk I hl (by ((try simp only [List.cons_append, List.nil_append]); repeat (first | exact Ent.nil | (apply Ent.cons; repeat (first | exact Pick.head | apply Pick.tail))))))
theorem flt_rec (f : Nat) (L : List PSent) (id : Int) : FnDoes Tryd.prog 50 [ptr f, .int .i64 id] [fltI f L] (fun _ : Unit => True) (fun _ => .bool (recV L id)) (fun _ => [fltI f (recL L id)]) := by
  refine does_of Tryd.func50 rfl rfl Tryd.ntmps50 rfl (by simp only [enum, Nat.reduceAdd, Nat.zero_add]; exact rfl) (fun c => ?_)
  refine wpC_unfold .head (fun s hs => ?_)
  obtain ⟨d, v, ps, T⟩ := s
  simp only [List.cons_append, List.nil_append] at hs ⊢
  obtain ⟨I, hl⟩ := hs
  have h8 := I.S.len
  have F := flt_find f d v ps L id hl h8
  cases hx : idxF L id with
  | none =>
    obtain ⟨e1, e2⟩ := rec_no hx
    rw [hx] at F
    rw [e1, e2]
    simp only [fptr] at F
    (refine go ?_; intros)
    (show wpO _ _ ⟨_, .call _, _, _, _, _⟩ _ _ _ _ _ _; refine o_callA (F) (fun _ _ => ?_); try simp only [List.cons_append, List.nil_append])
    (refine go ?_; intros)
    exact q_ret1 rfl rfl () rfl trivial (fltI_mk I hl (by ((try simp only [List.cons_append, List.nil_append]); repeat (first | exact Ent.nil | (apply Ent.cons; repeat (first | exact Pick.head | apply Pick.tail))))))
  | some i =>
    obtain ⟨hi, _, _⟩ := idxF_lt hx
    have hip : i < ps.length := by omega
    have hb := blks_at (ps := ps) (L := L) (i := i) hip hi
    have hbl := blks_len hl
    rw [hx] at F
    simp only [fptr, getD_at hip] at F
    have A := sent_acked ps[i] L[i]
    by_cases hs : L[i].st = 1
    · obtain ⟨e1, e2⟩ := rec_not hx hi hs
      rw [decide_eq_true hs] at A
      have hbs := blks_set (ps := ps) (L := L) (i := i) (s := L[i]) hip hl
      rw [List.set_getElem_self] at hbs
      rw [e1, e2]
      (refine go ?_; intros)
      (show wpO _ _ ⟨_, .call _, _, _, _, _⟩ _ _ _ _ _ _; refine o_callA (F) (fun _ _ => ?_); try simp only [List.cons_append, List.nil_append])
      (refine go ?_; intros)
      refine wpO_ent (Ent.out (by repeat (first | exact Pick.head | apply Pick.tail)) hb) ?_
      (show wpO _ _ ⟨_, .call _, _, _, _, _⟩ _ _ _ _ _ _; refine o_callA (A) (fun _ _ => ?_); try simp only [List.cons_append, List.nil_append])
      refine wpE_ent (Ent.back (l := blks ps L) (i := i) (by repeat (first | exact Pick.head | apply Pick.tail)) (by repeat (first | exact Pick.head | apply Pick.tail)) (by omega)) ?_
      rw [hbs]
      (refine go ?_; intros)
      exact q_ret1 rfl rfl () rfl trivial (fltI_mk I hl (by ((try simp only [List.cons_append, List.nil_append]); repeat (first | exact Ent.nil | (apply Ent.cons; repeat (first | exact Pick.head | apply Pick.tail))))))
    · obtain ⟨e1, e2⟩ := rec_yes hx hi hs
      rw [decide_eq_false hs] at A
      have hbs := blks_set (ps := ps) (L := L) (i := i) (s := { L[i] with st := 3 }) hip hl
      rw [e1, e2]
      (refine go ?_; intros)
      (show wpO _ _ ⟨_, .call _, _, _, _, _⟩ _ _ _ _ _ _; refine o_callA (F) (fun _ _ => ?_); try simp only [List.cons_append, List.nil_append])
      (refine go ?_; intros)
      refine wpO_ent (Ent.out (by repeat (first | exact Pick.head | apply Pick.tail)) hb) ?_
      (show wpO _ _ ⟨_, .call _, _, _, _, _⟩ _ _ _ _ _ _; refine o_callA (A) (fun _ _ => ?_); try simp only [List.cons_append, List.nil_append])
      simp only [sentI]
      (refine go ?_; intros)
      refine q_ret1 rfl rfl () rfl trivial ?_
      refine fltI_mk (d := d) (v := v) (ps := ps) (I.recd hi hs) (by simp [hl]) ?_
      rw [← hbs]
      refine Ent.trans (N := sentI ps[i] { L[i] with st := 3 } :: starI ((blks ps L).eraseIdx i) :: fltC f v d :: ptrsI v ps :: idsI d 65535 T :: []) (by unfold sentI; ((try simp only [List.cons_append, List.nil_append]); repeat (first | exact Ent.nil | (apply Ent.cons; repeat (first | exact Pick.head | apply Pick.tail))))) ?_
      exact Ent.trans (Ent.back (l := blks ps L) (i := i) .head .head (by omega)) (by ((try simp only [List.cons_append, List.nil_append]); repeat (first | exact Ent.nil | (apply Ent.cons; repeat (first | exact Pick.head | apply Pick.tail)))))
theorem flt_end (f : Nat) (L : List PSent) (id st : Int) (g : FuncId) (G : ∀ p s, FnDoes Tryd.prog g [ptr p] [sentI p s] (fun _ : Unit => True) (fun _ => .bool (decide (s.st = st))) (fun _ => [sentI p s])) :
    FnDoes Tryd.prog 72 [ptr f, .int .i64 id, .func (.func g) #[] #[]] [fltI f L] (fun _ : Unit => True) (fun _ => .bool (endV L id st)) (fun _ => [fltI f (endL L id st)]) := by
  refine does_of Tryd.func72 rfl rfl Tryd.ntmps72 rfl (by simp only [enum, Nat.reduceAdd, Nat.zero_add]; exact rfl) (fun c => ?_)
  refine wpC_unfold .head (fun s hs => ?_)
  obtain ⟨d, v, ps, T⟩ := s
  simp only [List.cons_append, List.nil_append] at hs ⊢
  obtain ⟨I, hl⟩ := hs
  have h8 := I.S.len
  have F := flt_find f d v ps L id hl h8
  cases hx : idxF L id with
  | none =>
    obtain ⟨e1, e2⟩ := end_no (st := st) hx
    rw [hx] at F
    rw [e1, e2]
    simp only [fptr] at F
    (refine go ?_; intros)
    (show wpO _ _ ⟨_, .call _, _, _, _, _⟩ _ _ _ _ _ _; refine o_callA (F) (fun _ _ => ?_); try simp only [List.cons_append, List.nil_append])
    (refine go ?_; intro t)
    (refine go ?_; intros)
    exact q_ret1 rfl rfl () rfl trivial (fltI_mk I hl (by ((try simp only [List.cons_append, List.nil_append]); repeat (first | exact Ent.nil | (apply Ent.cons; repeat (first | exact Pick.head | apply Pick.tail))))))
  | some i =>
    obtain ⟨hi, hid, _⟩ := idxF_lt hx
    have hip : i < ps.length := by omega
    have hb := blks_at (ps := ps) (L := L) (i := i) hip hi
    have hbl := blks_len hl
    have hbs := blks_set (ps := ps) (L := L) (i := i) (s := L[i]) hip hl
    rw [List.set_getElem_self] at hbs
    rw [hx] at F
    simp only [fptr, getD_at hip] at F
    have A := G ps[i] L[i]
    by_cases hs : L[i].st = st
    · obtain ⟨e1, e2⟩ := end_yes hx hi hs
      rw [decide_eq_true hs] at A
      rw [e1, e2]
      obtain ⟨ok1, ok2, _⟩ := I.S.ok L[i] (List.getElem_mem hi)
      obtain ⟨k, hk⟩ : ∃ k : Nat, L[i].id = (k : Int) := ⟨L[i].id.toNat, by omega⟩
      have hidk : id = (k : Int) := by omega
      have hT := (I.tk k (by omega) (by omega)).2 ⟨L[i], List.getElem_mem hi, hk⟩
      obtain ⟨g1, g2⟩ := give_yes (T := T) (k := k) (by omega) (by rw [I.tl]; omega) hT
      have Gv := ids_giveS d 65535 T id
      rw [hidk] at Gv
      rw [g1, g2] at Gv
      have D := fun t => delete_func t i v ps L hl h8 hip
      subst hidk
      (refine go ?_; intros)
      (show wpO _ _ ⟨_, .call _, _, _, _, _⟩ _ _ _ _ _ _; refine o_callA (F) (fun _ _ => ?_); try simp only [List.cons_append, List.nil_append])
      (refine go ?_; intro t)
      refine wpO_ent (Ent.out (by repeat (first | exact Pick.head | apply Pick.tail)) hb) ?_
      refine o_callVA (args := [ptr ps[i]]) (fr := []) A (fun _ _ => ?_)
      refine wpE_ent (Ent.back (l := blks ps L) (i := i) (by repeat (first | exact Pick.head | apply Pick.tail)) (by repeat (first | exact Pick.head | apply Pick.tail)) (by omega)) ?_
      rw [hbs]
      (refine go ?_; intros)
      refine o_evB (ev_makeFunc (bs := []) (fs := [.tmp 7]) rfl rfl) ?_
      (refine go ?_; intros)
      refine o_callA (D t) (fun w _ => ?_)
      simp only [List.cons_append, List.nil_append]
      refine wpE_fact (sl_one (v := w) (by repeat (first | exact Pick.head | apply Pick.tail))) (fun hw => ?_)
      (refine go ?_; intros)
      (show wpO _ _ ⟨_, .call _, _, _, _, _⟩ _ _ _ _ _ _; refine o_callA (Gv) (fun _ _ => ?_); try simp only [List.cons_append, List.nil_append])
      (refine go ?_; intros)
      refine q_ret1 rfl rfl () rfl trivial ?_
      refine fltI_mk (d := d) (v := w) (ps := ps.eraseIdx i) (I.erase hi hk) (by rw [List.length_eraseIdx, List.length_eraseIdx, if_pos hip, if_pos hi, hl]) ?_
      rw [← blks_erase hl]
      refine Ent.trans (Ent.out (A := sentI ps[i] L[i]) (l := blks ps L) (i := i) (by repeat (first | exact Pick.head | apply Pick.tail)) hb) (by ((try simp only [List.cons_append, List.nil_append]); repeat (first | exact Ent.nil | (apply Ent.cons; repeat (first | exact Pick.head | apply Pick.tail)))))
    · obtain ⟨e1, e2⟩ := end_not hx hi hs
      rw [decide_eq_false hs] at A
      rw [e1, e2]
      (refine go ?_; intros)
      (show wpO _ _ ⟨_, .call _, _, _, _, _⟩ _ _ _ _ _ _; refine o_callA (F) (fun _ _ => ?_); try simp only [List.cons_append, List.nil_append])
      (refine go ?_; intro t)
      refine wpO_ent (Ent.out (by repeat (first | exact Pick.head | apply Pick.tail)) hb) ?_
      refine o_callVA (args := [ptr ps[i]]) (fr := []) A (fun _ _ => ?_)
      refine wpE_ent (Ent.back (l := blks ps L) (i := i) (by repeat (first | exact Pick.head | apply Pick.tail)) (by repeat (first | exact Pick.head | apply Pick.tail)) (by omega)) ?_
      rw [hbs]
      (refine go ?_; intros)
      exact q_ret1 rfl rfl () rfl trivial (fltI_mk I hl (by ((try simp only [List.cons_append, List.nil_append]); repeat (first | exact Ent.nil | (apply Ent.cons; repeat (first | exact Pick.head | apply Pick.tail))))))
theorem flt_ack (f : Nat) (L : List PSent) (id : Int) : FnDoes Tryd.prog 48 [ptr f, .int .i64 id] [fltI f L] (fun _ : Unit => True) (fun _ => .bool (endV L id 1)) (fun _ => [fltI f (endL L id 1)]) := by
  refine does_of Tryd.func48 rfl rfl Tryd.ntmps48 rfl (by simp only [enum, Nat.reduceAdd, Nat.zero_add]; exact rfl) (fun c => ?_)
  (refine go ?_; intros)
  (show wpO _ _ ⟨_, .call _, _, _, _, _⟩ _ _ _ _ _ _; refine o_callA (flt_end f L id 1 _ sent_acked) (fun _ _ => ?_); try simp only [List.cons_append, List.nil_append])
  (refine go ?_; intros)
  exact q_ret1 rfl rfl () rfl trivial (by ((try simp only [List.cons_append, List.nil_append]); repeat (first | exact Ent.nil | (apply Ent.cons; repeat (first | exact Pick.head | apply Pick.tail)))))
theorem flt_comp (f : Nat) (L : List PSent) (id : Int) : FnDoes Tryd.prog 49 [ptr f, .int .i64 id] [fltI f L] (fun _ : Unit => True) (fun _ => .bool (endV L id 3)) (fun _ => [fltI f (endL L id 3)]) := by
  refine does_of Tryd.func49 rfl rfl Tryd.ntmps49 rfl (by simp only [enum, Nat.reduceAdd, Nat.zero_add]; exact rfl) (fun c => ?_)
  (refine go ?_; intros)
  (show wpO _ _ ⟨_, .call _, _, _, _, _⟩ _ _ _ _ _ _; refine o_callA (flt_end f L id 3 _ sent_finished) (fun _ _ => ?_); try simp only [List.cons_append, List.nil_append])
  (refine go ?_; intros)
  exact q_ret1 rfl rfl () rfl trivial (by ((try simp only [List.cons_append, List.nil_append]); repeat (first | exact Ent.nil | (apply Ent.cons; repeat (first | exact Pick.head | apply Pick.tail)))))
theorem flt_send (f : Nat) (L : List PSent) (m : PMsg) : FnDoes Tryd.prog 58 [ptr f, msgV m] [fltI f L] (fun y : SendR => SendOk L m y) (fun y => .tuple #[.int .i64 y.id, .int .i64 y.e]) (fun y => [fltI f y.L]) := by
  refine does_of Tryd.func58 rfl rfl Tryd.ntmps58 rfl (by simp only [enum, Nat.reduceAdd, Nat.zero_add]; exact rfl) (fun c => ?_)
  refine wpC_unfold .head (fun s hs => ?_)
  obtain ⟨d, v, ps, T⟩ := s
  simp only [List.cons_append, List.nil_append] at hs ⊢
  obtain ⟨I, hl⟩ := hs
  have h8 := I.S.len
  by_cases q0 : m.qos < 1 ∨ 2 < m.qos
  · by_cases q1 : m.qos < 1
    all_goals
      (refine go ?_; intro mb)
      (show wpO _ _ ⟨_, .call _, _, _, _, _⟩ _ _ _ _ _ _; refine o_callA (flt_none f d v) (fun _ _ => ?_); try simp only [List.cons_append, List.nil_append])
      (refine go ?_; intros)
      refine q_ret2 rfl rfl rfl ⟨0, 10, L⟩ rfl (by unfold SendOk; rw [if_pos q0]) (fltI_mk I hl (by ((try simp only [List.cons_append, List.nil_append]); repeat (first | exact Ent.nil | (apply Ent.cons; repeat (first | exact Pick.head | apply Pick.tail))))))
  have hq1 : ¬ m.qos < 1 := by omega
  have hq2 : ¬ 2 < m.qos := by omega
  by_cases c8 : 8 ≤ L.length
  · have hc : 8 ≤ (ps.length : Int) := by omega
    (refine go ?_; intro mb)
    (show wpO _ _ ⟨_, .call _, _, _, _, _⟩ _ _ _ _ _ _; refine o_callA (flt_none f d v) (fun _ _ => ?_); try simp only [List.cons_append, List.nil_append])
    (refine go ?_; intros)
    refine q_ret2 rfl rfl rfl ⟨0, 6, L⟩ rfl (by unfold SendOk; rw [if_neg q0, if_pos c8]) (fltI_mk I hl (by ((try simp only [List.cons_append, List.nil_append]); repeat (first | exact Ent.nil | (apply Ent.cons; repeat (first | exact Pick.head | apply Pick.tail))))))
  have hc : ¬ 8 ≤ (ps.length : Int) := by omega
  (refine go ?_; intro mb)
  (show wpO _ _ ⟨_, .call _, _, _, _, _⟩ _ _ _ _ _ _; refine o_callA (flt_none f d v) (fun _ _ => ?_); try simp only [List.cons_append, List.nil_append])
  (refine go ?_; intros)
  (show wpO _ _ ⟨_, .call _, _, _, _, _⟩ _ _ _ _ _ _; refine o_callA (ids_takeS d 65535 T) (fun y hy => ?_); try simp only [List.cons_append, List.nil_append])
  obtain ⟨k, rfl, hk, hk9⟩ := I.free hy
  simp only [Option.getD_some, Option.isSome_some, if_true]
  have hT := I.send (m := m) hk hk9 (by omega) (by omega)
  by_cases hq : m.qos = 2
  · have hst : stOf m = 2 := by simp [stOf, hq]
    rw [hst] at hT
    (refine go ?_; intro p)
    (refine go ?_; intros)
    refine o_append (sz := 1) (news := [ptr p]) (m := 1) rfl rfl rfl rfl rfl rfl rfl rfl (by repeat (first | exact Pick.head | apply Pick.tail)) ?_ ?_ rfl (fun w' => ?_)
    · exact src_pts rfl (by repeat (first | exact Pick.head | apply Pick.tail)) rfl rfl rfl
    · show (ps.length + 1) * 8 ≤ 140737488355328
      omega
    rw [ptrsI_snoc]
    refine wpE_fact (sl_one (v := w') (by repeat (first | exact Pick.head | apply Pick.tail))) (fun hw => ?_)
    (refine go ?_; intros)
    refine q_ret2 rfl rfl rfl ⟨k, 0, L ++ [⟨k, 2, m⟩]⟩ rfl (by unfold SendOk; rw [if_neg q0, if_neg c8, ← hst]; exact ⟨k, hk, rfl⟩) ?_
    refine fltI_mk (d := d) (v := w') (ps := ps ++ [p]) (T := tookT T (some k)) hT (by simp [hl]) ?_
    rw [← blks_snoc hl]
    refine Ent.cons (by repeat (first | exact Pick.head | apply Pick.tail)) (Ent.cons (by repeat (first | exact Pick.head | apply Pick.tail)) (Ent.cons (by repeat (first | exact Pick.head | apply Pick.tail)) ?_))
    exact Ent.trans (N := sentI p ⟨k, 2, m⟩ :: starI (blks ps L) :: []) (by unfold sentI; ((try simp only [List.cons_append, List.nil_append]); repeat (first | exact Ent.nil | (apply Ent.cons; repeat (first | exact Pick.head | apply Pick.tail))))) Ent.starSnoc
  · have hst : stOf m = 1 := by simp [stOf, hq]
    rw [hst] at hT
    (refine go ?_; intro p)
    (refine go ?_; intros)
    refine o_append (sz := 1) (news := [ptr p]) (m := 1) rfl rfl rfl rfl rfl rfl rfl rfl (by repeat (first | exact Pick.head | apply Pick.tail)) ?_ ?_ rfl (fun w' => ?_)
    · exact src_pts rfl (by repeat (first | exact Pick.head | apply Pick.tail)) rfl rfl rfl
    · show (ps.length + 1) * 8 ≤ 140737488355328
      omega
    rw [ptrsI_snoc]
    refine wpE_fact (sl_one (v := w') (by repeat (first | exact Pick.head | apply Pick.tail))) (fun hw => ?_)
    (refine go ?_; intros)
    refine q_ret2 rfl rfl rfl ⟨k, 0, L ++ [⟨k, 1, m⟩]⟩ rfl (by unfold SendOk; rw [if_neg q0, if_neg c8, ← hst]; exact ⟨k, hk, rfl⟩) ?_
    refine fltI_mk (d := d) (v := w') (ps := ps ++ [p]) (T := tookT T (some k)) hT (by simp [hl]) ?_
    rw [← blks_snoc hl]
    refine Ent.cons (by repeat (first | exact Pick.head | apply Pick.tail)) (Ent.cons (by repeat (first | exact Pick.head | apply Pick.tail)) (Ent.cons (by repeat (first | exact Pick.head | apply Pick.tail)) ?_))
    exact Ent.trans (N := sentI p ⟨k, 1, m⟩ :: starI (blks ps L) :: []) (by unfold sentI; ((try simp only [List.cons_append, List.nil_append]); repeat (first | exact Ent.nil | (apply Ent.cons; repeat (first | exact Pick.head | apply Pick.tail))))) Ent.starSnoc
end Go.Proofs.YtaodhkiejnipmaaDoor
