/-
  The document's sessions (crierref28).
  The document's sessions: a new one; a client opens.
-/
import Derived.Test.YtmlcikcdegodaaaDoorPlN
import Derived.Test.YtmlcikcdegodaaaDoorSesR
import Derived.Test.YtmlcikcdegodaaaDoorSesN
import Derived.Test.YtmlcikcdegodaaaDoorUtfR
import Derived.Test.YtmlcikcdegodaaaDoorSxP
set_option linter.unusedSimpArgs false
set_option linter.unusedVariables false
set_option maxRecDepth 20000
namespace Go.Proofs.YtmlcikcdegodaaaDoor
open Go Go.Sx
def refP : Slot → Value
  | none => .pointer none
  | some (p, _) => ptr p
abbrev rssC (x : Nat) (L : List Slot) : HProp := pts x (.cells (L.map refP).toArray 59 (0, 0))
def rslotI : Slot → HProp
  | none => emp
  | some (p, z) => rseI p z
abbrev rssS (L : List Slot) : HProp := starI (L.map rslotI)
abbrev rssR (L : List Slot) (i : Nat) : HProp := starI ((L.map rslotI).eraseIdx i)
theorem rss_out {L : List Slot} {i p : Nat} {z : Ses} {M R : List HProp} (h : L[i]? = some (some (p, z))) (pk : Pick M (rssS L) R) : Ent M (rseI p z :: rssR L i :: R) :=
  Ent.out pk (by rw [List.getElem?_map, h]; rfl)
theorem rss_inS {L : List Slot} {i p : Nat} {z : Ses} {M R R' : List HProp} (h : i < L.length) (pk : Pick M (rseI p z) R) (qk : Pick R (rssR L i) R') : Ent M (rssS (L.set i (some (p, z))) :: R') := by
  have := Ent.back pk qk (by simpa using h)
  rw [rssS, List.map_set]
  exact this
theorem rset_same {L : List Slot} {i : Nat} {o : Slot} (h : L[i]? = some o) : L.set i o = L := by
  obtain ⟨hi, e⟩ := List.getElem?_eq_some_iff.1 h
  rw [← e]; exact List.set_getElem_self hi
theorem rss_in {L : List Slot} {i p : Nat} {z : Ses} {M R R' : List HProp} (h : L[i]? = some (some (p, z))) (pk : Pick M (rseI p z) R) (qk : Pick R (rssR L i) R') : Ent M (rssS L :: R') := by
  have := rss_inS (L := L) (i := i) (p := p) (z := z) (List.getElem?_eq_some_iff.1 h).1 pk qk
  rwa [rset_same h] at this
theorem rss_in1 {L : List Slot} {i p : Nat} {z : Ses} {M R R' : List HProp} (h : L[i]? = some (some (p, z))) (pk : Pick M (rseI p z) R) (qk : Pick R (rssR L i) R') : Ent M [rssS L] := Ent.trans (rss_in h pk qk) (Ent.cons .head Ent.nil)
theorem ref_has {L : List Slot} {i : Nat} {o : Slot} (h : L[i]? = some o) : (L.map refP)[0 + i * 1]? = some (refP o) := by
  rw [Nat.zero_add, Nat.mul_one, List.getElem?_map, h]; rfl
theorem ref_hasT {L : List Slot} {i p : Nat} {z : Ses} (h : L[i]? = some (some (p, z))) : (L.map refP)[0 + i * 1]? = some (ptr p) := ref_has h
theorem ref_hasF {L : List Slot} {i : Nat} (h : L[i]? = some none) : (L.map refP)[0 + i * 1]? = some (.pointer none) := ref_has h
theorem ref_set (L : List Slot) (i : Nat) (o : Slot) : (L.map refP).set (0 + i * 1) (refP o) = (L.set i o).map refP := by
  rw [Nat.zero_add, Nat.mul_one, List.map_set]
theorem rget8 {L : List Slot} (h : L.length = 8) {i : Nat} (hi : i < 8) : ∃ o, L[i]? = some o := ⟨L[i], List.getElem?_eq_getElem (by omega)⟩
attribute [local irreducible] MidQ wpE wpO wpC qE wpQ wpQO wpH wpHO wpD wpDO wpZ Ev own emp exI sl ch PostS LoopQ Rd rowsAt
theorem rss_openS {L : List Slot} {i s : Nat} {z : Ses} {M R R' : List HProp} (h : L[i]? = some none) (pk : Pick M (rseI s z) R) (qk : Pick R (rssS L) R') : Ent M (rssS (L.set i (some (s, z))) :: R') := by
  have hi := (List.getElem?_eq_some_iff.1 h).1
  have h1 : Ent (rssS L :: R') (emp :: rssR L i :: R') := Ent.starOut (by rw [List.getElem?_map, h]; rfl)
  have h2 : Ent M (rseI s z :: rssS L :: R') := Ent.cons pk (Ent.pick qk)
  have h3 : Ent (rseI s z :: rssS L :: R') (rseI s z :: rssR L i :: R') := Ent.cons .head (Ent.trans h1 Ent.cons_tail)
  exact Ent.trans h2 (Ent.trans h3 (rss_inS hi .head .head))
theorem rss_replace {L : List Slot} {i s p : Nat} {z y : Ses} {M R R' : List HProp} (h : L[i]? = some (some (p, y))) (pk : Pick M (rseI s z) R) (qk : Pick R (rssS L) R') : Ent M (rssS (L.set i (some (s, z))) :: R') := by
  have hi := (List.getElem?_eq_some_iff.1 h).1
  have h2 : Ent M (rseI s z :: rssS L :: R') := Ent.cons pk (Ent.pick qk)
  have h3 : Ent (rseI s z :: rssS L :: R') (rseI s z :: rssR L i :: R') := Ent.cons .head (Ent.trans (rss_out h .head) Ent.cons_tail)
  exact Ent.trans h2 (Ent.trans h3 (rss_inS hi .head .head))
/-- A slot is emptied: its session is let go. -/
theorem rss_gone {L : List Slot} {i : Nat} {o : Slot} {M R : List HProp} (h : L[i]? = some o) (pk : Pick M (rssS L) R) : Ent M (rssS (L.set i none) :: R) := by
  have hi := (List.getElem?_eq_some_iff.1 h).1
  have h1 : Ent M (rslotI o :: rssR L i :: R) := Ent.out pk (by rw [List.getElem?_map, h]; rfl)
  have h2 : Ent (rslotI o :: rssR L i :: R) (emp :: rssR L i :: R) := Ent.trans Ent.cons_tail (Ent.emp (Ent.refl _))
  have h3 := Ent.back (M := emp :: rssR L i :: R) (A := emp) (l := L.map rslotI) (i := i) .head .head (by simpa using hi)
  rw [rssS, List.map_set]
  exact Ent.trans h1 (Ent.trans h2 h3)
set_option maxHeartbeats 1000000 in
theorem rss_find (x : Nat) (L : List Slot) (h : L.length = 8) (cl : ByteArray) : FnDoes Tryd.prog 22 [ptr x, .string cl] [rssC x L, rssS L] (fun _ : Unit => True) (fun _ => if findL L cl < 8 then .tuple #[.int .i64 (findL L cl), .bool true] else .tuple #[.int .i64 0, .bool false]) (fun _ => [rssC x L, rssS L]) := by
  refine does_of Tryd.func22 rfl rfl Tryd.ntmps22 rfl (by simp only [enum, Nat.reduceAdd, Nat.zero_add]; exact rfl) (fun c => ?_)
  (refine go ?_; intros)
  refine wpC_loop (σ := Nat) (fun i => i ≤ 8 ∧ ∀ j, j < i → ∀ o, L[j]? = some o → isC cl o = false) (fun i => [(0, ptr x), (1, .string cl), (6, .int .i64 i)]) (fun _ => [rssC x L, rssS L]) (fun i => 8 - i) 0 ⟨Nat.zero_le _, fun j hj => by omega⟩ (by repeat (first | exact trivial | refine ⟨rfl, ?_⟩)) (by ((try simp only [List.cons_append, List.nil_append]); repeat (first | exact Ent.nil | (apply Ent.cons; repeat (first | exact Pick.head | apply Pick.tail))))) (fun i hi => ?_)
  obtain ⟨h1, h2⟩ := hi
  have step : ∀ o, L[i]? = some o → isC cl o = false → ∀ j, j < i + 1 → ∀ o', L[j]? = some o' → isC cl o' = false := fun o ho hc j hj o' ho' => by
    rcases Nat.lt_or_ge j i with g | g
    · exact h2 j g o' ho'
    · obtain rfl : j = i := by omega
      rw [ho] at ho'; cases ho'; exact hc
  by_cases hl : i < 8
  · obtain ⟨o, ho⟩ := rget8 h hl
    cases o with
    | none =>
      have hf := ref_hasF ho
      (refine go ?_; intros)
      refine q_round (i + 1) ⟨hl, step _ ho rfl⟩ (by omega) (by repeat (first | exact trivial | refine ⟨rfl, ?_⟩)) (by ((try simp only [List.cons_append, List.nil_append]); repeat (first | exact Ent.nil | (apply Ent.cons; repeat (first | exact Pick.head | apply Pick.tail)))))
    | some y =>
      obtain ⟨p, z⟩ := y
      have hf := ref_hasT ho
      refine wpC_ent (rss_out ho (.tail .head)) ?_
      refine wpC_unfold .head (fun pp W => ?_)
      simp only [List.cons_append, List.nil_append]
      by_cases hc : z.client = cl
      · have e := findL_is (c := cl) ho (by simp [isC, hc]) h2
        (refine go ?_; intros)
        rw [e, if_pos hl]
        exact q_ret2 rfl rfl rfl () rfl trivial (Ent.trans (N := rseI p z :: rssR L i :: [rssC x L]) (Ent.fold (σ := RsP) (φ := fun _ => SesOk z) pp W (by ((try simp only [List.cons_append, List.nil_append]); repeat (first | exact Ent.nil | (apply Ent.cons; repeat (first | exact Pick.head | apply Pick.tail)))))) (Ent.cons (.tail (.tail .head)) (rss_in1 ho .head .head)))
      · (refine go ?_; intros)
        refine q_round (i + 1) ⟨hl, step _ ho (by simpa [isC] using hc)⟩ (by omega) (by repeat (first | exact trivial | refine ⟨rfl, ?_⟩)) (Ent.trans (N := rseI p z :: rssR L i :: [rssC x L]) (Ent.fold (σ := RsP) (φ := fun _ => SesOk z) pp W (by ((try simp only [List.cons_append, List.nil_append]); repeat (first | exact Ent.nil | (apply Ent.cons; repeat (first | exact Pick.head | apply Pick.tail)))))) (Ent.cons (.tail (.tail .head)) (rss_in1 ho .head .head)))
  · have e : findL L cl = 8 := by
      rw [findL_no (fun j o ho => h2 j (by have := (List.getElem?_eq_some_iff.1 ho).1; omega) o ho), h]
    (refine go ?_; intros)
    rw [e]
    exact q_ret2 rfl rfl rfl () rfl trivial (by ((try simp only [List.cons_append, List.nil_append]); repeat (first | exact Ent.nil | (apply Ent.cons; repeat (first | exact Pick.head | apply Pick.tail)))))
theorem rss_drop (x : Nat) (L : List Slot) (h : L.length = 8) (i p : Nat) (z : Ses) (e : L[i]? = some (some (p, z))) : FnDoes Tryd.prog 20 [ptr x, .int .i64 i] [rssC x L, rssS L] (fun _ : Unit => True) (fun _ => .bool true) (fun _ => [rssC x (L.set i none), rssS (L.set i none)]) := by
  have hi : i < 8 := by have := (List.getElem?_eq_some_iff.1 e).1; omega
  have hf := ref_hasT e
  have hs := ref_set L i none
  have hb : 0 + i * 1 < (L.map refP).length := by rw [List.length_map]; omega
  refine does_of Tryd.func20 rfl rfl Tryd.ntmps20 rfl (by simp only [enum, Nat.reduceAdd, Nat.zero_add]; exact rfl) (fun c => ?_)
  (refine go ?_; intros)
  rw [show (Value.pointer none) = refP none from rfl, hs]
  exact q_ret1 rfl rfl () rfl trivial (Ent.cons (by repeat (first | exact Pick.head | apply Pick.tail)) (rss_gone e (by repeat (first | exact Pick.head | apply Pick.tail))))
theorem rss_dropF (x : Nat) (L : List Slot) (h : L.length = 8) (i : Nat) (e : L[i]? = some none) : FnDoes Tryd.prog 20 [ptr x, .int .i64 i] [rssC x L, rssS L] (fun _ : Unit => True) (fun _ => .bool false) (fun _ => [rssC x L, rssS L]) := by
  have hi : i < 8 := by have := (List.getElem?_eq_some_iff.1 e).1; omega
  have hf := ref_hasF e
  refine does_of Tryd.func20 rfl rfl Tryd.ntmps20 rfl (by simp only [enum, Nat.reduceAdd, Nat.zero_add]; exact rfl) (fun c => ?_)
  (refine go ?_; intros)
  exact q_ret1 rfl rfl () rfl trivial (by ((try simp only [List.cons_append, List.nil_append]); repeat (first | exact Ent.nil | (apply Ent.cons; repeat (first | exact Pick.head | apply Pick.tail)))))
theorem rss_dropO (x : Nat) (L : List Slot) (i : Int) (e : i < 0 ∨ 8 ≤ i) : FnDoes Tryd.prog 20 [ptr x, .int .i64 i] [rssC x L, rssS L] (fun _ : Unit => True) (fun _ => .bool false) (fun _ => [rssC x L, rssS L]) := by
  refine does_of Tryd.func20 rfl rfl Tryd.ntmps20 rfl (by simp only [enum, Nat.reduceAdd, Nat.zero_add]; exact rfl) (fun c => ?_)
  by_cases c1 : i < 0
  · (refine go ?_; intros)
    exact q_ret1 rfl rfl () rfl trivial (by ((try simp only [List.cons_append, List.nil_append]); repeat (first | exact Ent.nil | (apply Ent.cons; repeat (first | exact Pick.head | apply Pick.tail)))))
  · have c2 : ¬ i < 8 := by omega
    (refine go ?_; intros)
    exact q_ret1 rfl rfl () rfl trivial (by ((try simp only [List.cons_append, List.nil_append]); repeat (first | exact Ent.nil | (apply Ent.cons; repeat (first | exact Pick.head | apply Pick.tail)))))
end Go.Proofs.YtmlcikcdegodaaaDoor
set_option linter.unusedSimpArgs false
set_option linter.unusedVariables false
set_option maxRecDepth 20000
namespace Go.Proofs.YtmlcikcdegodaaaDoor
open Go Go.Sx
theorem rqu_new16 : FnDoes Tryd.prog 50 [.int .i64 16] [] (fun _ : Nat => True) (fun q => .tuple #[ptr q, .int .i64 0]) (fun q => [rquI q 16 [] 0]) := rqu_new 16 (by decide) (by decide)
structure OpSt where
  i : Nat
  th : Bool
attribute [local irreducible] MidQ wpE wpO wpC qE wpQ wpQO wpH wpHO wpD wpDO wpZ Ev own emp exI sl ch PostS LoopQ Rd rowsAt
theorem rse_newF (cl : ByteArray) (b : Bool) (h : newB cl = false) : FnDoes Tryd.prog 36 [.string cl, .bool b] [] (fun _ : Unit => True) (fun _ => .tuple #[.pointer none, .int .i64 1]) (fun _ => []) := by
  refine does_of Tryd.func36 rfl rfl Tryd.ntmps36 rfl (by simp only [enum, Nat.reduceAdd, Nat.zero_add]; exact rfl) (fun c => ?_)
  by_cases h1 : cl.size = 0
  · have e := str_empty h1
    subst e
    (refine go ?_; intros)
    exact q_ret2 rfl rfl rfl () rfl trivial Ent.nil
  · have e := str_ne h1
    by_cases h2 : cl.size ≤ 32
    · have h2z : ¬ (cl.size : Int) > 32 := by omega
      have hr : rightD cl = false := by
        unfold newB at h
        rw [decide_eq_true h1, decide_eq_true h2] at h
        exact h
      (refine go ?_; intros)
      (show wpO _ _ ⟨_, .call _, _, _, _, _⟩ _ _ _ _ _ _; refine o_callA (utfr_right cl) (fun _ _ => ?_); try simp only [List.cons_append, List.nil_append])
      rw [hr]
      (refine go ?_; intros)
      exact q_ret2 rfl rfl rfl () rfl trivial Ent.nil
    · have h2z : (cl.size : Int) > 32 := by omega
      (refine go ?_; intros)
      exact q_ret2 rfl rfl rfl () rfl trivial Ent.nil
theorem rse_newT (cl : ByteArray) (b : Bool) (h : newB cl = true) : FnDoes Tryd.prog 36 [.string cl, .bool b] [] (fun _ : Nat => True) (fun x => .tuple #[ptr x, .int .i64 0]) (fun x => [rseI x (newZ cl b)]) := by
  refine does_of Tryd.func36 rfl rfl Tryd.ntmps36 rfl (by simp only [enum, Nat.reduceAdd, Nat.zero_add]; exact rfl) (fun c => ?_)
  have h0 := newB_ne h
  have e := str_ne h0
  have h' := h
  unfold newB at h'
  simp only [Bool.and_eq_true, decide_eq_true_eq] at h'
  have h2z : ¬ (cl.size : Int) > 32 := by omega
  (refine go ?_; intros)
  (show wpO _ _ ⟨_, .call _, _, _, _, _⟩ _ _ _ _ _ _; refine o_callA (utfr_right cl) (fun _ _ => ?_); try simp only [List.cons_append, List.nil_append])
  rw [h'.2]
  (refine go ?_; intros)
  (show wpO _ _ ⟨_, .call _, _, _, _, _⟩ _ _ _ _ _ _; refine o_callA (rqu_new16) (fun q _ => ?_); try simp only [List.cons_append, List.nil_append])
  (refine go ?_; intro f i x)
  exact q_ret2 rfl rfl rfl x rfl trivial (rseI_mk ⟨q, f, i⟩ (ok_new h0) (Ent.cons (by repeat (first | exact Pick.head | apply Pick.tail)) (Ent.fold (σ := Value) (.slice none 0 0) trivial (Ent.cons (by repeat (first | exact Pick.head | apply Pick.tail)) (Ent.slNil (Ent.fold (σ := Value) (.slice none 0 0) (Nat.zero_le _) (Ent.cons (by repeat (first | exact Pick.head | apply Pick.tail)) (Ent.slNil (by ((try simp only [List.cons_append, List.nil_append]); repeat (first | exact Ent.nil | (apply Ent.cons; repeat (first | exact Pick.head | apply Pick.tail)))))))))))))
/-- The free slot, as the document looks for it. -/
def OpOk (L : List Slot) (x : OpSt) : Prop := x.i ≤ 8 ∧ (x.th = false → ∀ j, j < x.i → ∀ o, L[j]? = some o → o.isNone = false) ∧ (x.th = true → freeL L < 8 ∧ x.i = freeL L + 1)
set_option maxHeartbeats 2000000 in
theorem rss_open (x : Nat) (L : List Slot) (h : L.length = 8) (cl : ByteArray) (cn : Bool) : FnDoes Tryd.prog 19 [ptr x, .string cl, .bool cn] [rssC x L, rssS L] (fun _ : Nat => True)
    (fun s => .tuple #[.int .i64 (openR (newB cl) L cl cn s).i, .bool (openR (newB cl) L cl cn s).b, .int .i64 (openR (newB cl) L cl cn s).e]) (fun s => [rssC x (openR (newB cl) L cl cn s).L, rssS (openR (newB cl) L cl cn s).L]) := by
  refine does_of Tryd.func19 rfl rfl Tryd.ntmps19 rfl (by simp only [enum, Nat.reduceAdd, Nat.zero_add]; exact rfl) (fun c => ?_)
  rcases hn : newB cl with _ | _
  · have e : ∀ s, openR false L cl cn s = ⟨0, false, 1, L⟩ := fun s => by unfold openR; rw [if_pos rfl]
    simp only [e]
    (refine go ?_; intros)
    (show wpO _ _ ⟨_, .call _, _, _, _, _⟩ _ _ _ _ _ _; refine o_callA (rse_newF cl cn hn) (fun _ _ => ?_); try simp only [List.cons_append, List.nil_append])
    (refine go ?_; intros)
    exact q_ret3 rfl rfl rfl rfl 0 rfl trivial (by ((try simp only [List.cons_append, List.nil_append]); repeat (first | exact Ent.nil | (apply Ent.cons; repeat (first | exact Pick.head | apply Pick.tail)))))
  · by_cases hf : findL L cl < 8
    · have F := rss_find x L h cl
      obtain ⟨p, z, hz, hc⟩ := findL_at (L := L) (c := cl) (by omega)
      have ec : cleanAt L (findL L cl) = z.clean := by unfold cleanAt; rw [hz]
      have hg := ref_hasT hz
      simp only [hf, if_true] at F
      by_cases hcc : cn = false ∧ z.clean = false
      · have e : ∀ s, openR true L cl cn s = ⟨findL L cl, true, 0, L⟩ := fun s => by unfold openR; rw [if_neg (by simp), if_pos hf, if_pos (by rw [ec]; exact hcc)]
        obtain ⟨rfl, hcz⟩ := hcc
        simp only [e]
        (refine go ?_; intros)
        (show wpO _ _ ⟨_, .call _, _, _, _, _⟩ _ _ _ _ _ _; refine o_callA (rse_newT cl false hn) (fun s _ => ?_); try simp only [List.cons_append, List.nil_append])
        (refine go ?_; intros)
        (show wpO _ _ ⟨_, .call _, _, _, _, _⟩ _ _ _ _ _ _; refine o_callA (F) (fun _ _ => ?_); try simp only [List.cons_append, List.nil_append])
        refine wpE_ent (rss_out hz (by repeat (first | exact Pick.head | apply Pick.tail))) ?_
        refine wpE_unfold .head (fun pp W => ?_)
        simp only [List.cons_append, List.nil_append]
        rw [hcz]
        (refine go ?_; intros)
        refine q_ret3 rfl rfl rfl rfl 0 rfl trivial (Ent.trans (N := rseI p z :: rssR L (findL L cl) :: [rssC x L]) (Ent.fold (σ := RsP) (φ := fun _ => SesOk z) pp W (by rw [hcz]; ((try simp only [List.cons_append, List.nil_append]); repeat (first | exact Ent.nil | (apply Ent.cons; repeat (first | exact Pick.head | apply Pick.tail)))))) (Ent.cons (.tail (.tail .head)) (rss_in1 hz .head .head)))
      · have e : ∀ s, openR true L cl cn s = ⟨findL L cl, false, 0, L.set (findL L cl) (some (s, newZ cl cn))⟩ := fun s => by unfold openR; rw [if_neg (by simp), if_pos hf, if_neg (by rw [ec]; exact hcc)]
        simp only [e]
        have hb : 0 + findL L cl * 1 < (L.map refP).length := by rw [List.length_map]; omega
        cases cn with
        | true =>
          (refine go ?_; intros)
          (show wpO _ _ ⟨_, .call _, _, _, _, _⟩ _ _ _ _ _ _; refine o_callA (rse_newT cl true hn) (fun s _ => ?_); try simp only [List.cons_append, List.nil_append])
          (refine go ?_; intros)
          (show wpO _ _ ⟨_, .call _, _, _, _, _⟩ _ _ _ _ _ _; refine o_callA (F) (fun _ _ => ?_); try simp only [List.cons_append, List.nil_append])
          (refine go ?_; intros)
          refine wpC_loop (σ := Unit) (fun _ => True) (fun _ => [(0, ptr x), (9, ptr s), (11, .int .i64 (findL L cl)), (12, .bool true), (13, .int .i64 0)]) (fun _ => [rssC x L, rssS L, rseI s (newZ cl true)]) (fun _ => 0) () trivial (by repeat (first | exact trivial | refine ⟨rfl, ?_⟩)) (by ((try simp only [List.cons_append, List.nil_append]); repeat (first | exact Ent.nil | (apply Ent.cons; repeat (first | exact Pick.head | apply Pick.tail))))) (fun _ _ => ?_)
          have hs := ref_set L (findL L cl) (some (s, newZ cl true))
          (refine go ?_; intros)
          rw [show ptr s = refP (some (s, newZ cl true)) from rfl, hs]
          exact q_ret3 rfl rfl rfl rfl s rfl trivial (Ent.cons (by repeat (first | exact Pick.head | apply Pick.tail)) (Ent.trans (rss_replace hz (by repeat (first | exact Pick.head | apply Pick.tail)) (by repeat (first | exact Pick.head | apply Pick.tail))) (Ent.cons .head Ent.nil)))
        | false =>
          have hcz : z.clean = true := by
            rcases hzc : z.clean with _ | _
            · exact absurd ⟨rfl, hzc⟩ hcc
            · rfl
          (refine go ?_; intros)
          (show wpO _ _ ⟨_, .call _, _, _, _, _⟩ _ _ _ _ _ _; refine o_callA (rse_newT cl false hn) (fun s _ => ?_); try simp only [List.cons_append, List.nil_append])
          (refine go ?_; intros)
          (show wpO _ _ ⟨_, .call _, _, _, _, _⟩ _ _ _ _ _ _; refine o_callA (F) (fun _ _ => ?_); try simp only [List.cons_append, List.nil_append])
          refine wpE_ent (rss_out hz (by repeat (first | exact Pick.head | apply Pick.tail))) ?_
          refine wpE_unfold .head (fun pp W => ?_)
          simp only [List.cons_append, List.nil_append]
          rw [hcz]
          (refine go ?_; intros)
          refine wpC_loop (σ := Unit) (fun _ => True) (fun _ => [(0, ptr x), (9, ptr s), (11, .int .i64 (findL L cl)), (12, .bool true), (13, .int .i64 0)]) (fun _ => [rssC x L, rssS L, rseI s (newZ cl false)]) (fun _ => 0) () trivial (by repeat (first | exact trivial | refine ⟨rfl, ?_⟩)) (Ent.trans (N := rseI p z :: rssR L (findL L cl) :: [rssC x L, rseI s (newZ cl false)]) (Ent.fold (σ := RsP) (φ := fun _ => SesOk z) pp W (by rw [hcz]; ((try simp only [List.cons_append, List.nil_append]); repeat (first | exact Ent.nil | (apply Ent.cons; repeat (first | exact Pick.head | apply Pick.tail)))))) (Ent.cons (.tail (.tail .head)) (rss_in hz .head .head))) (fun _ _ => ?_)
          have hs := ref_set L (findL L cl) (some (s, newZ cl false))
          (refine go ?_; intros)
          rw [show ptr s = refP (some (s, newZ cl false)) from rfl, hs]
          exact q_ret3 rfl rfl rfl rfl s rfl trivial (Ent.cons (by repeat (first | exact Pick.head | apply Pick.tail)) (Ent.trans (rss_replace hz (by repeat (first | exact Pick.head | apply Pick.tail)) (by repeat (first | exact Pick.head | apply Pick.tail))) (Ent.cons .head Ent.nil)))
    · have F := rss_find x L h cl
      simp only [hf, if_false] at F
      have e : ∀ s, openR true L cl cn s = if freeL L < 8 then ⟨freeL L, false, 0, L.set (freeL L) (some (s, newZ cl cn))⟩ else ⟨0, false, 6, L⟩ := fun s => by unfold openR; rw [if_neg (by simp), if_neg hf]
      simp only [e]
      (refine go ?_; intros)
      (show wpO _ _ ⟨_, .call _, _, _, _, _⟩ _ _ _ _ _ _; refine o_callA (rse_newT cl cn hn) (fun s _ => ?_); try simp only [List.cons_append, List.nil_append])
      (refine go ?_; intros)
      (show wpO _ _ ⟨_, .call _, _, _, _, _⟩ _ _ _ _ _ _; refine o_callA (F) (fun _ _ => ?_); try simp only [List.cons_append, List.nil_append])
      (refine go ?_; intros)
      refine wpC_loop (σ := OpSt) (OpOk L) (fun y => [(0, ptr x), (9, ptr s), (11, .int .i64 (if y.th then freeL L else 0 : Nat)), (12, .bool y.th), (13, .int .i64 y.i)]) (fun _ => [rssC x L, rssS L, rseI s (newZ cl cn)]) (fun y => 8 - y.i) ⟨0, false⟩ ⟨Nat.zero_le _, fun _ j hj => absurd hj (Nat.not_lt_zero _), fun e => by cases e⟩ (by repeat (first | exact trivial | refine ⟨rfl, ?_⟩)) (by ((try simp only [List.cons_append, List.nil_append]); repeat (first | exact Ent.nil | (apply Ent.cons; repeat (first | exact Pick.head | apply Pick.tail))))) (fun y hy => ?_)
      obtain ⟨i, th⟩ := y
      obtain ⟨y1, y2, y3⟩ := hy
      simp only at y1 y2 y3 ⊢
      cases th with
      | true =>
        simp only [if_true]
        obtain ⟨f1, f2⟩ := y3 rfl
        have hz := freeL_at (L := L) (by omega)
        have hs := ref_set L (freeL L) (some (s, newZ cl cn))
        have hb : 0 + freeL L * 1 < (L.map refP).length := by rw [List.length_map]; omega
        simp only [f1, if_true]
        by_cases hi8 : i < 8
        all_goals
          (refine go ?_; intros)
          rw [show ptr s = refP (some (s, newZ cl cn)) from rfl, hs]
          exact q_ret3 rfl rfl rfl rfl s rfl trivial (Ent.cons (by repeat (first | exact Pick.head | apply Pick.tail)) (Ent.trans (rss_openS hz (by repeat (first | exact Pick.head | apply Pick.tail)) (by repeat (first | exact Pick.head | apply Pick.tail))) (Ent.cons .head Ent.nil)))
      | false =>
        have y2 := y2 rfl
        simp only [Bool.false_eq_true, if_false]
        by_cases hi8 : i < 8
        · obtain ⟨o, ho⟩ := rget8 h hi8
          cases o with
          | none =>
            have hff := ref_hasF ho
            have ef := freeL_is ho y2
            (refine go ?_; intros)
            refine q_round ⟨i + 1, true⟩ ⟨hi8, (fun e => by cases e), fun _ => ⟨by omega, by simp only; omega⟩⟩ (by simp only; omega) (by rw [ef]; exact ⟨rfl, rfl, rfl, rfl, rfl, trivial⟩) (by ((try simp only [List.cons_append, List.nil_append]); repeat (first | exact Ent.nil | (apply Ent.cons; repeat (first | exact Pick.head | apply Pick.tail)))))
          | some u =>
            obtain ⟨p, z⟩ := u
            have hff := ref_hasT ho
            (refine go ?_; intros)
            refine q_round ⟨i + 1, false⟩ ⟨hi8, fun _ j hj o' ho' => ?_, fun e => by cases e⟩ (by simp only; omega) (by repeat (first | exact trivial | refine ⟨rfl, ?_⟩)) (by ((try simp only [List.cons_append, List.nil_append]); repeat (first | exact Ent.nil | (apply Ent.cons; repeat (first | exact Pick.head | apply Pick.tail)))))
            rcases Nat.lt_or_ge j i with g | g
            · exact y2 j g o' ho'
            · obtain rfl : j = i := by simp only at hj; omega
              rw [ho] at ho'; cases ho'; rfl
        · have ef : freeL L = 8 := by
            rw [freeL_no (fun j o ho => y2 j (by have := (List.getElem?_eq_some_iff.1 ho).1; omega) o ho), h]
          have hnf : ¬ freeL L < 8 := by omega
          simp only [hnf, if_false]
          (refine go ?_; intros)
          exact q_ret3 rfl rfl rfl rfl 0 rfl trivial (by ((try simp only [List.cons_append, List.nil_append]); repeat (first | exact Ent.nil | (apply Ent.cons; repeat (first | exact Pick.head | apply Pick.tail)))))
end Go.Proofs.YtmlcikcdegodaaaDoor
