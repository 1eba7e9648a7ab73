/-
  SessionPlays: any session: for every client, bool and row of acts the law answers true; the two tables of unicode/utf8 hold at the start what the program's text lays. (SesE, SesFm and SesPlays in one text: a claim holds 60 files.)
-/
import Derived.Test.YtaodhkiejnipmaaDoorSesFr
import Derived.Test.YtaodhkiejnipmaaDoorSesD
import Derived.Test.YtaodhkiejnipmaaDoorUtfR
set_option linter.unusedSimpArgs false
set_option linter.unusedVariables false
set_option maxRecDepth 20000
namespace Go.Proofs.YtaodhkiejnipmaaDoor
open Go Go.Sx
theorem rqu_new16 : FnDoes Tryd.prog 40 [.int .i64 16] [] (fun _ : Nat => True) (fun q => .tuple #[ptr q, .int .i64 0]) (fun q => [rquI q 16 [] 0]) := rqu_new 16 (by decide) (by decide)
structure PlSt where
  i : Nat
  z : Ses
attribute [local irreducible] MidQ wpE wpO wpC qE wpQ wpQO wpH wpHO wpD wpDO wpZ Ev own emp exI sl ch PostS LoopQ Rd rowsAt
theorem rse_newF (cl : ByteArray) (b : Bool) (h : newB cl = false) : FnDoes Tryd.prog 17 [.string cl, .bool b] [] (fun _ : Unit => True) (fun _ => .tuple #[.pointer none, .int .i64 1]) (fun _ => []) := by
  refine does_of Tryd.func17 rfl rfl Tryd.ntmps17 rfl (by simp only [enum, Nat.reduceAdd, Nat.zero_add]; exact rfl) (fun c => ?_)
  by_cases h1 : cl.size = 0
  · have e := str_empty h1
    subst e
    (refine go ?_; intros)
    exact q_ret2 rfl rfl rfl () rfl trivial Ent.nil
  · have e := str_ne h1
    by_cases h2 : cl.size ≤ 32
    · have h2z : ¬ (cl.size : Int) > 32 := by omega
      have hr : rightD cl = false := by
        unfold newB at h
        rw [decide_eq_true h1, decide_eq_true h2] at h
        exact h
      (refine go ?_; intros)
      (show wpO _ _ ⟨_, .call _, _, _, _, _⟩ _ _ _ _ _ _; refine o_callA (utfr_right cl) (fun _ _ => ?_); try simp only [List.cons_append, List.nil_append])
      rw [hr]
      (refine go ?_; intros)
      exact q_ret2 rfl rfl rfl () rfl trivial Ent.nil
    · have h2z : (cl.size : Int) > 32 := by omega
      (refine go ?_; intros)
      exact q_ret2 rfl rfl rfl () rfl trivial Ent.nil
theorem rse_newT (cl : ByteArray) (b : Bool) (h : newB cl = true) : FnDoes Tryd.prog 17 [.string cl, .bool b] [] (fun _ : Nat => True) (fun x => .tuple #[ptr x, .int .i64 0]) (fun x => [rseI x (newZ cl b)]) := by
  refine does_of Tryd.func17 rfl rfl Tryd.ntmps17 rfl (by simp only [enum, Nat.reduceAdd, Nat.zero_add]; exact rfl) (fun c => ?_)
  have h0 := newB_ne h
  have e := str_ne h0
  have h' := h
  unfold newB at h'
  simp only [Bool.and_eq_true, decide_eq_true_eq] at h'
  have h2z : ¬ (cl.size : Int) > 32 := by omega
  (refine go ?_; intros)
  (show wpO _ _ ⟨_, .call _, _, _, _, _⟩ _ _ _ _ _ _; refine o_callA (utfr_right cl) (fun _ _ => ?_); try simp only [List.cons_append, List.nil_append])
  rw [h'.2]
  (refine go ?_; intros)
  (show wpO _ _ ⟨_, .call _, _, _, _, _⟩ _ _ _ _ _ _; refine o_callA (rqu_new16) (fun q _ => ?_); try simp only [List.cons_append, List.nil_append])
  (refine go ?_; intro f i x)
  exact q_ret2 rfl rfl rfl x rfl trivial (rseI_mk ⟨q, f, i⟩ (ok_new h0) (Ent.cons (by repeat (first | exact Pick.head | apply Pick.tail)) (Ent.fold (σ := Value) (.slice none 0 0) trivial (Ent.cons (by repeat (first | exact Pick.head | apply Pick.tail)) (Ent.slNil (Ent.fold (σ := Value) (.slice none 0 0) (Nat.zero_le _) (Ent.cons (by repeat (first | exact Pick.head | apply Pick.tail)) (Ent.slNil (by ((try simp only [List.cons_append, List.nil_append]); repeat (first | exact Ent.nil | (apply Ent.cons; repeat (first | exact Pick.head | apply Pick.tail)))))))))))))
theorem plays_walk (H : PHeap) (V : ValidIn H) (cl : ByteArray) (cn : Bool) (v : Value) (acts : List SAct) (hv : rowsAt H 7 v (acts.map sactC)) : FnDoes Tryd.prog 5 [.string cl, .bool cn, v] [own H] (fun _ : Unit => True) (fun _ => .bool true) (fun _ => [own H]) := by
  refine does_of Tryd.func5 rfl rfl Tryd.ntmps5 rfl (by simp only [enum, Nat.reduceAdd, Nat.zero_add]; exact rfl) (fun c => ?_)
  obtain ⟨a, cap, rfl⟩ := hv.slice
  have hv' := hv
  simp only [List.length_map] at hv' ⊢
  rcases hn : newB cl with _ | _
  · (refine go ?_; intros)
    (show wpO _ _ ⟨_, .call _, _, _, _, _⟩ _ _ _ _ _ _; refine o_callA (ses_newF H V cl cn hn) (fun _ _ => ?_); try simp only [List.cons_append, List.nil_append])
    (refine go ?_; intros)
    (show wpO _ _ ⟨_, .call _, _, _, _, _⟩ _ _ _ _ _ _; refine o_callA (rse_newF cl cn hn) (fun _ _ => ?_); try simp only [List.cons_append, List.nil_append])
    (refine go ?_; intros)
    (show wpO _ _ ⟨_, .call _, _, _, _, _⟩ _ _ _ _ _ _; refine o_callA (law_awake H V) (fun _ _ => ?_); try simp only [List.cons_append, List.nil_append])
    (refine go ?_; intros)
    exact q_ret1 rfl rfl () rfl trivial (by ((try simp only [List.cons_append, List.nil_append]); repeat (first | exact Ent.nil | (apply Ent.cons; repeat (first | exact Pick.head | apply Pick.tail)))))
  · have h0 := newB_ne hn
    (refine go ?_; intros)
    (show wpO _ _ ⟨_, .call _, _, _, _, _⟩ _ _ _ _ _ _; refine o_callA (ses_newT H V cl cn hn) (fun s _ => ?_); try simp only [List.cons_append, List.nil_append])
    (refine go ?_; intros)
    (show wpO _ _ ⟨_, .call _, _, _, _, _⟩ _ _ _ _ _ _; refine o_callA (rse_newT cl cn hn) (fun x _ => ?_); try simp only [List.cons_append, List.nil_append])
    (refine go ?_; intros)
    refine wpC_loop (σ := PlSt) (fun y => (y.i ≤ 80 ∧ y.i ≤ acts.length) ∧ SesOk y.z ∧ 0 ≤ y.z.lost ∧ y.z.lost ≤ y.i) (fun y => [(2, .slice a acts.length cap), (7, ptr s), (9, ptr x), (11, .int .i64 y.i)]) (fun y => [own H, sesI s y.z, rseI x y.z]) (fun y => 80 - y.i) ⟨0, newZ cl cn⟩ ⟨⟨Nat.zero_le _, Nat.zero_le _⟩, ok_new h0, Int.le_refl _, Int.le_refl _⟩ (by repeat (first | exact trivial | refine ⟨rfl, ?_⟩)) (by ((try simp only [List.cons_append, List.nil_append]); repeat (first | exact Ent.nil | (apply Ent.cons; repeat (first | exact Pick.head | apply Pick.tail))))) (fun y hy => ?_)
    obtain ⟨i, z⟩ := y
    simp only at hy ⊢
    obtain ⟨⟨y1, y2⟩, y3, y4, y5⟩ := hy
    by_cases hi : i < acts.length ∧ i < 80
    · obtain ⟨i1, i2⟩ := hi
      obtain ⟨b', off, cap', e, hc⟩ := hv'.at i (by simpa using i1)
      simp only [List.length_map, Value.slice.injEq] at e
      obtain ⟨rfl, _, rfl⟩ := e
      have hc' : ∀ j u, (sactC acts[i])[j]? = some u → H.cell? ⟨b', off + i * 7 + j, none⟩ = some u := fun j u e => hc j u (by simpa using e)
      clear hc
      generalize acts[i] = aa at hc'
      have hl := act_lost (z := z) aa
      have hok : SesOk (actZ z aa) := by
        unfold actZ
        split
        · exact ok_attach y3
        split
        · exact ok_off y3
        split
        · exact ok_del _ _ y3
        split
        · exact ok_ans _ _ y3
        split
        · exact ok_come _ y3
        split
        · exact ok_done _ y3
        · exact y3
      (refine go ?_; intros)
      (show wpO _ _ ⟨_, .call _, _, _, _, _⟩ _ _ _ _ _ _; refine o_callA (law_do s x z y3 aa y4 (by omega)) (fun _ _ => ?_); try simp only [List.cons_append, List.nil_append])
      (refine go ?_; intros)
      (show wpO _ _ ⟨_, .call _, _, _, _, _⟩ _ _ _ _ _ _; refine o_callA (law_stands s x (actZ z aa)) (fun _ _ => ?_); try simp only [List.cons_append, List.nil_append])
      (refine go ?_; intros)
      refine q_round ⟨i + 1, actZ z aa⟩ ⟨⟨by simp only; omega, by simp only; omega⟩, hok, by simp only; omega, by simp only; omega⟩ (by simp only; omega) (by repeat (first | exact trivial | refine ⟨rfl, ?_⟩)) (by ((try simp only [List.cons_append, List.nil_append]); repeat (first | exact Ent.nil | (apply Ent.cons; repeat (first | exact Pick.head | apply Pick.tail)))))
    · by_cases c1 : i < acts.length
      all_goals
        (refine go ?_; intros)
        (show wpO _ _ ⟨_, .call _, _, _, _, _⟩ _ _ _ _ _ _; refine o_callA (law_awake H V) (fun _ _ => ?_); try simp only [List.cons_append, List.nil_append])
        (refine go ?_; intros)
        exact q_ret1 rfl rfl () rfl trivial (by ((try simp only [List.cons_append, List.nil_append]); repeat (first | exact Ent.nil | (apply Ent.cons; repeat (first | exact Pick.head | apply Pick.tail)))))
end Go.Proofs.YtaodhkiejnipmaaDoor
namespace Go.Proofs.YtaodhkiejnipmaaDoor
open Go Go.Sx
open Go.ChangeShapes Go.WideShapes Go.ChangeAt Go.RowKit
section
variable {H : Type} {enc : TypeId × Value → H} {W : World} {base : Nat} {spare : Nat → Bool} {held : Bool} {cs : List Value}
theorem msg_open (h : Opn enc Tryd.prog W base spare held 30 cs) : ∃ m : PMsg, cs = m.cells ∧ True := by
  obtain ⟨hl, hp⟩ := h.struct Tryd.underlying30
  obtain ⟨s0, e0, _⟩ := (hp 0 _ rfl).str Tryd.underlying9
  obtain ⟨s1, e1, _⟩ := (hp 1 _ rfl).str Tryd.underlying9
  obtain ⟨s2, e2, _⟩ := (hp 2 _ rfl).i64 Tryd.underlying3
  obtain ⟨s3, e3⟩ := (hp 3 _ rfl).bool Tryd.underlying4
  refine ⟨⟨s0, s1, s2, s3⟩, ?_, trivial⟩
  have c1 : Tryd.prog.cellsOf 9 = 1 := by kernel_rfl
  have c2 : Tryd.prog.cellsOf 3 = 1 := by kernel_rfl
  have c3 : Tryd.prog.cellsOf 4 = 1 := by kernel_rfl
  have c4 : Tryd.prog.cellsOf 30 = 4 := by kernel_rfl
  simp only [c1, c2, c3] at e0 e1 e2 e3
  rw [c4] at hl
  match cs, hl with
  | [v0, v1, v2, v3], _ =>
    simp at e0 e1 e2 e3
    simp [PMsg.cells, e0, e1, e2, e3]
end
end Go.Proofs.YtaodhkiejnipmaaDoor
namespace Go.Proofs.YtaodhkiejnipmaaDoor
open Go Go.Sx
open Go.ChangeShapes Go.WideShapes Go.ChangeAt Go.RowKit
section
variable {H : Type} {enc : TypeId × Value → H} {W : World} {base : Nat} {spare : Nat → Bool} {held : Bool} {cs : List Value}
theorem act_open (h : Opn enc Tryd.prog W base spare held 51 cs) : ∃ m : SAct, cs = sactC m ∧ True := by
  obtain ⟨hl, hp⟩ := h.struct Tryd.underlying51
  obtain ⟨k, e0, _⟩ := (hp 0 _ rfl).i64 Tryd.underlying3
  obtain ⟨n, e1, _⟩ := (hp 1 _ rfl).i64 Tryd.underlying3
  obtain ⟨i, e2, _⟩ := (hp 2 _ rfl).i64 Tryd.underlying3
  obtain ⟨m, e3, _⟩ := msg_open (hp 3 _ rfl)
  have c1 : Tryd.prog.cellsOf 3 = 1 := by kernel_rfl
  have c2 : Tryd.prog.cellsOf 30 = 4 := by kernel_rfl
  have c3 : Tryd.prog.cellsOf 51 = 7 := by kernel_rfl
  simp only [c1, c2] at e0 e1 e2 e3
  rw [c3] at hl
  refine ⟨⟨k, n, i, m⟩, ?_, trivial⟩
  match cs, hl with
  | [v0, v1, v2, v3, v4, v5, v6], _ =>
    simp [PMsg.cells] at e0 e1 e2 e3
    simp [sactC, e0, e1, e2, e3]
theorem acts_open (h : Opn enc Tryd.prog W base spare held 45 cs) : ∃ (l : List SAct) (v : Value), cs = [v] ∧ rowsAt (ph W) 7 v (l.map sactC) ∧ (∀ m ∈ l, True) ∧ l.length * Tryd.prog.bytesOf 51 ≤ reachBytes :=
  Opn.rows sactC (fun _ => True) (fun _ => rfl) (fun _ => rfl) (by omega) Tryd.underlying45 (by kernel_rfl) (fun cs h => act_open h) h
end
set_option maxHeartbeats 4000000 in
set_option maxRecDepth 100000 in
theorem plays_lifted (os : Os) (started : os.Started) (H : Type) (enc : TypeId × Value → H) :
    ReturnsInHanded {} Tryd.checked os 5 .any (fun w args => (Rows.sessionPlaysSpec.pre enc Tryd.prog Tryd.f5 [] false w args ∧ laidMetH Tryd.prog laidL w) ∧ sizedMet enc Tryd.prog Tryd.f5 (OpenSpec.ofChange Rows.sessionPlaysSpec) false w args) (Rows.sessionPlaysSpec.post enc Tryd.prog Tryd.f5 false true false false) := by
  refine returnsInHanded_of_change_and (C := Tryd.checked) (X := fun w _ => laidMetH Tryd.prog laidL w) (fun _ _ _ hh h => h.of_heap hh) own_knob started (by kernel_rfl) Tryd.func5
    (ChangeSpec.witness_shaped (enc := enc) (C := Tryd.checked) (os := os) (X := fun w _ => laidMetH Tryd.prog laidL w) false (laidW os) #[.string ⟨#[]⟩, .bool false, .slice none 0 0] 8 rfl (World.shaped_of_RefB (by kernel_rfl) (by kernel_rfl)) (by kernel_rfl) (by kernel_rfl) (by kernel_rfl) (laid_met os _)) ?_
  intro W base args ds gs before hval0 hW hcnd hsz hL _
  have hval : ∀ (j : Nat) t v, Tryd.f5.params[j]? = some t → args[j]? = some v → Value.okWide Tryd.prog W .any base t v := hval0
  have hW' := hW
  obtain ⟨p, q, hA0, hV, rfl, hfz, hnd⟩ := hW
  have hA : DataW.TrodAll enc Tryd.prog W 0 (fun _ => true) true Tryd.f5.params.toList args.toList ds p := hA0
  rw [Tryd.params5] at hA hval hsz
  obtain ⟨v0, vs0, d0, ds0, p0, q0, hargs, rfl, rfl, h0, rest0⟩ := trodAll_cons hA
  obtain ⟨v1, vs1, d1, ds1, p1, q1, rfl, rfl, rfl, h1, rest1⟩ := trodAll_cons rest0
  obtain ⟨v2, vs2, d2, ds2, p2, q2, rfl, rfl, rfl, h2, rest2⟩ := trodAll_cons rest1
  obtain ⟨rfl, rfl, rfl⟩ := trodAll_nil rest2
  obtain rfl : args = #[v0, v1, v2] := by cases args; simp_all
  obtain ⟨rfl, rfl⟩ := trodVars_none hV
  have k0 := h0
  have lt0 : ∀ x ∈ p0, x.block < W.heap.size := by obtain ⟨m, hm⟩ := k0; exact DataW.trod_lt m _ _ _ hm
  have k1 := h1
  have lt1 : ∀ x ∈ p1, x.block < W.heap.size := by obtain ⟨m, hm⟩ := k1; exact DataW.trod_lt m _ _ _ hm
  have k2 := h2
  have lt2 : ∀ x ∈ p2, x.block < W.heap.size := by obtain ⟨m, hm⟩ := k2; exact DataW.trod_lt m _ _ _ hm
  obtain ⟨s0, rfl⟩ := okWide_string Tryd.underlying9 (hval 0 9 v0 rfl rfl)
  obtain ⟨s0', e0, b0⟩ := (Opn.param (j := 0) hsz rfl rfl h0).str Tryd.underlying9
  simp [Value.cells] at e0
  subst e0
  obtain ⟨x1, rfl⟩ := okWide_bool Tryd.underlying4 (hval 1 4 v1 rfl rfl)
  obtain ⟨a2, len2, cap2, rfl⟩ := okWide_slice Tryd.underlying45 (hval 2 45 v2 rfl rfl)
  obtain ⟨l2, v2, e2, r2, f2, z2⟩ := acts_open (Opn.param (j := 2) hsz rfl rfl h2)
  simp [Value.cells] at e2
  subst e2
  clear hA0 hval0
  refine (law_below (plays_walk (ph W) (valid_in (tabs_start (tabs_of hL))) s0 x1 _ l2 r2)).mono fun e W' ⟨he, bel⟩ => ?_
  subst he
  exact ⟨_, rfl, _, _, _, [], _, [], hW', trodAll_mk1 (shut_bool Tryd.underlying4 _), (trodAll_cons_mk (Below.trod laid_out (by kernel_rfl) (of_decide_eq_true (by kernel_rfl)) k0 bel lt0) (trodAll_cons_mk (Below.trod laid_out (by kernel_rfl) (of_decide_eq_true (by kernel_rfl)) k1 bel lt1) (trodAll_cons_mk (Below.trod laid_out (by kernel_rfl) (of_decide_eq_true (by kernel_rfl)) k2 bel lt2) trodAll_mk0))), rfl, bel.frame _, fun h => by cases h⟩
theorem plays_holds : Rows.SessionPlaysSaid :=
  OpenClaim.holds_of_wide 5 Tryd.f5 rfl rfl rfl rfl rfl rfl rfl ⟨rfl, rfl, rfl, rfl, rfl⟩ rfl rfl rfl rfl rfl (by kernel_rfl) Tryd.func5 (by kernel_rfl)
    (of_decide_eq_true (by kernel_rfl)) (by unfold Func.isWrapper; first | (rw [if_pos (by decide +kernel)]; kernel_rfl) | (rw [if_neg (by decide +kernel)]; exact ⟨rfl, rfl⟩))
    (fun os started H enc _ => plays_lifted os started H enc)
theorem plays_card : Rows.SessionPlaysCardSaid :=
  Claim7.holds_tied_plain_at .later [] [.data, .pinned] true (true, "d97080bf96509bfb81a650977fd666ca234ab3eb3fe72e8555227fb9b9df0cf0") true
    plays_holds (fun _ h => by cases h) (by kernel_rfl) (fun _ h => by cases h) sessionPlays_row_tie rfl ⟨rfl, rfl⟩ (by kernel_rfl) rfl
    (fun f fn hf hfn => by
      obtain rfl : f = 5 := Option.some.inj ((show Tryd.prog.funcNamed "crier/crierlaw25.SessionPlays" = some 5 by kernel_rfl).symm.trans hf) |>.symm
      obtain rfl : fn = Tryd.f5 := (Option.some.inj (Tryd.func5.symm.trans hfn)).symm
      exact ⟨by kernel_rfl, fun j t ht => by
        rw [Tryd.params5] at ht
        have hm : t ∈ [9, 4, 45] := by simpa using Array.mem_of_getElem? ht
        have hall : ([9, 4, 45].all fun u => !Tryd.prog.wantsStandIn u) = true := by kernel_rfl
        exact (show Tryd.prog.wantsStandIn t = false by simpa using List.all_eq_true.1 hall t hm)⟩)
    (by kernel_rfl)
end Go.Proofs.YtaodhkiejnipmaaDoor
