/-
  SessionOnce: once, in order: for every row of bools and every row of bytes the law answers true; the two tables of unicode/utf8 hold at the start what the program's text lays.
-/
import Derived.Test.YtaodhkiejnipmaaDoorSesFr
import Derived.Test.YtaodhkiejnipmaaDoorSesW
set_option linter.unusedSimpArgs false
set_option linter.unusedVariables false
set_option maxRecDepth 20000
namespace Go.Proofs.YtaodhkiejnipmaaDoor
open Go Go.Sx
open Go.ChangeShapes Go.WideShapes Go.ChangeAt Go.RowKit
section
variable {H : Type} {enc : TypeId × Value → H} {W : World} {base : Nat} {spare : Nat → Bool} {held : Bool} {cs : List Value}
theorem bools_open (h : Opn enc Tryd.prog W base spare held 39 cs) : ∃ (l : List Bool) (v : Value), cs = [v] ∧ rowsAt (ph W) 1 v (l.map boolCell) ∧ (∀ m ∈ l, True) ∧ l.length * Tryd.prog.bytesOf 4 ≤ reachBytes :=
  Opn.rows boolCell (fun _ => True) (fun _ => rfl) (fun _ => rfl) (by omega) Tryd.underlying39 (by kernel_rfl) (fun cs h => by obtain ⟨b, e⟩ := h.bool Tryd.underlying4; exact ⟨b, e, trivial⟩) h
theorem u8s_open (h : Opn enc Tryd.prog W base spare held 40 cs) : ∃ (l : List Int) (v : Value), cs = [v] ∧ rowsAt (ph W) 1 v (l.map u8Cell) ∧ (∀ m ∈ l, 0 ≤ m ∧ m ≤ 255) ∧ l.length * Tryd.prog.bytesOf 5 ≤ reachBytes :=
  Opn.rows u8Cell (fun m => 0 ≤ m ∧ m ≤ 255) (fun _ => rfl) (fun _ => rfl) (by omega) Tryd.underlying40 (by kernel_rfl) (fun cs h => h.u8 Tryd.underlying5) h
end
theorem len_one {n k : Nat} (c : k = 1) (h : n * k ≤ reachBytes) : n ≤ 9000000000000000000 := by
  subst c; unfold reachBytes at h; omega
set_option maxHeartbeats 4000000 in
set_option maxRecDepth 100000 in
theorem once_lifted (os : Os) (started : os.Started) (H : Type) (enc : TypeId × Value → H) :
    ReturnsInHanded {} Tryd.checked os 4 .any (fun w args => (Rows.sessionOnceSpec.pre enc Tryd.prog Tryd.f4 [] false w args ∧ laidMetH Tryd.prog laidL w) ∧ sizedMet enc Tryd.prog Tryd.f4 (OpenSpec.ofChange Rows.sessionOnceSpec) false w args) (Rows.sessionOnceSpec.post enc Tryd.prog Tryd.f4 false true false false) := by
  refine returnsInHanded_of_change_and (C := Tryd.checked) (X := fun w _ => laidMetH Tryd.prog laidL w) (fun _ _ _ hh h => h.of_heap hh) own_knob started (by kernel_rfl) Tryd.func4
    (ChangeSpec.witness_shaped (enc := enc) (C := Tryd.checked) (os := os) (X := fun w _ => laidMetH Tryd.prog laidL w) false (laidW os) #[.slice none 0 0, .slice none 0 0] 8 rfl (World.shaped_of_RefB (by kernel_rfl) (by kernel_rfl)) (by kernel_rfl) (by kernel_rfl) (by kernel_rfl) (laid_met os _)) ?_
  intro W base args ds gs before hval0 hW hcnd hsz hL _
  have hval : ∀ (j : Nat) t v, Tryd.f4.params[j]? = some t → args[j]? = some v → Value.okWide Tryd.prog W .any base t v := hval0
  have hW' := hW
  obtain ⟨p, q, hA0, hV, rfl, hfz, hnd⟩ := hW
  have hA : DataW.TrodAll enc Tryd.prog W 0 (fun _ => true) true Tryd.f4.params.toList args.toList ds p := hA0
  rw [Tryd.params4] at hA hval hsz
  obtain ⟨v0, vs0, d0, ds0, p0, q0, hargs, rfl, rfl, h0, rest0⟩ := trodAll_cons hA
  obtain ⟨v1, vs1, d1, ds1, p1, q1, rfl, rfl, rfl, h1, rest1⟩ := trodAll_cons rest0
  obtain ⟨rfl, rfl, rfl⟩ := trodAll_nil rest1
  obtain rfl : args = #[v0, v1] := by cases args; simp_all
  obtain ⟨rfl, rfl⟩ := trodVars_none hV
  have k0 := h0
  have lt0 : ∀ x ∈ p0, x.block < W.heap.size := by obtain ⟨m, hm⟩ := k0; exact DataW.trod_lt m _ _ _ hm
  have k1 := h1
  have lt1 : ∀ x ∈ p1, x.block < W.heap.size := by obtain ⟨m, hm⟩ := k1; exact DataW.trod_lt m _ _ _ hm
  obtain ⟨a0, len0, cap0, rfl⟩ := okWide_slice Tryd.underlying39 (hval 0 39 v0 rfl rfl)
  obtain ⟨l0, v0, e0, r0, f0, z0⟩ := bools_open (Opn.param (j := 0) hsz rfl rfl h0)
  simp [Value.cells] at e0
  subst e0
  obtain ⟨a1, len1, cap1, rfl⟩ := okWide_slice Tryd.underlying40 (hval 1 40 v1 rfl rfl)
  obtain ⟨l1, v1, e1, r1, f1, z1⟩ := u8s_open (Opn.param (j := 1) hsz rfl rfl h1)
  simp [Value.cells] at e1
  subst e1
  clear hA0 hval0
  refine (law_below (once_walk (ph W) (valid_in (tabs_start (tabs_of hL))) _ _ l0 l1 r0 r1 f1 (len_one (by kernel_rfl) z0) (len_one (by kernel_rfl) z1))).mono fun e W' ⟨he, bel⟩ => ?_
  subst he
  exact ⟨_, rfl, _, _, _, [], _, [], hW', trodAll_mk1 (shut_bool Tryd.underlying4 _), (trodAll_cons_mk (Below.trod laid_out (by kernel_rfl) (of_decide_eq_true (by kernel_rfl)) k0 bel lt0) (trodAll_cons_mk (Below.trod laid_out (by kernel_rfl) (of_decide_eq_true (by kernel_rfl)) k1 bel lt1) trodAll_mk0)), rfl, bel.frame _, fun h => by cases h⟩
theorem once_holds : Rows.SessionOnceSaid :=
  OpenClaim.holds_of_wide 4 Tryd.f4 rfl rfl rfl rfl rfl rfl rfl ⟨rfl, rfl, rfl, rfl, rfl⟩ rfl rfl rfl rfl rfl (by kernel_rfl) Tryd.func4 (by kernel_rfl)
    (of_decide_eq_true (by kernel_rfl)) (by unfold Func.isWrapper; first | (rw [if_pos (by decide +kernel)]; kernel_rfl) | (rw [if_neg (by decide +kernel)]; exact ⟨rfl, rfl⟩))
    (fun os started H enc _ => once_lifted os started H enc)
theorem once_card : Rows.SessionOnceCardSaid :=
  Claim7.holds_tied_plain_at .later [] [.data, .pinned] true (true, "d97080bf96509bfb81a650977fd666ca234ab3eb3fe72e8555227fb9b9df0cf0") true
    once_holds (fun _ h => by cases h) (by kernel_rfl) (fun _ h => by cases h) sessionOnce_row_tie rfl ⟨rfl, rfl⟩ (by kernel_rfl) rfl
    (fun f fn hf hfn => by
      obtain rfl : f = 4 := Option.some.inj ((show Tryd.prog.funcNamed "crier/crierlaw25.SessionOnce" = some 4 by kernel_rfl).symm.trans hf) |>.symm
      obtain rfl : fn = Tryd.f4 := (Option.some.inj (Tryd.func4.symm.trans hfn)).symm
      exact ⟨by kernel_rfl, fun j t ht => by
        rw [Tryd.params4] at ht
        have hm : t ∈ [39, 40] := by simpa using Array.mem_of_getElem? ht
        have hall : ([39, 40].all fun u => !Tryd.prog.wantsStandIn u) = true := by kernel_rfl
        exact (show Tryd.prog.wantsStandIn t = false by simpa using List.all_eq_true.1 hall t hm)⟩)
    (by kernel_rfl)
end Go.Proofs.YtaodhkiejnipmaaDoor
