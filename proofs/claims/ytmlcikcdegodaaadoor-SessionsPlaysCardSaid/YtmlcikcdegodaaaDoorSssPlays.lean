/-
  SessionsPlays: any clients: for every row of acts the law answers true; the two tables of unicode/utf8 hold at the start what the program's text lays.
-/
import Derived.Test.YtmlcikcdegodaaaDoorSesFr
import Derived.Test.YtmlcikcdegodaaaDoorSssP
set_option linter.unusedSimpArgs false
set_option linter.unusedVariables false
set_option maxRecDepth 20000
namespace Go.Proofs.YtmlcikcdegodaaaDoor
open Go Go.Sx
open Go.ChangeShapes Go.WideShapes Go.ChangeAt Go.RowKit
section
variable {H : Type} {enc : TypeId × Value → H} {W : World} {base : Nat} {spare : Nat → Bool} {held : Bool} {cs : List Value}
theorem act_open (h : Opn enc Tryd.prog W base spare held 26 cs) : ∃ m : SsAct, cs = ssactC m ∧ True := by
  obtain ⟨hl, hp⟩ := h.struct Tryd.underlying26
  obtain ⟨k, e0, _⟩ := (hp 0 _ rfl).i64 Tryd.underlying3
  obtain ⟨n, e1, _⟩ := (hp 1 _ rfl).str Tryd.underlying9
  obtain ⟨i, e2⟩ := (hp 2 _ rfl).bool Tryd.underlying4
  obtain ⟨m, e3, _⟩ := (hp 3 _ rfl).i64 Tryd.underlying3
  have c1 : Tryd.prog.cellsOf 3 = 1 := by kernel_rfl
  have c2 : Tryd.prog.cellsOf 9 = 1 := by kernel_rfl
  have c3 : Tryd.prog.cellsOf 4 = 1 := by kernel_rfl
  have c4 : Tryd.prog.cellsOf 26 = 4 := by kernel_rfl
  simp only [c1, c2, c3] at e0 e1 e2 e3
  rw [c4] at hl
  refine ⟨⟨k, n, i, m⟩, ?_, trivial⟩
  match cs, hl with
  | [v0, v1, v2, v3], _ =>
    simp at e0 e1 e2 e3
    simp [ssactC, e0, e1, e2, e3]
theorem acts_open (h : Opn enc Tryd.prog W base spare held 22 cs) : ∃ (l : List SsAct) (v : Value), cs = [v] ∧ rowsAt (ph W) 4 v (l.map ssactC) ∧ (∀ m ∈ l, True) ∧ l.length * Tryd.prog.bytesOf 26 ≤ reachBytes :=
  Opn.rows ssactC (fun _ => True) (fun _ => rfl) (fun _ => rfl) (by omega) Tryd.underlying22 (by kernel_rfl) (fun cs h => act_open h) h
end
set_option maxHeartbeats 4000000 in
set_option maxRecDepth 100000 in
theorem plays_lifted (os : Os) (started : os.Started) (H : Type) (enc : TypeId × Value → H) :
    ReturnsInHanded {} Tryd.checked os 6 .any (fun w args => (Rows.sessionsPlaysSpec.pre enc Tryd.prog Tryd.f6 [] false w args ∧ laidMetH Tryd.prog laidL w) ∧ sizedMet enc Tryd.prog Tryd.f6 (OpenSpec.ofChange Rows.sessionsPlaysSpec) false w args) (Rows.sessionsPlaysSpec.post enc Tryd.prog Tryd.f6 false true false false) := by
  refine returnsInHanded_of_change_and (C := Tryd.checked) (X := fun w _ => laidMetH Tryd.prog laidL w) (fun _ _ _ hh h => h.of_heap hh) own_knob started (by kernel_rfl) Tryd.func6
    (ChangeSpec.witness_shaped (enc := enc) (C := Tryd.checked) (os := os) (X := fun w _ => laidMetH Tryd.prog laidL w) false (laidW os) #[.slice none 0 0] 8 rfl (World.shaped_of_RefB (by kernel_rfl) (by kernel_rfl)) (by kernel_rfl) (by kernel_rfl) (by kernel_rfl) (laid_met os _)) ?_
  intro W base args ds gs before hval0 hW hcnd hsz hL _
  have hval : ∀ (j : Nat) t v, Tryd.f6.params[j]? = some t → args[j]? = some v → Value.okWide Tryd.prog W .any base t v := hval0
  have hW' := hW
  obtain ⟨p, q, hA0, hV, rfl, hfz, hnd⟩ := hW
  have hA : DataW.TrodAll enc Tryd.prog W 0 (fun _ => true) true Tryd.f6.params.toList args.toList ds p := hA0
  rw [Tryd.params6] at hA hval hsz
  obtain ⟨v0, vs0, d0, ds0, p0, q0, hargs, rfl, rfl, h0, rest0⟩ := trodAll_cons hA
  obtain ⟨rfl, rfl, rfl⟩ := trodAll_nil rest0
  obtain rfl : args = #[v0] := by cases args; simp_all
  obtain ⟨rfl, rfl⟩ := trodVars_none hV
  have k0 := h0
  have lt0 : ∀ x ∈ p0, x.block < W.heap.size := by obtain ⟨m, hm⟩ := k0; exact DataW.trod_lt m _ _ _ hm
  obtain ⟨a0, len0, cap0, rfl⟩ := okWide_slice Tryd.underlying22 (hval 0 22 v0 rfl rfl)
  obtain ⟨l0, v0, e0, r0, f0, z0⟩ := acts_open (Opn.param (j := 0) hsz rfl rfl h0)
  simp [Value.cells] at e0
  subst e0
  clear hA0 hval0
  refine (law_below (plays_walk (ph W) (valid_in (tabs_start (tabs_of hL))) _ l0 r0)).mono fun e W' ⟨he, bel⟩ => ?_
  subst he
  exact ⟨_, rfl, _, _, _, [], _, [], hW', trodAll_mk1 (shut_bool Tryd.underlying4 _), (trodAll_cons_mk (Below.trod laid_out (by kernel_rfl) (of_decide_eq_true (by kernel_rfl)) k0 bel lt0) trodAll_mk0), rfl, bel.frame _, fun h => by cases h⟩
theorem plays_holds : Rows.SessionsPlaysSaid :=
  OpenClaim.holds_of_wide 6 Tryd.f6 rfl rfl rfl rfl rfl rfl rfl ⟨rfl, rfl, rfl, rfl, rfl⟩ rfl rfl rfl rfl rfl (by kernel_rfl) Tryd.func6 (by kernel_rfl)
    (of_decide_eq_true (by kernel_rfl)) (by unfold Func.isWrapper; first | (rw [if_pos (by decide +kernel)]; kernel_rfl) | (rw [if_neg (by decide +kernel)]; exact ⟨rfl, rfl⟩))
    (fun os started H enc _ => plays_lifted os started H enc)
theorem plays_card : Rows.SessionsPlaysCardSaid :=
  Claim7.holds_tied_plain_at .later [] [.data, .pinned] true (true, "a941e25fb2202dec755401f3a5f8fa9b27864b3c5b43d1198bb844578d49ac6b") true
    plays_holds (fun _ h => by cases h) (by kernel_rfl) (fun _ h => by cases h) sessionsPlays_row_tie rfl ⟨rfl, rfl⟩ (by kernel_rfl) rfl
    (fun f fn hf hfn => by
      obtain rfl : f = 6 := Option.some.inj ((show Tryd.prog.funcNamed "crier/crierlaw28.SessionsPlays" = some 6 by kernel_rfl).symm.trans hf) |>.symm
      obtain rfl : fn = Tryd.f6 := (Option.some.inj (Tryd.func6.symm.trans hfn)).symm
      exact ⟨by kernel_rfl, fun j t ht => by
        rw [Tryd.params6] at ht
        have hm : t ∈ [22] := by simpa using Array.mem_of_getElem? ht
        have hall : ([22].all fun u => !Tryd.prog.wantsStandIn u) = true := by kernel_rfl
        exact (show Tryd.prog.wantsStandIn t = false by simpa using List.all_eq_true.1 hall t hm)⟩)
    (by kernel_rfl)
end Go.Proofs.YtmlcikcdegodaaaDoor
