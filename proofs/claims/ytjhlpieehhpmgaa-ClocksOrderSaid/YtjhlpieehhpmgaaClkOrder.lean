/-
  ClocksOrderSaid: the statement, from its walk. For every eight numbers the law answers true.
-/
import Derived.Test.YtjhlpieehhpmgaaClkFr
import Derived.Test.YtjhlpieehhpmgaaClkD
set_option linter.unusedSimpArgs false
set_option linter.unusedVariables false
namespace Go.Proofs.Ytjhlpieehhpmgaa
open Go Go.Sx
open Go.ChangeShapes Go.WideShapes Go.ChangeAt Go.RowKit
section
variable {H : Type} {enc : TypeId × Value → H} {P : Program} {W : World} {base : Nat} {spare : Nat → Bool} {held : Bool} {cs : List Value} {t : TypeId}
theorem okWide_array {r : Reach} {b0 n : Nat} {e : TypeId} {v : Value} (ht : P.underlying t = some (.array n e)) (h : Value.okWide P W r b0 t v) : ∃ cs, v = .agg cs ∧ cs.size = P.cellsOf t := by
  cases v <;> simp_all [Value.okWide]
theorem Opn.array {n : Nat} {e : TypeId} (hu : P.underlying t = some (.array n e)) (h : Opn enc P W base spare held t cs) : cs.length = P.cellsOf t ∧ ∀ i, i < n → Opn enc P W base spare held e ((cs.drop (i * P.cellsOf e)).take (P.cellsOf e)) := by
  obtain ⟨fuel, x, h, hw⟩ := h
  obtain ⟨xs, k, _, rfl, hl, hn, hf⟩ := DataW.trod_array hu h
  refine ⟨hl, fun i hi => ⟨k, xs[i], ?_, fun m hm => hw m ?_⟩⟩
  · rw [hf i hi, List.getElem?_eq_getElem]
  · simp only [DataW.weights, hu]
    exact weights_all (d := xs[i].1) (List.mem_map.2 ⟨xs[i], List.getElem_mem _, rfl⟩) hm
theorem eight_open (h : Opn enc Try.prog W base spare held 36 cs) : ∃ ds : List Int, cs = u16s ds ∧ ds.length = 8 ∧ ∀ a ∈ ds, 0 ≤ a ∧ a ≤ 65535 := by
  obtain ⟨hl, hp⟩ := Opn.array Try.underlying36 h
  have c1 : Try.prog.cellsOf 28 = 1 := by kernel_rfl
  have c8 : Try.prog.cellsOf 36 = 8 := by kernel_rfl
  rw [c8] at hl
  have hx : ∀ i, i < 8 → ∃ x : Int, cs[i]? = some (.int .u16 x) ∧ 0 ≤ x ∧ x ≤ 65535 := fun i hi => by
    obtain ⟨x, e, b1, b2⟩ := (hp i hi).u16 Try.underlying28
    rw [c1] at e
    refine ⟨x, ?_, b1, b2⟩
    have := congrArg (fun l => l[0]?) e
    simp at this
    simpa using this
  obtain ⟨g, hg⟩ := Go.Deep.choose_lt hx
  refine ⟨(List.range 8).map g, ?_, by simp, fun a ha => ?_⟩
  · apply List.ext_getElem?
    intro i
    by_cases hi : i < 8
    · rw [(hg i hi).1]; simp [u16s, hi]
    · rw [List.getElem?_eq_none (by omega), List.getElem?_eq_none (by simp [u16s]; omega)]
  · obtain ⟨i, hi, rfl⟩ := List.mem_map.1 ha
    exact (hg i (List.mem_range.1 hi)).2
end
set_option maxHeartbeats 4000000 in
set_option maxRecDepth 100000 in
theorem order_lifted (os : Os) (started : os.Started) (H : Type) (enc : TypeId × Value → H) :
    ReturnsInHanded {} Try.checked os 5 .any (Rows.clocksOrderSpec.pre6 enc Try.prog Try.f5 Rows.clocksOrderRow.domain false) (Rows.clocksOrderSpec.post enc Try.prog Try.f5 false true false false) := by
  refine returnsInHanded_of_change_sized (C := Try.checked) own_knob started (by kernel_rfl) Try.func5
    (ChangeSpec.witness6 (enc := enc) (C := Try.checked) false ⟨#[], #[.agg (Array.replicate 8 (.int .u16 0))], []⟩ 8 (by kernel_rfl) (by kernel_rfl) (by kernel_rfl) (by kernel_rfl)) ?_
  intro W base args ds gs before hval0 hW hcnd hsz _
  have hval : ∀ (j : Nat) t v, Try.f5.params[j]? = some t → args[j]? = some v → Value.okWide Try.prog W .any base t v := hval0
  have hW' := hW
  obtain ⟨p, q, hA0, hV, rfl, hfz, hnd⟩ := hW
  have hA : DataW.TrodAll enc Try.prog W 0 (fun _ => true) true Try.f5.params.toList args.toList ds p := hA0
  rw [Try.params5] at hA hval hsz
  obtain ⟨v0, vs0, d0, ds0, p0, q0, hargs, rfl, rfl, h0, rest0⟩ := trodAll_cons hA
  obtain ⟨rfl, rfl, rfl⟩ := trodAll_nil rest0
  obtain rfl : args = #[v0] := by cases args; simp_all
  obtain ⟨rfl, rfl⟩ := trodVars_none hV
  have k0 := h0
  have lt0 : ∀ x ∈ p0, x.block < W.heap.size := by obtain ⟨m, hm⟩ := k0; exact DataW.trod_lt m _ _ _ hm
  obtain ⟨cs0, rfl, hs0⟩ := okWide_array Try.underlying36 (hval 0 36 v0 rfl rfl)
  obtain ⟨m0, e0, f0⟩ := eight_open (Opn.param (j := 0) hsz rfl rfl h0)
  obtain rfl : cs0 = _ := Array.toList_inj.1 (e0.trans List.toList_toArray.symm)
  clear hA0 hval0
  refine (law_below (law_order (ph W) m0 f0.1 f0.2)).mono fun e W' ⟨he, bel⟩ => ?_
  subst he
  exact ⟨_, rfl, _, _, _, [], _, [], hW', trodAll_mk1 (shut_bool Try.underlying4 _), (trodAll_cons_mk (Below.trod laid_out (by kernel_rfl) (of_decide_eq_true (by kernel_rfl)) k0 bel lt0) trodAll_mk0), rfl, bel.frame _, fun h => by cases h⟩
theorem order_holds : Rows.ClocksOrderSaid :=
  OpenClaim.holds_of_wide 5 Try.f5 rfl rfl rfl rfl rfl rfl rfl ⟨rfl, rfl, rfl, rfl, rfl⟩ rfl rfl rfl rfl rfl (by kernel_rfl) Try.func5 (by kernel_rfl)
    (of_decide_eq_true (by kernel_rfl)) (by unfold Func.isWrapper; first | (rw [if_pos (by decide +kernel)]; kernel_rfl) | (rw [if_neg (by decide +kernel)]; exact ⟨rfl, rfl⟩))
    (fun os started H enc _ => order_lifted os started H enc)
end Go.Proofs.Ytjhlpieehhpmgaa
