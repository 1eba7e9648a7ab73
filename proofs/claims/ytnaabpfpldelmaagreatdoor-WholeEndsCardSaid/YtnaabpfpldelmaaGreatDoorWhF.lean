/-
  No function of the program starts a goroutine.
-/
import Derived.Test.YtnaabpfpldelmaaGreatDoorRows
import GoSem.ClaimGoes
set_option linter.unusedSimpArgs false
set_option linter.unusedVariables false
set_option maxRecDepth 20000
namespace Go.Proofs.YtnaabpfpldelmaaGreatDoor
open Go
set_option maxRecDepth 100000
theorem goes_of {P : Program} (ha : P.funcs.any Func.goes = false) (hx : ∀ x : Nat, (P.funcs[x]?).any Func.goes = false) (f : FuncId) : P.goes f = false := by
  unfold Program.goes
  rw [ha, Bool.and_false, Bool.or_false, List.any_eq_false]
  intro g _
  rw [hx g]
  decide
theorem no_go_of {P : Program} {c : OpenClaim} (hs : c.start = .entering) (h : ∀ f, P.goes f = false) : c.goesBy P = false := by
  unfold OpenClaim.goesBy Program.goesAt Program.goesFrom
  rw [hs]
  cases P.funcNamed c.func with
  | none => rfl
  | some f => simp [h]
noncomputable abbrev noGo (i : Nat) : Bool := !((Tryz.prog.funcs[i]?).any Func.goes)
theorem go_0 : (List.range' 0 90).all noGo = true := by kernel_rfl
theorem go_1 : (List.range' 90 90).all noGo = true := by kernel_rfl
theorem go_2 : (List.range' 180 90).all noGo = true := by kernel_rfl
theorem go_3 : (List.range' 270 90).all noGo = true := by kernel_rfl
theorem go_4 : (List.range' 360 90).all noGo = true := by kernel_rfl
theorem go_5 : (List.range' 450 90).all noGo = true := by kernel_rfl
theorem go_6 : (List.range' 540 90).all noGo = true := by kernel_rfl
theorem go_7 : (List.range' 630 83).all noGo = true := by kernel_rfl
theorem go_n : Tryz.prog.funcs.size = 713 := by kernel_rfl
theorem go_at (x : Nat) : (Tryz.prog.funcs[x]?).any Func.goes = false := by
  have h : noGo x = true := by
    by_cases hn : x < 713
    · skip
      by_cases h0 : x < 90
      · exact List.all_eq_true.1 go_0 x (List.mem_range'_1.2 ⟨by omega, by omega⟩)
      by_cases h1 : x < 180
      · exact List.all_eq_true.1 go_1 x (List.mem_range'_1.2 ⟨by omega, by omega⟩)
      by_cases h2 : x < 270
      · exact List.all_eq_true.1 go_2 x (List.mem_range'_1.2 ⟨by omega, by omega⟩)
      by_cases h3 : x < 360
      · exact List.all_eq_true.1 go_3 x (List.mem_range'_1.2 ⟨by omega, by omega⟩)
      by_cases h4 : x < 450
      · exact List.all_eq_true.1 go_4 x (List.mem_range'_1.2 ⟨by omega, by omega⟩)
      by_cases h5 : x < 540
      · exact List.all_eq_true.1 go_5 x (List.mem_range'_1.2 ⟨by omega, by omega⟩)
      by_cases h6 : x < 630
      · exact List.all_eq_true.1 go_6 x (List.mem_range'_1.2 ⟨by omega, by omega⟩)
      exact List.all_eq_true.1 go_7 x (List.mem_range'_1.2 ⟨by omega, by omega⟩)
    · show (!((Tryz.prog.funcs[x]?).any Func.goes)) = true
      rw [Array.getElem?_eq_none (by rw [go_n]; omega)]
      rfl
  simpa [noGo] using h
theorem go_all : Tryz.prog.funcs.any Func.goes = false := by
  rw [Array.any_eq_false]
  intro i hi
  have := go_at i
  rw [Array.getElem?_eq_getElem hi] at this
  simpa using this
theorem no_go : Rows.wholeEndsRow.goesBy Tryz.prog = false := no_go_of rfl (goes_of go_all go_at)
end Go.Proofs.YtnaabpfpldelmaaGreatDoor
