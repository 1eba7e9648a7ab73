/-
  The types are laid out.
-/
import Derived.Test.YtnaabpfpldelmaaGreatDoorM07
import Derived.JoinedOf
import Derived.Test.YtnaabpfpldelmaaGreatDoorProg
set_option linter.unusedSimpArgs false
set_option linter.unusedVariables false
set_option maxRecDepth 20000
namespace Go.Proofs.YtnaabpfpldelmaaGreatDoor
open Go Go.Sx
open Go.ChangeShapes Go.WideShapes Go.ChangeAt Go.RowKit
theorem lo_0 : (List.range' 0 90).all (rowFine Tryz.prog) = true := by kernel_rfl
theorem lo_1 : (List.range' 90 90).all (rowFine Tryz.prog) = true := by kernel_rfl
theorem lo_2 : (List.range' 180 90).all (rowFine Tryz.prog) = true := by kernel_rfl
theorem lo_3 : (List.range' 270 90).all (rowFine Tryz.prog) = true := by kernel_rfl
theorem lo_4 : (List.range' 360 90).all (rowFine Tryz.prog) = true := by kernel_rfl
theorem lo_5 : (List.range' 450 90).all (rowFine Tryz.prog) = true := by kernel_rfl
theorem lo_6 : (List.range' 540 90).all (rowFine Tryz.prog) = true := by kernel_rfl
theorem lo_7 : (List.range' 630 90).all (rowFine Tryz.prog) = true := by kernel_rfl
theorem lo_8 : (List.range' 720 90).all (rowFine Tryz.prog) = true := by kernel_rfl
theorem lo_9 : (List.range' 810 33).all (rowFine Tryz.prog) = true := by kernel_rfl
theorem lo_g : Tryz.prog.globals.all (fun g => decide (g.type < Tryz.prog.types.size)) = true := by kernel_rfl
theorem lo_f : Tryz.prog.funcs.all (fun f => f.params.all fun t => decide (t < Tryz.prog.types.size)) = true := by kernel_rfl
theorem lo_n : Tryz.prog.types.size = 843 := by kernel_rfl
theorem lo_all : (List.range Tryz.prog.types.size).all (rowFine Tryz.prog) = true := by
  rw [lo_n, List.all_eq_true]
  intro x hx
  have hlt := List.mem_range.1 hx
  by_cases h0 : x < 90
  · exact List.all_eq_true.1 lo_0 x (List.mem_range'_1.2 ⟨by omega, by omega⟩)
  by_cases h1 : x < 180
  · exact List.all_eq_true.1 lo_1 x (List.mem_range'_1.2 ⟨by omega, by omega⟩)
  by_cases h2 : x < 270
  · exact List.all_eq_true.1 lo_2 x (List.mem_range'_1.2 ⟨by omega, by omega⟩)
  by_cases h3 : x < 360
  · exact List.all_eq_true.1 lo_3 x (List.mem_range'_1.2 ⟨by omega, by omega⟩)
  by_cases h4 : x < 450
  · exact List.all_eq_true.1 lo_4 x (List.mem_range'_1.2 ⟨by omega, by omega⟩)
  by_cases h5 : x < 540
  · exact List.all_eq_true.1 lo_5 x (List.mem_range'_1.2 ⟨by omega, by omega⟩)
  by_cases h6 : x < 630
  · exact List.all_eq_true.1 lo_6 x (List.mem_range'_1.2 ⟨by omega, by omega⟩)
  by_cases h7 : x < 720
  · exact List.all_eq_true.1 lo_7 x (List.mem_range'_1.2 ⟨by omega, by omega⟩)
  by_cases h8 : x < 810
  · exact List.all_eq_true.1 lo_8 x (List.mem_range'_1.2 ⟨by omega, by omega⟩)
  exact List.all_eq_true.1 lo_9 x (List.mem_range'_1.2 ⟨by omega, by omega⟩)
theorem laid_out : laidOutB Tryz.prog = true := by
  unfold laidOutB
  rw [lo_all, lo_g, lo_f]
  rfl
end Go.Proofs.YtnaabpfpldelmaaGreatDoor
