/-
  The row's closed facts together.
-/
import Derived.Test.YtnaabpfpldelmaaGreatDoorWhA
import Derived.Test.YtnaabpfpldelmaaGreatDoorWhC
import Derived.Test.YtnaabpfpldelmaaGreatDoorWhD
import Derived.Test.YtnaabpfpldelmaaGreatDoorWhE
set_option linter.unusedSimpArgs false
set_option linter.unusedVariables false
set_option maxRecDepth 20000
namespace Go.Proofs.YtnaabpfpldelmaaGreatDoor
open Go
set_option maxRecDepth 100000
theorem wj0 : (Rows.wholeEndsRow.wf (OpenSpec.ofChange Rows.wholeEndsSpec)) = true := by kernel_rfl
theorem wj2 : (mapsRowed Tryz.prog) = true := by kernel_rfl
theorem wj3 : (Tryz.f3.params.all (Tryz.prog.readableRec ·)) = true := by kernel_rfl
theorem wj4 : (namedTie Tryz.prog Rows.wholeEndsRow.named Rows.wholeEndsSpec.vars) = true := by kernel_rfl
theorem wj5 : ((Rows.wholeEndsRow.stops == [])) = true := by kernel_rfl
theorem wj6 : ((Tryz.prog.stops == [])) = true := by kernel_rfl
theorem wj7 : ((Rows.wholeEndsRow.knobs == [])) = true := by kernel_rfl
theorem wj8 : ((Tryz.prog.stopKnobs == [])) = true := by kernel_rfl
theorem wj13 : ((Rows.wholeEndsRow.maps == (Tryz.f3.params.toList ++ Rows.wholeEndsSpec.plain.varTypes Tryz.prog).any (Tryz.prog.mapsRec ·))) = true := by kernel_rfl
theorem wj14 : ((Rows.wholeEndsRow.ifaces == (Tryz.f3.params.toList ++ Rows.wholeEndsSpec.plain.varTypes Tryz.prog).any (Tryz.prog.ifacesRec ·))) = true := by kernel_rfl
theorem wj15 : ((Rows.wholeEndsRow.mapsOut == Tryz.prog.mapsAmong Tryz.f3.resultTypes.toList)) = true := by kernel_rfl
theorem wj16 : ((Rows.wholeEndsRow.loops == (Tryz.f3.params.toList ++ Rows.wholeEndsSpec.plain.varTypes Tryz.prog).any (Tryz.prog.loopsFrom ·))) = true := by kernel_rfl
theorem wj17 : ((Rows.wholeEndsRow.wideKeys == (Tryz.f3.params.toList ++ Rows.wholeEndsSpec.plain.varTypes Tryz.prog ++ Tryz.f3.resultTypes.toList).any (Tryz.prog.wideKeysFrom ·))) = true := by kernel_rfl
theorem wj18 : (Rows.wholeEndsSpec.vars.all (Tryz.prog.varReadable ·)) = true := by kernel_rfl
theorem wj19 : (Tryz.f3.resultTypes.all (fun t => Tryz.prog.readableRec t && decide (t < Tryz.prog.types.size))) = true := by kernel_rfl
theorem wj20 : ((Rows.wholeEndsRow.ifacesOut == Tryz.f3.resultTypes.toList.any (Tryz.prog.ifacesRec ·))) = true := by kernel_rfl
theorem wj21 : ((Rows.wholeEndsRow.loopsOut == Tryz.f3.resultTypes.toList.any (Tryz.prog.loopsFrom ·))) = true := by kernel_rfl
theorem wj22 : ((Rows.wholeEndsRow.plainKeys == Tryz.prog.plainKeys)) = true := by kernel_rfl
theorem wj23 : (Rows.wholeEndsRow.shortTexts.isNone) = true := by kernel_rfl
theorem wj24 : (Tryz.prog.stopsHeard) = true := by kernel_rfl
theorem wj25 : (Tryz.prog.mayEnter) = true := by kernel_rfl
theorem wj26 : ((Rows.wholeEndsRow.lifted == Tryz.prog.liftsFinal)) = true := by kernel_rfl
theorem wj27 : ((Tryz.prog.make == some Rows.wholeEndsRow.make)) = true := by kernel_rfl
theorem wj28 : ((Rows.wholeEndsRow.kinds == (if Rows.wholeEndsRow.domain.isEmpty then [] else Tryz.f3.params.toList.map fun t => match Tryz.prog.underlying t with | some (.int k) => some k | _ => none))) = true := by kernel_rfl
theorem wj29 : ((Rows.wholeEndsRow.pinned == Rows.wholeEndsRow.pinnedBy)) = true := by kernel_rfl
theorem wj30 : ((Rows.wholeEndsRow.veiled == (Tryz.f3.params.toList ++ Rows.wholeEndsSpec.plain.varTypes Tryz.prog ++ Tryz.f3.resultTypes.toList).any (Tryz.prog.veiledRec ·))) = true := by kernel_rfl
theorem wj31 : (Rows.wholeEndsRow.veiledFits Tryz.prog Tryz.f3.params.toList (Tryz.f3.params.toList ++ Rows.wholeEndsSpec.plain.varTypes Tryz.prog ++ Tryz.f3.resultTypes.toList)) = true := by kernel_rfl
theorem closed_facts : joinedFacts Tryz.pinned.checked.prog 3 Tryz.f3 Rows.wholeEndsSpec Rows.wholeEndsRow = true := by
  unfold joinedFacts
  simp only [Bool.and_eq_true]
  exact ⟨⟨⟨⟨⟨⟨⟨⟨⟨⟨⟨⟨⟨⟨⟨⟨⟨⟨⟨⟨⟨⟨⟨⟨⟨⟨⟨⟨⟨⟨⟨wj0, laid_out⟩, wj2⟩, wj3⟩, wj4⟩, wj5⟩, wj6⟩, wj7⟩, wj8⟩, wj9⟩, wj10⟩, wj11⟩, wj12⟩, wj13⟩, wj14⟩, wj15⟩, wj16⟩, wj17⟩, wj18⟩, wj19⟩, wj20⟩, wj21⟩, wj22⟩, wj23⟩, wj24⟩, wj25⟩, wj26⟩, wj27⟩, wj28⟩, wj29⟩, wj30⟩, wj31⟩
end Go.Proofs.YtnaabpfpldelmaaGreatDoor
