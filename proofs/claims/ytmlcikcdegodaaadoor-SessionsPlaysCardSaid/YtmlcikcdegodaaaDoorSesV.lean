/-
  utf8.ValidString where the start's blocks hold its two tables.
-/
import Derived.Test.YtmlcikcdegodaaaDoorSesN
import Derived.Test.YtmlcikcdegodaaaDoorShelfA
set_option linter.unusedSimpArgs false
set_option linter.unusedVariables false
set_option maxRecDepth 20000
namespace Go.Proofs.YtmlcikcdegodaaaDoor
open Go Go.Sx
def TabsH (H : PHeap) : Prop := ∀ w : World, PHeap.le H (ph w) → Lib.Utf8Tabs (Tryd.laysValid_ren.g 3) (Tryd.laysValid_ren.g 4) w
theorem tabs_start {W : World} (h : Lib.Utf8Tabs (Tryd.laysValid_ren.g 3) (Tryd.laysValid_ren.g 4) W) : TabsH (ph W) := fun w hle =>
  ⟨fun c hc => cell_of_le hle (show (ph W).cell? _ = some _ from h.1 c hc), fun i hi => ⟨cell_of_le hle (show (ph W).cell? _ = some _ from (h.2 i hi).1), cell_of_le hle (show (ph W).cell? _ = some _ from (h.2 i hi).2)⟩⟩
theorem valid_in {H : PHeap} (T : TabsH H) : ValidIn H := fun s hs => ⟨callable Tryd.func53 rfl rfl, fun w h hsep hle => by
  obtain ⟨h1, h2, a, r, d, l1, l2⟩ := hsep
  have hH : PHeap.le H h := by rw [← (show h1 = H from a)]; exact l1
  have cV : Calls Tryd.prog 53 #[.string s] w _ := Any.utf8_ValidString Tryd.laysValid s w (by omega) (T w (PHeap.le_trans hH hle))
  refine cV.mono ?_
  rintro e w' ⟨rfl, b⟩
  refine ⟨(), trivial, rfl, ⟨b.os, b.tape, b.output, b.size, fun k hk _ => b.block k hk⟩, h, ⟨h1, h2, a, r, d, l1, l2⟩, ?_, fun x hx => Or.inl hx⟩
  intro x o e
  have e' : w.heap[x]? = some o := hle x o e
  have hx : x < w.heap.size := (Array.getElem?_eq_some_iff.1 e').1
  show w'.heap[x]? = some o
  rw [b.block x hx]
  exact e'⟩
end Go.Proofs.YtmlcikcdegodaaaDoor
