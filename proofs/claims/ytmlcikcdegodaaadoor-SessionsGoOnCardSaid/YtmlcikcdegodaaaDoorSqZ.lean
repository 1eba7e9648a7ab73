/-
  The rest of the package inbox; awake.
-/
import Derived.Test.YtmlcikcdegodaaaDoorSqY
set_option linter.unusedSimpArgs false
set_option linter.unusedVariables false
set_option maxRecDepth 20000
namespace Go.Proofs.YtmlcikcdegodaaaDoor
open Go Go.Sx
attribute [local irreducible] MidQ wpE wpO wpC qE wpQ wpQO wpH wpHO wpD wpDO wpZ Ev own emp exI sl ch PostS LoopQ Rd rowsAt

theorem inOk_nil : InOk [] := ⟨List.Pairwise.nil, by simp, by simp⟩
theorem inOk_put {l : List Int} {k : Nat} {id : Int} (ho : InOk l) (h : Lb l id k) (hn : id ∉ l) (h1 : 1 ≤ id) (h2 : id ≤ 65535) (hl : l.length < 16) : InOk (putIn l k id) := ⟨asc_put ho.1 h hn, by rw [putIn_length h.1]; omega, fun x hx => by
  rcases mem_putIn.1 hx with rfl | hx
  · exact ⟨h1, h2⟩
  · exact ho.2.2 x hx⟩
theorem inOk_out {l : List Int} {k : Nat} (ho : InOk l) (hk : k < l.length) : InOk (takeOut l k) := ⟨asc_out ho.1, by rw [takeOut_length hk]; have := ho.2.1; omega, fun x hx => ho.2.2 x (mem_takeOut hx)⟩

end Go.Proofs.YtmlcikcdegodaaaDoor
