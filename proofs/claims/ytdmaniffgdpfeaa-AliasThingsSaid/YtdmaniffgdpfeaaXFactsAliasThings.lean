/- A part of the proof that AliasThings and AliasMeets return true for every module: texts on an abstract reading of the code (FactsAliasThings). -/
import Derived.Test.YtdmaniffgdpfeaaRows
import Derived.ProofKit
set_option linter.unusedVariables false
set_option linter.unusedSimpArgs false
set_option linter.unusedSectionVars false
set_option linter.unusedVariables false
namespace Go.Proofs.Ytdmaniffgdpfeaa.aliasThings
open Go Go.Proofs Go.ChangeShapes Go.WideShapes Go.ChangeAt Go.RowKit
theorem p1 : Try.pinned.checked.prog.funcNamed Rows.aliasThingsRow.func = some 4 := by kernel_rfl
theorem p4 : Try.f4.isInstance Try.pinned.checked.prog Rows.aliasThingsRow.origin Rows.aliasThingsRow.targs := of_decide_eq_true (by kernel_rfl)
theorem p5 : Try.f4.isWrapper Try.pinned.checked.prog Rows.aliasThingsRow.wrapper Rows.aliasThingsRow.mainSum := by unfold Func.isWrapper; first | (rw [if_pos (by decide +kernel)]; kernel_rfl) | (rw [if_neg (by decide +kernel)]; exact ⟨rfl, rfl⟩)
theorem p3 : joinedFacts Try.pinned.checked.prog 4 Try.f4 Rows.aliasThingsSpec Rows.aliasThingsRow = true := by kernel_rfl
end Go.Proofs.Ytdmaniffgdpfeaa.aliasThings
