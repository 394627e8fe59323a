/- A part of the proof that AliasThings and AliasMeets return true for every module: texts on an abstract reading of the code (FactsAliasMeets). -/
import Derived.Test.YtdmaniffgdpfeaaRows
import Derived.ProofKit
set_option linter.unusedVariables false
set_option linter.unusedSimpArgs false
set_option linter.unusedSectionVars false
set_option linter.unusedVariables false
namespace Go.Proofs.Ytdmaniffgdpfeaa.aliasMeets
open Go Go.Proofs Go.ChangeShapes Go.WideShapes Go.ChangeAt Go.RowKit
theorem p1 : Try.pinned.checked.prog.funcNamed Rows.aliasMeetsRow.func = some 3 := by kernel_rfl
theorem p4 : Try.f3.isInstance Try.pinned.checked.prog Rows.aliasMeetsRow.origin Rows.aliasMeetsRow.targs := of_decide_eq_true (by kernel_rfl)
theorem p5 : Try.f3.isWrapper Try.pinned.checked.prog Rows.aliasMeetsRow.wrapper Rows.aliasMeetsRow.mainSum := by unfold Func.isWrapper; first | (rw [if_pos (by decide +kernel)]; kernel_rfl) | (rw [if_neg (by decide +kernel)]; exact ⟨rfl, rfl⟩)
theorem p3 : joinedFacts Try.pinned.checked.prog 3 Try.f3 Rows.aliasMeetsSpec Rows.aliasMeetsRow = true := by kernel_rfl
end Go.Proofs.Ytdmaniffgdpfeaa.aliasMeets
