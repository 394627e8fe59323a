/- A part of the proof that AliasThings and AliasMeets return true for every module: texts on an abstract reading of the code (Ev21). -/
import Derived.Test.YtdmaniffgdpfeaaXAmEx2
import Derived.Test.YtdmaniffgdpfeaaXAmSt
import Derived.Test.YtdmaniffgdpfeaaXAlW1
set_option linter.unusedVariables false
set_option linter.unusedSimpArgs false
set_option linter.unusedSectionVars false
set_option maxRecDepth 100000
namespace Go.Am
open Go Go.Proofs
def tabs : FuncId → Tab := stepsOf
theorem noNum : Try.prog.funcs.all (fun fn => !(fn.name == "runtime.NumGoroutine")) = true := by kernel_rfl
theorem eval21 : isT (xrun Try.prog tabs 300 16 [] []) = true := by kernel_rfl
end Go.Am
