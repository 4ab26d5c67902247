/- ReviewNobody of whatever memory. -/
import Derived.Test.YtjphghadogedkaaRvR
set_option linter.unusedSimpArgs false
set_option linter.unusedVariables false
namespace Go.Re
open Go Go.Sl
theorem nobody_law {W : World} {x : Act1} (h : x.Ok) : FnOk Go.Proofs.Try.prog 8 [.agg ⟨actC x⟩] [poolOf (mem W)] emp (LawR W) := nobody_ok h
end Go.Re
