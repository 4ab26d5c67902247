/- ReviewMonotone of whatever memory. -/
import Derived.Test.YtjphghadogedkaaRvL
import Derived.Test.YtjphghadogedkaaRvM
set_option linter.unusedSimpArgs false
set_option linter.unusedVariables false
namespace Go.Re
open Go Go.Sl
theorem monotone_law {W : World} {x : PropA} {q : Int × Bool} {u : By} (h : x.Ok (mem W)) (hu : u.length ≤ 140737488355328) :
    FnOk Go.Proofs.Try.prog 4 [.agg ⟨x.cells⟩, .agg ⟨polC q⟩, str u] [poolOf (mem W)] emp (LawR W) :=
  monotone_ok h.y h.n h.t h.h h.ny h.nn hu
end Go.Re
