/- A closed fact on the whole translation, reckoned once: mayEnter. -/
import Derived.Test.YtiokkoeciijkoaaRows
import Derived.ProofKit
namespace Go.Proofs.Ytiokkoeciijkoaa
set_option linter.unusedVariables false
set_option linter.unusedSimpArgs false
theorem fact_mayEnter : Try.prog.mayEnter = true := by kernel_rfl
end Go.Proofs.Ytiokkoeciijkoaa
