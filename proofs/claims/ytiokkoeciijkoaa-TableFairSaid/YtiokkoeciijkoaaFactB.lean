/- A closed fact on the whole translation, reckoned once: liftsFinal. -/
import Derived.Test.YtiokkoeciijkoaaRows
import Derived.ProofKit
namespace Go.Proofs.Ytiokkoeciijkoaa
set_option linter.unusedVariables false
set_option linter.unusedSimpArgs false
theorem fact_lifts : Try.prog.liftsFinal = Rows.spanFewRow.lifted := by kernel_rfl
end Go.Proofs.Ytiokkoeciijkoaa
