/- A closed fact on the whole translation, reckoned once: liftsFinal. -/
import Derived.Test.YtiokkoeciijkoaaRows
import Derived.ProofKit
namespace Go.Proofs.Ytiokkoeciijkoaa
theorem fact_lifts : Try.prog.liftsFinal = Rows.spanFewRow.lifted := by kernel_rfl
end Go.Proofs.Ytiokkoeciijkoaa
