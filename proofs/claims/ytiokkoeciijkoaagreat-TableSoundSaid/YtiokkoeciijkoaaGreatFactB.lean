/- A closed fact on the whole translation, reckoned once: liftsFinal. -/
import Derived.Test.YtiokkoeciijkoaaGreatRows
import Derived.ProofKit
namespace Go.Proofs.YtiokkoeciijkoaaGreat
set_option linter.unusedVariables false
set_option linter.unusedSimpArgs false
theorem fact_lifts : Tryz.prog.liftsFinal = Rows.spanTellsRow.lifted := by kernel_rfl
end Go.Proofs.YtiokkoeciijkoaaGreat
