/- A closed fact on the whole translation, reckoned once: make. -/
import Derived.Test.YtiokkoeciijkoaaRows
import Derived.ProofKit
namespace Go.Proofs.Ytiokkoeciijkoaa
set_option linter.unusedVariables false
set_option linter.unusedSimpArgs false
theorem fact_make : Try.prog.make = some Rows.spanFewRow.make := by kernel_rfl
end Go.Proofs.Ytiokkoeciijkoaa
