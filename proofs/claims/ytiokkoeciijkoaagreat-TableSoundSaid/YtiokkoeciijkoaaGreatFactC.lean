/- A closed fact on the whole translation, reckoned once: make. -/
import Derived.Test.YtiokkoeciijkoaaGreatRows
import Derived.ProofKit
namespace Go.Proofs.YtiokkoeciijkoaaGreat
set_option linter.unusedVariables false
set_option linter.unusedSimpArgs false
theorem fact_make : Tryz.prog.make = some Rows.spanTellsRow.make := by kernel_rfl
end Go.Proofs.YtiokkoeciijkoaaGreat
