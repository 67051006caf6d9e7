/- A closed fact on the whole translation, reckoned once: mayEnter. -/
import Derived.Test.YtiokkoeciijkoaaGreatRows
import Derived.ProofKit
namespace Go.Proofs.YtiokkoeciijkoaaGreat
set_option linter.unusedVariables false
set_option linter.unusedSimpArgs false
theorem fact_mayEnter : Tryz.prog.mayEnter = true := by kernel_rfl
end Go.Proofs.YtiokkoeciijkoaaGreat
