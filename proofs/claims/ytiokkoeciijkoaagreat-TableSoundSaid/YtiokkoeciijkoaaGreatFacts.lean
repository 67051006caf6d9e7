/- The closed facts on the whole translation that every row asks. -/
import Derived.Test.YtiokkoeciijkoaaGreatFactA
import Derived.Test.YtiokkoeciijkoaaGreatFactB
import Derived.Test.YtiokkoeciijkoaaGreatFactC
namespace Go.Proofs.YtiokkoeciijkoaaGreat
set_option linter.unusedVariables false
set_option linter.unusedSimpArgs false
theorem fact_laidOut : laidOutB Tryz.prog = true := by kernel_rfl
theorem fact_mapsRowed : mapsRowed Tryz.prog = true := by kernel_rfl
theorem fact_stops : (Tryz.prog.stops == []) = true := by kernel_rfl
theorem fact_stopKnobs : (Tryz.prog.stopKnobs == []) = true := by kernel_rfl
theorem fact_plainKeys : Tryz.prog.plainKeys = Rows.spanTellsRow.plainKeys := by kernel_rfl
theorem fact_stopsHeard : Tryz.prog.stopsHeard = true := by kernel_rfl
theorem and_mk {a b : Bool} (h : a = true) (k : b = true) : (a && b) = true := by rw [h, k]; rfl
theorem beq_mk {α : Type} [BEq α] {a b c : α} (h : b = c) (k : (a == c) = true) : (a == b) = true := by rw [h]; exact k
theorem beq_mk' {α : Type} [BEq α] {a b c : α} (h : a = c) (k : (c == b) = true) : (a == b) = true := by rw [h]; exact k
end Go.Proofs.YtiokkoeciijkoaaGreat
