/- The closed facts on the whole translation that every row asks. -/
import Derived.Test.YtiokkoeciijkoaaFactA
import Derived.Test.YtiokkoeciijkoaaFactB
import Derived.Test.YtiokkoeciijkoaaFactC
namespace Go.Proofs.Ytiokkoeciijkoaa
set_option linter.unusedVariables false
set_option linter.unusedSimpArgs false
theorem fact_laidOut : laidOutB Try.prog = true := by kernel_rfl
theorem fact_mapsRowed : mapsRowed Try.prog = true := by kernel_rfl
theorem fact_stops : (Try.prog.stops == []) = true := by kernel_rfl
theorem fact_stopKnobs : (Try.prog.stopKnobs == []) = true := by kernel_rfl
theorem fact_plainKeys : Try.prog.plainKeys = Rows.spanFewRow.plainKeys := by kernel_rfl
theorem fact_stopsHeard : Try.prog.stopsHeard = true := by kernel_rfl
theorem and_mk {a b : Bool} (h : a = true) (k : b = true) : (a && b) = true := by rw [h, k]; rfl
theorem beq_mk {α : Type} [BEq α] {a b c : α} (h : b = c) (k : (a == c) = true) : (a == b) = true := by rw [h]; exact k
theorem beq_mk' {α : Type} [BEq α] {a b c : α} (h : a = c) (k : (c == b) = true) : (a == b) = true := by rw [h]; exact k
end Go.Proofs.Ytiokkoeciijkoaa
