/- How locks that came in are opened. -/
import Derived.Test.YtiokkoeciijkoaaGreatOpen
import Derived.Test.YtiokkoeciijkoaaGreatBase3
namespace Go.Proofs.YtiokkoeciijkoaaGreat
set_option linter.unusedVariables false
set_option linter.unusedSimpArgs false
open Go.ChangeShapes Go.WideShapes Go.ChangeAt Go.RowKit
abbrev okL (y : Int × Int × Int) : Prop := I64 y.1 ∧ I64 y.2.1 ∧ I64 y.2.2
section
variable {H : Type} {enc : TypeId × Value → H} {w : World} {base : Nat} {spare : Nat → Bool} {held : Bool}
set_option maxRecDepth 100000 in
theorem open_lockE {n : Nat} {cs : List Value} {x : DataW H × List MemPlace} (h : DataW.trod enc Tryz.prog w base spare held n 101 cs = some x) : ∃ y : Int × Int × Int, cs = encP y ∧ okL y := by
  obtain ⟨xs, m, _, _, hl, hxl, hf⟩ := DataW.trod_struct Tryz.underlying101 h
  rw [cellsLock] at hl
  match cs, hl with
  | [c0, c1, c2], _ =>
    obtain ⟨x0, e0⟩ : ∃ x0, xs[0]? = some x0 := ⟨_, List.getElem?_eq_getElem (by rw [hxl]; decide)⟩
    obtain ⟨x1, e1⟩ : ∃ x1, xs[1]? = some x1 := ⟨_, List.getElem?_eq_getElem (by rw [hxl]; decide)⟩
    have f0 : DataW.trod enc Tryz.prog w base spare held m 43 (([c0, c1, c2].drop 0).take (Tryz.prog.cellsOf 43)) = some x0 := (hf 0 _ rfl).trans e0
    have f1 : DataW.trod enc Tryz.prog w base spare held m 3 (([c0, c1, c2].drop 2).take (Tryz.prog.cellsOf 3)) = some x1 := (hf 1 _ rfl).trans e1
    rw [cellsInt] at f1
    rw [cellsSpan] at f0
    obtain ⟨y, hy, wy⟩ := open_spanE f0
    obtain ⟨a, ha, wa⟩ := open_intE f1
    obtain ⟨y0, y1⟩ := y
    simp [encS] at ha hy
    obtain ⟨rfl, rfl⟩ := hy
    subst ha
    exact ⟨(y0, y1, a), rfl, wy.1, wy.2, wa⟩
theorem open_intL {n : Nat} {cs : List Value} {x : DataW H × List MemPlace} (h : DataW.trod enc Tryz.prog w base spare held n 3 cs = some x) : ∃ y : Int, cs = encI y ∧ I64 y := by
  obtain ⟨a, ha, wa⟩ := open_intE h
  exact ⟨a, ha, wa⟩
end
end Go.Proofs.YtiokkoeciijkoaaGreat
