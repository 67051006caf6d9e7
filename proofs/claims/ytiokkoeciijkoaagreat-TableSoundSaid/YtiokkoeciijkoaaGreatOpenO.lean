/- How steps of chapter 18 that came in are opened. -/
import Derived.Test.YtiokkoeciijkoaaGreatOpenL
import Derived.Test.YtiokkoeciijkoaaGreatLawSo
namespace Go.Proofs.YtiokkoeciijkoaaGreat
set_option linter.unusedVariables false
set_option linter.unusedSimpArgs false
open Go.ChangeShapes Go.WideShapes Go.ChangeAt Go.RowKit
theorem cellsOp18 : Tryz.prog.cellsOf 103 = 6 := by kernel_rfl
section
variable {H : Type} {enc : TypeId × Value → H} {w : World} {base : Nat} {spare : Nat → Bool} {held : Bool}
set_option maxRecDepth 100000 in
theorem open_op18E {n : Nat} {cs : List Value} {x : DataW H × List MemPlace} (h : DataW.trod enc Tryz.prog w base spare held n 103 cs = some x) : ∃ y : Op18, cs = encT y ∧ okT y := by
  obtain ⟨xs, m, _, _, hl, hxl, hf⟩ := DataW.trod_struct Tryz.underlying103 h
  rw [cellsOp18] at hl
  match cs, hl with
  | [c0, c1, c2, c3, c4, c5], _ =>
    obtain ⟨x0, e0⟩ : ∃ x0, xs[0]? = some x0 := ⟨_, List.getElem?_eq_getElem (by rw [hxl]; decide)⟩
    obtain ⟨x1, e1⟩ : ∃ x1, xs[1]? = some x1 := ⟨_, List.getElem?_eq_getElem (by rw [hxl]; decide)⟩
    obtain ⟨x2, e2⟩ : ∃ x2, xs[2]? = some x2 := ⟨_, List.getElem?_eq_getElem (by rw [hxl]; decide)⟩
    obtain ⟨x3, e3⟩ : ∃ x3, xs[3]? = some x3 := ⟨_, List.getElem?_eq_getElem (by rw [hxl]; decide)⟩
    have f0 : DataW.trod enc Tryz.prog w base spare held m 3 (([c0, c1, c2, c3, c4, c5].drop 0).take (Tryz.prog.cellsOf 3)) = some x0 := (hf 0 _ rfl).trans e0
    have f1 : DataW.trod enc Tryz.prog w base spare held m 3 (([c0, c1, c2, c3, c4, c5].drop 1).take (Tryz.prog.cellsOf 3)) = some x1 := (hf 1 _ rfl).trans e1
    have f2 : DataW.trod enc Tryz.prog w base spare held m 3 (([c0, c1, c2, c3, c4, c5].drop 2).take (Tryz.prog.cellsOf 3)) = some x2 := (hf 2 _ rfl).trans e2
    have f3 : DataW.trod enc Tryz.prog w base spare held m 101 (([c0, c1, c2, c3, c4, c5].drop 3).take (Tryz.prog.cellsOf 101)) = some x3 := (hf 3 _ rfl).trans e3
    rw [cellsInt] at f0 f1 f2
    rw [cellsLock] at f3
    obtain ⟨a, ha, wa⟩ := open_intE f0
    obtain ⟨b, hb, wb⟩ := open_intE f1
    obtain ⟨d, hd, wd⟩ := open_intE f2
    obtain ⟨y, hy, wy⟩ := open_lockE f3
    obtain ⟨y0, y1, y2⟩ := y
    simp [encP] at ha hb hd hy
    obtain ⟨rfl, rfl, rfl⟩ := hy
    subst ha; subst hb; subst hd
    exact ⟨(a, b, d, y0, y1, y2), rfl, wa, wb, wd, wy.1, wy.2.1, wy.2.2⟩
end
end Go.Proofs.YtiokkoeciijkoaaGreat
