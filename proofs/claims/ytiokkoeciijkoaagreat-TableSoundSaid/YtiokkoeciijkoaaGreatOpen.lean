/- How the arguments of the laws are opened: numbers, ranges, locks, steps, and slices of these. -/
import Derived.Test.YtiokkoeciijkoaaGreatSpanA
import Derived.Test.YtiokkoeciijkoaaGreatRows
import Derived.ProofKit
import Derived.OpenShut
import Derived.ShutString
import Derived.ChangeOld
import Derived.SizedLaws
import Derived.Deep.Slices
namespace Go.Proofs.YtiokkoeciijkoaaGreat
set_option linter.unusedVariables false
set_option linter.unusedSimpArgs false
open Go.ChangeShapes Go.WideShapes Go.ChangeAt Go.RowKit

theorem ownKnob_ : ownKnob Tryz.prog.godebug = none := by kernel_rfl
theorem laidOut_ : laidOutB Tryz.prog = true := by kernel_rfl
theorem i64_of_wf {n : Int} (h : (Lit.int .i64 n).wf = true) : I64 n := bounds_i64 h

section
variable {H : Type} {enc : TypeId × Value → H} {w : World} {base : Nat} {spare : Nat → Bool} {held : Bool}

theorem open_intE {n : Nat} {cs : List Value} {x : DataW H × List MemPlace} (h : DataW.trod enc Tryz.prog w base spare held n 3 cs = some x) : ∃ a, cs = [.int .i64 a] ∧ I64 a := by
  obtain ⟨a, h1, _, h2⟩ := DataW.trod_int Tryz.underlying3 h
  exact ⟨a, h1, i64_of_wf h2⟩

theorem cellsInt : Tryz.prog.cellsOf 3 = 1 := by kernel_rfl
theorem cellsSpan : Tryz.prog.cellsOf 43 = 2 := by kernel_rfl
theorem cellsLock : Tryz.prog.cellsOf 101 = 3 := by kernel_rfl
theorem cellsOp7 : Tryz.prog.cellsOf 70 = 5 := by kernel_rfl

set_option maxRecDepth 100000 in
theorem open_spanE {n : Nat} {cs : List Value} {x : DataW H × List MemPlace} (h : DataW.trod enc Tryz.prog w base spare held n 43 cs = some x) : ∃ y : Sp, cs = encS y ∧ I64 y.1 ∧ I64 y.2 := by
  obtain ⟨xs, m, _, _, hl, hxl, hf⟩ := DataW.trod_struct Tryz.underlying43 h
  rw [cellsSpan] at hl
  match cs, hl with
  | [c0, c1], _ =>
    obtain ⟨x0, e0⟩ : ∃ x0, xs[0]? = some x0 := ⟨_, List.getElem?_eq_getElem (by rw [hxl]; decide)⟩
    obtain ⟨x1, e1⟩ : ∃ x1, xs[1]? = some x1 := ⟨_, List.getElem?_eq_getElem (by rw [hxl]; decide)⟩
    have f0 : DataW.trod enc Tryz.prog w base spare held m 3 (([c0, c1].drop 0).take (Tryz.prog.cellsOf 3)) = some x0 := (hf 0 _ rfl).trans e0
    have f1 : DataW.trod enc Tryz.prog w base spare held m 3 (([c0, c1].drop 1).take (Tryz.prog.cellsOf 3)) = some x1 := (hf 1 _ rfl).trans e1
    rw [cellsInt] at f0 f1
    obtain ⟨a, ha, wa⟩ := open_intE f0
    obtain ⟨b, hb, wb⟩ := open_intE f1
    simp at ha hb
    subst ha; subst hb
    exact ⟨(a, b), rfl, wa, wb⟩

/-- a slice whose elements are told by their cells -/
theorem open_rowE {α : Type} {P : α → Prop} {k : Nat} {encE : α → List Value} {t e : TypeId} (hu : Tryz.prog.underlying t = some (.slice e)) (hk : Tryz.prog.cellsOf e = k) (hk0 : 0 < k)
    (hE : ∀ n cs x, DataW.trod enc Tryz.prog w base (fun _ => true) held n e cs = some x → ∃ y, cs = encE y ∧ P y)
    {A : Option Addr} {len cap : Nat} {d : DataW H} {ps : List MemPlace} (h : DataW.Trod enc Tryz.prog w base (fun _ => true) held t (.slice A len cap) d ps) :
    ∃ xs : List α, len = xs.length ∧ Rd k encE w A xs ∧ ∀ x ∈ xs, P x := by
  obtain ⟨fuel, hf⟩ := h
  rcases Go.Deep.open_slice hu hf with ⟨hcs, _⟩ | ⟨a, l, c, m, n, D, Pl, hcs, _, hl, _, hm, _, hi⟩
  · simp [Value.cells] at hcs
    obtain ⟨rfl, rfl, rfl⟩ := hcs
    exact ⟨[], rfl, .inl rfl, fun x hx => by cases hx⟩
  · simp [Value.cells] at hcs
    obtain ⟨rfl, rfl, rfl⟩ := hcs
    simp at hm
    have key : ∀ i, i < len → ∃ y : α, w.cells? base (a.add (i * k)) k = some (encE y) ∧ P y := by
      intro i hil
      obtain ⟨cs', h1, h2⟩ := hi i (by omega)
      obtain ⟨y, hy, hp⟩ := hE _ _ _ h2
      subst hy
      rw [hk] at h1
      exact ⟨y, h1, hp⟩
    have hex : ∃ xs : List α, xs.length = len ∧ ∀ i (hx : i < xs.length), w.cells? base (a.add (i * k)) k = some (encE xs[i]) ∧ P xs[i] := by
      clear hi hf hl
      have : ∀ m, m ≤ len → ∃ xs : List α, xs.length = m ∧ ∀ i (hx : i < xs.length), w.cells? base (a.add (i * k)) k = some (encE xs[i]) ∧ P xs[i] := by
        intro m
        induction m with
        | zero => intro _; exact ⟨[], rfl, fun i hx => by simp at hx⟩
        | succ m ih =>
          intro hml
          obtain ⟨xs, hxl, hxs⟩ := ih (by omega)
          obtain ⟨y, hy, hp⟩ := key m (by omega)
          refine ⟨xs ++ [y], by simp [hxl], fun i hx => ?_⟩
          by_cases him : i < xs.length
          · rw [List.getElem_append_left him]; exact hxs i him
          · have : i = m := by simp at hx; omega
            subst this
            rw [List.getElem_append_right (by omega)]
            simpa using ⟨hy, hp⟩
      exact this len (Nat.le_refl _)
    obtain ⟨xs, hxl, hxs⟩ := hex
    refine ⟨xs, hxl.symm, ?_, fun x hx => ?_⟩
    · by_cases hx0 : xs = []
      · exact .inl hx0
      · right
        have h0 : 0 < xs.length := List.length_pos_iff.2 hx0
        have hcell : ∀ i (hx : i < xs.length) j u, j < k → (encE xs[i])[j]? = some u → w.cell? (a.add (i * k + j)) = some u := by
          intro i hx j u hj hu
          obtain ⟨_, _, hat⟩ := World.cells?_some (hxs i hx).1
          have := hat j hj
          rw [Go.Deep.add_add] at this
          rw [this]; exact hu
        have hlen : ∀ i (hx : i < xs.length), (encE xs[i]).length = k := by
          intro i hx
          obtain ⟨_, hcl, _⟩ := World.cells?_some (hxs i hx).1
          exact hcl
        have hspot : a.spot = none := by
          have h1 := hlen 0 h0
          have h2 := hcell 0 h0 0 (encE xs[0])[0] hk0 (List.getElem?_eq_getElem (by omega))
          simp only [Nat.zero_mul, Nat.add_zero] at h2
          have h3 : (a.add 0) = a := by unfold Addr.add; simp
          rw [h3] at h2
          cases hs : a.spot with
          | none => rfl
          | some s => simp [World.cell?, hs] at h2; split at h2 <;> simp at h2
        obtain ⟨b, o, s⟩ := a
        simp only at hspot
        subst hspot
        refine ⟨b, o, rfl, ?_, ?_⟩
        · have h1 := hlen 0 h0
          have h2 := hcell 0 h0 0 (encE xs[0])[0] hk0 (List.getElem?_eq_getElem (by omega))
          rw [add_lit'] at h2
          exact World.block_lt_of_cell? w _ h2
        · have gen : ∀ (ys : List α) (s : Nat), (∀ i (hx : i < ys.length), (encE ys[i]).length = k ∧ ∀ j u, j < k → (encE ys[i])[j]? = some u → w.cell? ⟨b, o + (s + i * k + j), none⟩ = some u) →
              ∀ j u, (ys.flatMap encE)[j]? = some u → w.cell? ⟨b, o + (s + j), none⟩ = some u := by
            intro ys
            induction ys with
            | nil => intro s _ j u hu; simp at hu
            | cons y ys ih =>
              intro s hy j u hu
              have hy0 := hy 0 (by simp)
              simp only [List.getElem_cons_zero] at hy0
              rw [List.flatMap_cons] at hu
              by_cases hj : j < k
              · rw [List.getElem?_append_left (by omega)] at hu
                have := hy0.2 j u hj hu
                simpa using this
              · rw [List.getElem?_append_right (by omega), hy0.1] at hu
                have := ih (s + k) (fun i hx => by
                  have := hy (i + 1) (by simpa using hx)
                  simp only [List.getElem_cons_succ] at this
                  refine ⟨this.1, fun j' u' hj' hu' => ?_⟩
                  have h2 := this.2 j' u' hj' hu'
                  have e1 : s + (i + 1) * k + j' = s + k + i * k + j' := by rw [Nat.add_mul]; omega
                  rw [e1] at h2; exact h2) (j - k) u hu
                have e2 : s + k + (j - k) = s + j := by omega
                rw [e2] at this; exact this
          intro j u hu
          have := gen xs 0 (fun i hx => ⟨hlen i hx, fun j u hj hu => by have := hcell i hx j u hj hu; rw [add_lit'] at this; simpa using this⟩) j u hu
          simpa using this
    · obtain ⟨i, hi, rfl⟩ := List.getElem_of_mem hx
      exact (hxs i hi).2
abbrev Op7 := Int × Int × Int × Int × Int
def encO (x : Op7) : List Value := [.int .i64 x.1, .int .i64 x.2.1, .int .i64 x.2.2.1, .int .i64 x.2.2.2.1, .int .i64 x.2.2.2.2]
def okO (x : Op7) : Prop := I64 x.1 ∧ I64 x.2.1 ∧ I64 x.2.2.1 ∧ I64 x.2.2.2.1 ∧ I64 x.2.2.2.2

set_option maxRecDepth 100000 in
theorem open_op7E {n : Nat} {cs : List Value} {x : DataW H × List MemPlace} (h : DataW.trod enc Tryz.prog w base spare held n 70 cs = some x) : ∃ y : Op7, cs = encO y ∧ okO y := by
  obtain ⟨xs, m, _, _, hl, hxl, hf⟩ := DataW.trod_struct Tryz.underlying70 h
  rw [cellsOp7] at hl
  match cs, hl with
  | [c0, c1, c2, c3, c4], _ =>
    obtain ⟨x0, e0⟩ : ∃ x0, xs[0]? = some x0 := ⟨_, List.getElem?_eq_getElem (by rw [hxl]; decide)⟩
    obtain ⟨x1, e1⟩ : ∃ x1, xs[1]? = some x1 := ⟨_, List.getElem?_eq_getElem (by rw [hxl]; decide)⟩
    obtain ⟨x2, e2⟩ : ∃ x2, xs[2]? = some x2 := ⟨_, List.getElem?_eq_getElem (by rw [hxl]; decide)⟩
    obtain ⟨x3, e3⟩ : ∃ x3, xs[3]? = some x3 := ⟨_, List.getElem?_eq_getElem (by rw [hxl]; decide)⟩
    have f0 : DataW.trod enc Tryz.prog w base spare held m 3 (([c0, c1, c2, c3, c4].drop 0).take (Tryz.prog.cellsOf 3)) = some x0 := (hf 0 _ rfl).trans e0
    have f1 : DataW.trod enc Tryz.prog w base spare held m 3 (([c0, c1, c2, c3, c4].drop 1).take (Tryz.prog.cellsOf 3)) = some x1 := (hf 1 _ rfl).trans e1
    have f2 : DataW.trod enc Tryz.prog w base spare held m 3 (([c0, c1, c2, c3, c4].drop 2).take (Tryz.prog.cellsOf 3)) = some x2 := (hf 2 _ rfl).trans e2
    have f3 : DataW.trod enc Tryz.prog w base spare held m 43 (([c0, c1, c2, c3, c4].drop 3).take (Tryz.prog.cellsOf 43)) = some x3 := (hf 3 _ rfl).trans e3
    rw [cellsInt] at f0 f1 f2
    rw [cellsSpan] at f3
    obtain ⟨a, ha, wa⟩ := open_intE f0
    obtain ⟨b, hb, wb⟩ := open_intE f1
    obtain ⟨d, hd, wd⟩ := open_intE f2
    obtain ⟨y, hy, wy⟩ := open_spanE f3
    obtain ⟨y0, y1⟩ := y
    simp [encS] at ha hb hd hy
    obtain ⟨rfl, rfl⟩ := hy
    subst ha; subst hb; subst hd
    exact ⟨(a, b, d, y0, y1), rfl, wa, wb, wd, wy.1, wy.2⟩
end

end Go.Proofs.YtiokkoeciijkoaaGreat
