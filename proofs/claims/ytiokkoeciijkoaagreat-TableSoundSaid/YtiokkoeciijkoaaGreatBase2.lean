/- More words for memory: what a call leaves of boxes that were laid just ahead of it. -/
import Derived.Test.YtiokkoeciijkoaaGreatBase
namespace Go.Proofs.YtiokkoeciijkoaaGreat
set_option linter.unusedVariables false
set_option linter.unusedSimpArgs false
open Go.RowKit

/-- a call behind one new block: what was there before, and the new block itself, read as they did -/
theorem bcell1 {w1 w2 : World} {o : Obj} (h : Below (w1.alloc o).heap.size (w1.alloc o) w2) :
    (∀ b i, b < w1.heap.size → w2.cell? ⟨b, i, none⟩ = w1.cell? ⟨b, i, none⟩) ∧ (∀ b i, b < w1.heap.size → w2.frozen? ⟨b, i, none⟩ = w1.frozen? ⟨b, i, none⟩) ∧
    (∀ i, w2.cell? ⟨w1.heap.size, i, none⟩ = (w1.alloc o).cell? ⟨w1.heap.size, i, none⟩) ∧ (∀ i, w2.frozen? ⟨w1.heap.size, i, none⟩ = (w1.alloc o).frozen? ⟨w1.heap.size, i, none⟩) ∧ w1.heap.size < w2.heap.size := by
  have hs := h.size
  have hz : (w1.alloc o).heap.size = w1.heap.size + 1 := by simp
  refine ⟨fun b i hb => ?_, fun b i hb => ?_, fun i => h.cell (p := ⟨_, i, none⟩) (by simp), fun i => h.frozen (p := ⟨_, i, none⟩) (by simp), by omega⟩
  · exact (h.cell (p := ⟨b, i, none⟩) (by rw [hz]; show b < _; omega)).trans (((Below.refl w1.heap.size w1).alloc (Nat.le_refl _) o).cell (p := ⟨b, i, none⟩) hb)
  · exact (h.frozen (p := ⟨b, i, none⟩) (by rw [hz]; show b < _; omega)).trans (((Below.refl w1.heap.size w1).alloc (Nat.le_refl _) o).frozen (p := ⟨b, i, none⟩) hb)
theorem below_alloc1 {w1 w2 : World} {o : Obj} (h : Below (w1.alloc o).heap.size (w1.alloc o) w2) : Below w1.heap.size w1 w2 :=
  ((Below.refl _ _).alloc (Nat.le_refl _) o).trans (h.mono (by simp))

/-- a box of one or two cells, as it reads -/
abbrev Bx1 (W : World) (p : Nat) (a : Value) : Prop := W.cell? ⟨p, 0, none⟩ = some a ∧ W.frozen? ⟨p, 0, none⟩ = false ∧ p < W.heap.size
abbrev Bx2 (W : World) (p : Nat) (a b : Value) : Prop := W.cell? ⟨p, 0, none⟩ = some a ∧ W.cell? ⟨p, 1, none⟩ = some b ∧ W.frozen? ⟨p, 0, none⟩ = false ∧ W.frozen? ⟨p, 1, none⟩ = false ∧ p < W.heap.size
theorem Bx1.next {W W' : World} {p B : Nat} {a : Value} (h : Bx1 W p a) (hb : Below B W W') (hB : W.heap.size ≤ B) : Bx1 W' p a :=
  ⟨(hb.cell (p := ⟨p, 0, none⟩) (Nat.lt_of_lt_of_le h.2.2 hB)).trans h.1, (hb.frozen (p := ⟨p, 0, none⟩) (Nat.lt_of_lt_of_le h.2.2 hB)).trans h.2.1, Nat.lt_of_lt_of_le h.2.2 hb.size⟩
theorem Bx2.next {W W' : World} {p B : Nat} {a b : Value} (h : Bx2 W p a b) (hb : Below B W W') (hB : W.heap.size ≤ B) : Bx2 W' p a b :=
  ⟨(hb.cell (p := ⟨p, 0, none⟩) (Nat.lt_of_lt_of_le h.2.2.2.2 hB)).trans h.1, (hb.cell (p := ⟨p, 1, none⟩) (Nat.lt_of_lt_of_le h.2.2.2.2 hB)).trans h.2.1,
   (hb.frozen (p := ⟨p, 0, none⟩) (Nat.lt_of_lt_of_le h.2.2.2.2 hB)).trans h.2.2.1, (hb.frozen (p := ⟨p, 1, none⟩) (Nat.lt_of_lt_of_le h.2.2.2.2 hB)).trans h.2.2.2.1, Nat.lt_of_lt_of_le h.2.2.2.2 hb.size⟩
theorem Bx1.new (W : World) (a : Value) (t : TypeId) {p : Nat} (hp : p = W.heap.size) : Bx1 (W.alloc (.cells #[a] t)) p a := by subst hp; exact ⟨by simp, by simp, by simp⟩
theorem Bx2.new (W : World) (a b : Value) (t : TypeId) {p : Nat} (hp : p = W.heap.size) : Bx2 (W.alloc (.cells #[a, b] t)) p a b := by subst hp; exact ⟨by simp, by simp, by simp, by simp, by simp⟩
theorem Bx1.alloc {W : World} {p : Nat} {a : Value} (h : Bx1 W p a) (o : Obj) : Bx1 (W.alloc o) p a := h.next ((Below.refl _ _).alloc (Nat.le_refl _) o) (Nat.le_refl _)
theorem Bx2.alloc {W : World} {p : Nat} {a b : Value} (h : Bx2 W p a b) (o : Obj) : Bx2 (W.alloc o) p a b := h.next ((Below.refl _ _).alloc (Nat.le_refl _) o) (Nat.le_refl _)
theorem Bx1.set {W : World} {p q i : Nat} {a : Value} (h : Bx1 W p a) (hq : W.heap.size ≤ q) (v : Value) : Bx1 (W.setCell ⟨q, i, none⟩ v) p a := h.next ((Below.refl _ _).setCell (by exact hq) v) (Nat.le_refl _)
theorem below_alloc (W : World) (o : Obj) : Below W.heap.size W (W.alloc o) := (Below.refl _ _).alloc (Nat.le_refl _) o
end Go.Proofs.YtiokkoeciijkoaaGreat
