/- Rows that lie elsewhere than one block; what was made behind that block. -/
import Derived.Test.YtiokkoeciijkoaaGreatImapS
namespace Go.Proofs.YtiokkoeciijkoaaGreat
set_option linter.unusedVariables false
set_option linter.unusedSimpArgs false
open Go.RowKit

/-- a readable row that does not lie in block p -/
structure RX {α : Type} (k : Nat) (enc : α → List Value) (W : World) (A : Option Addr) (xs : List α) (p : Nat) : Prop where
  rd : Rd k enc W A xs
  far : ∀ b o, A = some ⟨b, o, none⟩ → b ≠ p
section
variable {α : Type} {k : Nat} {enc : α → List Value} {W W' : World} {A : Option Addr} {xs : List α} {p B : Nat}
theorem RX.next (h : RX k enc W A xs p) (hb : Below B W W') (hB : W.heap.size ≤ B) : RX k enc W' A xs p := ⟨h.rd.below (hb.mono hB) (Nat.le_refl _), h.far⟩
theorem RX.nextX (h : RX k enc W A xs p) (hb : BelX p B W W') (hB : W.heap.size ≤ B) : RX k enc W' A xs p := ⟨h.rd.belX hb hB (fun b o _ hA => h.far b o hA), h.far⟩
theorem RX.own {e : TypeId} {base n c : Nat} (h : W.ownsRow base e k (.slice A n c) n (xs.flatMap enc)) (hn : n = xs.length) (hp : p < base) : RX k enc W A xs p :=
  ⟨Own.rd h hn, fun b o hA he => by
    subst hA; subst he
    rcases h.2 with ⟨h1, _⟩ | ⟨g, cap, cur, h1, h2, _⟩
    · cases h1
    · injection h1 with h1 _ _; cases h1; omega⟩
theorem own_cap {e : TypeId} {base size n c : Nat} {ys : List Value} (h : W.ownsRow base e size (.slice A n c) n ys) : n ≤ c := by
  rcases h.2 with ⟨h1, h2⟩ | ⟨g, cap, cur, h1, _, _, hnc, _⟩
  · omega
  · injection h1 with _ _ h3; omega
end
end Go.Proofs.YtiokkoeciijkoaaGreat
