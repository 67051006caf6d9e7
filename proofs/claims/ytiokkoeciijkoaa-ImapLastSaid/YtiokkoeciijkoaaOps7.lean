/- Rows of steps of chapter 7; what Set and Clear make of them, one by one. -/
import Derived.Test.YtiokkoeciijkoaaOpen
import Derived.Test.YtiokkoeciijkoaaImapS
namespace Go.Proofs.Ytiokkoeciijkoaa
set_option linter.unusedVariables false
set_option linter.unusedSimpArgs false
open Go.RowKit

theorem encO_len (x : Op7) : (encO x).length = 5 := rfl
theorem Rd.cells5 {w : World} {A : Option Addr} {xs : List Op7} (h : Rd 5 encO w A xs) (hx : xs ≠ []) : ∃ b o, A = some ⟨b, o, none⟩ ∧ b < w.heap.size ∧
    ∀ (i : Nat) (hi : i < xs.length), w.cell? ⟨b, o + i * 5, none⟩ = some (.int .i64 xs[i].1) ∧ w.cell? ⟨b, o + i * 5 + 1, none⟩ = some (.int .i64 xs[i].2.1) ∧ w.cell? ⟨b, o + i * 5 + 2, none⟩ = some (.int .i64 xs[i].2.2.1) ∧ w.cell? ⟨b, o + i * 5 + 3, none⟩ = some (.int .i64 xs[i].2.2.2.1) ∧ w.cell? ⟨b, o + i * 5 + 4, none⟩ = some (.int .i64 xs[i].2.2.2.2) := by
  rcases h with h | ⟨b, o, hA, hb, hc⟩
  · exact absurd h hx
  · refine ⟨b, o, hA, hb, fun i hi => ?_⟩
    have hf := flat_at encO 5 encO_len xs i xs[i] (List.getElem?_eq_getElem hi)
    have h0 := hc _ _ (hf 0 (by decide))
    have h1 := hc _ _ (hf 1 (by decide))
    have h2 := hc _ _ (hf 2 (by decide))
    have h3 := hc _ _ (hf 3 (by decide))
    have h4 := hc _ _ (hf 4 (by decide))
    refine ⟨by simpa using h0, ?_, ?_, ?_, ?_⟩
    · rw [Nat.add_assoc]; exact h1
    · rw [Nat.add_assoc]; exact h2
    · rw [Nat.add_assoc]; exact h3
    · rw [Nat.add_assoc]; exact h4

/-- one step of a law: p tells which steps do nothing, c which clear -/
def op1 (p c : Op7 → Bool) (m : List (Pt Int)) (o : Op7) : List (Pt Int) := if p o then m else if c o then clearF o.2.2.2.1 o.2.2.2.2 m else setF o.2.2.2.1 o.2.2.2.2 o.2.1 m
def opsF (p c : Op7 → Bool) (l : List Op7) : List (Pt Int) := l.foldl (op1 p c) []
theorem opsF_take {p c : Op7 → Bool} {l : List Op7} {k : Nat} (h : k < l.length) : opsF p c (l.take (k + 1)) = op1 p c (opsF p c (l.take k)) l[k] := by
  unfold opsF; rw [List.take_succ_eq_append_getElem h, List.foldl_append]; rfl
theorem op1_good {p c : Op7 → Bool} {m : List (Pt Int)} {o : Op7} {B : Nat} (h : GoodP I64 B m) (ho : okO o) : GoodP I64 (B + 2) (op1 p c m o) := by
  obtain ⟨_, h1, _, h3, h4⟩ := ho
  unfold op1
  split
  · exact h.mono (by omega)
  · split
    · exact h.clear h3 h4
    · exact h.set h3 h4 h1
theorem opsF_good {p c : Op7 → Bool} {l : List Op7} (h : ∀ x ∈ l, okO x) : GoodP I64 (2 * l.length) (opsF p c l) := by
  have key : ∀ (l : List Op7) (m : List (Pt Int)) (B : Nat), (∀ x ∈ l, okO x) → GoodP I64 B m → GoodP I64 (B + 2 * l.length) (l.foldl (op1 p c) m) := by
    intro l
    induction l with
    | nil => intro m B _ h; exact h
    | cons o l ih => intro m B h1 h2; exact (ih _ _ (fun x hx => h1 x (List.mem_cons_of_mem _ hx)) (op1_good h2 (h1 o (List.mem_cons_self ..)))).mono (by rw [List.length_cons]; omega)
  exact (key l [] 0 h GoodP.nil).mono (by omega)
theorem okO_take {l : List Op7} (h : ∀ x ∈ l, okO x) (k : Nat) : ∀ x ∈ l.take k, okO x := fun x hx => h x (List.mem_of_mem_take hx)
end Go.Proofs.Ytiokkoeciijkoaa
