/- imap: Set and Clear answer as the plain functions setF and clearF say; Swap's plain function. -/
import Derived.Test.YtiokkoeciijkoaaGreatPartS
import Derived.Test.YtiokkoeciijkoaaGreatPartF
namespace Go.Proofs.YtiokkoeciijkoaaGreat
set_option linter.unusedVariables false
set_option linter.unusedSimpArgs false
open Go.RowKit

theorem SetTo.eqF {s0 s1 v : Int} {xs ys : List (Pt Int)} (h : SetTo s0 s1 v xs ys) (hx : Dis xs) : ys = setF s0 s1 v xs := by
  cases hv : vld s0 s1 with
  | true => unfold setF; rw [if_pos hv]; exact (h.yes hv).eqF (withoutP_apart (s := (s0, s1)) (vld_iff.1 hv) hx v)
  | false => rw [setF_no hv]; exact h.no hv
theorem ClearTo.eqF {s0 s1 : Int} {xs ys : List (Pt Int)} (h : ClearTo s0 s1 xs ys) (hx : Dis xs) : ys = clearF s0 s1 xs := by
  cases hv : vld s0 s1 with
  | true => unfold clearF; rw [if_pos hv]; exact (h.yes hv).eqF (withoutP_dis (s := (s0, s1)) (vld_iff.1 hv) hx).apart
  | false => rw [clearF_no hv]; exact h.no hv
theorem fSet_c {F : Nat → Prop} (p : Nat) (xs : List (Pt Int)) (s0 s1 v : Int) (w : World) (h : IM F w p xs) (hF : ∀ k, F k → k < w.heap.size) (hc : CanP xs) (hl : xs.length ≤ 50000000) :
    Calls Tryz.prog 33 #[ptr p, spV s0 s1, .int .i64 v] w fun e w' => e = .returned (.bool (vld s0 s1)) ∧ IM F w' p (setF s0 s1 v xs) ∧ BelX p w.heap.size w w' :=
  (iSet_c p xs s0 s1 v w h hF hc.dis hl).mono fun e w' ⟨h1, ⟨ys, h2, h3⟩, h4⟩ => ⟨h1, by rw [← h3.eqF hc.dis]; exact h2, h4⟩
theorem fClear_c {F : Nat → Prop} (p : Nat) (xs : List (Pt Int)) (s0 s1 : Int) (w : World) (h : IM F w p xs) (hF : ∀ k, F k → k < w.heap.size) (hc : CanP xs) (hl : xs.length ≤ 50000000) :
    Calls Tryz.prog 35 #[ptr p, spV s0 s1] w fun e w' => e = .returned (.bool (vld s0 s1)) ∧ IM F w' p (clearF s0 s1 xs) ∧ BelX p w.heap.size w w' :=
  (iClear_c p xs s0 s1 w h hF hc.dis hl).mono fun e w' ⟨h1, ⟨ys, h2, h3⟩, h4⟩ => ⟨h1, by rw [← h3.eqF hc.dis]; exact h2, h4⟩

theorem GoodP.parts {B : Nat} {s0 s1 : Int} {xs : List (Pt Int)} (h : GoodP I64 B xs) (h0 : I64 s0) (h1 : I64 s1) : GoodP I64 B (partsP s0 s1 xs) :=
  ⟨partsP_can h.can, partsP_ok h.ok h0 h1, Nat.le_trans (partsP_len _ _ _) h.len⟩
theorem GoodP.take {B : Nat} {xs : List (Pt Int)} (h : GoodP I64 B xs) (k : Nat) : GoodP I64 B (xs.take k) :=
  ⟨⟨fun x hx => h.can.val x (List.mem_of_mem_take hx), h.can.sep.sublist (List.take_sublist _ _)⟩, fun x hx => h.ok x (List.mem_of_mem_take hx), by rw [List.length_take]; have := h.len; omega⟩
theorem withP_tot {B : Nat} {xs : List (Pt Int)} (h : GoodP I64 B xs) (f : Int) : 0 ≤ tot (withP f xs) ∧ tot (withP f xs) ≤ 9223372036854775807 := by
  refine ⟨tot_nonneg _, ?_⟩
  have hc := withP_can (v := f) h.can
  have := tot_le hc (M := 9223372036854775807) (fun x hx => by
    unfold withP at hx
    obtain ⟨y, hy, hx⟩ := List.mem_flatMap.1 hx
    by_cases he : y.2.2 = f
    · rw [if_pos he, List.mem_singleton] at hx; rw [hx]; exact (h.ok y hy).2.1.hi
    · rw [if_neg he] at hx; cases hx) 0 (by omega) (fun x hx => (hc.val x hx).1)
  omega
/-- Swap: what it makes of the parts P of a range, one by one -/
def swapF (f t : Int) (P xs : List (Pt Int)) : List (Pt Int) := P.foldl (fun m q => if q.2.2 = f then setF q.1 q.2.1 t m else m) xs
theorem swapF_take {f t : Int} {P xs : List (Pt Int)} {k : Nat} (h : k < P.length) : swapF f t (P.take (k + 1)) xs = if P[k].2.2 = f then setF P[k].1 P[k].2.1 t (swapF f t (P.take k) xs) else swapF f t (P.take k) xs := by
  unfold swapF; rw [List.take_succ_eq_append_getElem h, List.foldl_append]; rfl
theorem swapF_good {B : Nat} {f t : Int} {P xs : List (Pt Int)} (h : GoodP I64 B xs) (hP : ∀ x ∈ P, I64 x.1 ∧ I64 x.2.1 ∧ I64 x.2.2) (ht : I64 t) : GoodP I64 (B + 2 * P.length) (swapF f t P xs) := by
  induction P generalizing xs B with
  | nil => exact h
  | cons q P ih =>
    show GoodP _ _ (swapF f t P (if q.2.2 = f then setF q.1 q.2.1 t xs else xs))
    have hq := hP q (List.mem_cons_self ..)
    have h2 : GoodP I64 (B + 2) (if q.2.2 = f then setF q.1 q.2.1 t xs else xs) := by
      split
      · exact h.set hq.1 hq.2.1 ht
      · exact h.mono (by omega)
    exact (ih h2 (fun x hx => hP x (List.mem_cons_of_mem _ hx))).mono (by rw [List.length_cons]; omega)
/-- each block of the parts P that had f has t; P's parts are all there in xs -/
theorem swapF_at {f t : Int} : ∀ {P xs : List (Pt Int)}, CanP xs → ∀ {n u : Int}, atP n u (swapF f t P xs) ↔ (memS n (withP f P) ∧ u = t) ∨ (¬ memS n (withP f P) ∧ atP n u xs)
  | [], xs, _, n, u => by
    have : ¬ memS n (withP f []) := memS_nil
    simp [swapF, this]
  | q :: P, xs, hx, n, u => by
    show atP n u (swapF f t P (if q.2.2 = f then setF q.1 q.2.1 t xs else xs)) ↔ _
    have hw : withP f (q :: P) = (if q.2.2 = f then [(q.1, q.2.1)] else []) ++ withP f P := by unfold withP; rw [List.flatMap_cons]
    rw [hw, memS_append]
    by_cases he : q.2.2 = f
    · rw [if_pos he, if_pos he, swapF_at (setF_can hx), setF_at hx, memS_one]
      constructor
      · rintro (⟨h1, h2⟩ | ⟨h1, h2⟩)
        · exact .inl ⟨.inr h1, h2⟩
        · rcases h2 with ⟨h2, h3⟩ | ⟨h2, h3⟩
          · exact .inl ⟨.inl h2, h3⟩
          · exact .inr ⟨fun h => h.elim h2 h1, h3⟩
      · rintro (⟨h1, h2⟩ | ⟨h1, h2⟩)
        · by_cases h3 : memS n (withP f P)
          · exact .inl ⟨h3, h2⟩
          · exact .inr ⟨h3, .inl ⟨h1.resolve_right h3, h2⟩⟩
        · exact .inr ⟨fun h => h1 (.inr h), .inr ⟨fun h => h1 (.inl h), h2⟩⟩
    · rw [if_neg he, if_neg he, swapF_at hx]
      have : ¬ memS n [] := memS_nil
      simp [this]
end Go.Proofs.YtiokkoeciijkoaaGreat
