/- Plain facts for ImapSwaps: a swap there and back. -/
import Derived.Test.YtiokkoeciijkoaaPartL
import Derived.Test.YtiokkoeciijkoaaOps7
import Derived.Test.YtiokkoeciijkoaaSpanK
namespace Go.Proofs.Ytiokkoeciijkoaa
set_option linter.unusedVariables false
set_option linter.unusedSimpArgs false

section
variable {m : List (Pt Int)} {v u s0 s1 : Int}
theorem swap_in (hm : CanP m) {n : Int} : memS n (withP v (partsP s0 s1 m)) ↔ atP n v m ∧ hasS s0 s1 n = true := by rw [withP_mem, partsP_at hm.dis]
theorem swap_can (hm : CanP m) : ∀ {P : List (Pt Int)} , CanP (swapF v u P m) := by
  intro P
  unfold swapF
  induction P generalizing m with
  | nil => exact hm
  | cons q P ih => rw [List.foldl_cons]; split; · exact ih (setF_can hm)
                   · exact ih hm
theorem swap_now (hm : CanP m) (hu : ∀ n, ¬ atP n u m) : withP u (swapF v u (partsP s0 s1 m) m) = withP v (partsP s0 s1 m) := by
  refine Can.uniq (withP_can (swap_can hm)) (withP_can (partsP_can hm)) fun n => ?_
  rw [withP_mem, swapF_at hm]
  constructor
  · rintro (⟨h, _⟩ | ⟨_, h⟩)
    · exact h
    · exact absurd h (hu n)
  · intro h; exact .inl ⟨h, rfl⟩
theorem swap_back (hm : CanP m) (hu : ∀ n, ¬ atP n u m) : withP u (partsP s0 s1 (swapF v u (partsP s0 s1 m) m)) = withP v (partsP s0 s1 m) := by
  refine Can.uniq (withP_can (partsP_can (swap_can hm))) (withP_can (partsP_can hm)) fun n => ?_
  rw [withP_mem, partsP_at (swap_can hm).dis, ← withP_mem, swap_now hm hu]
  constructor
  · exact fun h => h.1
  · intro h; exact ⟨h, ((swap_in hm).1 h).2⟩
theorem swap_swap (hm : CanP m) (hu : ∀ n, ¬ atP n u m) : swapF u v (partsP s0 s1 (swapF v u (partsP s0 s1 m) m)) (swapF v u (partsP s0 s1 m) m) = m := by
  refine CanP.uniq (swap_can (swap_can hm)) hm fun n x => ?_
  rw [swapF_at (swap_can hm), swap_back hm hu, swapF_at hm]
  constructor
  · rintro (⟨h, rfl⟩ | ⟨h, ⟨h1, _⟩ | ⟨_, h1⟩⟩)
    · exact ((swap_in hm).1 h).1
    · exact absurd h1 h
    · exact h1
  · intro h
    by_cases h1 : memS n (withP v (partsP s0 s1 m))
    · exact .inl ⟨h1, hm.dis.func h ((swap_in hm).1 h1).1⟩
    · exact .inr ⟨h1, .inr ⟨h1, h⟩⟩
theorem swap_range {x : Sp} (hx : x ∈ withP v (partsP s0 s1 m)) : s0 ≤ x.1 ∧ x.2 ≤ s1 := by
  unfold withP at hx
  obtain ⟨y, hy, hx⟩ := List.mem_flatMap.1 hx
  have := partsP_in hy
  by_cases he : y.2.2 = v
  · rw [if_pos he, List.mem_singleton] at hx; rw [hx]; exact this
  · rw [if_neg he] at hx; cases hx
theorem swap_cov (hm : CanP m) {x : Sp} (hx : x ∈ withP v (partsP s0 s1 m)) {out : List Sp} (h : MinusOf [x] (withP v m) out) : out = [] := by
  refine minus_none h fun n hn => ?_
  rw [withP_mem]
  rw [memS_one] at hn
  exact ((swap_in (s0 := s0) (s1 := s1) hm).1 ⟨x, hx, hn⟩).1
end
def skipV (u : Int) (o : Op7) : Bool := o.2.1 == u
theorem ops_never {u : Int} (l : List Op7) : ∀ n, ¬ atP n u (opsF (skipV u) (fun _ => false) l) := by
  have key : ∀ (l : List Op7) (m : List (Pt Int)), CanP m → (∀ n, ¬ atP n u m) → ∀ n, ¬ atP n u (l.foldl (op1 (skipV u) (fun _ => false)) m) := by
    intro l
    induction l with
    | nil => intro m _ h; exact h
    | cons o l ih =>
      intro m hm h
      rw [List.foldl_cons]
      cases ho : skipV u o with
      | true => rw [show op1 (skipV u) (fun _ => false) m o = m by unfold op1; rw [if_pos ho]]; exact ih m hm h
      | false =>
        rw [show op1 (skipV u) (fun _ => false) m o = setF o.2.2.2.1 o.2.2.2.2 o.2.1 m by unfold op1; rw [if_neg (by simp [ho]), if_neg (by simp)]]
        refine ih _ (setF_can hm) fun n hn => ?_
        rcases (setF_at hm).1 hn with ⟨_, h1⟩ | ⟨_, h1⟩
        · simp [skipV, h1] at ho
        · exact h n h1
  exact key l [] CanP.nil fun n => atP_nil
end Go.Proofs.Ytiokkoeciijkoaa
