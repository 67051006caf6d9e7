/- SpanMeets, walked. -/
import Derived.Test.YtiokkoeciijkoaaGreatLawSpan
import Derived.Test.YtiokkoeciijkoaaGreatBase2
namespace Go.Proofs.YtiokkoeciijkoaaGreat
set_option linter.unusedVariables false
set_option linter.unusedSimpArgs false
open Go.RowKit

theorem meetB_comm (a b c d : Int) : meetB c d a b = meetB a b c d := by
  unfold meetB
  rw [show max c a = max a c by omega, show min d b = min b d by omega]
  cases vld a b <;> cases vld c d <;> rfl
theorem meetF_comm (a b c d : Int) : meetF c d a b = meetF a b c d := by
  unfold meetF; rw [meetB_comm, show max c a = max a c by omega]
theorem meetT_comm (a b c d : Int) : meetT c d a b = meetT a b c d := by
  unfold meetT; rw [meetB_comm, show min d b = min b d by omega]
theorem meetB_self (a b : Int) : meetB a b a b = vld a b := by
  unfold meetB; rw [show max a a = a by omega, show min b b = b by omega]; cases vld a b <;> rfl
theorem has_meet (a b c d n : Int) : (hasS a b n && hasS c d n) = (meetB a b c d && hasS (meetF a b c d) (meetT a b c d) n) := by
  rw [Bool.eq_iff_iff]
  simp only [Bool.and_eq_true, hasS_iff, meetB, vld_iff, meetF, meetT]
  constructor
  · rintro ⟨h1, h2⟩
    have h : (0 ≤ a ∧ a < b) ∧ (0 ≤ c ∧ c < d) ∧ 0 ≤ max a c ∧ max a c < min b d := by omega
    rw [if_pos h, if_pos h]
    omega
  · rintro ⟨h, h4⟩
    rw [if_pos h, if_pos h] at h4
    omega

theorem meet_self {a b : Int} (h : vld a b = true) : meetF a b a b = a ∧ meetT a b a b = b := by
  unfold meetF meetT; rw [meetB_self, h]; simp
theorem meet_len {a b c d : Int} (h : meetB a b c d = true) : vld a b = true ∧ lenS (meetF a b c d) (meetT a b c d) ≤ lenS a b ∧ lenS (meetF a b c d) (meetT a b c d) ≤ lenS c d ∧ meetF a b c d = max a c ∧ meetT a b c d = min b d := by
  have h0 := h
  unfold meetB at h
  simp only [Bool.and_eq_true] at h
  obtain ⟨h1, h2, h3⟩ := h
  unfold meetF meetT
  rw [h0]
  refine ⟨h1, ?_, ?_, rfl, rfl⟩
  all_goals
    simp only [if_true]
    unfold lenS
    simp only [h1, h2, h3, if_true]
    rw [vld_iff] at h1 h2 h3
    omega

end Go.Proofs.YtiokkoeciijkoaaGreat
