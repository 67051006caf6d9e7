/- mode: Valid, Fit, Covers, Join, Name, Parse; the reference's Mode, Fit. -/
import Derived.Test.YtiokkoeciijkoaaGreatPartN
namespace Go.Proofs.YtiokkoeciijkoaaGreat
set_option linter.unusedVariables false
set_option linter.unusedSimpArgs false
open Go.RowKit

set_option maxHeartbeats 400000 in
theorem mValid_c (m : Int) (w : World) : Calls Tryz.prog 203 #[.int .i64 m] w fun e w' => e = .returned (.bool (modeB m)) ∧ w' = w := by
  have HM : Hid (modeB m = (decide (0 ≤ m) && decide (m ≤ 2))) := rfl
  generalize modeB m = r at HM
  by_cases h : 0 ≤ m
  all_goals
    go_enter Tryz.func203, Tryz.ntmps203
    go_wp2
    go_ret
    refine ⟨?_, rfl⟩
    rw [HM.out]
    simp [h] <;> omega
set_option maxHeartbeats 400000 in
theorem qMode_c (m : Int) (w : World) : Calls Tryz.prog 148 #[.int .i64 m] w fun e w' => e = .returned (.bool (modeB m)) ∧ w' = w := by
  have HM : Hid (modeB m = (decide (0 ≤ m) && decide (m ≤ 2))) := rfl
  generalize modeB m = r at HM
  by_cases h : 0 ≤ m
  all_goals
    go_enter Tryz.func148, Tryz.ntmps148
    go_wp2
    go_ret
    refine ⟨?_, rfl⟩
    rw [HM.out]
    simp [h] <;> omega

theorem fit_ways (a b : Int) : (modeB a = false ∧ fitB a b = false) ∨ (modeB a = true ∧ modeB b = false ∧ fitB a b = false) ∨ (modeB a = true ∧ modeB b = true ∧ (a == 0) = true ∧ fitB a b = true) ∨
    (modeB a = true ∧ modeB b = true ∧ (a == 0) = false ∧ (b == 0) = true ∧ fitB a b = true) ∨ (modeB a = true ∧ modeB b = true ∧ (a == 0) = false ∧ (b == 0) = false ∧ (a == 1) = true ∧ (b == 1) = true ∧ fitB a b = true) ∨
    (modeB a = true ∧ modeB b = true ∧ (a == 0) = false ∧ (b == 0) = false ∧ (a == 1) = true ∧ (b == 1) = false ∧ fitB a b = false) ∨ (modeB a = true ∧ modeB b = true ∧ (a == 0) = false ∧ (b == 0) = false ∧ (a == 1) = false ∧ fitB a b = false) := by
  unfold fitB
  cases modeB a <;> cases modeB b <;> cases (a == 0) <;> cases (b == 0) <;> cases (a == 1) <;> cases (b == 1) <;> simp
set_option maxHeartbeats 1000000 in
theorem mFit_c (a b : Int) (w : World) : Calls Tryz.prog 146 #[.int .i64 a, .int .i64 b] w fun e w' => e = .returned (.bool (fitB a b)) ∧ w' = w := by
  have K := hidd mValid_c
  rcases fit_ways a b with ⟨h1, hf⟩ | ⟨h1, h2, hf⟩ | ⟨h1, h2, h3, hf⟩ | ⟨h1, h2, h3, h4, hf⟩ | ⟨h1, h2, h3, h4, h5, h6, hf⟩ | ⟨h1, h2, h3, h4, h5, h6, hf⟩ | ⟨h1, h2, h3, h4, h5, hf⟩
  all_goals
    have HF := hidd hf
    have H1 := hidd h1
    try have H2 := hidd h2
    try clear h2
    clear hf h1
    go_enter Tryz.func146, Tryz.ntmps146
    go_wp2_with fail
    refine (K.out _ _).mono ?_; rintro e w1 ⟨rfl, rfl⟩
    rw [H1.out]
    go_wp2_with fail
    try
      refine (K.out _ _).mono ?_; rintro e w1 ⟨rfl, rfl⟩
      rw [H2.out]
      go_wp2_with fail
    go_ret
    exact ⟨by rw [HF.out]; rfl, rfl⟩
set_option maxHeartbeats 1000000 in
theorem qFit_c (a b : Int) (w : World) : Calls Tryz.prog 164 #[.int .i64 a, .int .i64 b] w fun e w' => e = .returned (.bool (fitB a b)) ∧ w' = w := by
  have K := hidd qMode_c
  rcases fit_ways a b with ⟨h1, hf⟩ | ⟨h1, h2, hf⟩ | ⟨h1, h2, h3, hf⟩ | ⟨h1, h2, h3, h4, hf⟩ | ⟨h1, h2, h3, h4, h5, h6, hf⟩ | ⟨h1, h2, h3, h4, h5, h6, hf⟩ | ⟨h1, h2, h3, h4, h5, hf⟩
  all_goals
    have HF := hidd hf
    have H1 := hidd h1
    try have H2 := hidd h2
    try clear h2
    clear hf h1
    go_enter Tryz.func164, Tryz.ntmps164
    go_wp2_with fail
    refine (K.out _ _).mono ?_; rintro e w1 ⟨rfl, rfl⟩
    rw [H1.out]
    go_wp2_with fail
    try
      refine (K.out _ _).mono ?_; rintro e w1 ⟨rfl, rfl⟩
      rw [H2.out]
      go_wp2_with fail
    go_ret
    exact ⟨by rw [HF.out]; rfl, rfl⟩

theorem covers_ways (a b : Int) : (modeB a = false ∧ coversB a b = false) ∨ (modeB a = true ∧ modeB b = false ∧ coversB a b = false) ∨ (modeB a = true ∧ modeB b = true ∧ coversB a b = decide (b ≤ a)) := by
  unfold coversB
  cases modeB a <;> cases modeB b <;> simp
set_option maxHeartbeats 1000000 in
theorem mCovers_c (a b : Int) (w : World) : Calls Tryz.prog 151 #[.int .i64 a, .int .i64 b] w fun e w' => e = .returned (.bool (coversB a b)) ∧ w' = w := by
  have K := hidd mValid_c
  rcases covers_ways a b with ⟨h1, hf⟩ | ⟨h1, h2, hf⟩ | ⟨h1, h2, hf⟩
  all_goals
    have HF := hidd hf
    have H1 := hidd h1
    try have H2 := hidd h2
    try clear h2
    clear hf h1
    go_enter Tryz.func151, Tryz.ntmps151
    go_wp2_with fail
    refine (K.out _ _).mono ?_; rintro e w1 ⟨rfl, rfl⟩
    rw [H1.out]
    go_wp2_with fail
    try
      refine (K.out _ _).mono ?_; rintro e w1 ⟨rfl, rfl⟩
      rw [H2.out]
      go_wp2_with fail
    go_ret
    exact ⟨by rw [HF.out]; rfl, rfl⟩
set_option maxHeartbeats 400000 in
theorem mJoin_c (a b : Int) (w : World) : Calls Tryz.prog 206 #[.int .i64 a, .int .i64 b] w fun e w' => e = .returned (.int .i64 (max a b)) ∧ w' = w := by
  go_enter Tryz.func206, Tryz.ntmps206
  go_wp2
  go_ret
  exact ⟨rfl, rfl⟩

/-- a mode's name -/
def nameS (m : Int) : ByteArray := if m = 0 then ⟨#[110, 111, 110, 101]⟩ else if m = 1 then ⟨#[115, 104, 97, 114, 101, 100]⟩ else if m = 2 then ⟨#[101, 120, 99, 108, 117, 115, 105, 118, 101]⟩ else ⟨#[]⟩
theorem name_ways (m : Int) : ((m == 0) = true ∧ nameS m = ⟨#[110, 111, 110, 101]⟩) ∨ ((m == 0) = false ∧ (m == 1) = true ∧ nameS m = ⟨#[115, 104, 97, 114, 101, 100]⟩) ∨ ((m == 0) = false ∧ (m == 1) = false ∧ (m == 2) = true ∧ nameS m = ⟨#[101, 120, 99, 108, 117, 115, 105, 118, 101]⟩) ∨ ((m == 0) = false ∧ (m == 1) = false ∧ (m == 2) = false ∧ nameS m = ⟨#[]⟩) := by
  unfold nameS
  by_cases h0 : m = 0
  · simp [h0]
  · by_cases h1 : m = 1
    · simp [h1]
    · by_cases h2 : m = 2
      · simp [h2]
      · simp [h0, h1, h2]
set_option maxHeartbeats 400000 in
theorem mName_c (m : Int) (w : World) : Calls Tryz.prog 147 #[.int .i64 m] w fun e w' => e = .returned (.string (nameS m)) ∧ w' = w := by
  rcases name_ways m with ⟨h0, hn⟩ | ⟨h0, h1, hn⟩ | ⟨h0, h1, h2, hn⟩ | ⟨h0, h1, h2, hn⟩
  all_goals
    have HN := hidd hn
    clear hn
    go_enter Tryz.func147, Tryz.ntmps147
    go_wp2
    go_ret
    exact ⟨by rw [HN.out]; rfl, rfl⟩
end Go.Proofs.YtiokkoeciijkoaaGreat
