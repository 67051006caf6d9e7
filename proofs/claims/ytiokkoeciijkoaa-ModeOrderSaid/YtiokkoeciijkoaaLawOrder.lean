/- ModeOrder, walked. -/
import Derived.Test.YtiokkoeciijkoaaModeD
namespace Go.Proofs.Ytiokkoeciijkoaa
set_option linter.unusedVariables false
set_option linter.unusedSimpArgs false
open Go.RowKit

theorem order_facts {a b c : Int} (ha : modeB a = true) (hb : modeB b = true) (hc : modeB c = true) :
    fitB b a = fitB a b ∧ coversB (max a b) a = true ∧ coversB (max a b) b = true ∧ modeB (max a b) = true ∧ (coversB a b = false ∨ (coversB a b = true ∧ fitB a c = false) ∨ (coversB a b = true ∧ fitB a c = true ∧ fitB b c = true)) := by
  rw [modeB_iff] at ha hb hc
  rcases (by omega : a = 0 ∨ a = 1 ∨ a = 2) with rfl | rfl | rfl <;> rcases (by omega : b = 0 ∨ b = 1 ∨ b = 2) with rfl | rfl | rfl <;> rcases (by omega : c = 0 ∨ c = 1 ∨ c = 2) with rfl | rfl | rfl <;> decide
theorem order_ways (a b c : Int) : (modeB a = false ∧ fitB a b = false ∧ coversB a b = false) ∨ (modeB a = true ∧ modeB b = false) ∨ (modeB a = true ∧ modeB b = true ∧ modeB c = false) ∨ (modeB a = true ∧ modeB b = true ∧ modeB c = true) := by
  unfold fitB coversB
  cases modeB a <;> cases modeB b <;> cases modeB c <;> simp

set_option maxHeartbeats 4000000 in
set_option maxRecDepth 100000 in
theorem ModeOrder_c (a b c : Int) (w : World) (_ : I64 a) (_ : I64 b) (_ : I64 c) :
    Calls Try.prog 14 #[.int .i64 a, .int .i64 b, .int .i64 c] w fun e w' => e = .returned (.bool true) ∧ Below w.heap.size w w' := by
  have KQ := hidd qMode_c
  have KV := hidd mValid_c
  have KF := hidd mFit_c
  have KC := hidd mCovers_c
  have KJ := hidd mJoin_c
  have KN := hidd mName_c
  have KP := hidd mParse_c
  rcases order_ways a b c with ⟨ha, hf, hcv⟩ | ⟨ha, hb⟩ | ⟨ha, hb, hc⟩ | ⟨ha, hb, hc⟩
  · have HA := hidd ha
    have HF := hidd hf
    have HCV := hidd hcv
    clear ha hf hcv
    go_enter Try.func14, Try.ntmps14
    go_wp2_with fail
    refine (KV.out _ _).mono ?_; rintro e w1 ⟨rfl, hw⟩; obtain rfl : w = w1 := hw.symm
    rw [HA.out]
    go_wp2_with fail
    refine (alive17_c _).mono ?_; rintro e w2 ⟨rfl, hb2⟩
    go_wp2_with fail
    refine (KV.out _ _).mono ?_; rintro e w3 ⟨rfl, rfl⟩
    rw [HA.out]
    go_wp2_with fail
    refine (KF.out _ _ _).mono ?_; rintro e w4 ⟨rfl, rfl⟩
    rw [HF.out]
    go_wp2_with fail
    refine (KC.out _ _ _).mono ?_; rintro e w5 ⟨rfl, rfl⟩
    rw [HCV.out]
    go_wp2_with fail
    go_ret
    exact ⟨rfl, hb2⟩
  · have HA := hidd ha
    have HB := hidd hb
    clear ha hb
    go_enter Try.func14, Try.ntmps14
    go_wp2_with fail
    refine (KV.out _ _).mono ?_; rintro e w1 ⟨rfl, hw⟩; obtain rfl : w = w1 := hw.symm
    rw [HA.out]
    go_wp2_with fail
    refine (KV.out _ _).mono ?_; rintro e w1 ⟨rfl, hw⟩; obtain rfl : w = w1 := hw.symm
    rw [HB.out]
    go_wp2_with fail
    refine (alive17_c _).mono ?_; rintro e w2 ⟨rfl, hb2⟩
    go_wp2_with fail
    refine (KV.out _ _).mono ?_; rintro e w3 ⟨rfl, rfl⟩
    rw [HA.out]
    go_wp2_with fail
    go_ret
    exact ⟨rfl, hb2⟩
  · have HA := hidd ha
    have HB := hidd hb
    have HC := hidd hc
    clear ha hb hc
    go_enter Try.func14, Try.ntmps14
    go_wp2_with fail
    refine (KV.out _ _).mono ?_; rintro e w1 ⟨rfl, hw⟩; obtain rfl : w = w1 := hw.symm
    rw [HA.out]
    go_wp2_with fail
    refine (KV.out _ _).mono ?_; rintro e w1 ⟨rfl, hw⟩; obtain rfl : w = w1 := hw.symm
    rw [HB.out]
    go_wp2_with fail
    refine (KV.out _ _).mono ?_; rintro e w1 ⟨rfl, hw⟩; obtain rfl : w = w1 := hw.symm
    rw [HC.out]
    go_wp2_with fail
    refine (alive17_c _).mono ?_; rintro e w2 ⟨rfl, hb2⟩
    go_wp2_with fail
    refine (KV.out _ _).mono ?_; rintro e w3 ⟨rfl, rfl⟩
    rw [HA.out]
    go_wp2_with fail
    go_ret
    exact ⟨rfl, hb2⟩
  · have HA := hidd ha
    have HB := hidd hb
    have HC := hidd hc
    obtain ⟨o1, o2, o3, o4, o5⟩ := order_facts ha hb hc
    have O1 := hidd o1
    have O2 := hidd o2
    have O3 := hidd o3
    have O4 := hidd o4
    have HPN := hidd (parse_name ha)
    clear ha hb hc o1 o2 o3 o4
    rcases o5 with o5 | ⟨o5, o6⟩ | ⟨o5, o6, o7⟩
    all_goals
      have O5 := hidd o5
      try have O6 := hidd o6
      try have O7 := hidd o7
      try clear o6
      try clear o7
      clear o5
      go_enter Try.func14, Try.ntmps14
      go_wp2_with fail
      refine (KV.out _ _).mono ?_; rintro e w1 ⟨rfl, hw⟩; obtain rfl : w = w1 := hw.symm
      rw [HA.out]
      go_wp2_with fail
      refine (KV.out _ _).mono ?_; rintro e w1 ⟨rfl, hw⟩; obtain rfl : w = w1 := hw.symm
      rw [HB.out]
      go_wp2_with fail
      refine (KV.out _ _).mono ?_; rintro e w1 ⟨rfl, hw⟩; obtain rfl : w = w1 := hw.symm
      rw [HC.out]
      go_wp2_with fail
      refine (KJ.out _ _ _).mono ?_; rintro e w1 ⟨rfl, hw⟩; obtain rfl : w = w1 := hw.symm
      generalize max a b = j at *
      go_wp2_with fail
      refine (KF.out _ _ _).mono ?_; rintro e w1 ⟨rfl, hw⟩; obtain rfl : w = w1 := hw.symm
      go_wp2_with fail
      refine (KF.out _ _ _).mono ?_; rintro e w1 ⟨rfl, hw⟩; obtain rfl : w = w1 := hw.symm
      rw [O1.out]
      clear O1
      generalize fitB a b = fab at *
      go_wp2_with fail
      refine (KC.out _ _ _).mono ?_; rintro e w1 ⟨rfl, hw⟩; obtain rfl : w = w1 := hw.symm
      rw [O2.out]
      go_wp2_with fail
      refine (KC.out _ _ _).mono ?_; rintro e w1 ⟨rfl, hw⟩; obtain rfl : w = w1 := hw.symm
      rw [O3.out]
      go_wp2_with fail
      refine (KC.out _ _ _).mono ?_; rintro e w1 ⟨rfl, hw⟩; obtain rfl : w = w1 := hw.symm
      rw [O5.out]
      go_wp2_with fail
      try
        refine (KF.out _ _ _).mono ?_; rintro e w1 ⟨rfl, hw⟩; obtain rfl : w = w1 := hw.symm
        rw [O6.out]
        go_wp2_with fail
      try
        refine (KF.out _ _ _).mono ?_; rintro e w1 ⟨rfl, hw⟩; obtain rfl : w = w1 := hw.symm
        rw [O7.out]
        go_wp2_with fail
      refine (KN.out _ _).mono ?_; rintro e w1 ⟨rfl, hw⟩; obtain rfl : w = w1 := hw.symm
      go_wp2_with fail
      refine (KP.out _ _).mono ?_; rintro e w1 ⟨rfl, hw⟩; obtain rfl : w = w1 := hw.symm
      rw [HPN.out.1, HPN.out.2]
      go_wp2_with fail
      refine (alive17_c _).mono ?_; rintro e w2 ⟨rfl, hb2⟩
      go_wp2_with fail
      refine (KQ.out _ _).mono ?_; rintro e w3 ⟨rfl, rfl⟩
      rw [O4.out]
      go_wp2_with fail
      go_ret
      exact ⟨rfl, hb2⟩
end Go.Proofs.Ytiokkoeciijkoaa
