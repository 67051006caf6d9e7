/- SpanMeets, walked. -/
import Derived.Test.YtiokkoeciijkoaaLawSpan
import Derived.Test.YtiokkoeciijkoaaBase2
namespace Go.Proofs.Ytiokkoeciijkoaa
set_option linter.unusedVariables false
set_option linter.unusedSimpArgs false
open Go.RowKit

theorem meetB_comm (a b c d : Int) : meetB c d a b = meetB a b c d := by
  unfold meetB
  rw [show max c a = max a c by omega, show min d b = min b d by omega]
  cases vld a b <;> cases vld c d <;> rfl
theorem meetF_comm (a b c d : Int) : meetF c d a b = meetF a b c d := by
  unfold meetF; rw [meetB_comm, show max c a = max a c by omega]
theorem meetT_comm (a b c d : Int) : meetT c d a b = meetT a b c d := by
  unfold meetT; rw [meetB_comm, show min d b = min b d by omega]
theorem meetB_self (a b : Int) : meetB a b a b = vld a b := by
  unfold meetB; rw [show max a a = a by omega, show min b b = b by omega]; cases vld a b <;> rfl
theorem has_meet (a b c d n : Int) : (hasS a b n && hasS c d n) = (meetB a b c d && hasS (meetF a b c d) (meetT a b c d) n) := by
  rw [Bool.eq_iff_iff]
  simp only [Bool.and_eq_true, hasS_iff, meetB, vld_iff, meetF, meetT]
  constructor
  · rintro ⟨h1, h2⟩
    have h : (0 ≤ a ∧ a < b) ∧ (0 ≤ c ∧ c < d) ∧ 0 ≤ max a c ∧ max a c < min b d := by omega
    rw [if_pos h, if_pos h]
    omega
  · rintro ⟨h, h4⟩
    rw [if_pos h, if_pos h] at h4
    omega

theorem meet_self {a b : Int} (h : vld a b = true) : meetF a b a b = a ∧ meetT a b a b = b := by
  unfold meetF meetT; rw [meetB_self, h]; simp
theorem meet_len {a b c d : Int} (h : meetB a b c d = true) : vld a b = true ∧ lenS (meetF a b c d) (meetT a b c d) ≤ lenS a b ∧ lenS (meetF a b c d) (meetT a b c d) ≤ lenS c d ∧ meetF a b c d = max a c ∧ meetT a b c d = min b d := by
  have h0 := h
  unfold meetB at h
  simp only [Bool.and_eq_true] at h
  obtain ⟨h1, h2, h3⟩ := h
  unfold meetF meetT
  rw [h0]
  refine ⟨h1, ?_, ?_, rfl, rfl⟩
  all_goals
    simp only [if_true]
    unfold lenS
    simp only [h1, h2, h3, if_true]
    rw [vld_iff] at h1 h2 h3
    omega

set_option maxHeartbeats 4000000 in
set_option maxRecDepth 100000 in
theorem SpanMeets_c (x y : Sp) (n : Int) (w : World) (hx : I64 x.1 ∧ I64 x.2) (hy : I64 y.1 ∧ I64 y.2) (_ : I64 n) :
    Calls Try.prog 4 #[.agg (encS x).toArray, .agg (encS y).toArray, .int .i64 n] w fun e w' => e = .returned (.bool true) ∧ Below w.heap.size w w' := by
  obtain ⟨a, b⟩ := x
  obtain ⟨c, d⟩ := y
  show Calls Try.prog 4 #[spV a b, spV c d, .int .i64 n] w _
  have HX := hidd hx
  have HY := hidd hy
  clear hx hy
  have K1 := hidd (meetB_comm a b c d)
  have K2 := hidd (meetF_comm a b c d)
  have K3 := hidd (meetT_comm a b c d)
  have K4 := hidd (has_meet a b c d n)
  have K5 := hidd (meetB_self a b)
  have K6 := hidd (@meet_self a b)
  have K7 := hidd (@meet_len a b c d)
  have K8 := hidd (@sLen_c (meetF a b c d) (meetT a b c d))
  have K9 := hidd (@sLen_c a b)
  have K10 := hidd (@sLen_c c d)
  have KI : Hid (meetB a b c d = true → I64 (meetF a b c d) ∧ I64 (meetT a b c d)) := by
    intro h
    obtain ⟨_, _, _, h1, h2⟩ := meet_len h
    rw [h1, h2]
    have := HX.out; have := HY.out; unfold I64 at *; omega
  go_enter Try.func4, Try.ntmps4
  go_wp2_with fail
  refine (sMeet_c _ _ _ _ _).mono ?_; rintro e w1 ⟨rfl, hb1⟩
  have xa := ((Bx2.new w (.int .i64 a) (.int .i64 b) 27 rfl).alloc (.cells #[.int .i64 c, .int .i64 d] 27)).next hb1 (Nat.le_refl _)
  have xc := (Bx2.new (w.alloc (.cells #[.int .i64 a, .int .i64 b] 27)) (.int .i64 c) (.int .i64 d) 27 (p := w.heap.size + 1) (by simp)).next hb1 (Nat.le_refl _)
  have hB1 : Below w.heap.size w w1 := (((Below.refl _ _).alloc (Nat.le_refl _) _).alloc (by simp) _).trans (hb1.mono (by simp; omega))
  clear hb1
  go_wp2_with fail
  refine (sMeet_c _ _ _ _ _).mono ?_; rintro e w2 ⟨rfl, hb2⟩
  rw [K1.out, K2.out, K3.out]
  have xm := (Bx2.new w1 (.int .i64 (meetF a b c d)) (.int .i64 (meetT a b c d)) 27 rfl).next hb2 (Nat.le_refl _)
  replace hb2 := below_alloc1 hb2
  replace xa := xa.next hb2 (Nat.le_refl _)
  replace xc := xc.next hb2 (Nat.le_refl _)
  have hB2 := hB1.trans (hb2.mono hB1.size)
  clear hb2
  generalize hr : meetB a b c d = r at K4 K7 KI
  generalize hF : meetF a b c d = mF at *
  generalize hT : meetT a b c d = mT at *
  generalize hh1 : hasS a b n = h1 at K4
  generalize hh2 : hasS c d n = h2 at K4
  generalize hh3 : hasS mF mT n = h3 at K4
  have HH1 := hidd hh1; have HH2 := hidd hh2; have HH3 := hidd hh3; have HF := hidd hF; have HT := hidd hT; have HR := hidd hr
  clear hh1 hh2 hh3 hF hT hr
  cases h1 <;> cases h2 <;> cases r <;> cases h3
  all_goals first
    | exact absurd K4.out (by decide)
    | skip
  all_goals
    go_wp2_with fail
    refine (sHas_c _ _ _ _).mono ?_; rintro e w3 ⟨rfl, hb3⟩
    rw [HH1.out]
    have xn := (Bx2.new w2 (.int .i64 mF) (.int .i64 mT) 27 rfl).next hb3 (Nat.le_refl _)
    replace hb3 := below_alloc1 hb3
    replace xa := xa.next hb3 (Nat.le_refl _)
    replace xc := xc.next hb3 (Nat.le_refl _)
    replace xm := xm.next hb3 (Nat.le_refl _)
    have hB3 := hB2.trans (hb3.mono hB2.size)
    clear hb3
    go_wp2_with fail
    try
      refine (sHas_c _ _ _ _).mono ?_; rintro e w4 ⟨rfl, hb4⟩
      rw [HH2.out]
      replace xa := xa.next hb4 (Nat.le_refl _)
      replace xc := xc.next hb4 (Nat.le_refl _)
      replace xm := xm.next hb4 (Nat.le_refl _)
      replace xn := xn.next hb4 (Nat.le_refl _)
      replace hB3 := hB3.trans (hb4.mono hB3.size)
      clear hb4
      go_wp2_with fail
    refine (sMeets_c _ _ _ _ _).mono ?_; rintro e w5 ⟨rfl, hb5⟩
    rw [HR.out]
    replace xa := xa.next hb5 (Nat.le_refl _)
    replace xc := xc.next hb5 (Nat.le_refl _)
    replace xm := xm.next hb5 (Nat.le_refl _)
    replace xn := xn.next hb5 (Nat.le_refl _)
    have hB5 := hB3.trans (hb5.mono hB3.size)
    clear hb5 hB3
    go_wp2_with fail
    try
      refine (sHas_c _ _ _ _).mono ?_; rintro e w6 ⟨rfl, hb6⟩
      rw [HH3.out]
      replace xa := xa.next hb6 (Nat.le_refl _)
      replace xc := xc.next hb6 (Nat.le_refl _)
      replace xm := xm.next hb6 (Nat.le_refl _)
      replace xn := xn.next hb6 (Nat.le_refl _)
      replace hB5 := hB5.trans (hb6.mono hB5.size)
      clear hb6
      go_wp2_with fail
    refine (sMeet_c _ _ _ _ _).mono ?_; rintro e w7 ⟨rfl, hb7⟩
    rw [K5.out]
    replace xa := xa.next hb7 (Nat.le_refl _)
    replace xc := xc.next hb7 (Nat.le_refl _)
    replace xm := xm.next hb7 (Nat.le_refl _)
    have hB7 := hB5.trans (hb7.mono hB5.size)
    clear hb7 hB5 xn
    have hB8 := hB7.trans ((below_alloc w7 (.cells #[.int .i64 (meetF a b a b), .int .i64 (meetT a b a b)] 27)).mono hB7.size)
    have xx := Bx2.new w7 (.int .i64 (meetF a b a b)) (.int .i64 (meetT a b a b)) 27 rfl
    have y1 : w.heap.size < w7.heap.size + 1 := by have := xa.2.2.2.2; omega
    have y2 : w.heap.size + 1 < w7.heap.size + 1 := by have := xc.2.2.2.2; omega
    have y3 : w1.heap.size < w7.heap.size + 1 := by have := xm.2.2.2.2; omega
    generalize hv : vld a b = v at K6 K7
    have HV := hidd hv
    clear hv
    generalize hla : lenS a b = la at *
    generalize hlc : lenS c d = lc at *
    generalize hlm : lenS mF mT = lm at *
    cases v
  all_goals first
    | exact absurd (K7.out (by trivial)).1 (by decide)
    | skip
  all_goals
    try
      have hll := (K7.out (by trivial)).2
      have hl1 := hll.1
      have hl2 := hll.2.1
      clear hll
    try
      have e1 := (K6.out (by trivial)).1
      have e2 := (K6.out (by trivial)).2
      rw [e1, e2] at xx hB8
      rw [e1, e2]
      clear e1 e2
    go_wp2_with fail
    refine wp_calm (by kernel_rfl) ?_
    repeat (go_big_quiet_step (first
      | (with_reducible refine (alive6_c _).mono ?_; rintro e w' ⟨rfl, hb⟩; exact ⟨rfl, regrow_call hb⟩)
      | (with_reducible refine (sValid_c _ _ _).mono ?_; rintro e w' ⟨rfl, hb⟩; exact ⟨congrArg (fun b => Ending.returned (.bool b)) HV.out, regrow_call hb⟩)
      | (with_reducible refine (K8.out _ (KI.out (by trivial)).1 (KI.out (by trivial)).2).mono ?_; rintro e w' ⟨rfl, hb⟩; exact ⟨rfl, regrow_call hb⟩)
      | (with_reducible refine (K9.out _ HX.out.1 HX.out.2).mono ?_; rintro e w' ⟨rfl, hb⟩; exact ⟨rfl, regrow_call hb⟩)
      | (with_reducible refine (K10.out _ HY.out.1 HY.out.2).mono ?_; rintro e w' ⟨rfl, hb⟩; exact ⟨rfl, regrow_call hb⟩)))
    refine wpQuiet_nil ?_
    intro W hW
    go_wp2_with fail
    go_ret
    exact ⟨by first | rfl | simp, hB8.trans (hW.mono hB8.size)⟩
end Go.Proofs.Ytiokkoeciijkoaa
