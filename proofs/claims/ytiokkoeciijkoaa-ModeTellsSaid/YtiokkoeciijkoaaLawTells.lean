/- ModeTells, walked. -/
import Derived.Test.YtiokkoeciijkoaaModeD
namespace Go.Proofs.Ytiokkoeciijkoaa
set_option linter.unusedVariables false
set_option linter.unusedSimpArgs false
open Go.RowKit

theorem mode_ways (a : Int) : (a = 0 ∨ a = 1 ∨ a = 2) ∨ (modeB a = false ∧ nameS a = ⟨#[]⟩) := by
  by_cases h0 : a = 0
  · exact .inl (.inl h0)
  · by_cases h1 : a = 1
    · exact .inl (.inr (.inl h1))
    · by_cases h2 : a = 2
      · exact .inl (.inr (.inr h2))
      · exact .inr ⟨by rw [Bool.eq_false_iff, ne_eq, modeB_iff]; omega, by unfold nameS; rw [if_neg h0, if_neg h1, if_neg h2]⟩
/-- want and is behind k names -/
def wantN (s : ByteArray) (k : Nat) : Int := if 1 ≤ k ∧ s = nameS 0 then 0 else if 2 ≤ k ∧ s = nameS 1 then 1 else if 3 ≤ k ∧ s = nameS 2 then 2 else 0
def wantB (s : ByteArray) (k : Nat) : Bool := decide (1 ≤ k ∧ s = nameS 0) || (decide (2 ≤ k ∧ s = nameS 1) || decide (3 ≤ k ∧ s = nameS 2))
theorem want_start (s : ByteArray) : wantN s 0 = 0 ∧ wantB s 0 = false := by constructor <;> simp [wantN, wantB]
theorem want_end (s : ByteArray) : wantN s 3 = parseN s ∧ wantB s 3 = parseB s := by constructor <;> simp [wantN, wantB, parseN, parseB]
theorem names_ne : nameS 0 ≠ nameS 1 ∧ nameS 0 ≠ nameS 2 ∧ nameS 1 ≠ nameS 2 := by decide
theorem want0 {s : ByteArray} : (s = nameS 0 → wantN s 1 = 0 ∧ wantB s 1 = true) ∧ (¬ s = nameS 0 → wantN s 1 = wantN s 0 ∧ wantB s 1 = wantB s 0) := by
  constructor
  · intro h; constructor <;> simp [wantN, wantB, h]
  · intro h; constructor <;> simp [wantN, wantB, h]
theorem want1 {s : ByteArray} : (s = nameS 1 → wantN s 2 = 1 ∧ wantB s 2 = true) ∧ (¬ s = nameS 1 → wantN s 2 = wantN s 1 ∧ wantB s 2 = wantB s 1) := by
  have h1 := names_ne.1
  constructor
  · intro h; subst h; constructor <;> simp [wantN, wantB, h1.symm]
  · intro h; constructor <;> simp [wantN, wantB, h]
theorem want2 {s : ByteArray} : (s = nameS 2 → wantN s 3 = 2 ∧ wantB s 3 = true) ∧ (¬ s = nameS 2 → wantN s 3 = wantN s 2 ∧ wantB s 3 = wantB s 2) := by
  have h1 := names_ne.2.1
  have h2 := names_ne.2.2
  constructor
  · intro h; subst h; constructor <;> simp [wantN, wantB, h1.symm, h2.symm]
  · intro h; constructor <;> simp [wantN, wantB, h]

theorem name_lit {s : ByteArray} : ((s = nameS 0 ∧ (s.toList == [110, 111, 110, 101]) = true) ∨ (¬ s = nameS 0 ∧ (s.toList == [110, 111, 110, 101]) = false)) ∧
    ((s = nameS 1 ∧ (s.toList == [115, 104, 97, 114, 101, 100]) = true) ∨ (¬ s = nameS 1 ∧ (s.toList == [115, 104, 97, 114, 101, 100]) = false)) ∧
    ((s = nameS 2 ∧ (s.toList == [101, 120, 99, 108, 117, 115, 105, 118, 101]) = true) ∨ (¬ s = nameS 2 ∧ (s.toList == [101, 120, 99, 108, 117, 115, 105, 118, 101]) = false)) := by
  have t0 : (nameS 0).toList = [110, 111, 110, 101] := by rw [ByteArray.toList_eq]; rfl
  have t1 : (nameS 1).toList = [115, 104, 97, 114, 101, 100] := by rw [ByteArray.toList_eq]; rfl
  have t2 : (nameS 2).toList = [101, 120, 99, 108, 117, 115, 105, 118, 101] := by rw [ByteArray.toList_eq]; rfl
  rw [← t0, ← t1, ← t2]
  refine ⟨?_, ?_, ?_⟩
  · by_cases h : s = nameS 0
    · exact .inl ⟨h, bs_yes h⟩
    · exact .inr ⟨h, bs_no h⟩
  · by_cases h : s = nameS 1
    · exact .inl ⟨h, bs_yes h⟩
    · exact .inr ⟨h, bs_no h⟩
  · by_cases h : s = nameS 2
    · exact .inl ⟨h, bs_yes h⟩
    · exact .inr ⟨h, bs_no h⟩
theorem tells_ways (a b : Int) : ((a = 0 ∨ a = 1 ∨ a = 2) ∧ modeB a = true ∧ ((modeB b = true ∧ coversB a b = decide (b ≤ a)) ∨ (modeB b = false ∧ coversB a b = false))) ∨ (modeB a = false ∧ coversB a b = false ∧ nameS a = ⟨#[]⟩) := by
  rcases mode_ways a with h | ⟨h, h2⟩
  · left
    have hm : modeB a = true := by rw [modeB_iff]; omega
    refine ⟨h, hm, ?_⟩
    unfold coversB
    rw [hm]
    cases modeB b <;> simp
  · right
    exact ⟨h, by unfold coversB; rw [h]; rfl, h2⟩

set_option maxHeartbeats 4000000 in
set_option maxRecDepth 100000 in
theorem ModeTells_c (a b : Int) (s : ByteArray) (w : World) (_ : I64 a) (_ : I64 b) (hs : s.size ≤ maxLen) :
    Calls Try.prog 13 #[.int .i64 a, .int .i64 b, .string s] w fun e w' => e = .returned (.bool true) ∧ Below w.heap.size w w' := by
  unfold maxLen at hs
  have KQ := hidd qMode_c
  have KV := hidd mValid_c
  have KF := hidd mFit_c
  have KG := hidd qFit_c
  have KC := hidd mCovers_c
  have KJ := hidd mJoin_c
  have KN := hidd mName_c
  have KP := hidd mParse_c
  by_cases hl : 300 < s.size
  · go_enter Try.func13, Try.ntmps13
    go_wp2_with fail
    refine (alive17_c _).mono ?_; rintro e w1 ⟨rfl, hb⟩
    go_wp2_with fail
    go_ret
    exact ⟨rfl, hb⟩
  · have HN0 := hidd (@name_lit s)
    have HW0 := hidd (@want0 s)
    have HW1 := hidd (@want1 s)
    have HW2 := hidd (@want2 s)
    have HS0 := hidd (want_start s)
    have HWE := hidd (want_end s)
    rcases tells_ways a b with ⟨rfl | rfl | rfl, hm2, ⟨hb2, hcv⟩ | ⟨hb2, hcv⟩⟩ | ⟨hm2, hcv, hna⟩
    all_goals
      have HM := hidd hm2
      have HCV := hidd hcv
      try have HB := hidd hb2
      try clear hb2
      try have HNA := hidd hna
      try clear hna
      clear hm2 hcv
      go_enter Try.func13, Try.ntmps13
      go_wp2_with fail
      refine (KQ.out _ _).mono ?_; rintro e w1 ⟨rfl, hw1⟩
      obtain rfl : w = w1 := hw1.symm
      rw [HM.out]
      go_wp2_with fail
      refine (KP.out _ _).mono ?_; rintro e w2 ⟨rfl, hw2⟩
      first | (obtain rfl : w = w2 := hw2.symm) | (obtain rfl := hw2)
      go_wp2_with fail
      go_loopw [10, 11, 12] (fun wa is i wr => ∃ k : Nat, k ≤ 3 ∧ i = .int .i64 k ∧ wa = .int .i64 (wantN s k) ∧ is = .bool (wantB s k) ∧ Below w.heap.size w wr) (fun _ _ i _ => 3 - (intOf i).toNat)
      case atStart => exact ⟨0, by omega, rfl, by rw [HS0.out.1], by rw [HS0.out.2], by first | exact Below.refl _ _ | exact below_alloc _ _⟩
      case round =>
        obtain ⟨k, hk, rfl, rfl, rfl, hb⟩ := hrel
        rcases (by omega : k = 0 ∨ k = 1 ∨ k = 2 ∨ k = 3) with rfl | rfl | rfl | rfl
        · rw [show ((0 : Nat) : Int) = 0 from rfl]
          rcases HN0.out.1 with ⟨hs0, hx⟩ | ⟨hs0, hx⟩
          · have HH := hidd (HW0.out.1 hs0)
            clear hs0
            go_wp2_with fail
            go_roundw
            case rel => exact ⟨1, by omega, rfl, by rw [HH.out.1], by rw [HH.out.2], hb.trans ((below_alloc wr _).mono hb.size)⟩
            case measure => simp [intOf]
          · have HH := hidd (HW0.out.2 hs0)
            clear hs0
            go_wp2_with fail
            go_roundw
            case rel => exact ⟨1, by omega, rfl, by rw [HH.out.1], by rw [HH.out.2], hb.trans ((below_alloc wr _).mono hb.size)⟩
            case measure => simp [intOf]
        · rw [show ((1 : Nat) : Int) = 1 from rfl]
          rcases HN0.out.2.1 with ⟨hs0, hx⟩ | ⟨hs0, hx⟩
          · have HH := hidd (HW1.out.1 hs0)
            clear hs0
            go_wp2_with fail
            go_roundw
            case rel => exact ⟨2, by omega, rfl, by rw [HH.out.1], by rw [HH.out.2], hb.trans ((below_alloc wr _).mono hb.size)⟩
            case measure => simp [intOf]
          · have HH := hidd (HW1.out.2 hs0)
            clear hs0
            go_wp2_with fail
            go_roundw
            case rel => exact ⟨2, by omega, rfl, by rw [HH.out.1], by rw [HH.out.2], hb.trans ((below_alloc wr _).mono hb.size)⟩
            case measure => simp [intOf]
        · rw [show ((2 : Nat) : Int) = 2 from rfl]
          rcases HN0.out.2.2 with ⟨hs0, hx⟩ | ⟨hs0, hx⟩
          · have HH := hidd (HW2.out.1 hs0)
            clear hs0
            go_wp2_with fail
            go_roundw
            case rel => exact ⟨3, by omega, rfl, by rw [HH.out.1], by rw [HH.out.2], hb.trans ((below_alloc wr _).mono hb.size)⟩
            case measure => simp [intOf]
          · have HH := hidd (HW2.out.2 hs0)
            clear hs0
            go_wp2_with fail
            go_roundw
            case rel => exact ⟨3, by omega, rfl, by rw [HH.out.1], by rw [HH.out.2], hb.trans ((below_alloc wr _).mono hb.size)⟩
            case measure => simp [intOf]
        · rw [show ((3 : Nat) : Int) = 3 from rfl, HWE.out.1, HWE.out.2]
          generalize parseN s = pn at *
          generalize parseB s = pb at *
          go_wp2_with fail
          refine (alive17_c _).mono ?_; rintro e w3 ⟨rfl, hb3⟩
          have hB3 := hb.trans (hb3.mono hb.size)
          go_wp2_with fail
          refine (KV.out _ _).mono ?_; rintro e w4 ⟨rfl, rfl⟩
          rw [HM.out]
          go_wp2_with fail
          refine (KQ.out _ _).mono ?_; rintro e w5 ⟨rfl, rfl⟩
          rw [HM.out]
          go_wp2_with fail
          refine (KF.out _ _ _).mono ?_; rintro e w6 ⟨rfl, rfl⟩
          go_wp2_with fail
          refine (KG.out _ _ _).mono ?_; rintro e w7 ⟨rfl, rfl⟩
          generalize fitB _ b = ft at *
          go_wp2_with fail
          refine (KC.out _ _ _).mono ?_; rintro e w8 ⟨rfl, rfl⟩
          rw [HCV.out]
          go_wp2_with fail
          refine (KQ.out _ _).mono ?_; rintro e w9 ⟨rfl, rfl⟩
          rw [HM.out]
          go_wp2_with fail
          try
            refine (KQ.out _ _).mono ?_; rintro e w10 ⟨rfl, rfl⟩
            rw [HB.out]
            go_wp2_with fail
          refine (KJ.out _ _ _).mono ?_; rintro e w11 ⟨rfl, rfl⟩
          go_wp2_with fail
          refine (KN.out _ _).mono ?_; rintro e w12 ⟨rfl, rfl⟩
          first | rw [HNA.out] | rw [show nameS 0 = ⟨#[110, 111, 110, 101]⟩ from rfl] | rw [show nameS 1 = ⟨#[115, 104, 97, 114, 101, 100]⟩ from rfl] | rw [show nameS 2 = ⟨#[101, 120, 99, 108, 117, 115, 105, 118, 101]⟩ from rfl]
          go_wp2_with fail
          go_ret
          exact ⟨by first | rfl | simp, hB3⟩
end Go.Proofs.Ytiokkoeciijkoaa
