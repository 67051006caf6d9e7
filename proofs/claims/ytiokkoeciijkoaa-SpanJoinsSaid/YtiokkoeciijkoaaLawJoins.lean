/- SpanJoins, walked. -/
import Derived.Test.YtiokkoeciijkoaaSpanK
namespace Go.Proofs.Ytiokkoeciijkoaa
set_option linter.unusedVariables false
set_option linter.unusedSimpArgs false
open Go.RowKit

theorem join_comm {a b x y : List Sp} (h1 : NormOf (a ++ b) x) (h2 : NormOf (b ++ a) y) : x = y :=
  Can.uniq h1.can h2.can fun n => by rw [h1.blocks, h2.blocks, memS_append, memS_append, or_comm]
theorem both_comm {a b x y : List Sp} (h1 : BothOf a b x) (h2 : BothOf b a y) : x = y :=
  Can.uniq h1.can h2.can fun n => by rw [h1.blocks, h2.blocks, and_comm]
theorem join_assoc {a b c j x k y : List Sp} (h1 : NormOf (a ++ b) j) (h2 : NormOf (j ++ c) x) (h3 : NormOf (b ++ c) k) (h4 : NormOf (a ++ k) y) : x = y :=
  Can.uniq h2.can h4.can fun n => by rw [h2.blocks, h4.blocks, memS_append, memS_append, h1.blocks, h3.blocks, memS_append, memS_append, or_assoc]
theorem both_assoc {a b c j x k y : List Sp} (h1 : BothOf a b j) (h2 : BothOf j c x) (h3 : BothOf b c k) (h4 : BothOf a k y) : x = y :=
  Can.uniq h2.can h4.can fun n => by rw [h2.blocks, h4.blocks, h1.blocks, h3.blocks, and_assoc]
theorem any_join {a b j : List Sp} {n : Int} (h : NormOf (a ++ b) j) : anyS n j = (anyS n a || anyS n b) := by
  rw [Bool.eq_iff_iff, Bool.or_eq_true, anyS_iff, anyS_iff, anyS_iff, h.blocks, memS_append]
theorem any_both {a b j : List Sp} {n : Int} (h : BothOf a b j) : anyS n j = (anyS n a && anyS n b) := by
  rw [Bool.eq_iff_iff, Bool.and_eq_true, anyS_iff, anyS_iff, anyS_iff, h.blocks]
theorem parts_whole {a b m d x y : List Sp} (h1 : BothOf a b m) (h2 : MinusOf a b d) (h3 : NormOf (d ++ m) x) (h4 : NormOf a y) : x = y :=
  Can.uniq h3.can h4.can fun n => by
    rw [h3.blocks, h4.blocks, memS_append, h2.blocks, h1.blocks]
    by_cases hb : memS n b <;> simp [hb]

set_option maxHeartbeats 8000000 in
set_option maxRecDepth 100000 in
theorem SpanJoins_c (A : Option Addr) (na ca : Nat) (a : List Sp) (B : Option Addr) (nb cb : Nat) (b : List Sp) (C : Option Addr) (nc cc : Nat) (c : List Sp) (n : Int) (w : World)
    (ha : Rd 2 encS w A a) (hna : na = a.length) (_ : ∀ x ∈ a, I64 x.1 ∧ I64 x.2) (hb : Rd 2 encS w B b) (hnb : nb = b.length) (_ : ∀ x ∈ b, I64 x.1 ∧ I64 x.2) (hc : Rd 2 encS w C c) (hnc : nc = c.length) (_ : ∀ x ∈ c, I64 x.1 ∧ I64 x.2) (_ : I64 n) :
    Calls Try.prog 6 #[.slice A na ca, .slice B nb cb, .slice C nc cc, .int .i64 n] w fun e w' => e = .returned (.bool true) ∧ Below w.heap.size w w' := by
  subst hna hnb hnc
  by_cases hla : 30 < a.length
  · go_enter Try.func6, Try.ntmps6
    go_wp2_with fail
    refine (alive6_c _).mono ?_; rintro e w1 ⟨rfl, hb⟩
    go_wp2_with fail
    go_ret
    exact ⟨rfl, hb⟩
  by_cases hlb : 30 < b.length
  · go_enter Try.func6, Try.ntmps6
    go_wp2_with fail
    refine (alive6_c _).mono ?_; rintro e w1 ⟨rfl, hb⟩
    go_wp2_with fail
    go_ret
    exact ⟨rfl, hb⟩
  by_cases hlc : 30 < c.length
  · go_enter Try.func6, Try.ntmps6
    go_wp2_with fail
    refine (alive6_c _).mono ?_; rintro e w1 ⟨rfl, hb⟩
    go_wp2_with fail
    go_ret
    exact ⟨rfl, hb⟩
  have ka : a.length ≤ 30 := by omega
  have kb : b.length ≤ 30 := by omega
  have kc : c.length ≤ 30 := by omega
  have HA := hidd ha
  have HB := hidd hb
  have HC := hidd hc
  clear ha hb hc
  have HW : Hid (Below w.heap.size w w) := Below.refl _ _
  obtain ⟨w0, hw0⟩ : ∃ w0 : World, w0 = w := ⟨_, rfl⟩
  go_enter Try.func6, Try.ntmps6
  go_wp2_with fail
  refine (sJoin_c _ _ _ _ _ _ a b _ HA.out HB.out rfl rfl (by omega)).mono ?_; rintro e w1 ⟨⟨v1, o1, rfl, ho1, hm1⟩, hb⟩
  obtain ⟨A1, c1, rfl⟩ := own_shape ho1
  replace HA := hidd (HA.out.below hb (Nat.le_refl _))
  replace HB := hidd (HB.out.below hb (Nat.le_refl _))
  replace HC := hidd (HC.out.below hb (Nat.le_refl _))
  replace HW := hidd (HW.out.trans (hb.mono HW.out.size))
  clear hb
  have Hj := hidd (Own.rd ho1 rfl)
  have Mj := hidd hm1
  have kj : o1.length ≤ 60 := by have := hm1.len; rw [List.length_append] at this; omega
  clear ho1 hm1
  go_wp2_with fail
  refine (sBoth_c _ _ _ _ _ _ a b _ HA.out HB.out rfl rfl (by omega)).mono ?_; rintro e w2 ⟨⟨v2, o2, rfl, ho2, hm2⟩, hb⟩
  obtain ⟨A2, c2, rfl⟩ := own_shape ho2
  replace HA := hidd (HA.out.below hb (Nat.le_refl _))
  replace HB := hidd (HB.out.below hb (Nat.le_refl _))
  replace HC := hidd (HC.out.below hb (Nat.le_refl _))
  replace Hj := hidd (Hj.out.below hb (Nat.le_refl _))
  replace HW := hidd (HW.out.trans (hb.mono HW.out.size))
  clear hb
  have Hm := hidd (Own.rd ho2 rfl)
  have Mm := hidd hm2
  have km : o2.length ≤ 90 := by have := hm2.len;  omega
  clear ho2 hm2
  go_wp2_with fail
  refine (sJoin_c _ _ _ _ _ _ b a _ HB.out HA.out rfl rfl (by omega)).mono ?_; rintro e w3 ⟨⟨v3, o3, rfl, ho3, hm3⟩, hb⟩
  obtain ⟨A3, c3, rfl⟩ := own_shape ho3
  replace HA := hidd (HA.out.below hb (Nat.le_refl _))
  replace HB := hidd (HB.out.below hb (Nat.le_refl _))
  replace HC := hidd (HC.out.below hb (Nat.le_refl _))
  replace Hj := hidd (Hj.out.below hb (Nat.le_refl _))
  replace Hm := hidd (Hm.out.below hb (Nat.le_refl _))
  replace HW := hidd (HW.out.trans (hb.mono HW.out.size))
  clear hb
  have Hx3 := hidd (Own.rd ho3 rfl)
  have Mx3 := hidd hm3
  have kx3 : o3.length ≤ 60 := by have := hm3.len; rw [List.length_append] at this; omega
  clear ho3 hm3
  go_wp2_with fail
  obtain rfl : o3 = o1 := join_comm Mx3.out Mj.out
  refine (sameSpans_c _ _ _ _ _ _ o3 o3 _ Hj.out Hx3.out rfl rfl (by omega) (by omega)).mono ?_; rintro e w4 ⟨rfl, hb⟩
  replace HA := hidd (HA.out.below hb (Nat.le_refl _))
  replace HB := hidd (HB.out.below hb (Nat.le_refl _))
  replace HC := hidd (HC.out.below hb (Nat.le_refl _))
  replace Hj := hidd (Hj.out.below hb (Nat.le_refl _))
  replace Hm := hidd (Hm.out.below hb (Nat.le_refl _))
  replace Hx3 := hidd (Hx3.out.below hb (Nat.le_refl _))
  replace HW := hidd (HW.out.trans (hb.mono HW.out.size))
  clear hb
  rw [decide_eq_true (rfl : o3 = o3)]
  go_wp2_with fail
  refine (sBoth_c _ _ _ _ _ _ b a _ HB.out HA.out rfl rfl (by omega)).mono ?_; rintro e w5 ⟨⟨v5, o5, rfl, ho5, hm5⟩, hb⟩
  obtain ⟨A5, c5, rfl⟩ := own_shape ho5
  replace HA := hidd (HA.out.below hb (Nat.le_refl _))
  replace HB := hidd (HB.out.below hb (Nat.le_refl _))
  replace HC := hidd (HC.out.below hb (Nat.le_refl _))
  replace Hj := hidd (Hj.out.below hb (Nat.le_refl _))
  replace Hm := hidd (Hm.out.below hb (Nat.le_refl _))
  replace HW := hidd (HW.out.trans (hb.mono HW.out.size))
  clear hb
  have Hx4 := hidd (Own.rd ho5 rfl)
  have Mx4 := hidd hm5
  have kx4 : o5.length ≤ 90 := by have := hm5.len;  omega
  clear ho5 hm5
  go_wp2_with fail
  obtain rfl : o5 = o2 := both_comm Mx4.out Mm.out
  refine (sameSpans_c _ _ _ _ _ _ o5 o5 _ Hm.out Hx4.out rfl rfl (by omega) (by omega)).mono ?_; rintro e w6 ⟨rfl, hb⟩
  replace HA := hidd (HA.out.below hb (Nat.le_refl _))
  replace HB := hidd (HB.out.below hb (Nat.le_refl _))
  replace HC := hidd (HC.out.below hb (Nat.le_refl _))
  replace Hj := hidd (Hj.out.below hb (Nat.le_refl _))
  replace Hm := hidd (Hm.out.below hb (Nat.le_refl _))
  replace Hx4 := hidd (Hx4.out.below hb (Nat.le_refl _))
  replace HW := hidd (HW.out.trans (hb.mono HW.out.size))
  clear hb
  rw [decide_eq_true (rfl : o5 = o5)]
  go_wp2_with fail
  refine (sJoin_c _ _ _ _ _ _ o3 c _ Hj.out HC.out rfl rfl (by omega)).mono ?_; rintro e w7 ⟨⟨v7, o7, rfl, ho7, hm7⟩, hb⟩
  obtain ⟨A7, c7, rfl⟩ := own_shape ho7
  replace HA := hidd (HA.out.below hb (Nat.le_refl _))
  replace HB := hidd (HB.out.below hb (Nat.le_refl _))
  replace HC := hidd (HC.out.below hb (Nat.le_refl _))
  replace Hj := hidd (Hj.out.below hb (Nat.le_refl _))
  replace Hm := hidd (Hm.out.below hb (Nat.le_refl _))
  replace HW := hidd (HW.out.trans (hb.mono HW.out.size))
  clear hb
  have Hx5 := hidd (Own.rd ho7 rfl)
  have Mx5 := hidd hm7
  have kx5 : o7.length ≤ 90 := by have := hm7.len; rw [List.length_append] at this; omega
  clear ho7 hm7
  go_wp2_with fail
  refine (sJoin_c _ _ _ _ _ _ b c _ HB.out HC.out rfl rfl (by omega)).mono ?_; rintro e w8 ⟨⟨v8, o8, rfl, ho8, hm8⟩, hb⟩
  obtain ⟨A8, c8, rfl⟩ := own_shape ho8
  replace HA := hidd (HA.out.below hb (Nat.le_refl _))
  replace HB := hidd (HB.out.below hb (Nat.le_refl _))
  replace HC := hidd (HC.out.below hb (Nat.le_refl _))
  replace Hj := hidd (Hj.out.below hb (Nat.le_refl _))
  replace Hm := hidd (Hm.out.below hb (Nat.le_refl _))
  replace Hx5 := hidd (Hx5.out.below hb (Nat.le_refl _))
  replace HW := hidd (HW.out.trans (hb.mono HW.out.size))
  clear hb
  have Hx6 := hidd (Own.rd ho8 rfl)
  have Mx6 := hidd hm8
  have kx6 : o8.length ≤ 60 := by have := hm8.len; rw [List.length_append] at this; omega
  clear ho8 hm8
  go_wp2_with fail
  refine (sJoin_c _ _ _ _ _ _ a o8 _ HA.out Hx6.out rfl rfl (by omega)).mono ?_; rintro e w9 ⟨⟨v9, o9, rfl, ho9, hm9⟩, hb⟩
  obtain ⟨A9, c9, rfl⟩ := own_shape ho9
  replace HA := hidd (HA.out.below hb (Nat.le_refl _))
  replace HB := hidd (HB.out.below hb (Nat.le_refl _))
  replace HC := hidd (HC.out.below hb (Nat.le_refl _))
  replace Hj := hidd (Hj.out.below hb (Nat.le_refl _))
  replace Hm := hidd (Hm.out.below hb (Nat.le_refl _))
  replace Hx5 := hidd (Hx5.out.below hb (Nat.le_refl _))
  replace Hx6 := hidd (Hx6.out.below hb (Nat.le_refl _))
  replace HW := hidd (HW.out.trans (hb.mono HW.out.size))
  clear hb
  have Hx7 := hidd (Own.rd ho9 rfl)
  have Mx7 := hidd hm9
  have kx7 : o9.length ≤ 90 := by have := hm9.len; rw [List.length_append] at this; omega
  clear ho9 hm9
  go_wp2_with fail
  obtain rfl : o9 = o7 := (join_assoc Mj.out Mx5.out Mx6.out Mx7.out).symm
  refine (sameSpans_c _ _ _ _ _ _ o9 o9 _ Hx5.out Hx7.out rfl rfl (by omega) (by omega)).mono ?_; rintro e w10 ⟨rfl, hb⟩
  replace HA := hidd (HA.out.below hb (Nat.le_refl _))
  replace HB := hidd (HB.out.below hb (Nat.le_refl _))
  replace HC := hidd (HC.out.below hb (Nat.le_refl _))
  replace Hj := hidd (Hj.out.below hb (Nat.le_refl _))
  replace Hm := hidd (Hm.out.below hb (Nat.le_refl _))
  replace Hx5 := hidd (Hx5.out.below hb (Nat.le_refl _))
  replace Hx6 := hidd (Hx6.out.below hb (Nat.le_refl _))
  replace Hx7 := hidd (Hx7.out.below hb (Nat.le_refl _))
  replace HW := hidd (HW.out.trans (hb.mono HW.out.size))
  clear hb
  rw [decide_eq_true (rfl : o9 = o9)]
  go_wp2_with fail
  refine (sBoth_c _ _ _ _ _ _ o5 c _ Hm.out HC.out rfl rfl (by omega)).mono ?_; rintro e w11 ⟨⟨v11, o11, rfl, ho11, hm11⟩, hb⟩
  obtain ⟨A11, c11, rfl⟩ := own_shape ho11
  replace HA := hidd (HA.out.below hb (Nat.le_refl _))
  replace HB := hidd (HB.out.below hb (Nat.le_refl _))
  replace HC := hidd (HC.out.below hb (Nat.le_refl _))
  replace Hj := hidd (Hj.out.below hb (Nat.le_refl _))
  replace Hm := hidd (Hm.out.below hb (Nat.le_refl _))
  replace HW := hidd (HW.out.trans (hb.mono HW.out.size))
  clear hb
  have Hx8 := hidd (Own.rd ho11 rfl)
  have Mx8 := hidd hm11
  have kx8 : o11.length ≤ 400 := by have := hm11.len;  omega
  clear ho11 hm11
  go_wp2_with fail
  refine (sBoth_c _ _ _ _ _ _ b c _ HB.out HC.out rfl rfl (by omega)).mono ?_; rintro e w12 ⟨⟨v12, o12, rfl, ho12, hm12⟩, hb⟩
  obtain ⟨A12, c12, rfl⟩ := own_shape ho12
  replace HA := hidd (HA.out.below hb (Nat.le_refl _))
  replace HB := hidd (HB.out.below hb (Nat.le_refl _))
  replace HC := hidd (HC.out.below hb (Nat.le_refl _))
  replace Hj := hidd (Hj.out.below hb (Nat.le_refl _))
  replace Hm := hidd (Hm.out.below hb (Nat.le_refl _))
  replace Hx8 := hidd (Hx8.out.below hb (Nat.le_refl _))
  replace HW := hidd (HW.out.trans (hb.mono HW.out.size))
  clear hb
  have Hx9 := hidd (Own.rd ho12 rfl)
  have Mx9 := hidd hm12
  have kx9 : o12.length ≤ 400 := by have := hm12.len;  omega
  clear ho12 hm12
  go_wp2_with fail
  refine (sBoth_c _ _ _ _ _ _ a o12 _ HA.out Hx9.out rfl rfl (by omega)).mono ?_; rintro e w13 ⟨⟨v13, o13, rfl, ho13, hm13⟩, hb⟩
  obtain ⟨A13, c13, rfl⟩ := own_shape ho13
  replace HA := hidd (HA.out.below hb (Nat.le_refl _))
  replace HB := hidd (HB.out.below hb (Nat.le_refl _))
  replace HC := hidd (HC.out.below hb (Nat.le_refl _))
  replace Hj := hidd (Hj.out.below hb (Nat.le_refl _))
  replace Hm := hidd (Hm.out.below hb (Nat.le_refl _))
  replace Hx8 := hidd (Hx8.out.below hb (Nat.le_refl _))
  replace Hx9 := hidd (Hx9.out.below hb (Nat.le_refl _))
  replace HW := hidd (HW.out.trans (hb.mono HW.out.size))
  clear hb
  have Hx10 := hidd (Own.rd ho13 rfl)
  have Mx10 := hidd hm13
  have kx10 : o13.length ≤ 1000 := by have := hm13.len;  omega
  clear ho13 hm13
  go_wp2_with fail
  obtain rfl : o13 = o11 := (both_assoc Mm.out Mx8.out Mx9.out Mx10.out).symm
  refine (sameSpans_c _ _ _ _ _ _ o13 o13 _ Hx8.out Hx10.out rfl rfl (by omega) (by omega)).mono ?_; rintro e w14 ⟨rfl, hb⟩
  replace HA := hidd (HA.out.below hb (Nat.le_refl _))
  replace HB := hidd (HB.out.below hb (Nat.le_refl _))
  replace HC := hidd (HC.out.below hb (Nat.le_refl _))
  replace Hj := hidd (Hj.out.below hb (Nat.le_refl _))
  replace Hm := hidd (Hm.out.below hb (Nat.le_refl _))
  replace Hx8 := hidd (Hx8.out.below hb (Nat.le_refl _))
  replace Hx9 := hidd (Hx9.out.below hb (Nat.le_refl _))
  replace Hx10 := hidd (Hx10.out.below hb (Nat.le_refl _))
  replace HW := hidd (HW.out.trans (hb.mono HW.out.size))
  clear hb
  rw [decide_eq_true (rfl : o13 = o13)]
  go_wp2_with fail
  have R1 := hidd (any_join (n := n) Mj.out)
  have R2 := hidd (any_both (n := n) Mm.out)
  generalize hpa : anyS n a = pa at R1 R2
  generalize hpb : anyS n b = pb at R1 R2
  have PA := hidd hpa
  have PB := hidd hpb
  clear hpa hpb
  cases pa <;> cases pb
  all_goals
    (with_reducible refine (has6_c _ _ _ o3 n _ Hj.out rfl (by omega)).mono ?_); rintro e w15 ⟨rfl, hb⟩
    replace HA := hidd (HA.out.below hb (Nat.le_refl _))
    replace HB := hidd (HB.out.below hb (Nat.le_refl _))
    replace Hj := hidd (Hj.out.below hb (Nat.le_refl _))
    replace Hm := hidd (Hm.out.below hb (Nat.le_refl _))
    replace HW := hidd (HW.out.trans (hb.mono HW.out.size))
    clear hb
    rw [R1.out]
    go_wp2_with fail
    (with_reducible refine (has6_c _ _ _ a n _ HA.out rfl (by omega)).mono ?_); rintro e w16 ⟨rfl, hb⟩
    replace HA := hidd (HA.out.below hb (Nat.le_refl _))
    replace HB := hidd (HB.out.below hb (Nat.le_refl _))
    replace Hj := hidd (Hj.out.below hb (Nat.le_refl _))
    replace Hm := hidd (Hm.out.below hb (Nat.le_refl _))
    replace HW := hidd (HW.out.trans (hb.mono HW.out.size))
    clear hb
    rw [PA.out]
    go_wp2_with fail
    try
      (with_reducible refine (has6_c _ _ _ b n _ HB.out rfl (by omega)).mono ?_); rintro e w17 ⟨rfl, hb⟩
      replace HA := hidd (HA.out.below hb (Nat.le_refl _))
      replace HB := hidd (HB.out.below hb (Nat.le_refl _))
      replace Hj := hidd (Hj.out.below hb (Nat.le_refl _))
      replace Hm := hidd (Hm.out.below hb (Nat.le_refl _))
      replace HW := hidd (HW.out.trans (hb.mono HW.out.size))
      clear hb
      rw [PB.out]
      go_wp2_with fail
    refine (alive6_c _).mono ?_; rintro e wa ⟨rfl, hb⟩
    replace HA := hidd (HA.out.below hb (Nat.le_refl _))
    replace HB := hidd (HB.out.below hb (Nat.le_refl _))
    replace Hj := hidd (Hj.out.below hb (Nat.le_refl _))
    replace Hm := hidd (Hm.out.below hb (Nat.le_refl _))
    replace HW := hidd (HW.out.trans (hb.mono HW.out.size))
    clear hb
    go_wp2_with fail
    (with_reducible refine (has6_c _ _ _ o5 n _ Hm.out rfl (by omega)).mono ?_); rintro e w18 ⟨rfl, hb⟩
    replace HA := hidd (HA.out.below hb (Nat.le_refl _))
    replace HB := hidd (HB.out.below hb (Nat.le_refl _))
    replace Hj := hidd (Hj.out.below hb (Nat.le_refl _))
    replace Hm := hidd (Hm.out.below hb (Nat.le_refl _))
    replace HW := hidd (HW.out.trans (hb.mono HW.out.size))
    clear hb
    rw [R2.out]
    go_wp2_with fail
    (with_reducible refine (has6_c _ _ _ a n _ HA.out rfl (by omega)).mono ?_); rintro e w19 ⟨rfl, hb⟩
    replace HA := hidd (HA.out.below hb (Nat.le_refl _))
    replace HB := hidd (HB.out.below hb (Nat.le_refl _))
    replace Hj := hidd (Hj.out.below hb (Nat.le_refl _))
    replace Hm := hidd (Hm.out.below hb (Nat.le_refl _))
    replace HW := hidd (HW.out.trans (hb.mono HW.out.size))
    clear hb
    rw [PA.out]
    go_wp2_with fail
    try
      (with_reducible refine (has6_c _ _ _ b n _ HB.out rfl (by omega)).mono ?_); rintro e w20 ⟨rfl, hb⟩
      replace HA := hidd (HA.out.below hb (Nat.le_refl _))
      replace HB := hidd (HB.out.below hb (Nat.le_refl _))
      replace Hj := hidd (Hj.out.below hb (Nat.le_refl _))
      replace Hm := hidd (Hm.out.below hb (Nat.le_refl _))
      replace HW := hidd (HW.out.trans (hb.mono HW.out.size))
      clear hb
      rw [PB.out]
      go_wp2_with fail
    refine (sMinus_c _ _ _ _ _ _ a b _ HA.out HB.out rfl rfl (by omega)).mono ?_; rintro e w21 ⟨⟨v21, o21, rfl, ho21, hm21⟩, hb⟩
    obtain ⟨A21, c21, rfl⟩ := own_shape ho21
    replace HA := hidd (HA.out.below hb (Nat.le_refl _))
    replace HB := hidd (HB.out.below hb (Nat.le_refl _))
    replace Hj := hidd (Hj.out.below hb (Nat.le_refl _))
    replace Hm := hidd (Hm.out.below hb (Nat.le_refl _))
    replace HW := hidd (HW.out.trans (hb.mono HW.out.size))
    clear hb
    have Hd := hidd (Own.rd ho21 rfl)
    have Md := hidd hm21
    have kd : o21.length ≤ 60 := by have := hm21.len;  omega
    clear ho21 hm21
    go_wp2_with fail
    refine (sJoin_c _ _ _ _ _ _ o21 o5 _ Hd.out Hm.out rfl rfl (by omega)).mono ?_; rintro e w22 ⟨⟨v22, o22, rfl, ho22, hm22⟩, hb⟩
    obtain ⟨A22, c22, rfl⟩ := own_shape ho22
    replace HA := hidd (HA.out.below hb (Nat.le_refl _))
    replace HB := hidd (HB.out.below hb (Nat.le_refl _))
    replace Hj := hidd (Hj.out.below hb (Nat.le_refl _))
    replace Hm := hidd (Hm.out.below hb (Nat.le_refl _))
    replace Hd := hidd (Hd.out.below hb (Nat.le_refl _))
    replace HW := hidd (HW.out.trans (hb.mono HW.out.size))
    clear hb
    have Hx11 := hidd (Own.rd ho22 rfl)
    have Mx11 := hidd hm22
    have kx11 : o22.length ≤ 150 := by have := hm22.len; rw [List.length_append] at this; omega
    clear ho22 hm22
    go_wp2_with fail
    refine (sNorm_c _ _ _ a _ HA.out rfl (by omega)).mono ?_; rintro e w23 ⟨⟨v23, o23, rfl, ho23, hm23⟩, hb⟩
    obtain ⟨A23, c23, rfl⟩ := own_shape ho23
    replace HA := hidd (HA.out.below hb (Nat.le_refl _))
    replace HB := hidd (HB.out.below hb (Nat.le_refl _))
    replace Hj := hidd (Hj.out.below hb (Nat.le_refl _))
    replace Hm := hidd (Hm.out.below hb (Nat.le_refl _))
    replace Hd := hidd (Hd.out.below hb (Nat.le_refl _))
    replace Hx11 := hidd (Hx11.out.below hb (Nat.le_refl _))
    replace HW := hidd (HW.out.trans (hb.mono HW.out.size))
    clear hb
    have Hx12 := hidd (Own.rd ho23 rfl)
    have Mx12 := hidd hm23
    have kx12 : o23.length ≤ 30 := by have := hm23.len;  omega
    clear ho23 hm23
    go_wp2_with fail
    obtain rfl : o23 = o22 := (parts_whole Mm.out Md.out Mx11.out Mx12.out).symm
    refine (sameSpans_c _ _ _ _ _ _ o23 o23 _ Hx11.out Hx12.out rfl rfl (by omega) (by omega)).mono ?_; rintro e w24 ⟨rfl, hb⟩
    replace HA := hidd (HA.out.below hb (Nat.le_refl _))
    replace HB := hidd (HB.out.below hb (Nat.le_refl _))
    replace Hj := hidd (Hj.out.below hb (Nat.le_refl _))
    replace Hm := hidd (Hm.out.below hb (Nat.le_refl _))
    replace Hd := hidd (Hd.out.below hb (Nat.le_refl _))
    replace Hx11 := hidd (Hx11.out.below hb (Nat.le_refl _))
    replace Hx12 := hidd (Hx12.out.below hb (Nat.le_refl _))
    replace HW := hidd (HW.out.trans (hb.mono HW.out.size))
    clear hb
    rw [decide_eq_true (rfl : o23 = o23)]
    go_wp2_with fail
    refine (sCovers_c _ _ _ _ _ _ o3 a _ Hj.out HA.out rfl rfl (by omega)).mono ?_; rintro e wb ⟨⟨out, hmo, rfl⟩, hb⟩
    obtain rfl : out = [] := minus_none hmo (fun m h => (Mj.out.blocks m).2 (memS_append.2 (.inl h)))
    replace HA := hidd (HA.out.below hb (Nat.le_refl _))
    replace Hm := hidd (Hm.out.below hb (Nat.le_refl _))
    replace HW := hidd (HW.out.trans (hb.mono HW.out.size))
    clear hb
    go_wp2_with fail
    refine (sCovers_c _ _ _ _ _ _ a o5 _ HA.out Hm.out rfl rfl (by omega)).mono ?_; rintro e wc ⟨⟨out, hmo, rfl⟩, hb⟩
    obtain rfl : out = [] := minus_none hmo (fun m h => ((Mm.out.blocks m).1 h).1)
    replace HW := hidd (HW.out.trans (hb.mono HW.out.size))
    clear hb
    go_wp2_with fail
    go_ret
    exact ⟨by first | rfl | simp, HW.out⟩
end Go.Proofs.Ytiokkoeciijkoaa
