/- The walk of TableClaims. -/
import Derived.Test.YtiokkoeciijkoaaTabL
namespace Go.Proofs.Ytiokkoeciijkoaa
set_option linter.unusedVariables false
set_option linter.unusedSimpArgs false
open Go.RowKit

theorem cl_ways (f n k : Int) : (decide (f < 0) = true) ∨ (decide (f < 0) = false ∧ decide (1000 < f) = true) ∨ (decide (f < 0) = false ∧ decide (1000 < f) = false ∧ decide (n < 2) = true) ∨ (decide (f < 0) = false ∧ decide (1000 < f) = false ∧ decide (n < 2) = false ∧ decide (100 < n) = true) ∨ (decide (f < 0) = false ∧ decide (1000 < f) = false ∧ decide (n < 2) = false ∧ decide (100 < n) = false ∧ decide (k < 1) = true) ∨ (decide (f < 0) = false ∧ decide (1000 < f) = false ∧ decide (n < 2) = false ∧ decide (100 < n) = false ∧ decide (k < 1) = false ∧ decide (n ≤ k) = true) ∨ (decide (f < 0) = false ∧ decide (1000 < f) = false ∧ decide (n < 2) = false ∧ decide (100 < n) = false ∧ decide (k < 1) = false ∧ decide (n ≤ k) = false ∧ (0 ≤ f ∧ f ≤ 1000) ∧ (2 ≤ n ∧ n ≤ 100) ∧ 1 ≤ k ∧ k < n) := by
  simp only [decide_eq_true_eq, decide_eq_false_iff_not]
  omega
theorem ask_last {T : Tb} (node a b m : Int) : T.last ≤ (T.ask node a b m).tb.last ∧ (T.ask node a b m).tb.last ≤ T.last + 1 := by
  unfold Tb.ask
  repeat' split
  all_goals first | exact ⟨Int.le_refl T.last, Int.le_of_lt (Int.lt_succ T.last)⟩ | exact ⟨Int.le_of_lt (Int.lt_succ T.last), Int.le_refl (T.last + 1)⟩

set_option maxHeartbeats 8000000 in
set_option maxRecDepth 100000 in
theorem TableClaims_c (f n k : Int) (w : World) (hf : I64 f) (hn : I64 n) (hk : I64 k) : Calls Try.prog 18 #[.int .i64 f, .int .i64 n, .int .i64 k] w fun e w' => e = .returned (.bool true) ∧ Below w.heap.size w w' := by
  clear hf hn hk
  rcases cl_ways f n k with d1 | ⟨d1, d2⟩ | ⟨d1, d2, d3⟩ | ⟨d1, d2, d3, d4⟩ | ⟨d1, d2, d3, d4, d5⟩ | ⟨d1, d2, d3, d4, d5, d6⟩ | ⟨d1, d2, d3, d4, d5, d6, hf, hn, hk⟩
  case inr.inr.inr.inr.inr.inr =>
    obtain ⟨T1, T2, T3', T4, e1, e2, e3, e4, e5, e6, e7, e8, e9⟩ := claims_law hf hn hk
    have l1 := ask_last (T := T3) 1 f (f + 1) 2
    rw [e1] at l1
    have l2 := ask_last (T := T1) 2 f (f + n) 2
    rw [e2] at l2
    have l3 := ask_last (T := T2) 3 (f + k) (f + k + 1) 2
    rw [e3] at l3
    have l0 : T3.last = 0 := rfl
    simp only at l1 l2 l3
    have HK1 : Hid (∀ W t F, Tab F W t T3 → Calls Try.prog 71 #[ptr t, .int .i64 1, lkV f (f + 1) 2] W fun e w' => e = .returned (.tuple #[.int .i64 0, .bool true, .int .i64 0]) ∧ Tab F w' t T1 ∧ BelF F W.heap.size W w') := fun W t F h => by
      have := tAsk_c t T3 1 f (f + 1) 2 W h (by decide)
      rw [e1] at this; exact this
    have HK2 : Hid (∀ W t F, Tab F W t T1 → Calls Try.prog 71 #[ptr t, .int .i64 2, lkV f (f + n) 2] W fun e w' => e = .returned (.tuple #[.int .i64 1, .bool false, .int .i64 0]) ∧ Tab F w' t T2 ∧ BelF F W.heap.size W w') := fun W t F h => by
      have := tAsk_c t T1 2 f (f + n) 2 W h (by omega)
      rw [e2] at this; exact this
    have HK3 : Hid (∀ W t F, Tab F W t T2 → Calls Try.prog 71 #[ptr t, .int .i64 3, lkV (f + k) (f + k + 1) 2] W fun e w' => e = .returned (.tuple #[.int .i64 0, .bool true, .int .i64 0]) ∧ Tab F w' t T3' ∧ BelF F W.heap.size W w') := fun W t F h => by
      have := tAsk_c t T2 3 (f + k) (f + k + 1) 2 W h (by omega)
      rw [e3] at this; exact this
    have HK4 : Hid (∀ W t F, Tab F W t T3' → Calls Try.prog 71 #[ptr t, .int .i64 3, lkV f (f + 1) 1] W fun e w' => e = .returned (.tuple #[.int .i64 2, .bool false, .int .i64 0]) ∧ Tab F w' t T4 ∧ BelF F W.heap.size W w') := fun W t F h => by
      have := tAsk_c t T3' 3 f (f + 1) 1 W h (by omega)
      rw [e4] at this; exact this
    have HK5 : Hid (∀ W t F, Tab F W t T4 → Calls Try.prog 72 #[ptr t, .int .i64 1, spV f (f + 1), .int .i64 0] W fun e w' => (∃ u, e = .returned (.tuple #[u, .int .i64 0]) ∧ Own 5 encW 104 w' W.heap.size u ([] : List Wt)) ∧ Tab F w' t (T4.release 1 f (f + 1) 0) ∧ BelF F W.heap.size W w') := fun W t F h => by
      have := tRelease_c t T4 1 f (f + 1) 0 W h
      rw [e6, show relE T4.n 1 f (f + 1) 0 = 0 from if_pos e5] at this; exact this
    generalize T4.release 1 f (f + 1) 0 = T5 at *
    have HK6 : Hid (∀ W t F, Tab F W t T5 → Calls Try.prog 72 #[ptr t, .int .i64 3, spV (f + k) (f + k + 1), .int .i64 0] W fun e w' => (∃ u, e = .returned (.tuple #[u, .int .i64 0]) ∧ Own 5 encW 104 w' W.heap.size u [((1, 2, f, f + n, 2) : Wt)]) ∧ Tab F w' t (T5.release 3 (f + k) (f + k + 1) 0) ∧ BelF F W.heap.size W w') := fun W t F h => by
      have := tRelease_c t T5 3 (f + k) (f + k + 1) 0 W h
      rw [e8, show relE T5.n 3 (f + k) (f + k + 1) 0 = 0 from if_pos e7] at this; exact this
    generalize T5.release 3 (f + k) (f + k + 1) 0 = T6 at *
    have HM1 : Hid (∀ W t F, Tab F W t T6 → Calls Try.prog 73 #[ptr t, .int .i64 2, .int .i64 (f + n - 1)] W fun e w' => e = .returned (.int .i64 2) ∧ Below W.heap.size W w') := fun W t F h => by
      have := tMode_c t T6 2 (f + n - 1) W h
      rw [e9] at this; exact this
    clear e1 e2 e3 e4 e5 e6 e7 e8 e9 l0 l1 l2 l3
    go_enter Try.func18, Try.ntmps18
    go_wp2_with fail
    refine (tNew_c 3 (by decide) (by decide) _).mono ?_; rintro e w1 ⟨rfl, hT1, hb1⟩
    have HT1 := hidd hT1
    clear hT1
    go_wp2_with fail
    refine (HK1.out _ _ _ HT1.out).mono ?_; rintro e w2 ⟨rfl, hT2, hb2⟩
    have HT2 := hidd hT2
    have hB2 := hb1.trans (hb2.lo hb1.size fun k hk => hk)
    clear hT2 hb2
    go_wp2_with fail
    refine (HK2.out _ _ _ HT2.out).mono ?_; rintro e w3 ⟨rfl, hT3, hb3⟩
    have HT3 := hidd hT3
    have hB3 := hB2.trans (hb3.lo hB2.size fun k hk => hk)
    clear hT3 hb3
    go_wp2_with fail
    refine (HK3.out _ _ _ HT3.out).mono ?_; rintro e w4 ⟨rfl, hT4, hb4⟩
    have HT4 := hidd hT4
    have hB4 := hB3.trans (hb4.lo hB3.size fun k hk => hk)
    clear hT4 hb4
    go_wp2_with fail
    refine (HK4.out _ _ _ HT4.out).mono ?_; rintro e w5 ⟨rfl, hT5, hb5⟩
    have HT5 := hidd hT5
    have hB5 := hB4.trans (hb5.lo hB4.size fun k hk => hk)
    clear hT5 hb5
    go_wp2_with fail
    refine (HK5.out _ _ _ HT5.out).mono ?_; rintro e w6 ⟨⟨u6, rfl, ho6⟩, hT6, hb6⟩
    have HT6 := hidd hT6
    have hB6 := hB5.trans (hb6.lo hB5.size fun k hk => hk)
    obtain ⟨A6, c6, rfl⟩ := own_shape ho6
    clear hT6 hb6 ho6
    simp only [List.length_nil] at *
    go_wp2_with fail
    refine (HK6.out _ _ _ HT6.out).mono ?_; rintro e w7 ⟨⟨u7, rfl, ho7⟩, hT7, hb7⟩
    have HT7 := hidd hT7
    have hB7 := hB6.trans (hb7.lo hB6.size fun k hk => hk)
    obtain ⟨A7, c7, rfl⟩ := own_shape ho7
    have HR7 := hidd (Own.rd ho7 rfl)
    clear hT7 hb7 ho7
    simp only [List.length_singleton] at *
    go_wp2_with fail
    refine (alive18_c _).mono ?_; rintro e w8 ⟨rfl, hb8⟩
    have HT8 := hidd (HT7.out.next hb8 (Nat.le_refl _))
    have HR8 := hidd (HR7.out.below hb8 (Nat.le_refl _))
    have hB8 := hB7.trans (hb8.mono hB7.size)
    obtain ⟨b8, o8, hAe, hblt, hcc⟩ := HR8.out.cellsW (by simp)
    subst hAe
    obtain ⟨f0, f1, f2, f3, f4⟩ := hcc 0 (by simp)
    simp only [Nat.zero_mul, Nat.add_zero, List.getElem_cons_zero] at f0 f1 f2 f3 f4
    clear hcc HR7
    go_wp2_with fail
    refine (HM1.out _ _ _ HT8.out).mono ?_; rintro e w9 ⟨rfl, hb9⟩
    go_wp2_with fail
    go_ret
    exact ⟨rfl, hB8.trans (hb9.mono hB8.size)⟩
  all_goals
    go_enter Try.func18, Try.ntmps18
    go_wp2_with fail
    refine (alive18_c _).mono ?_; rintro e w1 ⟨rfl, hb1⟩
    go_wp2_with fail
    go_ret
    exact ⟨rfl, hb1⟩
end Go.Proofs.Ytiokkoeciijkoaa
