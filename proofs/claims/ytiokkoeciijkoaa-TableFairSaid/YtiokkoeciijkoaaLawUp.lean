/- The walk of TableUpgrades. -/
import Derived.Test.YtiokkoeciijkoaaTabL
namespace Go.Proofs.Ytiokkoeciijkoaa
set_option linter.unusedVariables false
set_option linter.unusedSimpArgs false
open Go.RowKit

theorem BelF.bk {F : Nat → Prop} {B p : Nat} {w w' : World} {cs : Array Value} {t : TypeId} (h : BelF F B w w') (hb : Bk w p cs t) (hB : p < B) (hn : ¬ F p) : Bk w' p cs t := (h.block p hB hn).trans hb
theorem Tab.avoidB {F : Nat → Prop} {W W' : World} {t p : Nat} {T : Tb} (h : Tab F W t T) (hb : Below W.heap.size W W') (h1 : W.heap.size ≤ p) (h2 : p < W'.heap.size) : Tab (fun k => F k ∧ k ≠ p) W' t T := by
  obtain ⟨ps, v, g1, g2⟩ := h.ex
  exact ⟨⟨ps, v, g1.next hb (Nat.le_refl _), fun k hk => ⟨g2 k hk, by have := g1.fp_lt k hk; omega⟩⟩, fun k hk => ⟨h.up k (Nat.le_trans hb.size hk), by omega⟩, h.ok⟩
theorem upg_ways (a b c : Int) : (decide (a < 0) = true) ∨ (decide (a < 0) = false ∧ decide (b ≤ a) = true) ∨ (decide (a < 0) = false ∧ decide (b ≤ a) = false ∧ decide (4096 < b) = true) ∨ (decide (a < 0) = false ∧ decide (b ≤ a) = false ∧ decide (4096 < b) = false ∧ decide (c < a) = true) ∨ (decide (a < 0) = false ∧ decide (b ≤ a) = false ∧ decide (4096 < b) = false ∧ decide (c < a) = false ∧ decide (b ≤ c) = true) ∨ (decide (a < 0) = false ∧ decide (b ≤ a) = false ∧ decide (4096 < b) = false ∧ decide (c < a) = false ∧ decide (b ≤ c) = false ∧ (0 ≤ a ∧ a < b ∧ b ≤ 4096) ∧ a ≤ c ∧ c < b) := by
  simp only [decide_eq_true_eq, decide_eq_false_iff_not]
  omega

set_option maxHeartbeats 8000000 in
set_option maxRecDepth 100000 in
theorem TableUpgrades_c (y : Sp) (c : Int) (w : World) (hy : I64 y.1 ∧ I64 y.2) (hc : I64 c) : Calls Try.prog 17 #[.agg (encS y).toArray, .int .i64 c] w fun e w' => e = .returned (.bool true) ∧ Below w.heap.size w w' := by
  obtain ⟨a, b⟩ := y
  show Calls Try.prog 17 #[spV a b, .int .i64 c] w _
  have HB0 := hidd (below_alloc w (.cells #[.int .i64 a, .int .i64 b] 27))
  have HXB := hidd (Bk.new w #[.int .i64 a, .int .i64 b] 27 rfl)
  clear hy hc
  rcases upg_ways a b c with d1 | ⟨d1, d2⟩ | ⟨d1, d2, d3⟩ | ⟨d1, d2, d3, d4⟩ | ⟨d1, d2, d3, d4, d5⟩ | ⟨d1, d2, d3, d4, d5, hr, ha⟩
  case inr.inr.inr.inr.inr =>
    obtain ⟨T1, T2, e1, e2, ok1, ok2, n2, w2, l2, hs2⟩ := upgrades_1 hr
    have e3 := upgrades_2 hr ha ok2 n2 w2 l2 hs2
    have ok3 := ok2.ask 1 c (c + 1) 2
    rw [e3] at ok3
    have e4 := upgrades_3 hr ha ok3 n2 rfl hs2
    obtain ⟨e5, e6, e7, e8⟩ := upgrades_4 hr ha ok3 n2 rfl hs2
    have HK1 : Hid (∀ W t F, Tab F W t T3 → Calls Try.prog 71 #[ptr t, .int .i64 1, lkV a b 1] W fun e w' => e = .returned (.tuple #[.int .i64 0, .bool true, .int .i64 0]) ∧ Tab F w' t T1 ∧ BelF F W.heap.size W w') := fun W t F h => by
      have := tAsk_c t T3 1 a b 1 W h (by decide)
      rw [e1] at this; exact this
    have hl1 : T1.last = 0 := by
      have h1 : (T1.ask 2 a b 1).tb = T2 := by rw [e2]
      have h2 : T1.last ≤ (T1.ask 2 a b 1).tb.last := by
        unfold Tb.ask; split <;> try exact Int.le_refl _
        split <;> try exact Int.le_refl _
        split <;> try exact Int.le_refl _
        split <;> try exact Int.le_refl _
        split <;> try exact Int.le_refl _
        show T1.last ≤ T1.last + 1; omega
      rw [h1, l2] at h2
      have := ok1.last; omega
    have HK2 : Hid (∀ W t F, Tab F W t T1 → Calls Try.prog 71 #[ptr t, .int .i64 2, lkV a b 1] W fun e w' => e = .returned (.tuple #[.int .i64 0, .bool true, .int .i64 0]) ∧ Tab F w' t T2 ∧ BelF F W.heap.size W w') := fun W t F h => by
      have := tAsk_c t T1 2 a b 1 W h (by rw [hl1]; decide)
      rw [e2] at this; exact this
    generalize hT4 : ({ T2 with waits := [(1, 1, c, c + 1, 2)], last := 1 } : Tb) = T4 at *
    have hl4 : T4.last = 1 := by rw [← hT4]
    have HK3 : Hid (∀ W t F, Tab F W t T2 → Calls Try.prog 71 #[ptr t, .int .i64 1, lkV c (c + 1) 2] W fun e w' => e = .returned (.tuple #[.int .i64 1, .bool false, .int .i64 0]) ∧ Tab F w' t T4 ∧ BelF F W.heap.size W w') := fun W t F h => by
      have := tAsk_c t T2 1 c (c + 1) 2 W h (by rw [l2]; decide)
      rw [e3] at this; exact this
    have HK4 : Hid (∀ W t F, Tab F W t T4 → Calls Try.prog 71 #[ptr t, .int .i64 2, lkV c (c + 1) 2] W fun e w' => e = .returned (.tuple #[.int .i64 0, .bool false, .int .i64 33]) ∧ Tab F w' t T4 ∧ BelF F W.heap.size W w') := fun W t F h => by
      have := tAsk_c t T4 2 c (c + 1) 2 W h (by rw [hl4]; decide)
      rw [e4] at this; exact this
    have HKL : Hid (∀ W t F, Tab F W t T4 → Calls Try.prog 72 #[ptr t, .int .i64 2, spV a b, .int .i64 0] W fun e w' => (∃ u, e = .returned (.tuple #[u, .int .i64 0]) ∧ Own 5 encW 104 w' W.heap.size u [((1, 1, c, c + 1, 2) : Wt)]) ∧ Tab F w' t (T4.release 2 a b 0) ∧ BelF F W.heap.size W w') := fun W t F h => by
      have := tRelease_c t T4 2 a b 0 W h
      rw [e6, show relE T4.n 2 a b 0 = 0 from if_pos e5] at this; exact this
    have HM1 : Hid (∀ W t F, Tab F W t (T4.release 2 a b 0) → Calls Try.prog 73 #[ptr t, .int .i64 1, .int .i64 c] W fun e w' => e = .returned (.int .i64 2) ∧ Below W.heap.size W w') := fun W t F h => by
      have := tMode_c t (T4.release 2 a b 0) 1 c W h
      rw [e7] at this; exact this
    have HM2 : Hid (∀ W t F, Tab F W t (T4.release 2 a b 0) → Calls Try.prog 73 #[ptr t, .int .i64 2, .int .i64 c] W fun e w' => e = .returned (.int .i64 0) ∧ Below W.heap.size W w') := fun W t F h => by
      have := tMode_c t (T4.release 2 a b 0) 2 c W h
      rw [e8] at this; exact this
    generalize T4.release 2 a b 0 = T5 at *
    clear e1 e2 e3 e4 e5 e6 e7 e8 ok1 ok2 ok3 n2 w2 l2 hs2 hl1 hl4 hT4
    go_enter Try.func17, Try.ntmps17
    go_wp2_with fail
    refine (tNew_c 3 (by decide) (by decide) _).mono ?_; rintro e w1 ⟨rfl, hT1, hb1⟩
    have hx1 := (HXB.out.next hb1 (Nat.le_refl _)).bx2
    have hB1 := HB0.out.trans (hb1.mono (by simp))
    have hw1 : w.heap.size < w1.heap.size := by have := hb1.size; simp at this; omega
    obtain ⟨t, ht⟩ : ∃ t : Nat, t = (w.alloc (.cells #[.int .i64 a, .int .i64 b] 27)).heap.size := ⟨_, rfl⟩
    rw [← ht] at hT1
    simp only [← ht]
    have htw : w.heap.size < t := by rw [ht]; simp
    clear ht
    have HA1 := hidd (below_alloc w1 (.cells #[.int .i64 c, .int .i64 (c + 1)] 27))
    have HOB := hidd (Bk.new w1 #[.int .i64 c, .int .i64 (c + 1)] 27 rfl)
    have HTA := hidd (hT1.avoidB HA1.out (Nat.le_refl _) (by simp))
    have HSB := hidd ((HXB.out.next hb1 (Nat.le_refl _)).next HA1.out (Nat.le_refl _))
    have HBA := hidd (hB1.trans (HA1.out.mono hB1.size))
    have hsb := HSB.out.bx2
    clear hT1
    obtain ⟨F, hF⟩ : ∃ F : Nat → Prop, F = fun k => t ≤ k ∧ k ≠ w1.heap.size := ⟨_, rfl⟩
    have HF1 : Hid (¬ F w.heap.size) := by rw [hF]; rintro ⟨h, _⟩; omega
    have HF2 : Hid (¬ F w1.heap.size) := by rw [hF]; rintro ⟨_, h⟩; exact h rfl
    have HF3 : Hid (∀ k, F k → w.heap.size ≤ k) := by rw [hF]; rintro k ⟨h, _⟩; omega
    rw [← hF] at HTA
    clear hF
    go_wp2_with fail
    refine (HK1.out _ _ _ HTA.out).mono ?_; rintro e w2 ⟨rfl, hT2, hb2⟩
    have HT2 := hidd hT2
    have HSB2 := hidd (hb2.bk HSB.out HSB.out.lt HF1.out)
    have HOB2 := hidd (hb2.bk HOB.out HOB.out.lt HF2.out)
    have hB2 := HBA.out.trans (hb2.lo HBA.out.size HF3.out)
    have hsb2 := HSB2.out.bx2
    clear hT2 hb2 hsb
    go_wp2_with fail
    refine (HK2.out _ _ _ HT2.out).mono ?_; rintro e w3 ⟨rfl, hT3, hb3⟩
    have HT3 := hidd hT3
    have HSB3 := hidd (hb3.bk HSB2.out HSB2.out.lt HF1.out)
    have HOB3 := hidd (hb3.bk HOB2.out HOB2.out.lt HF2.out)
    have hB3 := hB2.trans (hb3.lo hB2.size HF3.out)
    have hsb3 := HSB3.out.bx2
    have hob3 := HOB3.out.bx2
    clear hT3 hb3 hsb2
    go_wp2_with fail
    refine (HK3.out _ _ _ HT3.out).mono ?_; rintro e w4 ⟨rfl, hT4, hb4⟩
    have HT4 := hidd hT4
    have HSB4 := hidd (hb4.bk HSB3.out HSB3.out.lt HF1.out)
    have HOB4 := hidd (hb4.bk HOB3.out HOB3.out.lt HF2.out)
    have hB4 := hB3.trans (hb4.lo hB3.size HF3.out)
    have hsb4 := HSB4.out.bx2
    have hob4 := HOB4.out.bx2
    clear hT4 hb4 hsb3 hob3
    go_wp2_with fail
    refine (HK4.out _ _ _ HT4.out).mono ?_; rintro e w5 ⟨rfl, hT5, hb5⟩
    have HT5 := hidd hT5
    have HSB5 := hidd (hb5.bk HSB4.out HSB4.out.lt HF1.out)
    have hB5 := hB4.trans (hb5.lo hB4.size HF3.out)
    have hsb5 := HSB5.out.bx2
    clear hT5 hb5 hsb4 hob4
    go_wp2_with fail
    refine (HKL.out _ _ _ HT5.out).mono ?_; rintro e w6 ⟨⟨u6, rfl, ho6⟩, hT6, hb6⟩
    have hB6 := hB5.trans (hb6.lo hB5.size HF3.out)
    obtain ⟨A6, c6, rfl⟩ := own_shape ho6
    have HR6 := hidd (Own.rd ho6 rfl)
    have HT6 := hidd hT6
    clear ho6 hT6 hb6 hsb5
    simp only [List.length_singleton] at *
    go_wp2_with fail
    refine (alive18_c _).mono ?_; rintro e w7 ⟨rfl, hb7⟩
    have HT7 := hidd (HT6.out.next hb7 (Nat.le_refl _))
    have HR7 := hidd (HR6.out.below hb7 (Nat.le_refl _))
    have hB7 := hB6.trans (hb7.mono hB6.size)
    obtain ⟨b7, o7, hAe, hblt, hcc⟩ := HR7.out.cellsW (by simp)
    subst hAe
    obtain ⟨f0, f1, f2, f3, f4⟩ := hcc 0 (by simp)
    simp only [Nat.zero_mul, Nat.add_zero, List.getElem_cons_zero] at f0 f1 f2 f3 f4
    clear hcc HR6
    go_wp2_with fail
    refine (HM1.out _ _ _ HT7.out).mono ?_; rintro e w8 ⟨rfl, hb8⟩
    have HM := hidd (HM2.out _ _ _ (HT7.out.next hb8 (Nat.le_refl _)))
    have hB8 := hB7.trans (hb8.mono hB7.size)
    go_wp2_with fail
    refine HM.out.mono ?_; rintro e w9 ⟨rfl, hb9⟩
    go_wp2_with fail
    go_ret
    exact ⟨rfl, hB8.trans (hb9.mono hB8.size)⟩
  all_goals
    go_enter Try.func17, Try.ntmps17
    go_wp2_with fail
    refine (alive18_c _).mono ?_; rintro e w1 ⟨rfl, hb1⟩
    go_wp2_with fail
    go_ret
    exact ⟨rfl, HB0.out.trans (hb1.mono (by simp))⟩
end Go.Proofs.Ytiokkoeciijkoaa
