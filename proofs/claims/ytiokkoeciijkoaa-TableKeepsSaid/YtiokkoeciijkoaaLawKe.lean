/- The walk of TableKeeps. -/
import Derived.Test.YtiokkoeciijkoaaLawCl
import Derived.Test.YtiokkoeciijkoaaLawUp
namespace Go.Proofs.Ytiokkoeciijkoaa
set_option linter.unusedVariables false
set_option linter.unusedSimpArgs false
open Go.RowKit

theorem release_last (T : Tb) (a b c d : Int) : (T.release a b c d).last = T.last := by unfold Tb.release; split <;> rfl
theorem ke_ways (l : Nat) (a b k : Int) : (decide ((20 : Int) < l) = true) ∨ (decide ((20 : Int) < l) = false ∧ decide (a < 0) = true) ∨ (decide ((20 : Int) < l) = false ∧ decide (a < 0) = false ∧ decide (b ≤ a) = true) ∨ (decide ((20 : Int) < l) = false ∧ decide (a < 0) = false ∧ decide (b ≤ a) = false ∧ decide (k < 0) = true) ∨ (decide ((20 : Int) < l) = false ∧ decide (a < 0) = false ∧ decide (b ≤ a) = false ∧ decide (k < 0) = false ∧ decide (1 < k) = true) ∨ (decide ((20 : Int) < l) = false ∧ decide (a < 0) = false ∧ decide (b ≤ a) = false ∧ decide (k < 0) = false ∧ decide (1 < k) = false ∧ l ≤ 20 ∧ (0 ≤ a ∧ a < b) ∧ (k = 0 ∨ k = 1)) := by
  simp only [decide_eq_true_eq, decide_eq_false_iff_not]
  omega
theorem want_ways (a b x u k : Int) : (decide (a ≤ x) = false ∧ (if a ≤ x ∧ x < b then min u k else u) = u) ∨ (decide (a ≤ x) = true ∧ decide (x < b) = false ∧ (if a ≤ x ∧ x < b then min u k else u) = u) ∨ (decide (a ≤ x) = true ∧ decide (x < b) = true ∧ (if a ≤ x ∧ x < b then min u k else u) = min u k) := by
  by_cases h1 : a ≤ x
  · by_cases h2 : x < b
    · exact .inr (.inr ⟨decide_eq_true h1, decide_eq_true h2, if_pos ⟨h1, h2⟩⟩)
    · exact .inr (.inl ⟨decide_eq_true h1, decide_eq_false h2, if_neg fun e => h2 e.2⟩)
  · exact .inl ⟨decide_eq_false h1, if_neg fun e => h1 e.1⟩

set_option maxHeartbeats 8000000 in
set_option maxRecDepth 100000 in
theorem TableKeeps_c (A : Option Addr) (n c : Nat) (xs : List (Pt Int)) (y : Sp) (kp x : Int) (w : World) (hr : Rd 3 encP w A xs) (hn : n = xs.length) (hI : ∀ x ∈ xs, I64 x.1 ∧ I64 x.2.1 ∧ I64 x.2.2) (hy : I64 y.1 ∧ I64 y.2) (hk : I64 kp) (hx : I64 x) :
    Calls Try.prog 20 #[.slice A n c, .agg (encS y).toArray, .int .i64 kp, .int .i64 x] w fun e w' => e = .returned (.bool true) ∧ Below w.heap.size w w' := by
  subst hn
  obtain ⟨a, b⟩ := y
  show Calls Try.prog 20 #[.slice A xs.length c, spV a b, .int .i64 kp, .int .i64 x] w _
  have HB0 := hidd (below_alloc w (.cells #[.int .i64 a, .int .i64 b] 27))
  have HXB := hidd (Bk.new w #[.int .i64 a, .int .i64 b] 27 rfl)
  have HR := hidd hr
  clear hI hy hk hx hr
  rcases ke_ways xs.length a b kp with d1 | ⟨d1, d2⟩ | ⟨d1, d2, d3⟩ | ⟨d1, d2, d3, d4⟩ | ⟨d1, d2, d3, d4, d5⟩ | ⟨d1, d2, d3, d4, d5, hl, hab, hkk⟩
  case inr.inr.inr.inr.inr =>
    have HAB := hidd hab
    have HKK := hidd hkk
    clear hab hkk
    go_enter Try.func20, Try.ntmps20
    go_wp2_with fail
    refine (tNew_c 2 (by decide) (by decide) _).mono ?_; rintro e w1 ⟨rfl, hT1, hb1⟩
    have HX1 := hidd (HXB.out.next hb1 (Nat.le_refl _))
    have hB1 := HB0.out.trans (hb1.mono (by simp))
    obtain ⟨t, ht⟩ : ∃ t : Nat, t = (w.alloc (.cells #[.int .i64 a, .int .i64 b] 27)).heap.size := ⟨_, rfl⟩
    rw [← ht] at hT1
    simp only [← ht]
    have htw : w.heap.size < t := by rw [ht]; simp
    clear ht
    obtain ⟨F, hF⟩ : ∃ F : Nat → Prop, F = fun k => t ≤ k := ⟨_, rfl⟩
    have HF1 : Hid (¬ F w.heap.size) := by rw [hF]; exact Nat.not_le.2 htw
    have HF3 : Hid (∀ k, F k → w.heap.size ≤ k) := by rw [hF]; exact fun k h => Nat.le_trans (Nat.le_of_lt htw) h
    rw [← hF] at hT1
    have HT1 := hidd hT1
    clear hT1 hF
    go_wp2_with fail
    go_loopw [10] (fun o wr => ∃ (k : Nat) (T : Tb), k ≤ xs.length ∧ o = .int .i64 k ∧ Hid (Alone T) ∧ T.last ≤ k ∧ Hid (Tab F wr t T) ∧ Hid (Bk wr w.heap.size #[.int .i64 a, .int .i64 b] 27) ∧ Below w.heap.size w wr) (fun o _ => xs.length - (intOf o).toNat)
    case atStart => exact ⟨0, _, by omega, rfl, Alone.new, Int.le_refl _, HT1.out, HX1.out, hB1⟩
    case round =>
      obtain ⟨k, T, hk, rfl, hal, hla, hT, hsb, hbr⟩ := hrel
      by_cases hlt : k < xs.length
      · have hne : xs ≠ [] := by intro e; rw [e] at hlt; simp at hlt
        obtain ⟨b2, o2, rfl, hblt, hc⟩ := (HR.out.below hbr (Nat.le_refl _)).cells3 hne
        obtain ⟨g0, g1, g2⟩ := hc k hlt
        clear hc
        generalize xs[k] = y at *
        obtain ⟨y0, y1, yv⟩ := y
        simp only [] at g0 g1 g2
        have HK := hidd (tAsk_c t T 1 y0 y1 yv wr hT.out (by omega))
        have HAL := hidd (hal.out.ask y0 y1 yv)
        have hl2 := (ask_last (T := T) 1 y0 y1 yv).2
        generalize T.ask 1 y0 y1 yv = R at *
        obtain ⟨ri, rn, re, rt⟩ := R
        simp only [] at HK HAL hl2
        go_wp2_with fail
        refine HK.out.mono ?_; rintro e w3 ⟨rfl, hT3, hb3⟩
        have HT3 := hidd hT3
        have HS3 := hidd (hb3.bk hsb.out hsb.out.lt HF1.out)
        have hB3 := hbr.trans (hb3.lo hbr.size HF3.out)
        clear hT3 hb3
        go_wp2_with fail
        go_roundw
        case rel => exact ⟨k + 1, rt, by omega, by go_num, HAL.out, by omega, HT3.out, HS3.out, hB3⟩
        case measure => simp [intOf]; omega
      · obtain rfl : k = xs.length := by omega
        obtain ⟨hq1, hq2, hq3, hq4⟩ := keeps_release hal.out HAB.out HKK.out x
        have HM0 := hidd (tMode_c t T 1 x wr hT.out)
        generalize T.mode 1 x = u at *
        obtain ⟨w2, rfl⟩ : ∃ w2 : World, w2 = wr := ⟨_, rfl⟩
        have HRL : Hid (∀ W, Tab F W t T → Calls Try.prog 72 #[ptr t, .int .i64 1, spV a b, .int .i64 kp] W fun e w' => (∃ u, e = .returned (.tuple #[u, .int .i64 0]) ∧ Own 5 encW 104 w' W.heap.size u ([] : List Wt)) ∧ Tab F w' t (T.release 1 a b kp) ∧ BelF F W.heap.size W w') := fun W h => by
          have := tRelease_c t T 1 a b kp W h
          rw [hq3, show relE T.n 1 a b kp = 0 from if_pos hq1] at this; exact this
        have hl5 := release_last T 1 a b kp
        generalize T.release 1 a b kp = T5 at *
        have HAL5 := hidd hq2
        have HL5 : Hid (T5.last ≤ 1000000000) := by show _ ≤ _; rw [hl5]; omega
        clear hl5
        go_wp2_with fail
        refine HM0.out.mono ?_; rintro e w3 ⟨rfl, hb3⟩
        have HS3 := hidd (hsb.out.next hb3 (Nat.le_refl _))
        have hs3 := HS3.out.bx2
        have hB3 := hbr.trans (hb3.mono hbr.size)
        go_wp2_with fail
        refine (HRL.out _ (hT.out.next hb3 (Nat.le_refl _))).mono ?_; rintro e w4 ⟨⟨u4, rfl, ho4⟩, hT4, hb4⟩
        have HT4 := hidd hT4
        have HS4 := hidd (hb4.bk HS3.out HS3.out.lt HF1.out)
        have hs4 := HS4.out.bx2
        have hB4 := hB3.trans (hb4.lo hB3.size HF3.out)
        have HM4 := hidd (tMode_c t T5 1 x w4 HT4.out)
        rw [hq4] at HM4
        clear hT4 hb4 ho4 hs3 hq1 hq2 hq3 hq4
        rcases want_ways a b x u kp with ⟨c1, hwt⟩ | ⟨c1, c2, hwt⟩ | ⟨c1, c2, hwt⟩
        all_goals
          rw [hwt] at HM4
          clear hwt
          go_wp2_with fail
          refine HM4.out.mono ?_; rintro e w5 ⟨rfl, hb5⟩
          have HT5 := hidd (HT4.out.next hb5 (Nat.le_refl _))
          have hB5 := hB4.trans (hb5.mono hB4.size)
          have HHO := hidd (tHolds_c t T5 1 w5 HT5.out)
          rw [keeps_holds HAL5.out] at HHO
          have HAG := hidd (fun y hy => keeps_again HAL5.out (x := y) hy)
          have hll := (HAL5.out.ok.held 1).len
          go_wp2_with fail
          refine HHO.out.mono ?_; rintro e w6 ⟨⟨u6, rfl, ho6⟩, hb6⟩
          obtain ⟨A6, c6, rfl⟩ := own_shape ho6
          have HT6 := hidd (HT5.out.avoid hb6 ho6)
          have HR6 := hidd (Own.rd ho6 rfl)
          have hB6 := hB5.trans (hb6.mono hB5.size)
          have HF6 : Hid (∀ k, (F k ∧ (Value.slice A6 (T5.held 1).length c6).ownBlock ≠ some k) → w.heap.size ≤ k) := fun k h => HF3.out k h.1
          have HAV : Hid (∀ b o, A6 = some ⟨b, o, none⟩ → ¬ (F b ∧ (Value.slice A6 (T5.held 1).length c6).ownBlock ≠ some b)) := fun b o e h => h.2 (by rw [e]; rfl)
          have HHE := hidd (keeps_holds HAL5.out)
          have HWS := hidd HAL5.out.ws
          generalize hF6 : (fun k => F k ∧ (Value.slice A6 (T5.held 1).length c6).ownBlock ≠ some k) = F6 at *
          have HF6' : Hid (∀ k, F6 k → w.heap.size ≤ k) := by rw [← hF6]; exact HF6.out
          have HAV' : Hid (∀ b o, A6 = some ⟨b, o, none⟩ → ¬ F6 b) := by rw [← hF6]; exact HAV.out
          generalize T5.held 1 = hl at *
          clear ho6 HF6 HAV hF6 HT5 HT4 HHO
          go_wp2_with fail
          go_loopw [16] (fun o wr => ∃ (k : Nat), k ≤ hl.length ∧ o = .int .i64 k ∧ Hid (Tab F6 wr t T5) ∧ Hid (Rd 3 encP wr A6 hl) ∧ Below w.heap.size w wr) (fun o _ => hl.length - (intOf o).toNat)
          case atStart => exact ⟨0, by omega, rfl, HT6.out, HR6.out, hB6⟩
          case round =>
            obtain ⟨k, hk, rfl, hT, hrd, hbr⟩ := hrel
            by_cases hlt : k < hl.length
            · have hne : hl ≠ [] := by intro e; rw [e] at hlt; simp at hlt
              obtain ⟨b2, o2, hAe, hblt, hc⟩ := hrd.out.cells3 hne
              subst hAe
              obtain ⟨g0, g1, g2⟩ := hc k hlt
              have hag := HAG.out hl[k] (List.getElem_mem hlt)
              clear hc
              generalize hl[k] = y at *
              obtain ⟨y0, y1, yv⟩ := y
              simp only [] at g0 g1 g2 hag
              have HK : Hid (Calls Try.prog 71 #[ptr t, .int .i64 1, lkV y0 y1 yv] wr fun e w' => e = .returned (.tuple #[.int .i64 0, .bool true, .int .i64 0]) ∧ Tab F6 w' t T5 ∧ BelF F6 wr.heap.size wr w') := by
                have := tAsk_c t T5 1 y0 y1 yv wr hT.out HL5.out
                rw [hag] at this; exact this
              clear hag
              go_wp2_with fail
              refine HK.out.mono ?_; rintro e w7 ⟨rfl, hT7, hb7⟩
              have HT7 := hidd hT7
              have HR7 := hidd (hb7.rd hrd.out (Nat.le_refl _) HAV'.out)
              have hB7 := hbr.trans (hb7.lo hbr.size HF6'.out)
              clear hT7 hb7
              go_wp2_with fail
              go_roundw
              case rel => exact ⟨k + 1, by omega, by go_num, HT7.out, HR7.out, hB7⟩
              case measure => simp [intOf]; omega
            · obtain rfl : k = hl.length := by omega
              have HH2 := hidd (tHolds_c t T5 1 wr hT.out)
              rw [HHE.out] at HH2
              go_wp2_with fail
              refine HH2.out.mono ?_; rintro e w8 ⟨⟨u8, rfl, ho8⟩, hb8⟩
              obtain ⟨A8, c8, rfl⟩ := own_shape ho8
              have hB8 := hbr.trans (hb8.mono hbr.size)
              have HT8 := hidd (hT.out.next hb8 (Nat.le_refl _))
              clear ho8
              go_wp2_with fail
              refine (alive18_c _).mono ?_; rintro e w9 ⟨rfl, hb9⟩
              have hB9 := hB8.trans (hb9.mono hB8.size)
              have HW9 := hidd (tWaits_c t T5 w9 (HT8.out.next hb9 (Nat.le_refl _)))
              rw [HWS.out] at HW9
              go_wp2_with fail
              refine HW9.out.mono ?_; rintro e w10 ⟨⟨u10, rfl, ho10⟩, hb10⟩
              obtain ⟨A10, c10, rfl⟩ := own_shape ho10
              clear ho10
              simp only [List.length_nil] at *
              go_wp2_with fail
              go_ret
              exact ⟨rfl, hB9.trans (hb10.mono hB9.size)⟩
  all_goals
    go_enter Try.func20, Try.ntmps20
    go_wp2_with fail
    refine (alive18_c _).mono ?_; rintro e w1 ⟨rfl, hb1⟩
    go_wp2_with fail
    go_ret
    exact ⟨rfl, HB0.out.trans (hb1.mono (by simp))⟩
end Go.Proofs.Ytiokkoeciijkoaa
