/- SpanBlocks, walked. -/
import Derived.Test.YtiokkoeciijkoaaLawSpan
import Derived.Test.YtiokkoeciijkoaaSpanB
namespace Go.Proofs.Ytiokkoeciijkoaa
set_option linter.unusedVariables false
set_option linter.unusedSimpArgs false
open Go.RowKit

theorem Rd.cells1 {w : World} {A : Option Addr} {xs : List Int} (h : Rd 1 encI w A xs) (hx : xs ≠ []) : ∃ b o, A = some ⟨b, o, none⟩ ∧ b < w.heap.size ∧
    ∀ (i : Nat) (hi : i < xs.length), w.cell? ⟨b, o + i, none⟩ = some (.int .i64 xs[i]) := by
  rcases h with h | ⟨b, o, hA, hb, hc⟩
  · exact absurd h hx
  · refine ⟨b, o, hA, hb, fun i hi => ?_⟩
    have := flat_at encI 1 encI_len xs i xs[i] (List.getElem?_eq_getElem hi) 0 (by decide)
    exact hc i _ (by simpa [encI] using this)

/-- the count that SpanBlocks makes: past 'most' it stops -/
def nn (most t : Int) : Int := if t ≤ most then t else most + 1

set_option maxHeartbeats 4000000 in
set_option maxRecDepth 100000 in
theorem SpanBlocks_c (A : Option Addr) (n c : Nat) (xs : List Sp) (most : Int) (w : World) (h : Rd 2 encS w A xs) (hn : n = xs.length) (hI : ∀ x ∈ xs, I64 x.1 ∧ I64 x.2) (hM : I64 most) :
    Calls Try.prog 5 #[.slice A n c, .int .i64 most] w fun e w' => e = .returned (.bool true) ∧ Below w.heap.size w w' := by
  subst hn
  by_cases hl : 30 < xs.length
  · go_enter Try.func5, Try.ntmps5
    go_wp2_with fail
    refine (alive6_c _).mono ?_; rintro e w1 ⟨rfl, hb⟩
    go_wp2_with fail
    go_ret
    exact ⟨rfl, hb⟩
  by_cases hm0 : most < 0
  · go_enter Try.func5, Try.ntmps5
    go_wp2_with fail
    refine (alive6_c _).mono ?_; rintro e w1 ⟨rfl, hb⟩
    go_wp2_with fail
    go_ret
    exact ⟨rfl, hb⟩
  by_cases hm1 : 2000 < most
  · go_enter Try.func5, Try.ntmps5
    go_wp2_with fail
    refine (alive6_c _).mono ?_; rintro e w1 ⟨rfl, hb⟩
    go_wp2_with fail
    go_ret
    exact ⟨rfl, hb⟩
  have hN := hidd (sNorm_c A _ c xs w h rfl (by omega))
  have hR := hidd h
  have HI := hidd hI
  clear h hI hM
  go_enter Try.func5, Try.ntmps5
  go_wp2_with fail
  refine hN.out.mono ?_; rintro e w1 ⟨⟨v1, l, rfl, ho, hno⟩, hb1⟩
  obtain ⟨A1, c1, rfl⟩ := own_shape ho
  have hR1 := hidd (Own.rd ho rfl)
  have hNO := hidd hno
  have hL := hidd (hno.i64 HI.out)
  have hBl := hidd (sBlocks_c most A _ c xs w1 (hR.out.below hb1 (Nat.le_refl _)) rfl (by omega) HI.out (by omega))
  clear ho hno hN
  go_wp2_with fail
  refine hBl.out.mono ?_; rintro e w2 ⟨⟨v2, l2, hno2, rfl, ho2⟩, hb2⟩
  obtain rfl : l2 = l := Can.uniq hno2.can hNO.out.can fun m => (hno2.blocks m).trans (hNO.out.blocks m).symm
  obtain ⟨A2, c2, rfl⟩ := own_shape ho2
  have hR2 := hidd (Own.rd ho2 rfl)
  have hR1' := hidd (hR1.out.below hb2 (Nat.le_refl _))
  have hlen : l2.length ≤ 30 := by have := hno2.len; omega
  clear ho2 hno2 hBl hR1
  have hB2 := hb1.trans (hb2.mono hb1.size)
  go_wp2_with fail
  go_loopw [8, 9] (fun v i wr => ∃ k : Nat, k ≤ l2.length ∧ i = .int .i64 k ∧ v = .int .i64 (nn most (tot (l2.take k))) ∧ Below w2.heap.size w2 wr) (fun _ i _ => l2.length - (intOf i).toNat)
  case atStart => exact ⟨0, by omega, rfl, by rw [List.take_zero]; unfold nn tot; rw [if_pos (by omega)], Below.refl _ _⟩
  case round =>
    obtain ⟨k, hk, rfl, rfl, hbr⟩ := hrel
    by_cases hgo : k < l2.length ∧ tot (l2.take k) ≤ most
    · obtain ⟨hlt, hle⟩ := hgo
      have hne : l2 ≠ [] := by intro e; rw [e] at hlt; simp at hlt
      obtain ⟨b, o, rfl, hblt, hc⟩ := hR1'.out.cells2 hne
      obtain ⟨g0, g1⟩ := hc k hlt
      rw [← hbr.cell (p := ⟨_, _, none⟩) hblt] at g0 g1
      have hbw : b < wr.heap.size := Nat.lt_of_lt_of_le hblt hbr.size
      clear hc
      have hLk := hidd (hL.out l2[k] (List.getElem_mem hlt))
      have hT1 := tot_take hlt
      have hT3 := tot_nonneg (l2.take k)
      have hT4 := lenS_nonneg l2[k].1 l2[k].2
      have hnn : nn most (tot (l2.take k)) = tot (l2.take k) := by unfold nn; rw [if_pos hle]
      have hnx : Hid (nn most (tot (l2.take (k + 1))) = nn most (tot (l2.take k) + lenS l2[k].1 l2[k].2)) := by show _ = _; rw [hT1]
      rw [hnn]
      generalize tot (l2.take k) = t at *
      generalize l2[k] = y at *
      obtain ⟨y0, y1⟩ := y
      simp only [] at *
      have K := hidd (@sLen_c y0 y1)
      generalize lenS y0 y1 = d at *
      clear hnn hT1
      by_cases hgt : most - t < d
      all_goals
        go_wp2_with fail
        refine (K.out _ hLk.out.1 hLk.out.2).mono ?_; rintro e w3 ⟨rfl, hb3⟩
        have g2 := (hb3.cell (p := ⟨_, _, none⟩) hbw).trans g0
        have g3 := (hb3.cell (p := ⟨_, _, none⟩) hbw).trans g1
        have hbw3 : b < w3.heap.size := Nat.lt_of_lt_of_le hbw hb3.size
        go_wp2_with fail
        try
          refine (K.out _ hLk.out.1 hLk.out.2).mono ?_; rintro e w4 ⟨rfl, hb4⟩
          go_wp2_with fail
        go_roundw
        case rel => exact ⟨k + 1, by omega, by go_num, by rw [hnx.out]; unfold nn; first | rw [if_neg (by omega)] | rw [if_pos (by omega)], by first | exact hbr.trans (hb3.mono hbr.size) | exact hbr.trans ((hb3.trans (hb4.mono hb3.size)).mono hbr.size)⟩
        case measure => simp [intOf]; omega
    · have hv : nn most (tot (l2.take k)) = nn most (tot l2) := by
        by_cases hkl : k < l2.length
        · have h1 : ¬ tot (l2.take k) ≤ most := fun h => hgo ⟨hkl, h⟩
          have h2 := tot_take_le l2 k
          unfold nn
          rw [if_neg h1, if_neg (by omega)]
        · rw [List.take_of_length_le (by omega)]
      have hx : k < l2.length → most < nn most (tot l2) := by
        intro hkl
        have h1 : ¬ tot (l2.take k) ≤ most := fun h => hgo ⟨hkl, h⟩
        rw [← hv]; unfold nn; rw [if_neg h1]; omega
      have hni : nn most (tot l2) ≤ 2001 ∧ 0 ≤ nn most (tot l2) := by have := tot_nonneg l2; unfold nn; split <;> omega
      have hnm : (nn most (tot l2) ≤ most ↔ tot l2 ≤ most) ∧ (tot l2 ≤ most → nn most (tot l2) = tot l2) := by unfold nn; split <;> constructor <;> omega
      obtain ⟨hni1, hni2⟩ := hni
      rw [hv]
      have HB : Hid ((blkOut most l2).Pairwise (· < ·)) := by
        show List.Pairwise _ _
        unfold blkOut; split
        · exact blocksOf_rise hNO.out.can
        · exact List.Pairwise.nil
      have hbl : (blkOut most l2).length ≤ 2000 := by
        unfold blkOut; split
        · have := blocksOf_length hNO.out.can; omega
        · simp
      have HL : Hid ((tot l2 ≤ most ∧ nn most (tot l2) = ((blkOut most l2).length : Int) ∧ nn most (tot l2) ≤ most) ∨ (¬ tot l2 ≤ most ∧ most < nn most (tot l2) ∧ (blkOut most l2).length = 0)) := by
        show _ ∨ _
        by_cases ht : tot l2 ≤ most
        · left; refine ⟨ht, ?_, hnm.1.2 ht⟩
          rw [hnm.2 ht]; unfold blkOut; rw [if_pos ht]; exact (blocksOf_length hNO.out.can).symm
        · right; refine ⟨ht, ?_, ?_⟩
          · have := hnm.1; omega
          · unfold blkOut; rw [if_neg ht]; rfl
      clear hv hgo hnm
      generalize blkOut most l2 = bl at *
      generalize nn most (tot l2) = N at *
      rcases Nat.lt_or_ge k l2.length with hkl | hkl
      all_goals
        first
          | have hx1 := hx hkl
          | obtain rfl : k = l2.length := by omega
        clear hx
        go_wp2_with fail
        obtain ⟨wo, rfl⟩ : ∃ wo : World, wo = wr := ⟨_, rfl⟩
        go_loopw [10] (fun i wr => ∃ j : Nat, i = .int .i64 ((j : Int) + 1) ∧ j ≤ bl.length ∧ Below wo.heap.size wo wr) (fun i _ => bl.length - (intOf i).toNat)
        case atStart => exact ⟨0, rfl, by omega, Below.refl _ _⟩
        case round =>
          obtain ⟨j, rfl, hj, hbs⟩ := hrel
          by_cases hlt : j + 1 < bl.length
          · have hne : bl ≠ [] := by intro e; rw [e] at hlt; simp at hlt
            obtain ⟨b, o, rfl, hblt, hc⟩ := hR2.out.cells1 hne
            have g0 := hc (j + 1) hlt
            have g1 := hc j (by omega)
            rw [← hbr.cell (p := ⟨_, _, none⟩) hblt] at g0 g1
            have hbo : b < wo.heap.size := Nat.lt_of_lt_of_le hblt hbr.size
            rw [← hbs.cell (p := ⟨_, _, none⟩) hbo] at g0 g1
            clear hc
            have hsep : bl[j] < bl[j + 1] := List.pairwise_iff_getElem.1 HB.out j (j + 1) (by omega) hlt (by omega)
            have hdc : decide (bl[j + 1] ≤ bl[j]) = false := by simp; omega
            go_wp2_with fail
            go_quiet (fail)
            go_wp2_with fail
            go_roundw
            case rel => exact ⟨j + 1, by go_num, by omega, hbs.trans (below_drewN (Below.refl _ _) _)⟩
            case measure => simp [intOf]; omega
          · have hB4 := hB2.trans ((hbr.trans (hbs.mono hbr.size)).mono hB2.size)
            rcases HL.out with ⟨ht, hN, hz⟩ | ⟨ht, hN, hz⟩
            all_goals first
              | (exfalso; omega)
              | skip
            all_goals
              go_wp2_with fail
              refine (alive6_c _).mono ?_; rintro e w5 ⟨rfl, hb5⟩
              go_wp2_with fail
              go_ret
              exact ⟨by simp, hB4.trans (hb5.mono hB4.size)⟩
end Go.Proofs.Ytiokkoeciijkoaa
