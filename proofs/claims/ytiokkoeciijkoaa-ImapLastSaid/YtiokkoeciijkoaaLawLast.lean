/- ImapLast, walked. -/
import Derived.Test.YtiokkoeciijkoaaImsM
namespace Go.Proofs.Ytiokkoeciijkoaa
set_option linter.unusedVariables false
set_option linter.unusedSimpArgs false
open Go.RowKit

theorem four_ways (a b n : Int) : (hasS a b n = true ∧ vld a b = true ∧ decide (a ≤ n) = true ∧ decide (n < b) = true) ∨ (hasS a b n = false ∧ vld a b = false) ∨ (hasS a b n = false ∧ vld a b = true ∧ decide (a ≤ n) = false) ∨ (hasS a b n = false ∧ vld a b = true ∧ decide (a ≤ n) = true ∧ decide (n < b) = false) := by
  unfold hasS
  cases vld a b <;> cases decide (a ≤ n) <;> cases decide (n < b) <;> simp

set_option maxHeartbeats 8000000 in
set_option maxRecDepth 100000 in
theorem ImapLast_c (A : Option Addr) (n c : Nat) (ops : List Op7) (block : Int) (w : World) (h : Rd 5 encO w A ops) (hn : n = ops.length) (hI : ∀ x ∈ ops, okO x) (_ : I64 block) :
    Calls Try.prog 7 #[.slice A n c, .int .i64 block] w fun e w' => e = .returned (.bool true) ∧ Below w.heap.size w w' := by
  subst hn
  have HR := hidd h
  have HI := hidd hI
  clear h hI
  by_cases hl : 60 < ops.length
  · go_enter Try.func7, Try.ntmps7
    go_wp2_with fail
    refine (alive7_c _).mono ?_; rintro e w1 ⟨rfl, hb⟩
    go_wp2_with fail
    go_ret
    exact ⟨rfl, hb⟩
  · go_enter Try.func7, Try.ntmps7
    go_wp2_with fail
    refine (isNew_c w).mono ?_; rintro e w1 ⟨rfl, hn1, hb1⟩
    have hm1 := hn1 (fun k => k = w.heap.size)
    clear hn1
    go_wp2_with fail
    go_loopw [6, 7, 8] (fun wa th i wr => ∃ (k : Nat) (s : ByteArray) (t : Bool), k ≤ ops.length ∧ i = .int .i64 k ∧ wa = .string s ∧ th = .bool t ∧ Hid (getP block (lastF (ops.take k)) = if t then some s else none) ∧ Hid (IMs (fun k => k = w.heap.size) wr w.heap.size (lastF (ops.take k))) ∧ Below w.heap.size w wr) (fun _ _ i _ => ops.length - (intOf i).toNat)
    case atStart => exact ⟨0, _, _, by omega, rfl, rfl, rfl, rfl, hm1, hb1⟩
    case round =>
      obtain ⟨k, s, t, hk, rfl, rfl, rfl, hget, hm, hbr⟩ := hrel
      have HG := hidd (lastF_good (okO_take HI.out k))
      have hgl : (lastF (ops.take k)).length ≤ 120 := by have := HG.out.len; rw [List.length_take] at this; omega
      by_cases hlt : k < ops.length
      · have hne : ops ≠ [] := by intro e; rw [e] at hlt; simp at hlt
        obtain ⟨b, o, rfl, hblt, hc⟩ := HR.out.cells5 hne
        obtain ⟨g0, g1, g2, g3, g4⟩ := hc k hlt
        rw [← hbr.cell (p := ⟨_, _, none⟩) hblt] at g0 g1 g2 g3 g4
        have hbw : b < wr.heap.size := Nat.lt_of_lt_of_le hblt hbr.size
        clear hc
        have HT := hidd (lastF_take hlt)
        generalize lastF (ops.take k) = m at *
        generalize ops[k] = y at *
        obtain ⟨y0, y1, y2, y3, y4⟩ := y
        simp only [] at g0 g1 g2 g3 g4
        have HGS := hidd (getP_set HG.out.can (s0 := y3) (s1 := y4) (n := block) (v := strO (y0, y1, y2, y3, y4)))
        have HGC := hidd (getP_clear HG.out.can (s0 := y3) (s1 := y4) (n := block))
        have HL2 : Hid (y0 = 2 → lastOp m (y0, y1, y2, y3, y4) = clearF y3 y4 m) := fun h => by unfold lastOp; rw [if_pos h]
        have HL1 : Hid (¬ y0 = 2 → lastOp m (y0, y1, y2, y3, y4) = setF y3 y4 (strO (y0, y1, y2, y3, y4)) m) := fun h => by unfold lastOp; rw [if_neg h]
        have kc : ∀ W : World, (convert 46 9 (.slice (some ⟨W.heap.size, 0, none⟩) 1 1)).run Try.prog (W.alloc (.cells #[.int .u8 (y1 % 256)] 5)) = .ok (.string (strO (y0, y1, y2, y3, y4))) (W.alloc (.cells #[.int .u8 (y1 % 256)] 5)) := fun W => conv1 W _
        generalize strO (y0, y1, y2, y3, y4) = str at *
        have hw := four_ways y3 y4 block
        rcases hw with ⟨hh, hv, h1, h2⟩ | ⟨hh, hv⟩ | ⟨hh, hv, h1⟩ | ⟨hh, hv, h1, h2⟩
        all_goals
          have HH := hidd hh
          have HV := hidd hv
          clear hh hv
          try
            have hd1 := h1
            clear h1
          try
            have hd2 := h2
            clear h2
          go_wp2_with fail
          refine (rValid_c _ _ _).mono ?_; rintro e w3 ⟨rfl, hb3⟩
          rw [HV.out]
          have q0 := (hb3.cell (p := ⟨_, _, none⟩) (by simp; omega)).trans (((below_alloc wr (.cells #[.int .u8 (y1 % 256)] 5)).cell (p := ⟨_, _, none⟩) hbw).trans g0)
          have q3 := (hb3.cell (p := ⟨_, _, none⟩) (by simp; omega)).trans (((below_alloc wr (.cells #[.int .u8 (y1 % 256)] 5)).cell (p := ⟨_, _, none⟩) hbw).trans g3)
          have q4 := (hb3.cell (p := ⟨_, _, none⟩) (by simp; omega)).trans (((below_alloc wr (.cells #[.int .u8 (y1 % 256)] 5)).cell (p := ⟨_, _, none⟩) hbw).trans g4)
          have hbr3 := hbr.trans ((below_alloc1 hb3).mono hbr.size)
          have hbw3 : b < w3.heap.size := Nat.lt_of_lt_of_le hblt hbr3.size
          have hm3 := hidd (hm.out.next (below_alloc1 hb3) (Nat.le_refl _))
          clear hb3
          by_cases hy0 : y0 = 2
          · have HC := hidd (fsClear_c w.heap.size m y3 y4 w3 hm3.out (fun k hk => by rw [hk]; exact hm3.out.lt) HG.out.can (by omega))
            have HLO := hidd (HL2.out hy0)
            clear HL1 HL2
            subst hy0
            cases t
            all_goals
              go_wp2_with fail
              refine HC.out.mono ?_; rintro e w4 ⟨rfl, hm4, hb4⟩
              go_wp2_with fail
              go_roundw
              case rel => exact ⟨k + 1, s, _, by omega, by go_num, rfl, rfl, by show _ = _; rw [HT.out, HLO.out, HGC.out, HH.out, hget.out]; simp, by show IMs _ _ _ _; rw [HT.out, HLO.out]; exact hm4, hbr3.trans (hb4.below hbr3.size (Nat.le_refl _))⟩
              case measure => simp [intOf]; omega
          · have HC := hidd (fsSet_c w.heap.size m y3 y4 str w3 hm3.out (fun k hk => by rw [hk]; exact hm3.out.lt) HG.out.can (by omega))
            have HLO := hidd (HL1.out hy0)
            clear HL1 HL2
            go_wp2_with fail
            refine HC.out.mono ?_; rintro e w4 ⟨rfl, hm4, hb4⟩
            go_wp2_with fail
            go_roundw
            case rel => exact ⟨k + 1, _, _, by omega, by go_num, rfl, rfl, by show _ = _; rw [HT.out, HLO.out, HGS.out, HH.out]; first | (simp; done) | (rw [hget.out]; simp), by show IMs _ _ _ _; rw [HT.out, HLO.out]; exact hm4, hbr3.trans (hb4.below hbr3.size (Nat.le_refl _))⟩
            case measure => simp [intOf]; omega
      · obtain rfl : k = ops.length := by omega
        rw [List.take_length] at hget hm HG hgl
        generalize lastF ops = m at *
        have HGet : Hid (Calls Try.prog 41 #[ptr w.heap.size, .int .i64 block] wr fun e w' => e = .returned (.tuple #[.string (if t then s else ⟨#[]⟩), .bool t]) ∧ Below wr.heap.size wr w') := by
          have h0 := isGet_c w.heap.size m block wr hm.out (by omega)
          rw [hget.out] at h0
          cases t <;> exact h0
        cases t
        all_goals
          go_wp2_with fail
          refine HGet.out.mono ?_; rintro e w2 ⟨rfl, hb2⟩
          have hm2 := hidd (hm.out.next hb2 (Nat.le_refl _))
          have HAll := hidd (isAll_c w.heap.size m w2 hm2.out (by omega))
          have hB2 := hbr.trans (hb2.mono hbr.size)
          go_wp2_with fail
          refine HAll.out.mono ?_; rintro e w3 ⟨⟨v3, rfl, ho3⟩, hb3⟩
          obtain ⟨A3, c3, rfl⟩ := own_shape ho3
          have HRp := hidd (Own.rd ho3 rfl)
          have hB3 := hB2.trans (hb3.mono hB2.size)
          clear ho3 HAll
          go_wp2_with fail
          go_loopw [14] (fun i wr => ∃ j : Nat, i = .int .i64 ((j : Int) + 1) ∧ j ≤ m.length ∧ Below w3.heap.size w3 wr) (fun i _ => m.length - (intOf i).toNat)
          case atStart => exact ⟨0, rfl, by omega, Below.refl _ _⟩
          case round =>
            obtain ⟨j, rfl, hj, hbs⟩ := hrel
            by_cases hlt : j + 1 < m.length
            · have hne : m ≠ [] := by intro e; rw [e] at hlt; simp at hlt
              obtain ⟨b, o, rfl, hblt, hc⟩ := HRp.out.cells3s hne
              obtain ⟨g0, g1, g2⟩ := hc (j + 1) hlt
              obtain ⟨d0, d1, d2⟩ := hc j (by omega)
              rw [← hbs.cell (p := ⟨_, _, none⟩) hblt] at g0 g1 g2 d0 d1 d2
              have hbw : b < wr.heap.size := Nat.lt_of_lt_of_le hblt hbs.size
              clear hc
              have hsep := List.pairwise_iff_getElem.1 HG.out.can.sep j (j + 1) (by omega) hlt (by omega)
              generalize m[j] = y at *
              generalize m[j + 1] = z at *
              obtain ⟨y0, y1, y2⟩ := y
              obtain ⟨z0, z1, z2⟩ := z
              simp only [] at g0 g1 g2 d0 d1 d2 hsep
              obtain ⟨hs1, hs2⟩ := hsep
              have hd1 : decide (z0 < y1) = false := by simp; omega
              by_cases he : y1 = z0
              · have hv := bstr_no (hs2 he)
                clear hs2
                subst he
                go_wp2_with fail
                go_quiet (fail)
                go_wp2_with fail
                go_roundw
                case rel => exact ⟨j + 1, by go_num, by omega, hbs.trans (below_drewN (Below.refl _ _) _)⟩
                case measure => simp [intOf]; omega
              · have hd2 : (y1 == z0) = false := by simp [he]
                clear hs2 he
                go_wp2_with fail
                go_quiet (fail)
                go_wp2_with fail
                go_roundw
                case rel => exact ⟨j + 1, by go_num, by omega, hbs.trans (below_drewN (Below.refl _ _) _)⟩
                case measure => simp [intOf]; omega
            · go_wp2_with fail
              refine (alive7_c _).mono ?_; rintro e w5 ⟨rfl, hb5⟩
              go_wp2_with fail
              go_ret
              exact ⟨by simp, hB3.trans ((hbs.trans (hb5.mono hbs.size)).mono hB3.size)⟩
end Go.Proofs.Ytiokkoeciijkoaa
