/- ImapParts, walked. -/
import Derived.Test.YtiokkoeciijkoaaOps7
import Derived.Test.YtiokkoeciijkoaaPartL
namespace Go.Proofs.Ytiokkoeciijkoaa
set_option linter.unusedVariables false
set_option linter.unusedSimpArgs false
open Go.RowKit

theorem five_ways (n : Nat) (a b c : Int) : (40 < n) ∨ (¬ 40 < n ∧ a < 0) ∨ (¬ 40 < n ∧ ¬ a < 0 ∧ b ≤ a) ∨ (¬ 40 < n ∧ ¬ a < 0 ∧ ¬ b ≤ a ∧ c ≤ b) ∨ (¬ 40 < n ∧ ¬ a < 0 ∧ ¬ b ≤ a ∧ ¬ c ≤ b ∧ 1000 < c) ∨ (¬ 40 < n ∧ ¬ a < 0 ∧ ¬ b ≤ a ∧ ¬ c ≤ b ∧ ¬ 1000 < c) := by omega

set_option maxHeartbeats 8000000 in
set_option maxRecDepth 100000 in
theorem ImapParts_c (A : Option Addr) (n c : Nat) (ops : List Op7) (fr mi tt : Int) (w : World) (h : Rd 5 encO w A ops) (hn : n = ops.length) (hI : ∀ x ∈ ops, okO x) (h1 : I64 fr) (h2 : I64 mi) (h3 : I64 tt) :
    Calls Try.prog 8 #[.slice A n c, .int .i64 fr, .int .i64 mi, .int .i64 tt] w fun e w' => e = .returned (.bool true) ∧ Below w.heap.size w w' := by
  subst hn
  have HR := hidd h
  have HI := hidd hI
  have HA1 := hidd h1
  have HA2 := hidd h2
  have HA3 := hidd h3
  clear h hI h1 h2 h3
  rcases five_ways ops.length fr mi tt with q1 | ⟨q1, q2⟩ | ⟨q1, q2, q3⟩ | ⟨q1, q2, q3, q4⟩ | ⟨q1, q2, q3, q4, q5⟩ | ⟨q1, q2, q3, q4, q5⟩
  case inr.inr.inr.inr.inr =>
    go_enter Try.func8, Try.ntmps8
    go_wp2_with fail
    refine (iNew_c w).mono ?_; rintro e w1 ⟨rfl, hn1, hb1⟩
    have hm1 := hn1 (fun k => k = w.heap.size)
    clear hn1
    go_wp2_with fail
    go_loopw [10] (fun i wr => ∃ k : Nat, k ≤ ops.length ∧ i = .int .i64 k ∧ Hid (IM (fun k => k = w.heap.size) wr w.heap.size (opsF (fun _ => false) (fun _ => false) (ops.take k))) ∧ Below w.heap.size w wr) (fun i _ => ops.length - (intOf i).toNat)
    case atStart => exact ⟨0, by omega, rfl, hm1, hb1⟩
    case round =>
      obtain ⟨k, hk, rfl, hm, hbr⟩ := hrel
      have HG := hidd (opsF_good (p := fun _ => false) (c := fun _ => false) (okO_take HI.out k))
      have hgl : (opsF (fun _ => false) (fun _ => false) (ops.take k)).length ≤ 80 := by have := HG.out.len; rw [List.length_take] at this; omega
      by_cases hlt : k < ops.length
      · have hne : ops ≠ [] := by intro e; rw [e] at hlt; simp at hlt
        obtain ⟨b, o, rfl, hblt, hc⟩ := HR.out.cells5 hne
        obtain ⟨g0, g1, g2, g3, g4⟩ := hc k hlt
        rw [← hbr.cell (p := ⟨_, _, none⟩) hblt] at g0 g1 g2 g3 g4
        have hbw : b < wr.heap.size := Nat.lt_of_lt_of_le hblt hbr.size
        clear hc
        have HT := hidd (opsF_take (p := fun _ => false) (c := fun _ => false) hlt)
        generalize opsF (fun _ => false) (fun _ => false) (ops.take k) = m at *
        generalize ops[k] = y at *
        obtain ⟨y0, y1, y2, y3, y4⟩ := y
        simp only [] at g0 g1 g2 g3 g4
        have HC := hidd (fSet_c w.heap.size m y3 y4 y1 wr.drew (show IM _ wr.drew _ _ from hm.out.next (below_drewN (Below.refl _ _) 1) (Nat.le_refl _)) (fun k hk => by rw [hk]; exact hm.out.lt) HG.out.can (by omega))
        have H1 : Hid (op1 (fun _ => false) (fun _ => false) m (y0, y1, y2, y3, y4) = setF y3 y4 y1 m) := by show _ = _; unfold op1; rw [if_neg (by simp), if_neg (by simp)]
        go_wp2_with fail
        refine wp_tail 11 (by kernel_rfl) ?_
        simp only [List.take_succ_cons, List.take_zero, List.drop_succ_cons, List.drop_zero]
        repeat still_step
        refine wpStill_nil ?_
        go_wp2_with fail
        refine HC.out.mono ?_; rintro e w3 ⟨rfl, hm3, hb3⟩
        go_wp2_with fail
        go_roundw
        case rel => exact ⟨k + 1, by omega, by go_num, by show IM _ _ _ _; rw [HT.out, H1.out]; exact hm3, hbr.trans ((below_drewN (Below.refl w.heap.size wr) 1).trans (hb3.below hbr.size (Nat.le_refl _)))⟩
        case measure => simp [intOf]; omega
      · obtain rfl : k = ops.length := by omega
        rw [List.take_length] at hm HG hgl
        generalize opsF (fun _ => false) (fun _ => false) ops = m at *
        have HP1 := hidd (iParts_c w.heap.size m fr mi wr hm.out (by omega))
        have hl1 := partsP_len fr mi m
        have hl2 := partsP_len mi tt m
        have HEQ := hidd (parts_two HG.out.can (by omega : (0 : Int) ≤ fr) (by omega : fr < mi) (by omega : mi < tt))
        have HIN : Hid (∀ x ∈ partsP fr tt m, fr ≤ x.1 ∧ x.2.1 ≤ tt) := fun x hx => partsP_in hx
        have HOK : Hid (okQ I64 (partsP fr mi m ++ partsP mi tt m)) := fun x hx => by
          rcases List.mem_append.1 hx with hx | hx
          · exact (HG.out.parts HA1.out HA2.out).ok x hx
          · exact (HG.out.parts HA2.out HA3.out).ok x hx
        have HPL := hidd (partsP_len fr tt m)
        generalize hPa : partsP fr mi m = Pa at *
        generalize hPb : partsP mi tt m = Pb at *
        have HPb := hidd hPb
        clear hPa hPb
        go_wp2_with fail
        refine HP1.out.mono ?_; rintro e w2 ⟨⟨v2, rfl, ho2⟩, hb2⟩
        have hm2 := hidd (hm.out.next hb2 (Nat.le_refl _))
        have HP2 := hidd (iParts_c w.heap.size m mi tt w2 hm2.out (by omega))
        obtain ⟨A2, c2, rfl⟩ := own_shape ho2
        have HRa := hidd (Own.rd ho2 rfl)
        have hB2 := hbr.trans (hb2.mono hbr.size)
        clear ho2 hm
        go_wp2_with fail
        refine HP2.out.mono ?_; rintro e w4 ⟨⟨v4, rfl, ho4⟩, hb4⟩
        rw [HPb.out] at ho4
        have hm4 := hidd (hm2.out.next hb4 (Nat.le_refl _))
        have HP4 := hidd (iParts_c w.heap.size m fr tt w4 hm4.out (by omega))
        obtain ⟨A4, c4, rfl⟩ := own_shape ho4
        have HRb := hidd (Own.rd ho4 rfl)
        have hB4 := hB2.trans (hb4.mono hB2.size)
        generalize hPc : partsP fr tt m = Pc at *
        have hlc : Pc.length ≤ 80 := by have := HPL.out; omega
        clear ho4 hPc
        go_wp2_with fail
        refine HP4.out.mono ?_; rintro e w5 ⟨⟨v5, rfl, ho5⟩, hb5⟩
        have hm5 := hidd (hm4.out.next hb5 (Nat.le_refl _))
        obtain ⟨A5, c5, rfl⟩ := own_shape ho5
        have HRc := hidd (Own.rd ho5 rfl)
        have hB5 := hB4.trans (hb5.mono hB4.size)
        have HRa5 := hidd ((HRa.out.below hb4 (Nat.le_refl _)).below hb5 (Nat.le_refl _))
        have HRb5 := hidd (HRb.out.below hb5 (Nat.le_refl _))
        clear ho5
        go_wp2_with fail
        refine (iNew_c w5).mono ?_; rintro e w6 ⟨rfl, hn6, hb6⟩
        have hm6 := hidd (hn6 (fun k => k = w5.heap.size))
        clear hn6
        have HRa6 := hidd (HRa5.out.below hb6 (Nat.le_refl _))
        have HRb6 := hidd (HRb5.out.below hb6 (Nat.le_refl _))
        have HRc6 := hidd (HRc.out.below hb6 (Nat.le_refl _))
        have hB6 := hB5.trans (hb6.mono hB5.size)
        go_wp2_with (first
          | (at_builtin; refine wpList_app_rd (P := Try.prog) Try.underlying57 infoPartI rfl (by decide) encP_len encP_one (ys := []) (v := .slice none 0 0) (World.ownsRow_nil _ _ _ _) (Nat.le_refl _) rfl rfl rfl rfl HRa6.out rfl ?_ ?_ (fun v7 w7 hown7 hb7 => ?_)
             (· unfold maxLen; simp; omega)
             (· simp; omega)
             obtain ⟨A7, c7, rfl⟩ := own_shape hown7
             have HO7 := hidd hown7
             have HRb7 := hidd (HRb6.out.below hb7 (Nat.le_refl _))
             clear hown7)
          | (at_builtin; refine wpList_app_rd (P := Try.prog) Try.underlying57 infoPartI rfl (by decide) encP_len encP_one HO7.out hb7.size rfl rfl rfl rfl HRb7.out rfl ?_ ?_ (fun v8 w8 hown8 hb8 => ?_)
             (· unfold maxLen; simp; omega)
             (· simp; omega)
             obtain ⟨A8, c8, rfl⟩ := own_shape hown8
             have HO8 := hidd hown8
             clear hown8))
        rw [List.nil_append] at HO8
        have HB8 := hb7.trans hb8
        clear HO7 HRb7 HRa6 HRb6 HRa5 HRb5 HRa HRb hb7 hb8
        have hLl : Pa.length + Pb.length ≤ 160 := by omega
        rw [show Pa.length + Pb.length = (Pa ++ Pb).length by simp]
        have hLe : (Pa ++ Pb).length ≤ 160 := by simp; omega
        generalize Pa ++ Pb = L at *
        have HRL := hidd (Own.rd HO8.out rfl)
        have HLF : Hid (∀ b o, A8 = some ⟨b, o, none⟩ → b ≠ w5.heap.size) := fun b o hA he => by
          subst hA; subst he
          have := (HO8.out.lt w5.heap.size rfl).1
          have := hm6.out.lt
          omega
        have hm8 := hidd (hm6.out.next HB8 (Nat.le_refl _))
        have hB58 : Below w5.heap.size w5 w8 := hb6.trans (HB8.mono hb6.size)
        clear HO8 hl1 hl2 HP1 HP2 HP4
        go_loopw [16] (fun i wr => ∃ k : Nat, k ≤ L.length ∧ i = .int .i64 k ∧ Hid (IM (fun k => k = w5.heap.size) wr w5.heap.size (setAllF [] (L.take k))) ∧ Below w5.heap.size w5 wr ∧ BelX w5.heap.size w8.heap.size w8 wr) (fun i _ => L.length - (intOf i).toNat)
        case atStart => exact ⟨0, by omega, rfl, hm8.out, hB58, BelX.refl _ _ _⟩
        case round =>
          obtain ⟨k, hk, rfl, hmk, hbk, hxk⟩ := hrel
          have HGk := hidd (setAllF_good (B := 0) (GoodP.nil) (fun x hx => HOK.out x (List.mem_of_mem_take hx) : okQ I64 (L.take k)))
          have hgk : (setAllF [] (L.take k)).length ≤ 320 := by have := HGk.out.len; rw [List.length_take] at this; omega
          by_cases hlt : k < L.length
          · have hne : L ≠ [] := by intro e; rw [e] at hlt; simp at hlt
            obtain ⟨b, o, rfl, hblt, hc⟩ := HRL.out.cells3 hne
            obtain ⟨g0, g1, g2⟩ := hc k hlt
            rw [← hxk.cell hblt (HLF.out b o rfl)] at g0 g1 g2
            have hbw : b < wr.heap.size := Nat.lt_of_lt_of_le hblt hxk.size
            clear hc
            have HT := hidd (setAllF_take (m := []) hlt)
            generalize setAllF [] (L.take k) = m2 at *
            generalize L[k] = y at *
            obtain ⟨y0, y1, y2⟩ := y
            simp only [] at g0 g1 g2
            have HC := hidd (fSet_c w5.heap.size m2 y0 y1 y2 wr.drew (show IM _ wr.drew _ _ from hmk.out.next (below_drewN (Below.refl _ _) 1) (Nat.le_refl _)) (fun k hk => by rw [hk]; exact hmk.out.lt) HGk.out.can (by omega))
            go_wp2_with fail
            refine wp_tail 11 (by kernel_rfl) ?_
            simp only [List.take_succ_cons, List.take_zero, List.drop_succ_cons, List.drop_zero]
            repeat still_step
            refine wpStill_nil ?_
            go_wp2_with fail
            refine HC.out.mono ?_; rintro e w3 ⟨rfl, hm3, hb3⟩
            go_wp2_with fail
            go_roundw
            case rel => exact ⟨k + 1, by omega, by go_num, by show IM _ _ _ _; rw [HT.out]; exact hm3, hbk.trans ((below_drewN (Below.refl w5.heap.size wr) 1).trans (hb3.below hbk.size (Nat.le_refl _))), hxk.trans ((BelX.of (below_drewN (Below.refl w8.heap.size wr) 1)).trans (hb3.mono hxk.size))⟩
            case measure => simp [intOf]; omega
          · obtain rfl : k = L.length := by omega
            rw [List.take_length, HEQ.out] at hmk
            clear HGk hgk HRL HLF hm8 hxk
            have HAll := hidd (iAll_c w5.heap.size Pc wr hmk.out (by omega))
            go_wp2_with fail
            refine HAll.out.mono ?_; rintro e w9 ⟨⟨v9, rfl, ho9⟩, hb9⟩
            obtain ⟨A9, c9, rfl⟩ := own_shape ho9
            have HRd := hidd (Own.rd ho9 rfl)
            have HRc9 := hidd ((HRc.out.below hbk (Nat.le_refl _)).below hb9 (Nat.le_refl _))
            have hB9 := hB5.trans ((hbk.trans (hb9.mono hbk.size)).mono hB5.size)
            clear ho9 HAll
            go_wp2_with fail
            go_loopw [18] (fun i wr => ∃ k : Nat, k ≤ Pc.length ∧ i = .int .i64 k ∧ Below w9.heap.size w9 wr) (fun i _ => Pc.length - (intOf i).toNat)
            case atStart => exact ⟨0, by omega, rfl, Below.refl _ _⟩
            case round =>
              obtain ⟨j, hj, rfl, hbj⟩ := hrel
              by_cases hlt : j < Pc.length
              · have hne : Pc ≠ [] := by intro e; rw [e] at hlt; simp at hlt
                obtain ⟨b, o, rfl, hblt, hc⟩ := HRc9.out.cells3 hne
                obtain ⟨g0, g1, g2⟩ := hc j hlt
                rw [← hbj.cell (p := ⟨_, _, none⟩) hblt] at g0 g1 g2
                have hbw : b < wr.heap.size := Nat.lt_of_lt_of_le hblt hbj.size
                clear hc
                obtain ⟨b', o', rfl, hblt', hc⟩ := HRd.out.cells3 hne
                obtain ⟨d0, d1, d2⟩ := hc j hlt
                rw [← hbj.cell (p := ⟨_, _, none⟩) hblt'] at d0 d1 d2
                have hbw' : b' < wr.heap.size := Nat.lt_of_lt_of_le hblt' hbj.size
                clear hc
                have hin := HIN.out Pc[j] (List.getElem_mem hlt)
                generalize Pc[j] = y at *
                obtain ⟨y0, y1, y2⟩ := y
                simp only [] at g0 g1 g2 d0 d1 d2 hin
                obtain ⟨hi1, hi2⟩ := hin
                have hf1 : decide (y0 < fr) = false := by simp; omega
                have hf2 : decide (tt < y1) = false := by simp; omega
                go_wp2_with fail
                go_quiet (fail)
                go_wp2_with fail
                go_roundw
                case rel => exact ⟨j + 1, by omega, by go_num, hbj.trans (below_drewN (Below.refl _ _) _)⟩
                case measure => simp [intOf]; omega
              · obtain rfl : j = Pc.length := by omega
                go_wp2_with fail
                refine (alive7_c _).mono ?_; rintro e w10 ⟨rfl, hb10⟩
                go_wp2_with fail
                go_ret
                exact ⟨rfl, hB9.trans ((hbj.trans (hb10.mono hbj.size)).mono hB9.size)⟩
  all_goals
    go_enter Try.func8, Try.ntmps8
    go_wp2_with fail
    refine (alive7_c _).mono ?_; rintro e w1 ⟨rfl, hb⟩
    go_wp2_with fail
    go_ret
    exact ⟨rfl, hb⟩
end Go.Proofs.Ytiokkoeciijkoaa
