/- ImapSwaps, walked. -/
import Derived.Test.YtiokkoeciijkoaaPartW
import Derived.Test.YtiokkoeciijkoaaRowX
import Derived.IntWalk
namespace Go.Proofs.Ytiokkoeciijkoaa
set_option linter.unusedVariables false
set_option linter.unusedSimpArgs false
open Go.RowKit

theorem skip_yes {u : Int} {o : Op7} (h : o.2.1 = u) : skipV u o = true := by simp [skipV, h]
theorem skip_no {u : Int} {o : Op7} (h : ¬ o.2.1 = u) : skipV u o = false := by simp [skipV, h]
/-- a slice of one element -/
theorem rd_at {W : World} {b o : Nat} {xs : List Sp} (h : Rd 2 encS W (some ⟨b, o, none⟩) xs) {k : Nat} (hk : k < xs.length) : Rd 2 encS W (some ⟨b, o + k * 2, none⟩) [xs[k]] := by
  have hne : xs ≠ [] := by intro e; rw [e] at hk; simp at hk
  obtain ⟨b', o', hA, hlt, hc⟩ := h.cells2 hne
  injection hA with hA
  injection hA with h1 h2 _
  subst h1; subst h2
  obtain ⟨c0, c1⟩ := hc k hk
  refine .inr ⟨b, o + k * 2, rfl, hlt, fun j u hu => ?_⟩
  rcases j with _ | _ | j
  · simp [encS] at hu; subst hu; exact c0
  · simp [encS] at hu; subst hu; exact c1
  · simp [encS] at hu

set_option maxHeartbeats 8000000 in
set_option maxRecDepth 100000 in
theorem ImapSwaps_c (A : Option Addr) (n c : Nat) (ops : List Op7) (s : Sp) (v u : Int) (w : World) (h : Rd 5 encO w A ops) (hn : n = ops.length) (hI : ∀ x ∈ ops, okO x) (hs : I64 s.1 ∧ I64 s.2) (h1 : I64 v) (h2 : I64 u) :
    Calls Try.prog 10 #[.slice A n c, .agg (encS s).toArray, .int .i64 v, .int .i64 u] w fun e w' => e = .returned (.bool true) ∧ Below w.heap.size w w' := by
  subst hn
  obtain ⟨s0, s1⟩ := s
  have HR := hidd h
  have HI := hidd hI
  have HS := hidd hs
  have HA1 := hidd h1
  have HA2 := hidd h2
  clear h hI h1 h2 hs
  show Calls Try.prog 10 #[.slice A ops.length c, .agg #[.int .i64 s0, .int .i64 s1], .int .i64 v, .int .i64 u] w _
  rcases (by omega : (40 < ops.length) ∨ (¬ 40 < ops.length ∧ v = u) ∨ (¬ 40 < ops.length ∧ ¬ v = u)) with q1 | ⟨q1, q2⟩ | ⟨q1, q2⟩
  case inr.inr =>
    have hvu : (v == u) = false := by simp [q2]
    go_enter Try.func10, Try.ntmps10
    have HB0 := hidd (below_alloc w (.cells #[.int .i64 s0, .int .i64 s1] 27))
    have HXB := hidd (Bk.new w #[.int .i64 s0, .int .i64 s1] 27 rfl)
    go_wp2_with fail
    refine (iNew_c _).mono ?_; rintro e w1 ⟨rfl, hn1, hb1⟩
    have hpe : (w.alloc (.cells #[.int .i64 s0, .int .i64 s1] 27)).heap.size = w.heap.size + 1 := by simp
    rw [hpe] at hn1 hb1
    have hm1 := hn1 (fun k => k = w.heap.size + 1)
    have hbox1 := hidd (HXB.out.next hb1 (by simp))
    have hB1 := HB0.out.trans (hb1.mono (by omega))
    clear hn1 hpe HXB HB0
    go_wp2_with fail
    go_loopw [10] (fun i wr => ∃ k : Nat, k ≤ ops.length ∧ i = .int .i64 k ∧ Hid (IM (fun k => k = w.heap.size + 1) wr (w.heap.size + 1) (opsF (skipV u) (fun _ => false) (ops.take k))) ∧ Below w.heap.size w wr ∧ Hid (Bk wr w.heap.size #[.int .i64 s0, .int .i64 s1] 27)) (fun i _ => ops.length - (intOf i).toNat)
    case atStart => exact ⟨0, by omega, rfl, hm1, hB1, hbox1.out⟩
    case round =>
      obtain ⟨k, hk, rfl, hm, hbr, hbox⟩ := hrel
      have HG := hidd (opsF_good (p := skipV u) (c := fun _ => false) (okO_take HI.out k))
      have hgl : (opsF (skipV u) (fun _ => false) (ops.take k)).length ≤ 80 := by have := HG.out.len; rw [List.length_take] at this; omega
      by_cases hlt : k < ops.length
      · have hne : ops ≠ [] := by intro e; rw [e] at hlt; simp at hlt
        obtain ⟨b, o, rfl, hblt, hc⟩ := HR.out.cells5 hne
        obtain ⟨g0, g1, g2, g3, g4⟩ := hc k hlt
        rw [← hbr.cell (p := ⟨_, _, none⟩) hblt] at g0 g1 g2 g3 g4
        have hbw : b < wr.heap.size := Nat.lt_of_lt_of_le hblt hbr.size
        clear hc
        have HT := hidd (opsF_take (p := skipV u) (c := fun _ => false) hlt)
        generalize opsF (skipV u) (fun _ => false) (ops.take k) = m at *
        generalize ops[k] = y at *
        obtain ⟨y0, y1, y2, y3, y4⟩ := y
        simp only [] at g0 g1 g2 g3 g4
        by_cases hv : y1 = u
        · have H1 : Hid (op1 (skipV u) (fun _ => false) m (y0, y1, y2, y3, y4) = m) := by show _ = _; unfold op1; rw [if_pos (skip_yes hv)]
          have hv2 : (y1 != u) = false := by simp [hv]
          have HV := hidd hv
          clear hv
          go_wp2_with fail
          go_roundw
          case rel => exact ⟨k + 1, by omega, by go_num, by show IM _ _ _ _; rw [HT.out, H1.out]; exact hm.out, hbr, hbox⟩
          case measure => simp [intOf]; omega
        · have HC := hidd (fSet_c (w.heap.size + 1) m y3 y4 y1 wr.drew (show IM _ wr.drew _ _ from hm.out.next (below_drewN (Below.refl _ _) 1) (Nat.le_refl _)) (fun k hk => by rw [hk]; exact hm.out.lt) HG.out.can (by omega))
          have H1 : Hid (op1 (skipV u) (fun _ => false) m (y0, y1, y2, y3, y4) = setF y3 y4 y1 m) := by show _ = _; unfold op1; rw [if_neg (by rw [skip_no hv]; simp), if_neg (by simp)]
          have hv2 : (y1 != u) = true := by simp [hv]
          have hmlt := hm.out.lt
          go_wp2_with fail
          refine wp_tail 11 (by kernel_rfl) ?_
          simp only [List.take_succ_cons, List.take_zero, List.drop_succ_cons, List.drop_zero]
          repeat still_step
          refine wpStill_nil ?_
          go_wp2_with fail
          refine HC.out.mono ?_; rintro e w3 ⟨rfl, hm3, hb3⟩
          have hbb : Below w.heap.size w w3 := hbr.trans ((below_drewN (Below.refl w.heap.size wr) 1).trans (hb3.below hbr.size (Nat.le_succ _)))
          have hbox3 : Hid (Bk w3 w.heap.size #[.int .i64 s0, .int .i64 s1] 27) := hb3.bk (show Bk wr.drew _ _ _ from hbox.out) hbox.out.lt (by omega)
          go_wp2_with fail
          go_roundw
          case rel => exact ⟨k + 1, by omega, by go_num, by show IM _ _ _ _; rw [HT.out, H1.out]; exact hm3, hbb, hbox3⟩
          case measure => simp [intOf]; omega
      · obtain rfl : k = ops.length := by omega
        rw [List.take_length] at hm HG hgl
        have HU := hidd (ops_never (u := u) ops)
        generalize opsF (skipV u) (fun _ => false) ops = m at *
        obtain ⟨wq, rfl⟩ : ∃ wq : World, wq = wr := ⟨_, rfl⟩
        have hpw := hm.out.lt
        have HAll := hidd (iAll_c (w.heap.size + 1) m wq hm.out (by omega))
        have hwl := withP_len v m
        have hpl := partsP_len s0 s1 m
        have hwl2 := withP_len v (partsP s0 s1 m)
        have HNOW := hidd (swap_now (v := v) (s0 := s0) (s1 := s1) HG.out.can HU.out)
        have HBACK := hidd (swap_back (v := v) (s0 := s0) (s1 := s1) HG.out.can HU.out)
        have HSS := hidd (swap_swap (v := v) (s0 := s0) (s1 := s1) HG.out.can HU.out)
        have HRNG : Hid (∀ x ∈ withP v (partsP s0 s1 m), s0 ≤ x.1 ∧ x.2 ≤ s1) := fun x hx => swap_range hx
        have HCV : Hid (∀ x ∈ withP v (partsP s0 s1 m), ∀ out, MinusOf [x] (withP v m) out → out = []) := fun x hx out h => swap_cov HG.out.can hx h
        have HG2 : Hid (GoodP I64 240 (swapF v u (partsP s0 s1 m) m)) := (swapF_good HG.out (HG.out.parts HS.out.1 HS.out.2).ok HA2.out).mono (by omega)
        have HGP := hidd (HG.out.parts HS.out.1 HS.out.2)
        have HN1 : Hid (swapN s0 s1 v m = tot (withP v (partsP s0 s1 m))) := rfl
        have HN2 : Hid (swapN s0 s1 u (swapF v u (partsP s0 s1 m) m) = tot (withP v (partsP s0 s1 m))) := by show _ = _; unfold swapN; rw [HBACK.out]
        go_wp2_with fail
        refine HAll.out.mono ?_; rintro e w2 ⟨⟨v2, rfl, ho2⟩, hb2⟩
        obtain ⟨A2, c2, rfl⟩ := own_shape ho2
        have HX2 := hidd (RX.own ho2 rfl hpw)
        have hm2 := hidd (hm.out.next hb2 (Nat.le_refl _))
        have HW := hidd (iWith_c (w.heap.size + 1) m v w2 hm2.out (by omega))
        have hbox2 := hidd (hbox.out.next hb2 (Nat.le_refl _))
        have hB2 := hbr.trans (hb2.mono hbr.size)
        have hpw2 : w.heap.size + 1 < w2.heap.size := Nat.lt_of_lt_of_le hpw hb2.size
        clear ho2 HAll hm hbox
        go_wp2_with fail
        refine HW.out.mono ?_; rintro e w3 ⟨⟨v3, rfl, ho3⟩, hb3⟩
        obtain ⟨A3, c3, rfl⟩ := own_shape ho3
        have HX3 := hidd (RX.own ho3 rfl hpw2)
        have HX2' := hidd (HX2.out.next hb3 (Nat.le_refl _))
        have hm3 := hidd (hm2.out.next hb3 (Nat.le_refl _))
        have hbox3 := (hbox2.out.next hb3 (Nat.le_refl _)).bx2
        have hbk3 := hidd (hbox2.out.next hb3 (Nat.le_refl _))
        have hB3 := hB2.trans (hb3.mono hB2.size)
        have HSw := hidd (iSwap_c (w.heap.size + 1) m s0 s1 v u w3 hm3.out (fun k hk => by rw [hk]; exact hm3.out.lt) HG.out (by omega) HS.out HA2.out)
        clear ho3 HW hm2 HX2 hbox2
        go_wp2_with fail
        refine HSw.out.mono ?_; rintro e w4 ⟨rfl, hm4, hb4⟩
        rw [HN1.out]
        have hm4 := hidd hm4
        have HX24 := hidd (HX2'.out.nextX hb4 (Nat.le_refl _))
        have HX34 := hidd (HX3.out.nextX hb4 (Nat.le_refl _))
        have hbk4 := hidd (hb4.bk hbk3.out hbk3.out.lt (by omega))
        have hB4 : Below w.heap.size w w4 := hB3.trans (hb4.below hB3.size (Nat.le_succ _))
        have HW := hidd (iWith_c (w.heap.size + 1) _ u w4 hm4.out (by have := HG2.out.len; omega))
        have hpw4 : w.heap.size + 1 < w4.heap.size := hm4.out.lt
        clear HSw HX2' HX3 hbk3 hm3 hbox3
        go_wp2_with fail
        refine HW.out.mono ?_; rintro e w5 ⟨⟨v5, rfl, ho5⟩, hb5⟩
        rw [HNOW.out] at ho5
        obtain ⟨A5, c5, rfl⟩ := own_shape ho5
        have hcap := own_cap ho5
        have HX5 := hidd (RX.own ho5 rfl hpw4)
        have HX25 := hidd (HX24.out.next hb5 (Nat.le_refl _))
        have HX35 := hidd (HX34.out.next hb5 (Nat.le_refl _))
        have hm5 := hidd (hm4.out.next hb5 (Nat.le_refl _))
        have hbk5 := hidd (hbk4.out.next hb5 (Nat.le_refl _))
        have hB5 := hB4.trans (hb5.mono hB4.size)
        have HT0 : Hid (∀ k, 0 ≤ tot ((withP v (partsP s0 s1 m)).take k) ∧ tot ((withP v (partsP s0 s1 m)).take k) ≤ 9223372036854775807) := fun k => by
          have h1 := withP_tot HGP.out v
          have h2 := tot_take_le (withP v (partsP s0 s1 m)) k
          have h3 := tot_nonneg ((withP v (partsP s0 s1 m)).take k)
          omega
        have HWI : Hid (∀ x ∈ withP v (partsP s0 s1 m), I64 x.1 ∧ I64 x.2) := fun x hx => by
          unfold withP at hx
          obtain ⟨y, hy, hx⟩ := List.mem_flatMap.1 hx
          have := HGP.out.ok y hy
          by_cases he : y.2.2 = v
          · rw [if_pos he, List.mem_singleton] at hx; rw [hx]; exact ⟨this.1, this.2.1⟩
          · rw [if_neg he] at hx; cases hx
        clear ho5 HW HX24 HX34 hbk4 hm4 HGP HNOW HBACK
        generalize swapF v u (partsP s0 s1 m) m = m2 at *
        generalize withP v (partsP s0 s1 m) = NW at *
        generalize hWV : withP v m = WV at *
        have HWV := hidd hWV
        clear hWV
        go_wp2_with fail
        go_loopw [15, 16] (fun t i wr => ∃ k : Nat, k ≤ NW.length ∧ i = .int .i64 k ∧ t = .int .i64 (tot (NW.take k)) ∧ Below w5.heap.size w5 wr) (fun _ i _ => NW.length - (intOf i).toNat)
        case atStart => exact ⟨0, by omega, rfl, rfl, Below.refl _ _⟩
        case round =>
          obtain ⟨k, hk, rfl, rfl, hbk⟩ := hrel
          have hbkk := hidd (hbk5.out.next hbk (Nat.le_refl _))
          have hbx := hbkk.out.bx2
          by_cases hlt : k < NW.length
          · have hne : NW ≠ [] := by intro e; rw [e] at hlt; simp at hlt
            obtain ⟨b, o, rfl, hblt, hc⟩ := HX5.out.rd.cells2 hne
            have hrd1 := hidd ((rd_at HX5.out.rd hlt).below hbk (Nat.le_refl _))
            obtain ⟨g0, g1⟩ := hc k hlt
            rw [← hbk.cell (p := ⟨_, _, none⟩) hblt] at g0 g1
            have hbw : b < wr.heap.size := Nat.lt_of_lt_of_le hblt hbk.size
            clear hc
            have hrng := HRNG.out NW[k] (List.getElem_mem hlt)
            have HC1 := hidd (HCV.out NW[k] (List.getElem_mem hlt))
            have HI1 := hidd (HWI.out NW[k] (List.getElem_mem hlt))
            have HT1 := hidd (tot_take hlt)
            have hT0 := HT0.out k
            have hT1 := HT0.out (k + 1)
            rw [HT1.out] at hT1
            have HLE := hidd (@sLen_c NW[k].1 NW[k].2)
            generalize lenS NW[k].1 NW[k].2 = d at *
            generalize tot (NW.take k) = T at *
            generalize NW[k] = y at *
            obtain ⟨y0, y1⟩ := y
            simp only [] at g0 g1 hrng
            obtain ⟨hr1, hr2⟩ := hrng
            obtain ⟨hT0a, hT0b⟩ := hT0
            obtain ⟨hT1a, hT1b⟩ := hT1
            have hd1 : decide (y0 < s0) = false := by simp; omega
            have hd2 : decide (s1 < y1) = false := by simp; omega
            go_wp2_with fail
            have HCOV : Hid (∀ x cp, Calls Try.prog 35 #[.slice A3 WV.length c3, .slice (some ⟨b, o + k * 2, none⟩) 1 cp] (regrow wr x) fun e w' => e = .returned (.bool true) ∧ ∃ x', w' = regrow wr x') := fun x cp => by
              refine (sCovers_c A3 (some ⟨b, o + k * 2, none⟩) _ 1 c3 cp WV [(y0, y1)] _ ((HX35.out.rd.below hbk (Nat.le_refl _)).below (below_regrow wr x) (Nat.le_refl _)) (hrd1.out.below (below_regrow wr x) (Nat.le_refl _)) rfl rfl (by simp; omega)).mono ?_
              rintro e w' ⟨⟨out, hm, rfl⟩, hb⟩
              rw [HC1.out out hm]
              exact ⟨rfl, regrow_call hb⟩
            have hw1 : IntKind.i64.wrap ((k : Int) + 1) = (k : Int) + 1 := IntWalk.i64_in _ (by omega)
            have hw2 : 0 ≤ (k : Int) + 1 := by omega
            have hw3 : ((k : Int) + 1).toNat = k + 1 := by omega
            refine wp_calm (by kernel_rfl) ?_
            repeat (go_big_quiet_step ((refine (HCOV.out _ _).mono ?_; rintro e w' ⟨rfl, hb⟩; exact ⟨rfl, hb⟩)))
            refine wpQuiet_nil ?_
            intro W hW
            have q0 := (hW.cell (p := ⟨_, _, none⟩) hbw).trans g0
            have q1 := (hW.cell (p := ⟨_, _, none⟩) hbw).trans g1
            have hbW : b < W.heap.size := Nat.lt_of_lt_of_le hbw hW.size
            clear hw1 hw2 hw3 g0 g1
            go_wp2_with fail
            refine (HLE.out _ HI1.out.1 HI1.out.2).mono ?_; rintro e w6 ⟨rfl, hb6⟩
            go_wp2_with fail
            go_roundw
            case rel => exact ⟨k + 1, by omega, by go_num, by rw [HT1.out], (hbk.trans (hW.mono hbk.size)).trans (hb6.mono (Nat.le_trans hbk.size hW.size))⟩
            case measure => simp [intOf]; omega
          · obtain rfl : k = NW.length := by omega
            rw [List.take_length]
            have HX2r := hidd (HX25.out.next hbk (Nat.le_refl _))
            have HX3r := hidd (HX35.out.next hbk (Nat.le_refl _))
            have hmr := hidd (hm5.out.next hbk (Nat.le_refl _))
            have hBr := hB5.trans (hbk.mono hB5.size)
            have HSw := hidd (iSwap_c (w.heap.size + 1) m2 s0 s1 u v wr hmr.out (fun k hk => by rw [hk]; exact hmr.out.lt) HG2.out (by omega) HS.out HA1.out)
            clear hbk5 HX5 HX25 HX35 hm5
            go_wp2_with fail
            refine HSw.out.mono ?_; rintro e w6 ⟨rfl, hm6, hb6⟩
            rw [HN2.out]
            rw [HSS.out] at hm6
            have hm6 := hidd hm6
            have HX26 := hidd (HX2r.out.nextX hb6 (Nat.le_refl _))
            have HX36 := hidd (HX3r.out.nextX hb6 (Nat.le_refl _))
            have hB6 : Below w.heap.size w w6 := hBr.trans (hb6.below hBr.size (Nat.le_succ _))
            have HAll := hidd (iAll_c (w.heap.size + 1) m w6 hm6.out (by omega))
            clear HX2r HX3r hmr HSw
            go_wp2_with fail
            refine HAll.out.mono ?_; rintro e w7 ⟨⟨v7, rfl, ho7⟩, hb7⟩
            obtain ⟨A7, c7, rfl⟩ := own_shape ho7
            have HRd := hidd (Own.rd ho7 rfl)
            have HX27 := hidd (HX26.out.next hb7 (Nat.le_refl _))
            have HX37 := hidd (HX36.out.next hb7 (Nat.le_refl _))
            have hm7 := hidd (hm6.out.next hb7 (Nat.le_refl _))
            have hB7 := hB6.trans (hb7.mono hB6.size)
            clear ho7 HAll HX26 HX36 hm6 HN1 HN2 HT0
            generalize tot NW = T at *
            go_wp2_with fail
            go_loopw [19] (fun i wr => ∃ k : Nat, k ≤ m.length ∧ i = .int .i64 k ∧ Below w7.heap.size w7 wr) (fun i _ => m.length - (intOf i).toNat)
            case atStart => exact ⟨0, by omega, rfl, Below.refl _ _⟩
            case round =>
              obtain ⟨j, hj, rfl, hbj⟩ := hrel
              by_cases hlt : j < m.length
              · have hne : m ≠ [] := by intro e; rw [e] at hlt; simp at hlt
                obtain ⟨b, o, rfl, hblt, hc⟩ := HX27.out.rd.cells3 hne
                obtain ⟨g0, g1, g2⟩ := hc j hlt
                rw [← hbj.cell (p := ⟨_, _, none⟩) hblt] at g0 g1 g2
                have hbw : b < wr.heap.size := Nat.lt_of_lt_of_le hblt hbj.size
                clear hc
                obtain ⟨b', o', rfl, hblt', hc⟩ := HRd.out.cells3 hne
                obtain ⟨d0, d1, d2⟩ := hc j hlt
                rw [← hbj.cell (p := ⟨_, _, none⟩) hblt'] at d0 d1 d2
                have hbw' : b' < wr.heap.size := Nat.lt_of_lt_of_le hblt' hbj.size
                clear hc
                generalize m[j] = y at *
                obtain ⟨y0, y1, y2⟩ := y
                simp only [] at g0 g1 g2 d0 d1 d2
                go_wp2_with fail
                go_quiet (fail)
                go_wp2_with fail
                go_roundw
                case rel => exact ⟨j + 1, by omega, by go_num, hbj.trans (below_drewN (Below.refl _ _) _)⟩
                case measure => simp [intOf]; omega
              · obtain rfl : j = m.length := by omega
                have HB8 := hB7.trans (hbj.mono hB7.size)
                have HX3j := hidd (HX37.out.next hbj (Nat.le_refl _))
                have hmj := hidd (hm7.out.next hbj (Nat.le_refl _))
                go_wp2_with fail
                refine (alive7_c _).mono ?_; rintro e w10 ⟨rfl, hb10⟩
                have HW := hidd (iWith_c (w.heap.size + 1) m v w10 (hmj.out.next hb10 (Nat.le_refl _)) (by omega))
                go_wp2_with fail
                refine HW.out.mono ?_; rintro e w11 ⟨⟨v11, rfl, ho11⟩, hb11⟩
                rw [HWV.out] at ho11
                obtain ⟨A11, c11, rfl⟩ := own_shape ho11
                have HSame := hidd (sameSpans_c A11 A3 _ _ c11 c3 WV WV w11 (Own.rd ho11 rfl) ((HX3j.out.next hb10 (Nat.le_refl _)).next hb11 (Nat.le_refl _)).rd rfl rfl (by omega) (by omega))
                clear ho11 HW
                go_wp2_with fail
                refine HSame.out.mono ?_; rintro e w12 ⟨rfl, hb12⟩
                go_wp2_with fail
                go_ret
                exact ⟨by simp, HB8.trans ((hb10.trans ((hb11.trans (hb12.mono hb11.size)).mono hb10.size)).mono HB8.size)⟩
  all_goals
    go_enter Try.func10, Try.ntmps10
    go_wp2_with fail
    refine (alive7_c _).mono ?_; rintro e w1 ⟨rfl, hb⟩
    go_wp2_with fail
    go_ret
    exact ⟨rfl, (below_alloc w _).trans (hb.mono (by simp))⟩
end Go.Proofs.Ytiokkoeciijkoaa
