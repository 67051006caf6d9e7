/- ImapWith, walked. -/
import Derived.Test.YtiokkoeciijkoaaOps7
namespace Go.Proofs.Ytiokkoeciijkoaa
set_option linter.unusedVariables false
set_option linter.unusedSimpArgs false
open Go.RowKit

def kind2 (o : Op7) : Bool := o.1 == 2
theorem kind2_yes {o : Op7} (h : o.1 = 2) : kind2 o = true := by simp [kind2, h]
theorem kind2_no {o : Op7} (h : ¬ o.1 = 2) : kind2 o = false := by simp [kind2, h]
theorem with_get {n v : Int} {xs : List (Pt Int)} (h : CanP xs) : anyS n (withP v xs) = ((getP n xs).isSome && ((getP n xs).getD 0 == v)) := by
  rw [Bool.eq_iff_iff, anyS_iff, withP_mem, ← getP_at h.dis]
  cases getP n xs with
  | none => simp
  | some u => simp

set_option maxHeartbeats 4000000 in
set_option maxRecDepth 100000 in
theorem ImapWith_c (A : Option Addr) (n c : Nat) (ops : List Op7) (v block : Int) (w : World) (h : Rd 5 encO w A ops) (hn : n = ops.length) (hI : ∀ x ∈ ops, okO x) (_ : I64 v) (_ : I64 block) :
    Calls Try.prog 9 #[.slice A n c, .int .i64 v, .int .i64 block] w fun e w' => e = .returned (.bool true) ∧ Below w.heap.size w w' := by
  subst hn
  by_cases hl : 40 < ops.length
  · go_enter Try.func9, Try.ntmps9
    go_wp2_with fail
    refine (alive7_c _).mono ?_; rintro e w1 ⟨rfl, hb⟩
    go_wp2_with fail
    go_ret
    exact ⟨rfl, hb⟩
  · have HR := hidd h
    have HI := hidd hI
    clear h hI
    go_enter Try.func9, Try.ntmps9
    go_wp2_with fail
    refine (iNew_c w).mono ?_; rintro e w1 ⟨rfl, hn1, hb1⟩
    have hm1 := hn1 (fun k => k = w.heap.size)
    clear hn1
    go_wp2_with fail
    go_loopw [8] (fun i wr => ∃ k : Nat, k ≤ ops.length ∧ i = .int .i64 k ∧ Hid (IM (fun k => k = w.heap.size) wr w.heap.size (opsF (fun _ => false) kind2 (ops.take k))) ∧ Below w.heap.size w wr) (fun i _ => ops.length - (intOf i).toNat)
    case atStart => exact ⟨0, by omega, rfl, hm1, hb1⟩
    case round =>
      obtain ⟨k, hk, rfl, hm, hbr⟩ := hrel
      have HG := hidd (opsF_good (p := fun _ => false) (c := kind2) (okO_take HI.out k))
      have hgl : (opsF (fun _ => false) kind2 (ops.take k)).length ≤ 80 := by have := HG.out.len; rw [List.length_take] at this; omega
      by_cases hlt : k < ops.length
      · have hne : ops ≠ [] := by intro e; rw [e] at hlt; simp at hlt
        obtain ⟨b, o, rfl, hblt, hc⟩ := HR.out.cells5 hne
        obtain ⟨g0, g1, g2, g3, g4⟩ := hc k hlt
        rw [← hbr.cell (p := ⟨_, _, none⟩) hblt] at g0 g1 g2 g3 g4
        have hbw : b < wr.heap.size := Nat.lt_of_lt_of_le hblt hbr.size
        clear hc
        have HT := hidd (opsF_take (p := fun _ => false) (c := kind2) hlt)
        generalize opsF (fun _ => false) kind2 (ops.take k) = m at *
        generalize ops[k] = y at *
        obtain ⟨y0, y1, y2, y3, y4⟩ := y
        simp only [] at g0 g1 g2 g3 g4
        by_cases h2 : y0 = 2
        · have HC := hidd (fClear_c w.heap.size m y3 y4 wr hm.out (fun k hk => by rw [hk]; exact hm.out.lt) HG.out.can (by omega))
          have H1 : Hid (op1 (fun _ => false) kind2 m (y0, y1, y2, y3, y4) = clearF y3 y4 m) := by show _ = _; unfold op1; rw [if_neg (by simp), if_pos (kind2_yes h2)]
          subst h2
          go_wp2_with fail
          refine HC.out.mono ?_; rintro e w3 ⟨rfl, hm3, hb3⟩
          go_wp2_with fail
          go_roundw
          case rel => exact ⟨k + 1, by omega, by go_num, by show IM _ _ _ _; rw [HT.out, H1.out]; exact hm3, hbr.trans (hb3.below hbr.size (Nat.le_refl _))⟩
          case measure => simp [intOf]; omega
        · have HC := hidd (fSet_c w.heap.size m y3 y4 y1 wr.drew (show IM _ wr.drew _ _ from hm.out.next (below_drewN (Below.refl _ _) 1) (Nat.le_refl _)) (fun k hk => by rw [hk]; exact hm.out.lt) HG.out.can (by omega))
          have H1 : Hid (op1 (fun _ => false) kind2 m (y0, y1, y2, y3, y4) = setF y3 y4 y1 m) := by show _ = _; unfold op1; rw [if_neg (by simp), if_neg (by rw [kind2_no h2]; simp)]
          go_wp2_with fail
          refine wp_tail 11 (by kernel_rfl) ?_
          simp only [List.take_succ_cons, List.take_zero, List.drop_succ_cons, List.drop_zero]
          repeat still_step
          refine wpStill_nil ?_
          go_wp2_with fail
          refine HC.out.mono ?_; rintro e w3 ⟨rfl, hm3, hb3⟩
          go_wp2_with fail
          go_roundw
          case rel => exact ⟨k + 1, by omega, by go_num, by show IM _ _ _ _; rw [HT.out, H1.out]; exact hm3, hbr.trans ((below_drewN (Below.refl w.heap.size wr) 1).trans (hb3.below hbr.size (Nat.le_refl _)))⟩
          case measure => simp [intOf]; omega
      · obtain rfl : k = ops.length := by omega
        rw [List.take_length] at hm HG hgl
        generalize opsF (fun _ => false) kind2 ops = m at *
        have HW := hidd (iWith_c w.heap.size m v wr hm.out (by omega))
        have HA0 := hidd (with_get (n := block) (v := v) HG.out.can)
        have HWC := hidd (withP_can (v := v) HG.out.can)
        have hwl := withP_len v m
        go_wp2_with fail
        refine HW.out.mono ?_; rintro e w2 ⟨⟨v2, rfl, ho2⟩, hb2⟩
        obtain ⟨A2, c2, rfl⟩ := own_shape ho2
        have HR2 := hidd (Own.rd ho2 rfl)
        have hB2 := hbr.trans (hb2.mono hbr.size)
        have hm2 := hidd (hm.out.next hb2 (Nat.le_refl _))
        clear ho2 HW
        generalize withP v m = W at *
        go_wp2_with fail
        go_loopw [10, 11] (fun u i wr => ∃ k : Nat, k ≤ W.length ∧ i = .int .i64 k ∧ u = .bool (anyS block (W.take k)) ∧ Below w2.heap.size w2 wr) (fun _ i _ => W.length - (intOf i).toNat)
        case atStart => exact ⟨0, by omega, rfl, rfl, Below.refl _ _⟩
        case round =>
          obtain ⟨k, hk, rfl, rfl, hbs⟩ := hrel
          by_cases hlt : k < W.length
          · have hne : W ≠ [] := by intro e; rw [e] at hlt; simp at hlt
            obtain ⟨b, o, rfl, hblt, hc⟩ := HR2.out.cells2 hne
            obtain ⟨g0, g1⟩ := hc k hlt
            rw [← hbs.cell (p := ⟨_, _, none⟩) hblt] at g0 g1
            have hA := hidd (anyS_take (block := block) hlt)
            have hbw : b < wr.heap.size := Nat.lt_of_lt_of_le hblt hbs.size
            cases hin : anyS block (W.take k)
            all_goals
              have HIN := hidd hin; clear hin
              rcases k with _ | k
              · clear hc
                simp only [Nat.zero_mul, Nat.add_zero] at g0 g1
                rw [show ((0 : Nat) : Int) = 0 from rfl]
                go_wp2_with fail
                try (refine (sHas_c _ _ _ _).mono ?_; rintro e w3 ⟨rfl, hb3⟩)
                try go_wp2_with fail
                go_quiet (fail)
                go_wp2_with fail
                go_roundw
                case rel => exact ⟨1, by omega, rfl, by rw [hA.out, HIN.out]; simp, by first | exact hbs.trans (below_drewN (Below.refl _ _) _) | exact (hbs.trans (hb3.mono hbs.size)).trans (below_drewN (Below.refl _ _) _)⟩
                case measure => simp [intOf]; omega
              · obtain ⟨g2, g3⟩ := hc k (by omega)
                rw [← hbs.cell (p := ⟨_, _, none⟩) hblt] at g2 g3
                have hsep : W[k].2 < W[k + 1].1 := List.pairwise_iff_getElem.1 HWC.out.sep k (k + 1) (by omega) hlt (by omega)
                have hdc : decide (W[k + 1].1 ≤ W[k].2) = false := by simp; omega
                clear hc
                rw [show ((k + 1 : Nat) : Int) = (k : Int) + 1 from rfl]
                go_wp2_with fail
                try
                  refine (sHas_c _ _ _ _).mono ?_; rintro e w3 ⟨rfl, hb3⟩
                  have q1 := (hb3.cell (p := ⟨_, _, none⟩) hbw).trans g0
                  have q2 := (hb3.cell (p := ⟨_, _, none⟩) hbw).trans g3
                  have hbw3 : b < w3.heap.size := Nat.lt_of_lt_of_le hbw hb3.size
                  go_wp2_with fail
                go_quiet (fail)
                go_wp2_with fail
                go_roundw
                case rel => exact ⟨k + 1 + 1, by omega, by go_num, by rw [hA.out, HIN.out]; simp, by first | exact hbs.trans (below_drewN (Below.refl _ _) _) | exact (hbs.trans (hb3.mono hbs.size)).trans (below_drewN (Below.refl _ _) _)⟩
                case measure => simp [intOf]; omega
          · obtain rfl : k = W.length := by omega
            rw [List.take_length]
            have hB3 := hB2.trans (hbs.mono hB2.size)
            have HGet := hidd (iGet_c w.heap.size m block wr (hm2.out.next hbs (Nat.le_refl _)) (by omega))
            have HX : Hid (anyS block W = ((getP block m).isSome && ((getP block m).getD 0 == v))) := HA0.out
            generalize (getP block m).getD 0 = g at *
            generalize (getP block m).isSome = gs at *
            generalize anyS block W = an at *
            cases gs
            all_goals
              go_wp2_with fail
              refine HGet.out.mono ?_; rintro e w4 ⟨rfl, hb4⟩
              go_wp2_with fail
              refine (alive7_c _).mono ?_; rintro e w5 ⟨rfl, hb5⟩
              go_wp2_with fail
              go_ret
              refine ⟨?_, hB3.trans ((hb4.mono hB3.size).trans (hb5.mono (Nat.le_trans hB3.size hb4.size)))⟩
              rw [HX.out]
              simp
end Go.Proofs.Ytiokkoeciijkoaa
