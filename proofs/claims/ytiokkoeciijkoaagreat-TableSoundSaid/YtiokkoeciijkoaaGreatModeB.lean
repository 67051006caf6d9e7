/- mode: locks, Raise, asked, Norm. -/
import Derived.Test.YtiokkoeciijkoaaGreatModeA
import Derived.Test.YtiokkoeciijkoaaGreatRowX
namespace Go.Proofs.YtiokkoeciijkoaaGreat
set_option linter.unusedVariables false
set_option linter.unusedSimpArgs false
open Go.RowKit

theorem infoLock : (Tryz.prog.info? 101).map (fun i => (i.zero, i.size, i.bytes)) = some (some (.agg #[.int .i64 0, .int .i64 0, .int .i64 0]), 3, 24) := by kernel_rfl
abbrev lkV (a b m : Int) : Value := .agg #[.int .i64 a, .int .i64 b, .int .i64 m]

set_option maxHeartbeats 4000000 in
set_option maxRecDepth 100000 in
theorem mlocks_c {F : Nat → Prop} (p : Nat) (xs : List (Pt Int)) (w : World) (h : IM F w p xs) (hl : xs.length ≤ 100000000) :
    Calls Tryz.prog 149 #[ptr p] w fun e w' => (∃ u, e = .returned u ∧ Own 3 encP 101 w' w.heap.size u xs) ∧ Below w.heap.size w w' := by
  have HA := hidd (iAll_c p xs w h (by omega))
  clear h
  go_enter Tryz.func149, Tryz.ntmps149
  go_wp2_with fail
  refine HA.out.mono ?_; rintro e w1 ⟨⟨v1, rfl, ho1⟩, hb1⟩
  obtain ⟨A, c, rfl⟩ := own_shape ho1
  have HR := hidd (Own.rd ho1 rfl)
  clear ho1
  go_wp2_with fail
  go_loopw [3, 9] (fun u i wr => ∃ k : Nat, k ≤ xs.length ∧ i = .int .i64 k ∧ Hid (Own 3 encP 101 wr w1.heap.size u (xs.take k)) ∧ Below w1.heap.size w1 wr) (fun _ i _ => xs.length - (intOf i).toNat)
  case atStart => exact ⟨0, by omega, rfl, World.ownsRow_nil _ _ _ _, Below.refl _ _⟩
  case round =>
    obtain ⟨k, hk, rfl, hown, hbr⟩ := hrel
    by_cases hlt : k < xs.length
    · have hne : xs ≠ [] := by intro e; rw [e] at hlt; simp at hlt
      obtain ⟨b, o, rfl, hblt, hc⟩ := HR.out.cells3 hne
      obtain ⟨g0, g1, g2⟩ := hc k hlt
      rw [← hbr.cell (p := ⟨_, _, none⟩) hblt] at g0 g1 g2
      have hbw : b < wr.heap.size := Nat.lt_of_lt_of_le hblt hbr.size
      clear hc
      have HT := hidd (List.take_succ_eq_append_getElem hlt)
      have hpl : (xs.take k).length ≤ 100000000 := by rw [List.length_take]; omega
      generalize xs[k] = y at *
      obtain ⟨x0, x1, xv⟩ := y
      simp only [] at g0 g1 g2
      go_wp2_with (at_builtin; refine wpList_app_new Tryz.underlying85 infoLock rfl (by decide) hown.out hbr.size ?c1 rfl rfl rfl rfl ?c2 ?c3 ?c4 ?c5 ?c6 (fun v' w' hown' hb' => ?_))
      case c1 => exact below_alloc _ _
      try (case c2 => simp)
      try (case c3 => rfl)
      case c4 => simp [Value.oneCell']
      case c5 => unfold maxLen; omega
      case c6 => omega
      go_roundw
      case rel => exact ⟨k + 1, by omega, by go_num, by show Own _ _ _ _ _ _ _; rw [HT.out]; unfold Own; rw [List.flatMap_append, List.length_append]; exact hown', hbr.trans hb'⟩
      case measure => simp [intOf]; omega
    · obtain rfl : k = xs.length := by omega
      rw [List.take_length] at hown
      go_wp2_with fail
      go_ret
      exact ⟨⟨_, rfl, own_base hown.out hb1.size⟩, hb1.trans (hbr.mono hb1.size)⟩

set_option maxHeartbeats 4000000 in
set_option maxRecDepth 100000 in
theorem mRaise_c {F : Nat → Prop} (L : List Int) (p : Nat) (xs : List (Pt Int)) (s0 s1 v : Int) (w : World) (h : IM F w p xs) (hF : ∀ k, F k → k < w.heap.size) (hc : CanP xs) (hL : InL L xs) (h0 : s0 ∈ L) (h1 : s1 ∈ L) (hl : L.length ≤ 10000000) :
    Calls Tryz.prog 156 #[ptr p, lkV s0 s1 v] w fun e w' => e = .returned (.tuple #[]) ∧ IM F w' p (raiseF s0 s1 v xs) ∧ BelX p w.heap.size w w' := by
  have hpw := h.lt
  have hxl := hL.len hc
  have HF := hidd hF
  have HB0 := hidd (below_alloc w (.cells #[.int .i64 s0, .int .i64 s1, .int .i64 v] 101))
  have hm0 := hidd (h.next HB0.out (Nat.le_refl _))
  have HP := hidd (iParts_c p xs s0 s1 _ hm0.out (by omega))
  have HX := hidd (Bk.new w #[.int .i64 s0, .int .i64 s1, .int .i64 v] 101 rfl)
  have hp2 := hidd (partsP_inL (s0 := s0) (s1 := s1) hL h0 h1)
  have hplen := partsP_len s0 s1 xs
  have HRF : Hid (setsF (fun u => max u v) (partsP s0 s1 xs) (setF s0 s1 v xs) = raiseF s0 s1 v xs) := rfl
  have hsc := hidd (setF_can (s0 := s0) (s1 := s1) (v := v) hc)
  have hsl := hidd (setF_inL (v := v) hc hL h0 h1)
  have HC := hidd hc
  have hbig : Hid (∀ k, (setsF (fun u => max u v) ((partsP s0 s1 xs).take k) (setF s0 s1 v xs)).length ≤ 10000000) := fun k =>
    Nat.le_trans ((setsF_inL hsc.out hsl.out (fun x hx => hp2.out x (List.mem_of_mem_take hx))).len (setsF_can hsc.out)) hl
  generalize raiseF s0 s1 v xs = R at *
  generalize partsP s0 s1 xs = P at *
  clear h hF hc hL h0 h1
  go_enter Tryz.func156, Tryz.ntmps156
  go_wp2_with fail
  refine HP.out.mono ?_; rintro e w1 ⟨⟨v1, rfl, ho1⟩, hb1⟩
  obtain ⟨A, c, rfl⟩ := own_shape ho1
  have HR := hidd (RX.own ho1 rfl (show p < _ by simp; omega))
  have hB1 := HB0.out.trans (hb1.mono (by simp))
  have hX1 := hidd (HX.out.next hb1 (Nat.le_refl _))
  have hx1 := hX1.out.bx3
  have HS := hidd (fSet_c p xs s0 s1 v w1 (hm0.out.next hb1 (Nat.le_refl _)) (fun k hk => Nat.lt_of_lt_of_le (HF.out k hk) hB1.size) HC.out (by omega))
  clear ho1 HP HX hb1
  go_wp2_with fail
  refine HS.out.mono ?_; rintro e w2 ⟨rfl, hm2, hb2⟩
  have HR2 := hidd (HR.out.nextX hb2 (Nat.le_refl _))
  have hX2 := hidd (hb2.bk hX1.out hX1.out.lt (by omega))
  have hB2 : BelX p w.heap.size w w2 := (BelX.of hB1).trans (hb2.mono hB1.size)
  have hm2' := hidd hm2
  clear HS HR hX1 hm2 hx1 hb2
  go_wp2_with fail
  go_loopw [19] (fun i wr => ∃ k : Nat, k ≤ P.length ∧ i = .int .i64 k ∧ Hid (IM F wr p (setsF (fun u => max u v) (P.take k) (setF s0 s1 v xs))) ∧ Hid (RX 3 encP wr A P p) ∧ Hid (Bk wr w.heap.size #[.int .i64 s0, .int .i64 s1, .int .i64 v] 101) ∧ BelX p w.heap.size w wr) (fun i _ => P.length - (intOf i).toNat)
  case atStart => exact ⟨0, by omega, rfl, hm2'.out, HR2.out, hX2.out, hB2⟩
  case round =>
    obtain ⟨k, hk, rfl, hm, hr, hX, hbr⟩ := hrel
    by_cases hlt : k < P.length
    · have hne : P ≠ [] := by intro e; rw [e] at hlt; simp at hlt
      obtain ⟨b, o, hA, hblt, hcc⟩ := hr.out.rd.cells3 hne
      subst hA
      obtain ⟨g0, g1, g2⟩ := hcc k hlt
      clear hcc
      have HT := hidd (setsF_take (g := fun u => max u v) (m := setF s0 s1 v xs) hlt)
      have hcan := hidd (setsF_can (g := fun u => max u v) (P := P.take k) hsc.out)
      have hln := hbig.out k
      generalize setsF (fun u => max u v) (P.take k) (setF s0 s1 v xs) = m at *
      generalize P[k] = y at *
      obtain ⟨x0, x1, xv⟩ := y
      simp only [] at g0 g1 g2
      have hx := hX.out.bx3
      have hbw : b < wr.heap.size := hblt
      have hxx : w.heap.size < wr.heap.size := hX.out.lt
      have HJ := hidd (mJoin_c xv v)
      have HS : Hid (Calls Tryz.prog 33 #[ptr p, spV x0 x1, .int .i64 (max xv v)] _ _) := fSet_c p m x0 x1 (max xv v) (wr.alloc (.cells #[.int .i64 x0, .int .i64 x1, .int .i64 xv] 159)).drew (show IM F (wr.alloc (.cells #[.int .i64 x0, .int .i64 x1, .int .i64 xv] 159)).drew p m from (hm.out.next (below_alloc _ _) (Nat.le_refl _)).next (below_drewN (Below.refl _ _) 1) (Nat.le_refl _)) (fun k hk => by have := HF.out k hk; have := hbr.size; show k < (wr.alloc _).heap.size; simp; omega) hcan.out (by omega)
      generalize hM : max xv v = M at *
      have HMX := hidd hM
      clear hM
      go_wp2_with fail
      refine wp_tail 8 (by kernel_rfl) ?_
      simp only [List.take_succ_cons, List.take_zero, List.drop_succ_cons, List.drop_zero]
      repeat still_step
      still_call (HJ.out _)
      refine wpStill_nil ?_
      go_wp2_with fail
      refine HS.out.mono ?_; rintro e w4 ⟨rfl, hm4, hb4⟩
      have hq : BelX p wr.heap.size wr w4 := (BelX.of ((below_alloc wr (.cells #[.int .i64 x0, .int .i64 x1, .int .i64 xv] 159)).trans (below_drewN (Below.refl _ _) 1))).trans (hb4.mono (by show _ ≤ (wr.alloc _).heap.size; simp))
      go_wp2_with fail
      go_roundw
      case rel => exact ⟨k + 1, by omega, by go_num, by show IM _ _ _ _; rw [HT.out]; exact hm4, hr.out.nextX hq (Nat.le_refl _), hq.bk hX.out hX.out.lt (by omega), hbr.trans (hq.mono hbr.size)⟩
      case measure => simp [intOf]; omega
    · obtain rfl : k = P.length := by omega
      rw [List.take_length, HRF.out] at hm
      go_wp2_with fail
      refine bodyPost_end (results_none rfl _ _ _) rfl ?_
      exact ⟨rfl, hm.out, hbr⟩
end Go.Proofs.YtiokkoeciijkoaaGreat
