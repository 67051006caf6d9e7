/- ltab: fits, hinders, claim, claims, free, dead. -/
import Derived.Test.YtiokkoeciijkoaaGreatTabM
import Derived.Test.YtiokkoeciijkoaaGreatPartT
import Derived.Test.YtiokkoeciijkoaaGreatLibSp
namespace Go.Proofs.YtiokkoeciijkoaaGreat
set_option linter.unusedVariables false
set_option linter.unusedSimpArgs false
section
open Go.RowKit

theorem fitsIn_no {m : Int} {P : List (Pt Int)} {j : Nat} (hj : j < P.length) (h : fitB P[j].2.2 m = false) : fitsIn m P = false := by
  unfold fitsIn; rw [List.all_eq_false]; exact ⟨P[j], List.getElem_mem hj, by simp [h]⟩
theorem fitsIn_yes {m : Int} {P : List (Pt Int)} (h : ∀ j (hj : j < P.length), fitB P[j].2.2 m = true) : fitsIn m P = true := by
  unfold fitsIn; rw [List.all_eq_true]; intro x hx; obtain ⟨j, hj, rfl⟩ := List.getElem_of_mem hx; exact h j hj
theorem fitsF_no {held : Nat → List (Pt Int)} {n : Nat} {node s0 s1 m : Int} {k : Nat} (hk : k < n) (h1 : ¬ (k : Int) + 1 = node) (h : fitsIn m (partsP s0 s1 (held (k + 1))) = false) : fitsF held n node s0 s1 m = false := by
  unfold fitsF; rw [List.all_eq_false]; exact ⟨k, List.mem_range.2 hk, by simp [h1, h]⟩
theorem fitsF_yes {held : Nat → List (Pt Int)} {n : Nat} {node s0 s1 m : Int} (h : ∀ k, k < n → (k : Int) + 1 = node ∨ fitsIn m (partsP s0 s1 (held (k + 1))) = true) : fitsF held n node s0 s1 m = true := by
  unfold fitsF; rw [List.all_eq_true]; intro k hk; rcases h k (List.mem_range.1 hk) with h | h <;> simp [h]

set_option maxHeartbeats 4000000 in
set_option maxRecDepth 100000 in
theorem tfits_c (t : Nat) (T : Tb) (ps : Nat → Nat) (v : Value) (node s0 s1 m : Int) (w : World) (h : TAt w t T ps v) (hT : TOk T) :
    Calls Tryz.prog 162 #[ptr t, .int .i64 node, lkV s0 s1 m] w fun e w' => e = .returned (.bool (fitsF T.held T.n node s0 s1 m)) ∧ Below w.heap.size w w' := by
  have HA := hidd h
  have HT := hidd hT
  have HB0 := hidd (below_alloc w (.cells #[.int .i64 s0, .int .i64 s1, .int .i64 m] 101))
  have HXB := hidd (Bk.new w #[.int .i64 s0, .int .i64 s1, .int .i64 m] 101 rfl)
  have HNO := hidd (fun k => @fitsF_no T.held T.n node s0 s1 m k)
  have HYES := hidd (@fitsF_yes T.held T.n node s0 s1 m)
  generalize fitsF T.held T.n node s0 s1 m = R at *
  have hn := hT.n
  clear h hT
  obtain ⟨hn1, hn2⟩ := hn
  go_enter Tryz.func162, Tryz.ntmps162
  go_wp2_with fail
  go_loopw [7] (fun o wr => ∃ k : Nat, k ≤ T.n ∧ o = .int .i64 ((k : Int) + 1) ∧ Hid (∀ j, j < k → (j : Int) + 1 = node ∨ fitsIn m (partsP s0 s1 (T.held (j + 1))) = true) ∧ Below (w.heap.size + 1) (w.alloc (.cells #[.int .i64 s0, .int .i64 s1, .int .i64 m] 101)) wr) (fun o _ => (T.n + 1 - (intOf o)).toNat)
  case atStart => exact ⟨0, by omega, rfl, fun j hj => absurd hj (by omega), Below.refl _ _⟩
  case round =>
    obtain ⟨k, hk, rfl, hall, hbr⟩ := hrel
    have hBw : Below w.heap.size w wr := HB0.out.trans (hbr.mono (by omega))
    have HAr := hidd (HA.out.next hBw (Nat.le_refl _))
    have h0 := HAr.out.tc.c0
    have htl := HAr.out.tc.lt
    have hbx := hidd (HXB.out.next hbr (by simp))
    have hb3 := hbx.out.bx3
    by_cases hlt : k < T.n
    · have hkn : (k : Int) + 1 ≤ T.n := by omega
      by_cases he : (k : Int) + 1 = node
      · have HL : Hid (∀ j, j < k + 1 → (j : Int) + 1 = node ∨ fitsIn m (partsP s0 s1 (T.held (j + 1))) = true) := by
          intro j hj
          by_cases e : j < k
          · exact hall.out j e
          · have : j = k := by omega
            subst this; exact .inl he
        have hbe : ((k : Int) + 1 == node) = true := by simp [he]
        clear he
        go_wp2_with fail
        go_roundw
        case rel => exact ⟨k + 1, by omega, by go_num, HL.out, hbr⟩
        case measure => simp [intOf]; omega
      · have hbe : ((k : Int) + 1 == node) = false := by simp [he]
        have HE := hidd he
        clear he
        have hcm := HAr.out.tc.cm (k + 1) (by omega)
        have hfz := HAr.out.tc.fz (1 + (k + 1))
        have hi0 : 0 ≤ (k : Int) + 1 := by omega
        have hi1 : (k : Int) + 1 < 17 := by omega
        go_wp2_with fail
        go_upto_region 5 with (fail)
        have HP : Hid (∀ W, Below wr.heap.size wr W → Calls Tryz.prog 40 #[ptr (ps (k + 1)), spV s0 s1] W fun e w' => (∃ v, e = .returned v ∧ Own 3 encP 159 w' W.heap.size v (partsP s0 s1 (T.held (k + 1)))) ∧ Below W.heap.size W w') := fun W hW => iParts_c _ _ s0 s1 W ((HAr.out.maps (k + 1) (by omega)).next hW (Nat.le_refl _)) (by have := (HT.out.held (k + 1)).len; omega)
        have hPl : (partsP s0 s1 (T.held (k + 1))).length ≤ 4096 := Nat.le_trans (partsP_len _ _ _) (HT.out.held (k + 1)).len
        have HNK : Hid (fitsIn m (partsP s0 s1 (T.held (k + 1))) = false → R = false) := fun h => HNO.out k hlt HE.out h
        have HYK : Hid (fitsIn m (partsP s0 s1 (T.held (k + 1))) = true → ∀ j, j < k + 1 → (j : Int) + 1 = node ∨ fitsIn m (partsP s0 s1 (T.held (j + 1))) = true) := by
          intro h j hj
          by_cases e : j < k
          · exact hall.out j e
          · have : j = k := by omega
            subst this; exact .inr h
        generalize partsP s0 s1 (T.held (k + 1)) = P at *
        go_cut [29, 30, 31] (fun v5 n5 z5 wx => Hid (Own 3 encP 159 wx wr.heap.size v5 P) ∧ n5 = .int .i64 P.length ∧ z5 = .int .i64 0 ∧ Below wr.heap.size wr wx)
        case first =>
          go_region_law (first
            | (go_simp; go_at_call 40; refine (HP.out _ (below_drewN (Below.refl _ _) 1)).mono ?_; rintro e w5 ⟨⟨v5, rfl, ho5⟩, hb5⟩; obtain ⟨A5, c5, rfl⟩ := own_shape ho5)
            | fail)
          all_goals
            go_wp2_with fail
            go_meet
            exact ⟨ho5, rfl, rfl, (below_drewN (Below.refl _ _) 1).trans hb5⟩
        case rest =>
          obtain ⟨ho5, rfl, rfl, hB5⟩ := hcut
          obtain ⟨A5, c5, rfl⟩ := own_shape ho5.out
          have HR5 := hidd (Own.rd ho5.out rfl)
          have hbx5 := hidd (hbx.out.next hB5 (Nat.le_refl _))
          have hBr5 := hbr.trans (hB5.mono (by have := hbr.size; simpa using this))
          clear ho5
          obtain ⟨wq, hwq⟩ : ∃ wq : World, wq = wr := ⟨_, rfl⟩
          obtain ⟨w5, rfl⟩ : ∃ w5 : World, w5 = wc := ⟨_, rfl⟩
          subst hwq
          go_wp2_with fail
          go_loopw [31] (fun i wr => ∃ j : Nat, j ≤ P.length ∧ i = .int .i64 j ∧ Hid (∀ q (h : q < P.length), q < j → fitB P[q].2.2 m = true) ∧ Below w5.heap.size w5 wr) (fun i _ => P.length - (intOf i).toNat)
          case atStart => exact ⟨0, by omega, rfl, fun q _ h => absurd h (by omega), Below.refl _ _⟩
          case round =>
            obtain ⟨j, hj, rfl, hfit, hbs⟩ := hrel
            by_cases hlj : j < P.length
            · have hne : P ≠ [] := by intro e; rw [e] at hlj; simp at hlj
              obtain ⟨b, o, rfl, hblt, hc⟩ := HR5.out.cells3 hne
              obtain ⟨g0, g1, g2⟩ := hc j hlj
              rw [← hbs.cell (p := ⟨_, _, none⟩) hblt] at g0 g1 g2
              have hbw : b < wr.heap.size := Nat.lt_of_lt_of_le hblt hbs.size
              clear hc
              have hbb := (hbx5.out.next hbs (Nat.le_refl _)).bx3
              have HF0 : Hid (fitB P[j].2.2 m = false → fitsIn m P = false) := fun h => fitsIn_no hlj h
              have HF1 : Hid (fitB P[j].2.2 m = true → ∀ q (h : q < P.length), q < j + 1 → fitB P[q].2.2 m = true) := by
                intro h q hq hqj
                by_cases e : q < j
                · exact hfit.out q hq e
                · have : q = j := by omega
                  subst this; exact h
              generalize P[j] = y at *
              obtain ⟨y0, y1, yv⟩ := y
              simp only [] at g0 g1 g2
              have KF := hidd (mFit_c yv m)
              cases hf : fitB yv m with
              | false =>
                have HF := hidd hf
                clear hf
                go_wp2_with fail
                refine (KF.out _).mono ?_; rintro e w7 ⟨rfl, rfl⟩
                rw [HF.out]
                go_wp2_with fail
                go_ret
                exact ⟨by rw [HNK.out (HF0.out HF.out)]; rfl, (HB0.out.trans (hBr5.mono (by omega))).trans ((hbs.trans ((below_alloc wr _).mono hbs.size)).mono (by have := hBr5.size; simp at this; omega))⟩
              | true =>
                have HF := hidd hf
                clear hf
                go_wp2_with fail
                refine (KF.out _).mono ?_; rintro e w7 ⟨rfl, rfl⟩
                rw [HF.out]
                go_wp2_with fail
                go_roundw
                case rel => exact ⟨j + 1, by omega, by go_num, HF1.out HF.out, hbs.trans ((below_alloc _ _).mono hbs.size)⟩
                case measure => simp [intOf]; omega
            · obtain rfl : j = P.length := by omega
              go_wp2_with fail
              go_roundw
              case rel => exact ⟨k + 1, by omega, by go_num, HYK.out (fitsIn_yes fun q hq => hfit.out q hq hq), hBr5.trans (hbs.mono (by have := hBr5.size; simp at this; omega))⟩
              case measure => simp [intOf]; omega
    · obtain rfl : k = T.n := by omega
      have hd : decide ((T.n : Int) + 1 ≤ (T.n : Int)) = false := by simp; omega
      go_wp2_with fail
      go_ret
      exact ⟨by rw [HYES.out hall.out]; rfl, hBw⟩
end

section
open Go.RowKit

set_option maxHeartbeats 8000000 in
set_option maxRecDepth 100000 in
theorem thinders_c (t : Nat) (T : Tb) (ps : Nat → Nat) (v : Value) (node s0 s1 m : Int) (A : Option Addr) (na c : Nat) (l : List Wt) (w : World) (h : TAt w t T ps v) (hn : T.n ≤ 16) (hh : ∀ i, HOk (T.held i)) (hr : Rd 5 encW w A l) (hna : na = l.length) (hl : l.length ≤ 1000000) :
    Calls Tryz.prog 204 #[ptr t, .int .i64 node, lkV s0 s1 m, .slice A na c] w fun e w' => e = .returned (.tuple #[.int .i64 (hindF T.held T.n node s0 s1 m l), .bool (decide (hindF T.held T.n node s0 s1 m l < s1))]) ∧ Below w.heap.size w w' := by
  subst hna
  have HA := hidd h
  have HH := hidd hh
  have HRL := hidd hr
  have HB0 := hidd (below_alloc w (.cells #[.int .i64 s0, .int .i64 s1, .int .i64 m] 101))
  have HXB := hidd (Bk.new w #[.int .i64 s0, .int .i64 s1, .int .i64 m] 101 rfl)
  have HDEF : Hid (hindF T.held T.n node s0 s1 m l = firstAhead node s0 s1 m (firstHeld T.held T.n node s0 s1 m s1) l) := rfl
  generalize hindF T.held T.n node s0 s1 m l = R at *
  clear h hh hr
  go_enter Tryz.func204, Tryz.ntmps204
  go_wp2_with fail
  go_loopw [10, 11] (fun f o wr => ∃ k : Nat, k ≤ T.n ∧ o = .int .i64 ((k : Int) + 1) ∧ f = .int .i64 (firstHeld T.held k node s0 s1 m s1) ∧ Below (w.heap.size + 1) (w.alloc (.cells #[.int .i64 s0, .int .i64 s1, .int .i64 m] 101)) wr) (fun _ o _ => (T.n + 1 - (intOf o)).toNat)
  case atStart => exact ⟨0, by omega, rfl, rfl, Below.refl _ _⟩
  case round =>
    obtain ⟨k, hk, rfl, rfl, hbr⟩ := hrel
    have hBw : Below w.heap.size w wr := HB0.out.trans (hbr.mono (by omega))
    have HAr := hidd (HA.out.next hBw (Nat.le_refl _))
    have h0 := HAr.out.tc.c0
    have htl := HAr.out.tc.lt
    have hbx := hidd (HXB.out.next hbr (by simp))
    have hb3 := hbx.out.bx3
    by_cases hlt : k < T.n
    · have hkn : (k : Int) + 1 ≤ T.n := by omega
      by_cases he : (k : Int) + 1 = node
      · have hbe : ((k : Int) + 1 == node) = true := by simp [he]
        have HE := hidd (firstHeld_no T.held k node s0 s1 m s1 he)
        clear he
        generalize firstHeld T.held k node s0 s1 m s1 = F at *
        go_wp2_with fail
        go_roundw
        case rel => exact ⟨k + 1, by omega, by go_num, by rw [HE.out], hbr⟩
        case measure => simp [intOf]; omega
      · have hbe : ((k : Int) + 1 == node) = false := by simp [he]
        have HE := hidd (firstHeld_at T.held k node s0 s1 m s1 he)
        clear he
        generalize firstHeld T.held k node s0 s1 m s1 = F at *
        have hcm := HAr.out.tc.cm (k + 1) (by omega)
        have hfz := HAr.out.tc.fz (1 + (k + 1))
        have hi0 : 0 ≤ (k : Int) + 1 := by omega
        have hi1 : (k : Int) + 1 < 17 := by omega
        go_upto_region 6 with (fail)
        have HP : Hid (∀ W, Below wr.heap.size wr W → Calls Tryz.prog 40 #[ptr (ps (k + 1)), spV s0 s1] W fun e w' => (∃ v, e = .returned v ∧ Own 3 encP 159 w' W.heap.size v (partsP s0 s1 (T.held (k + 1)))) ∧ Below W.heap.size W w') := fun W hW => iParts_c _ _ s0 s1 W ((HAr.out.maps (k + 1) (by omega)).next hW (Nat.le_refl _)) (by have := (HH.out (k + 1)).len; omega)
        have hPl : (partsP s0 s1 (T.held (k + 1))).length ≤ 4096 := Nat.le_trans (partsP_len _ _ _) (HH.out (k + 1)).len
        generalize partsP s0 s1 (T.held (k + 1)) = P at *
        go_cut [40, 41, 42] (fun v5 n5 z5 wx => Hid (Own 3 encP 159 wx wr.heap.size v5 P) ∧ n5 = .int .i64 P.length ∧ z5 = .int .i64 0 ∧ Below wr.heap.size wr wx)
        case first =>
          go_region_law (first
            | (go_simp; go_at_call 40; refine (HP.out _ (below_drewN (Below.refl _ _) 1)).mono ?_; rintro e w5 ⟨⟨v5, rfl, ho5⟩, hb5⟩; obtain ⟨A5, c5, rfl⟩ := own_shape ho5)
            | fail)
          all_goals
            go_wp2_with fail
            go_meet
            exact ⟨ho5, rfl, rfl, (below_drewN (Below.refl _ _) 1).trans hb5⟩
        case rest =>
          obtain ⟨ho5, rfl, rfl, hB5⟩ := hcut
          obtain ⟨A5, c5, rfl⟩ := own_shape ho5.out
          have HR5 := hidd (Own.rd ho5.out rfl)
          have hbx5 := hidd (hbx.out.next hB5 (Nat.le_refl _))
          have hBr5 := hbr.trans (hB5.mono (by have := hbr.size; simpa using this))
          clear ho5
          obtain ⟨wq, hwq⟩ : ∃ wq : World, wq = wr := ⟨_, rfl⟩
          obtain ⟨w5, rfl⟩ : ∃ w5 : World, w5 = wc := ⟨_, rfl⟩
          subst hwq
          go_wp2_with fail
          go_loopw [10, 42] (fun f i wr => ∃ j : Nat, j ≤ P.length ∧ i = .int .i64 j ∧ f = .int .i64 (firstIn m F (P.take j)) ∧ Below w5.heap.size w5 wr) (fun _ i _ => P.length - (intOf i).toNat)
          case atStart => exact ⟨0, by omega, rfl, rfl, Below.refl _ _⟩
          case round =>
            obtain ⟨j, hj, rfl, rfl, hbs⟩ := hrel
            by_cases hlj : j < P.length
            · have hne : P ≠ [] := by intro e; rw [e] at hlj; simp at hlj
              obtain ⟨b, o, rfl, hblt, hc⟩ := HR5.out.cells3 hne
              obtain ⟨g0, g1, g2⟩ := hc j hlj
              rw [← hbs.cell (p := ⟨_, _, none⟩) hblt] at g0 g1 g2
              have hbw : b < wr.heap.size := Nat.lt_of_lt_of_le hblt hbs.size
              clear hc
              have hbb := (hbx5.out.next hbs (Nat.le_refl _)).bx3
              have HT := hidd (firstIn_take (m := m) (f := F) hlj)
              generalize firstIn m F (P.take j) = F1 at *
              generalize P[j] = y at *
              obtain ⟨y0, y1, yv⟩ := y
              simp only [] at g0 g1 g2
              have KF := hidd (mFit_c yv m)
              cases hf : fitB yv m with
              | false =>
                have HF := hidd hf
                have HT2 : Hid (firstIn m F (P.take (j + 1)) = min F1 y0) := by show _ = _; rw [HT.out, if_neg (by rw [hf]; simp)]
                clear hf
                go_wp2_with fail
                refine (KF.out _).mono ?_; rintro e w7 ⟨rfl, rfl⟩
                rw [HF.out]
                go_wp2_with fail
                go_roundw
                case rel => exact ⟨j + 1, by omega, by go_num, by rw [HT2.out], hbs.trans ((below_alloc _ _).mono hbs.size)⟩
                case measure => simp [intOf]; omega
              | true =>
                have HF := hidd hf
                have HT2 : Hid (firstIn m F (P.take (j + 1)) = F1) := by show _ = _; rw [HT.out, if_pos hf]
                clear hf
                go_wp2_with fail
                refine (KF.out _).mono ?_; rintro e w7 ⟨rfl, rfl⟩
                rw [HF.out]
                go_wp2_with fail
                go_roundw
                case rel => exact ⟨j + 1, by omega, by go_num, by rw [HT2.out], hbs.trans ((below_alloc _ _).mono hbs.size)⟩
                case measure => simp [intOf]; omega
            · obtain rfl : j = P.length := by omega
              have HTL : Hid (firstIn m F (P.take P.length) = firstIn m F P) := by show _ = _; rw [List.take_length]
              go_wp2_with fail
              go_roundw
              case rel => exact ⟨k + 1, by omega, by go_num, by rw [HTL.out, HE.out], hBr5.trans (hbs.mono (by have := hBr5.size; simp at this; omega))⟩
              case measure => simp [intOf]; omega
    · obtain rfl : k = T.n := by omega
      have hd : decide ((T.n : Int) + 1 ≤ (T.n : Int)) = false := by simp; omega
      have HRL2 := hidd (HRL.out.below hBw (Nat.le_refl _))
      generalize firstHeld T.held T.n node s0 s1 m s1 = F0 at *
      obtain ⟨w2, rfl⟩ : ∃ w2 : World, w2 = wr := ⟨_, rfl⟩
      go_wp2_with fail
      go_loopw [10, 60] (fun f i wr => ∃ j : Nat, j ≤ l.length ∧ i = .int .i64 j ∧ f = .int .i64 (firstAhead node s0 s1 m F0 (l.take j)) ∧ Below w2.heap.size w2 wr) (fun _ i _ => l.length - (intOf i).toNat)
      case atStart => exact ⟨0, by omega, rfl, rfl, Below.refl _ _⟩
      case round =>
        obtain ⟨j, hj, rfl, rfl, hbs⟩ := hrel
        have hbb := (hbx.out.next hbs (Nat.le_refl _)).bx3
        by_cases hlj : j < l.length
        · have hne : l ≠ [] := by intro e; rw [e] at hlj; simp at hlj
          obtain ⟨b, o, rfl, hblt, hc⟩ := HRL2.out.cellsW hne
          obtain ⟨g0, g1, g2, g3, g4⟩ := hc j hlj
          rw [← hbs.cell (p := ⟨_, _, none⟩) hblt] at g0 g1 g2 g3 g4
          have hbw : b < wr.heap.size := Nat.lt_of_lt_of_le hblt hbs.size
          clear hc
          have HT := hidd (firstAhead_take (node := node) (s0 := s0) (s1 := s1) (m := m) (f := F0) hlj)
          generalize firstAhead node s0 s1 m F0 (l.take j) = F1 at *
          generalize l[j] = y at *
          have hways := ahead_ways node s0 s1 m F1 y
          obtain ⟨yi, yn, y0, y1, ym⟩ := y
          simp only [] at g0 g1 g2 g3 g4 hways
          have KM := hidd (sMeet_c y0 y1 s0 s1)
          have KF := hidd (mFit_c ym m)
          have HYB := hidd (Bk.new wr #[.int .i64 yi, .int .i64 yn, .int .i64 y0, .int .i64 y1, .int .i64 ym] 168 rfl)
          have HB3 := hidd (hbx.out.next hbs (Nat.le_refl _))
          rcases hways with ⟨h1, hr⟩ | ⟨h1, rfl, hr⟩ | ⟨h1, h2, h3, hr⟩ | ⟨h1, h2, h3, hr⟩
          all_goals
            have HT2 := hidd (HT.out.trans hr)
            have H1 := hidd h1
            clear HT hr h1
            try have H3 := hidd h3
            try clear h3
            go_wp2_with fail
            refine (KM.out _).mono ?_; rintro e w5 ⟨rfl, hb5⟩
            rw [H1.out]
            have hyb := (HYB.out.next hb5 (Nat.le_refl _)).bx5
            have hxb := (HB3.out.next ((below_alloc wr _).trans (hb5.mono (by simp))) (Nat.le_refl _)).bx3
            go_wp2_with fail
            try (refine (KF.out _).mono ?_; rintro e w7 ⟨rfl, rfl⟩; rw [H3.out]; go_wp2_with fail)
            go_roundw
            case rel => exact ⟨j + 1, by omega, by go_num, by rw [HT2.out], (hbs.trans ((below_alloc wr _).mono hbs.size)).trans ((hb5.trans ((below_alloc w5 _).mono hb5.size)).mono (by have := hbs.size; simp; omega))⟩
            case measure => simp [intOf]; omega
        · obtain rfl : j = l.length := by omega
          have HTL : Hid (firstAhead node s0 s1 m F0 (l.take l.length) = R) := by show _ = _; rw [List.take_length, HDEF.out]
          rw [HTL.out]
          go_wp2_with fail
          go_quiet (fail)
          go_wp2_with fail
          refine bodyPost_ret (v := .tuple #[.int .i64 R, .bool (decide (R < s1))]) (by simp [results, Tryz.results204, go_sem]) rfl ⟨rfl, hBw.trans ((hbs.trans ((below_drewN (Below.refl _ _) _).mono hbs.size)).mono hBw.size)⟩
end

section
open Go.RowKit

/-! the walks -/
set_option maxHeartbeats 1000000 in
theorem tclaim_c (y : Wt) (k : Int) (w : World) (h : 0 ≤ k ∧ k ≤ 100000) : Calls Tryz.prog 209 #[wtV y, .int .i64 k] w fun e w' => e = .returned (wtV (claimW y k)) ∧ Below w.heap.size w w' := by
  obtain ⟨yi, yn, y0, y1, ym⟩ := y
  obtain ⟨h0, h1⟩ := h
  go_enter Tryz.func209, Tryz.ntmps209
  go_wp2_with fail
  refine bodyPost_ret (v := wtV (claimW (yi, yn, y0, y1, ym) k)) (by simp [results, Tryz.results209, go_sem, claimW]) rfl ⟨rfl, ?_⟩
  exact (((Below.refl _ w).alloc (Nat.le_refl _) _).alloc (by simp) _)

set_option maxHeartbeats 8000000 in
set_option maxRecDepth 100000 in
theorem tclaims_c (t : Nat) (T : Tb) (ps : Nat → Nat) (v : Value) (w : World) (h : TAt w t T ps v) (hn : T.n ≤ 16) (hh : ∀ i, HOk (T.held i)) (hw : ∀ y ∈ T.waits, WOk T.n y) (hl : T.waits.length ≤ 1000) :
    Calls Tryz.prog 205 #[ptr t] w fun e w' => (∃ u, e = .returned u ∧ Own 5 encW 168 w' w.heap.size u (claimsF T.held T.n T.waits)) ∧ Below w.heap.size w w' := by
  obtain ⟨A, c, rfl⟩ := own_shape h.own
  have HRL := hidd (Own.rd h.own rfl)
  have HA := hidd h
  have h18 := h.tc.cw
  have htl := h.tc.lt
  have HW := hidd hw
  have HIN : Hid (∀ W, Below w.heap.size w W → ∀ (B : Option Addr) (cb : Nat) (cl : List Wt) (y : Wt), Rd 5 encW W B cl → cl.length ≤ 1000 → Calls Tryz.prog 204 #[ptr t, .int .i64 y.2.1, lkV y.2.2.1 y.2.2.2.1 y.2.2.2.2, .slice B cl.length cb] W fun e w' => e = .returned (.tuple #[.int .i64 (hindW T.held T.n y cl), .bool (decide (hindW T.held T.n y cl < y.2.2.2.1))]) ∧ Below W.heap.size W w') :=
    fun W hW B cb cl y hr hcl => thinders_c t T ps _ y.2.1 y.2.2.1 y.2.2.2.1 y.2.2.2.2 B _ cb cl W (HA.out.next hW (Nat.le_refl _)) hn hh hr rfl (by omega)
  have HST : Hid (∀ k (h : k < T.waits.length), claimsF T.held T.n (T.waits.take (k + 1)) = claimStep T.held T.n (claimsF T.held T.n (T.waits.take k)) T.waits[k]) := fun k h => claimsF_take h
  have HSL : Hid (∀ k, k ≤ T.waits.length → (claimsF T.held T.n (T.waits.take k)).length ≤ 1000) := fun k hk => Nat.le_trans (claimsF_len _ _ _) (by rw [List.length_take]; omega)
  generalize T.waits = ws at *
  clear h hw
  go_enter Tryz.func205, Tryz.ntmps205
  go_wp2_with fail
  go_loopw [3, 13] (fun u i wr => ∃ k : Nat, k ≤ ws.length ∧ i = .int .i64 k ∧ Hid (Own 5 encW 168 wr w.heap.size u (claimsF T.held T.n (ws.take k))) ∧ Below w.heap.size w wr) (fun _ i _ => ws.length - (intOf i).toNat)
  case atStart => exact ⟨0, by omega, rfl, World.ownsRow_nil _ _ _ _, Below.refl _ _⟩
  case round =>
    obtain ⟨k, hk, rfl, hown, hbr⟩ := hrel
    by_cases hlt : k < ws.length
    · have hne : ws ≠ [] := by intro e; rw [e] at hlt; simp at hlt
      obtain ⟨b, o, rfl, hblt, hc⟩ := HRL.out.cellsW hne
      obtain ⟨g0, g1, g2, g3, g4⟩ := hc k hlt
      rw [← hbr.cell (p := ⟨_, _, none⟩) hblt] at g0 g1 g2 g3 g4
      have hbw : b < wr.heap.size := Nat.lt_of_lt_of_le hblt hbr.size
      clear hc
      have hcl := HSL.out k hk
      have HT := hidd (HST.out k hlt)
      have hwy := HW.out ws[k] (List.getElem_mem hlt)
      obtain ⟨u1, cu, rfl⟩ := own_shape hown.out
      have HRC := hidd (Own.rd hown.out rfl)
      generalize claimsF T.held T.n (ws.take k) = C at *
      generalize ws[k] = y at *
      have hge := hindF_ge (held := T.held) (n := T.n) (node := y.2.1) (m := y.2.2.2.2) (A := C) (Int.le_of_lt hwy.span.2)
      have HH := hidd (fun W hW B cb hr => HIN.out W hW B cb C y hr hcl)
      have HCS : Hid (claimStep T.held T.n C y = if hindW T.held T.n y C < y.2.2.2.1 then C ++ [claimW y (hindW T.held T.n y C)] else C) := rfl
      have hge2 : y.2.2.1 ≤ hindW T.held T.n y C := hge
      clear hge
      generalize hindW T.held T.n y C = H at *
      have hs0 := hwy.span.1
      have hs1 := hwy.end_
      clear hwy
      have KC : Hid (H < y.2.2.2.1 → ∀ W, Calls Tryz.prog 209 #[wtV y, .int .i64 H] W fun e w' => e = .returned (wtV (claimW y H)) ∧ Below W.heap.size W w') := fun hH W => tclaim_c y H W ⟨by omega, by omega⟩
      have HCW : Hid (encW (claimW y H) = [.int .i64 y.1, .int .i64 y.2.1, .int .i64 y.2.2.1, .int .i64 (H + 1), .int .i64 y.2.2.2.2]) := rfl
      have hcv : Hid (wtV (claimW y H) = .agg #[.int .i64 y.1, .int .i64 y.2.1, .int .i64 y.2.2.1, .int .i64 (H + 1), .int .i64 y.2.2.2.2]) := rfl
      generalize claimW y H = yc at *
      have HYB := hidd (Bk.new wr #[.int .i64 y.1, .int .i64 y.2.1, .int .i64 y.2.2.1, .int .i64 y.2.2.2.1, .int .i64 y.2.2.2.2] 168 rfl)
      obtain ⟨yi, yn, y0, y1, ym⟩ := y
      simp only [] at g0 g1 g2 g3 g4 hge2 hs0 hs1
      by_cases hd : H < y1
      · have hdb : decide (H < y1) = true := decide_eq_true hd
        have HCS2 : Hid (claimStep T.held T.n C (yi, yn, y0, y1, ym) = C ++ [yc]) := by show _ = _; rw [HCS.out, if_pos hd]
        have KC2 := hidd (KC.out hd)
        have HDB := hidd hdb
        clear hd hdb
        go_wp2_with fail
        refine (HH.out _ (hbr.trans ((below_alloc wr _).mono hbr.size)) _ _ (HRC.out.below (below_alloc wr _) (Nat.le_refl _))).mono ?_; rintro e w5 ⟨rfl, hb5⟩
        rw [HDB.out]
        have hyb := (HYB.out.next hb5 (Nat.le_refl _)).bx5
        have hb5' := below_alloc1 hb5
        go_wp2_with fail
        refine (KC2.out _).mono ?_; rintro e w6 ⟨rfl, hb6⟩
        rw [hcv.out]
        go_wp2_with (at_builtin; refine wpList_app_new Tryz.underlying107 infoWait rfl (by decide) hown.out hbr.size ?c1 rfl rfl rfl rfl ?c2 ?c3 ?c4 ?c5 ?c6 (fun v' w' hown' hb' => ?_))
        case c1 => exact hb5'.trans (hb6.mono hb5'.size)
        try (case c2 => simp)
        try (case c3 => rfl)
        case c4 => simp [Value.oneCell']
        case c5 => unfold maxLen; omega
        case c6 => omega
        go_roundw
        case rel => exact ⟨k + 1, by omega, by go_num, by show Own _ _ _ _ _ _ _; rw [HT.out, HCS2.out]; unfold Own; rw [List.flatMap_append, List.length_append, List.flatMap_singleton, HCW.out]; exact hown', hbr.trans hb'⟩
        case measure => simp [intOf]; omega
      · have hdb : decide (H < y1) = false := decide_eq_false hd
        have HCS2 : Hid (claimStep T.held T.n C (yi, yn, y0, y1, ym) = C) := by show _ = _; rw [HCS.out, if_neg hd]
        have HDB := hidd hdb
        clear hd hdb
        go_wp2_with fail
        refine (HH.out _ (hbr.trans ((below_alloc wr _).mono hbr.size)) _ _ (HRC.out.below (below_alloc wr _) (Nat.le_refl _))).mono ?_; rintro e w5 ⟨rfl, hb5⟩
        rw [HDB.out]
        have hb5' := below_alloc1 hb5
        go_wp2_with fail
        go_roundw
        case rel => exact ⟨k + 1, by omega, by go_num, by show Own _ _ _ _ _ _ _; rw [HT.out, HCS2.out]; exact own_below hown.out hb5', hbr.trans (hb5'.mono hbr.size)⟩
        case measure => simp [intOf]; omega
    · obtain rfl : k = ws.length := by omega
      rw [List.take_length] at hown
      go_wp2_with fail
      go_ret
      exact ⟨⟨_, rfl, hown.out⟩, hbr⟩

set_option maxHeartbeats 8000000 in
set_option maxRecDepth 100000 in
theorem tfree_c (t : Nat) (T : Tb) (ps : Nat → Nat) (v : Value) (node s0 s1 m : Int) (w : World) (h : TAt w t T ps v) (hT : TOk T) :
    Calls Tryz.prog 155 #[ptr t, .int .i64 node, lkV s0 s1 m] w fun e w' => e = .returned (.bool (freeF T.held T.n T.waits node s0 s1 m)) ∧ Below w.heap.size w w' := by
  have HA := hidd h
  have HB0 := hidd (below_alloc w (.cells #[.int .i64 s0, .int .i64 s1, .int .i64 m] 101))
  have HXB := hidd (Bk.new w #[.int .i64 s0, .int .i64 s1, .int .i64 m] 101 rfl)
  have hcl : (claimsF T.held T.n T.waits).length ≤ 1000 := Nat.le_trans (claimsF_len _ _ _) hT.len
  have HCL : Hid (∀ W, Below w.heap.size w W → Calls Tryz.prog 205 #[ptr t] W fun e w' => (∃ u, e = .returned u ∧ Own 5 encW 168 w' W.heap.size u (claimsF T.held T.n T.waits)) ∧ Below W.heap.size W w') :=
    fun W hW => tclaims_c t T ps v W (HA.out.next hW (Nat.le_refl _)) hT.n.2 hT.held hT.waits hT.len
  have HIN : Hid (∀ W, Below w.heap.size w W → ∀ (B : Option Addr) (cb : Nat), Rd 5 encW W B (claimsF T.held T.n T.waits) → Calls Tryz.prog 204 #[ptr t, .int .i64 node, lkV s0 s1 m, .slice B (claimsF T.held T.n T.waits).length cb] W fun e w' => e = .returned (.tuple #[.int .i64 (hindF T.held T.n node s0 s1 m (claimsF T.held T.n T.waits)), .bool (decide (hindF T.held T.n node s0 s1 m (claimsF T.held T.n T.waits) < s1))]) ∧ Below W.heap.size W w') :=
    fun W hW B cb hr => thinders_c t T ps _ node s0 s1 m B _ cb _ W (HA.out.next hW (Nat.le_refl _)) hT.n.2 hT.held hr rfl (by omega)
  have HFR : Hid (freeF T.held T.n T.waits node s0 s1 m = !decide (hindF T.held T.n node s0 s1 m (claimsF T.held T.n T.waits) < s1)) := rfl
  generalize freeF T.held T.n T.waits node s0 s1 m = R at *
  generalize claimsF T.held T.n T.waits = C at *
  generalize hindF T.held T.n node s0 s1 m C = H at *
  clear h hT
  go_enter Tryz.func155, Tryz.ntmps155
  go_wp2_with fail
  go_region_law (first
    | (go_simp; go_at_call 205; refine (HCL.out _ (below_drewN HB0.out 1)).mono ?_; rintro e w5 ⟨⟨v5, rfl, ho5⟩, hb5⟩; obtain ⟨A5, c5, rfl⟩ := own_shape ho5; have hx5 := (HXB.out.next ((below_drewN (Below.refl _ _) 1).trans hb5) (Nat.le_refl _)).bx3; have HB5 := hidd ((below_drewN HB0.out 1).trans (hb5.mono (by simp))))
    | (go_simp; go_at_call 204; refine (HIN.out _ HB5.out _ _ (Own.rd ho5 rfl)).mono ?_; rintro e w6 ⟨rfl, hb6⟩)
    | fail)
  all_goals
    go_wp2_with fail
    go_ret
    exact ⟨by rw [HFR.out]; first | rfl | simp, HB5.out.trans (hb6.mono HB5.out.size)⟩
end

section
open Go.RowKit

theorem any_no {α : Type} {p : α → Bool} {l : List α} (h : ∀ j (hj : j < l.length), p l[j] = false) : l.any p = false := by
  rw [List.any_eq_false]; intro x hx; obtain ⟨j, hj, rfl⟩ := List.getElem_of_mem hx; simp [h j hj]
theorem any_yes {α : Type} {p : α → Bool} {l : List α} {j : Nat} (hj : j < l.length) (h : p l[j] = true) : l.any p = true := by
  rw [List.any_eq_true]; exact ⟨l[j], List.getElem_mem hj, h⟩

set_option maxHeartbeats 400000 in
theorem deadC_c (a b v : Int) (w : World) : Calls Tryz.prog 208 #[lkV a b v] w fun e w' => e = .returned (.bool (shared (a, b, v))) ∧ Below w.heap.size w w' := by
  go_enter Tryz.func208, Tryz.ntmps208
  go_wp2_with fail
  go_ret
  exact ⟨rfl, below_alloc _ _⟩
theorem eg_dead : ∀ args w, (callFunc 208 args).run Tryz.prog w = .ok (.enter 208 args) w := Proofs.enters_of Tryz.func208 (by kernel_rfl) rfl

set_option maxHeartbeats 400000 in
theorem idxPi_c (A : Option Addr) (n c : Nat) (xs : List (Pt Int)) (w : World) (h : Rd 3 encP w A xs) (hn : n = xs.length) (hbig : xs.length ≤ 1000000000) (p : Pt Int → Bool) (g : Nat) (lb : Array Value)
    (eg : ∀ args w, (callFunc g args).run Tryz.prog w = .ok (.enter g args) w)
    (hp : ∀ a b v W, Below w.heap.size w W → Calls Tryz.prog g (#[lkV a b v] ++ lb) W fun e w' => e = .returned (.bool (p (a, b, v))) ∧ Below W.heap.size W w') :
    Calls Tryz.prog 225 #[.slice A n c, .func (.func g) #[] lb] w fun e w' => (∃ r : Int, e = .returned (.int .i64 r) ∧ decide (0 ≤ r) = xs.any p) ∧ Below w.heap.size w w' := by
  subst hn
  have HP := hidd hp
  clear hp
  by_cases hx : xs = []
  · subst hx
    go_enter Tryz.func225, Tryz.ntmps225
    go_wp2_with fail
    refine wp_loop_rounds 1 ?_
    rw [rounds_succ]
    go_wp2_with fail
    go_ret
    exact ⟨⟨_, rfl, by simp⟩, Below.refl _ _⟩
  · obtain ⟨b, o, rfl, hlt, hc⟩ := h.cells3 hx
    have HC := hidd hc
    clear hc h hx
    go_enter Tryz.func225, Tryz.ntmps225
    go_wp2_with fail
    go_loopw [8] (fun i wr => ∃ k : Nat, k ≤ xs.length ∧ i = .int .i64 k ∧ Below w.heap.size w wr ∧ Hid (∀ j (hj : j < xs.length), j < k → p xs[j] = false)) (fun i _ => xs.length - (intOf i).toNat)
    case atStart => exact ⟨0, by omega, rfl, Below.refl _ _, fun j hj h => by omega⟩
    case round =>
      obtain ⟨k, hk, rfl, hb, hno⟩ := hrel
      by_cases hkl : k < xs.length
      · obtain ⟨g0, g1, g2⟩ := HC.out k hkl
        rw [← hb.cell (p := ⟨_, _, none⟩) hlt] at g0 g1 g2
        have hcall := hidd (HP.out xs[k].1 xs[k].2.1 xs[k].2.2 wr hb)
        go_wp2_with fail
        refine hcall.out.mono ?_; rintro e w1 ⟨rfl, hb1⟩
        cases hpx : p (xs[k].1, xs[k].2.1, xs[k].2.2) with
        | true =>
          have HPX := hidd hpx; clear hpx
          go_wp2_with fail
          go_ret
          exact ⟨⟨_, rfl, by rw [any_yes hkl HPX.out]; simp⟩, hb.trans (hb1.mono hb.size)⟩
        | false =>
          have HPX := hidd hpx; clear hpx
          go_wp2_with fail
          go_roundw
          case rel => exact ⟨k + 1, by omega, by go_num, hb.trans (hb1.mono hb.size), fun j hj h => by
            rcases Nat.lt_or_ge j k with h' | h'
            · exact hno.out j hj h'
            · have : j = k := by omega
              subst this; exact HPX.out⟩
          case measure => simp [intOf]; omega
      · go_wp2_with fail
        go_ret
        exact ⟨⟨_, rfl, by rw [any_no (fun j hj => hno.out j hj (by omega))]; rfl⟩, hb⟩

set_option maxHeartbeats 400000 in
theorem containsPi_c (A : Option Addr) (n c : Nat) (xs : List (Pt Int)) (w : World) (h : Rd 3 encP w A xs) (hn : n = xs.length) (hbig : xs.length ≤ 1000000000) :
    Calls Tryz.prog 207 #[.slice A n c, .func (.func 208) #[] #[]] w fun e w' => e = .returned (.bool (xs.any shared)) ∧ Below w.heap.size w w' := by
  have HI := hidd (idxPi_c A n c xs w h hn hbig shared 208 #[] eg_dead (fun a b v W _ => deadC_c a b v W))
  clear h hn hbig
  go_enter Tryz.func207, Tryz.ntmps207
  go_wp2_with fail
  refine HI.out.mono ?_; rintro e w1 ⟨⟨r, rfl, hr⟩, hb1⟩
  have HR := hidd hr
  clear hr
  go_wp2_with fail
  go_ret
  exact ⟨by rw [← HR.out]; first | rfl | simp, hb1⟩

theorem deadF_no {held : Nat → List (Pt Int)} {ws : List Wt} {node s0 s1 m : Int} (h : ¬ m = 2) : deadF held ws node s0 s1 m = false := by unfold deadF; rw [show (m == 2) = false by simpa using h]; rfl
theorem deadF_all {held : Nat → List (Pt Int)} {ws : List Wt} {node s0 s1 m : Int} (h : ∀ j (hj : j < ws.length), deadW held node s0 s1 ws[j] = false) : deadF held ws node s0 s1 m = false := by unfold deadF; rw [any_no h, Bool.and_false]
theorem deadF_yes {held : Nat → List (Pt Int)} {ws : List Wt} {node s0 s1 : Int} {j : Nat} (hj : j < ws.length) (h : deadW held node s0 s1 ws[j] = true) : deadF held ws node s0 s1 2 = true := by unfold deadF; rw [any_yes hj h]; rfl
theorem deadW_ways (held : Nat → List (Pt Int)) (node s0 s1 : Int) (w : Wt) : (node = w.2.1 ∧ deadW held node s0 s1 w = false) ∨ (¬ w.2.1 = node ∧ ¬ w.2.2.2.2 = 2 ∧ deadW held node s0 s1 w = false) ∨ (¬ w.2.1 = node ∧ 2 = w.2.2.2.2 ∧ deadW held node s0 s1 w = (partsP s0 s1 (held w.2.1.toNat)).any (deadIn held node w)) := by
  unfold deadW
  by_cases h1 : w.2.1 = node
  · exact .inl ⟨h1.symm, by simp [h1]⟩
  · by_cases h2 : w.2.2.2.2 = 2
    · exact .inr (.inr ⟨h1, h2.symm, by simp [h1, h2]⟩)
    · exact .inr (.inl ⟨h1, h2, by simp [h1, h2]⟩)
theorem deadIn_ways (held : Nat → List (Pt Int)) (node : Int) (w : Wt) (p : Pt Int) : (meetB p.1 p.2.1 w.2.2.1 w.2.2.2.1 = false ∧ deadIn held node w p = false) ∨ (meetB p.1 p.2.1 w.2.2.1 w.2.2.2.1 = true ∧ ¬ p.2.2 = 1 ∧ deadIn held node w p = false) ∨ (meetB p.1 p.2.1 w.2.2.1 w.2.2.2.1 = true ∧ 1 = p.2.2 ∧ deadIn held node w p = (partsP (meetF p.1 p.2.1 w.2.2.1 w.2.2.2.1) (meetT p.1 p.2.1 w.2.2.1 w.2.2.2.1) (held node.toNat)).any shared) := by
  unfold deadIn
  cases h1 : meetB p.1 p.2.1 w.2.2.1 w.2.2.2.1
  · exact .inl ⟨rfl, rfl⟩
  · by_cases h2 : p.2.2 = 1
    · exact .inr (.inr ⟨rfl, h2.symm, by simp [shared, h2]⟩)
    · exact .inr (.inl ⟨rfl, h2, by simp [shared, h2]⟩)

set_option maxHeartbeats 8000000 in
set_option maxRecDepth 100000 in
theorem tdead_c (t : Nat) (T : Tb) (ps : Nat → Nat) (v : Value) (nd : Nat) (s0 s1 m : Int) (w : World) (h : TAt w t T ps v) (hT : TOk T) (hnd : nd ≤ 16) :
    Calls Tryz.prog 157 #[ptr t, .int .i64 nd, lkV s0 s1 m] w fun e w' => e = .returned (.bool (deadF T.held T.waits nd s0 s1 m)) ∧ Below w.heap.size w w' := by
  obtain ⟨A, c, rfl⟩ := own_shape h.own
  have HRL := hidd (Own.rd h.own rfl)
  have HA := hidd h
  have HB0 := hidd (below_alloc w (.cells #[.int .i64 s0, .int .i64 s1, .int .i64 m] 101))
  have HXB := hidd (Bk.new w #[.int .i64 s0, .int .i64 s1, .int .i64 m] 101 rfl)
  have h18 := h.tc.cw
  have htl := h.tc.lt
  have hl := hT.len
  have HW := hidd hT.waits
  have hn := hT.n.2
  have HH := hidd hT.held
  by_cases hm : m = 2
  · subst hm
    have HNO := hidd (@deadF_all T.held T.waits nd s0 s1 2)
    have HYES := hidd (fun j => @deadF_yes T.held T.waits nd s0 s1 j)
    generalize deadF T.held T.waits nd s0 s1 2 = R at *
    generalize T.waits = ws at *
    clear h hT
    go_enter Tryz.func157, Tryz.ntmps157
    go_wp2_with fail
    go_loopw [21] (fun i wr => ∃ k : Nat, k ≤ ws.length ∧ i = .int .i64 k ∧ Hid (∀ q (h : q < ws.length), q < k → deadW T.held nd s0 s1 ws[q] = false) ∧ Below (w.heap.size + 1) (w.alloc (.cells #[.int .i64 s0, .int .i64 s1, .int .i64 2] 101)) wr) (fun i _ => ws.length - (intOf i).toNat)
    case atStart => exact ⟨0, by omega, rfl, fun q _ h => absurd h (by omega), Below.refl _ _⟩
    case round =>
      obtain ⟨k, hk, rfl, hall, hbr⟩ := hrel
      have hBw : Below w.heap.size w wr := HB0.out.trans (hbr.mono (by omega))
      by_cases hlt : k < ws.length
      · have hne : ws ≠ [] := by intro e; rw [e] at hlt; simp at hlt
        obtain ⟨b, o, rfl, hblt, hc⟩ := HRL.out.cellsW hne
        obtain ⟨g0, g1, g2, g3, g4⟩ := hc k hlt
        rw [← hBw.cell (p := ⟨_, _, none⟩) hblt] at g0 g1 g2 g3 g4
        have hbw : b < wr.heap.size := Nat.lt_of_lt_of_le hblt hBw.size
        clear hc
        have HNX : Hid (deadW T.held nd s0 s1 ws[k] = false → ∀ q (h : q < ws.length), q < k + 1 → deadW T.held nd s0 s1 ws[q] = false) := by
          intro h q hq hqk
          by_cases e : q < k
          · exact hall.out q hq e
          · have : q = k := by omega
            subst this; exact h
        have HYX := hidd (HYES.out k hlt)
        have hwy := HW.out ws[k] (List.getElem_mem hlt)
        generalize ws[k] = y at *
        have hways := deadW_ways T.held nd s0 s1 y
        obtain ⟨yi, yn, y0, y1, ym⟩ := y
        simp only [] at g0 g1 g2 g3 g4 hways
        have hyn := hwy.node
        simp only [] at hyn
        clear hwy hall HNO HYES
        obtain ⟨q, rfl⟩ : ∃ q : Nat, yn = q := ⟨yn.toNat, by omega⟩
        rcases hways with ⟨h1, hr⟩ | ⟨h1, h2, hr⟩ | ⟨h1, h2, hr⟩
        · have HR := hidd (HNX.out hr)
          have hb1 : ((q : Int) == (nd : Int)) = true := by rw [h1]; simp
          clear hr h1
          go_wp2_with fail
          go_roundw
          case rel => exact ⟨k + 1, by omega, by go_num, HR.out, hbr.trans ((below_alloc wr _).mono (by have := hbr.size; simpa using this))⟩
          case measure => simp [intOf]; omega
        · have HR := hidd (HNX.out hr)
          have hb1 : ((q : Int) == (nd : Int)) = false := by simpa using h1
          clear hr h1
          go_wp2_with fail
          go_roundw
          case rel => exact ⟨k + 1, by omega, by go_num, HR.out, hbr.trans ((below_alloc wr _).mono (by have := hbr.size; simpa using this))⟩
          case measure => simp [intOf]; omega
        · have hb1 : ((q : Int) == (nd : Int)) = false := by simpa using h1
          have HR := hidd hr
          subst h2
          clear hr h1
          simp only [Int.toNat_natCast] at HR
          have hBA : Below w.heap.size w (wr.alloc (.cells #[.int .i64 yi, .int .i64 q, .int .i64 y0, .int .i64 y1, .int .i64 2] 168)) := hBw.alloc hBw.size _
          have HYB := hidd (Bk.new wr #[.int .i64 yi, .int .i64 q, .int .i64 y0, .int .i64 y1, .int .i64 2] 168 rfl)
          have hxb := (HXB.out.next hbr (by simp)).bx3
          have HTA := hidd (HA.out.next hBA (Nat.le_refl _))
          have HAr := hidd (HA.out.next hBw (Nat.le_refl _))
          have hcm := HAr.out.tc.cm q (by omega)
          have hfz := HAr.out.tc.fz (1 + q)
          have htr := HAr.out.tc.lt
          have hi0 : 0 ≤ (q : Int) := by omega
          have hi1 : (q : Int) < 17 := by omega
          have HP : Hid (∀ W, Below (wr.heap.size + 1) (wr.alloc (.cells #[.int .i64 yi, .int .i64 q, .int .i64 y0, .int .i64 y1, .int .i64 2] 168)) W → Calls Tryz.prog 40 #[ptr (ps q), spV s0 s1] W fun e w' => (∃ v, e = .returned v ∧ Own 3 encP 159 w' W.heap.size v (partsP s0 s1 (T.held q))) ∧ Below W.heap.size W w') := fun W hW => iParts_c _ _ s0 s1 W ((HTA.out.maps q (by omega)).next hW (by simp)) (by have := (HH.out q).len; omega)
          have hPl : (partsP s0 s1 (T.held q)).length ≤ 4096 := Nat.le_trans (partsP_len _ _ _) (HH.out q).len
          have HIW : Hid (∀ j (h : j < (partsP s0 s1 (T.held q)).length), deadIn T.held nd (yi, (q : Int), y0, y1, 2) (partsP s0 s1 (T.held q))[j] = true → R = true) := fun j h e => HYX.out (HR.out.trans (any_yes h e))
          have HIN : Hid ((∀ j (h : j < (partsP s0 s1 (T.held q)).length), deadIn T.held nd (yi, (q : Int), y0, y1, 2) (partsP s0 s1 (T.held q))[j] = false) → ∀ q (h : q < ws.length), q < k + 1 → deadW T.held nd s0 s1 ws[q] = false) := fun h => HNX.out (HR.out.trans (any_no h))
          clear HYX HNX HR
          generalize partsP s0 s1 (T.held q) = P at *
          obtain ⟨wa, hwa⟩ : ∃ wa : World, wa = wr.alloc (.cells #[.int .i64 yi, .int .i64 q, .int .i64 y0, .int .i64 y1, .int .i64 2] 168) := ⟨_, rfl⟩
          go_upto_region 7 with (fail)
          go_cut [44, 45, 46] (fun v5 n5 z5 wx => Hid (Own 3 encP 159 wx (wr.heap.size + 1) v5 P) ∧ n5 = .int .i64 P.length ∧ z5 = .int .i64 0 ∧ Below (wr.heap.size + 1) (wr.alloc (.cells #[.int .i64 yi, .int .i64 q, .int .i64 y0, .int .i64 y1, .int .i64 2] 168)) wx)
          case first =>
            go_region_law (first
              | (go_simp; go_at_call 40; refine (HP.out _ (below_drewN (Below.refl _ _) 1)).mono ?_; rintro e w5 ⟨⟨v5, rfl, ho5⟩, hb5⟩; obtain ⟨A5, c5, rfl⟩ := own_shape ho5)
              | fail)
            all_goals
              go_wp2_with fail
              go_meet
              exact ⟨own_base ho5 (by simp), rfl, rfl, (below_drewN (Below.refl _ _) 1).trans (hb5.mono (by simp))⟩
          case rest =>
            obtain ⟨ho5, rfl, rfl, hB5⟩ := hcut
            obtain ⟨A5, c5, rfl⟩ := own_shape ho5.out
            have HR5 := hidd (Own.rd ho5.out rfl)
            have HYB5 := hidd (HYB.out.next hB5 (by simp))
            have HTA5 := hidd (HTA.out.next hB5 (by simp))
            have hBr5 : Below (w.heap.size + 1) (w.alloc (.cells #[.int .i64 s0, .int .i64 s1, .int .i64 2] 101)) wc := (hbr.trans ((below_alloc wr _).mono (by have := hbr.size; simpa using this))).trans (hB5.mono (by have := hbr.size; simp at this; omega))
            have hwl : wr.heap.size < wc.heap.size := by have := hB5.size; simp at this; omega
            clear ho5 HYB HTA hcm hfz htr g0 g1 g2 g3 g4 hxb HP hbw HXB HRL HW h18 htl hb1
            obtain ⟨wq, hwq⟩ : ∃ wq : World, wq = wr := ⟨_, rfl⟩
            obtain ⟨w5, rfl⟩ : ∃ w5 : World, w5 = wc := ⟨_, rfl⟩
            subst hwq
            go_wp2_with fail
            go_loopw [46] (fun i wr => ∃ j : Nat, j ≤ P.length ∧ i = .int .i64 j ∧ Hid (∀ x (h : x < P.length), x < j → deadIn T.held nd (yi, (q : Int), y0, y1, 2) P[x] = false) ∧ Below w5.heap.size w5 wr) (fun i _ => P.length - (intOf i).toNat)
            case atStart => exact ⟨0, by omega, rfl, fun q _ h => absurd h (by omega), Below.refl _ _⟩
            case round =>
              obtain ⟨j, hj, rfl, hno, hbs⟩ := hrel
              by_cases hlj : j < P.length
              · have hne : P ≠ [] := by intro e; rw [e] at hlj; simp at hlj
                obtain ⟨b, o, rfl, hblt, hc⟩ := HR5.out.cells3 hne
                obtain ⟨g0, g1, g2⟩ := hc j hlj
                rw [← hbs.cell (p := ⟨_, _, none⟩) hblt] at g0 g1 g2
                have hbw : b < wr.heap.size := Nat.lt_of_lt_of_le hblt hbs.size
                clear hc
                have HNX : Hid (deadIn T.held nd (yi, (q : Int), y0, y1, 2) P[j] = false → ∀ x (h : x < P.length), x < j + 1 → deadIn T.held nd (yi, (q : Int), y0, y1, 2) P[x] = false) := by
                  intro h q hq hqk
                  by_cases e : q < j
                  · exact hno.out q hq e
                  · have : q = j := by omega
                    subst this; exact h
                have HYX := hidd (HIW.out j hlj)
                generalize P[j] = p at *
                have hways := deadIn_ways T.held nd (yi, (q : Int), y0, y1, 2) p
                obtain ⟨p0, p1, pv⟩ := p
                simp only [Int.toNat_natCast] at g0 g1 g2 hways
                have KM := hidd (sMeet_c p0 p1 y0 y1)
                have hyb := (HYB5.out.next hbs (Nat.le_refl _)).bx5
                have HPB := hidd (Bk.new wr #[.int .i64 p0, .int .i64 p1, .int .i64 pv] 159 rfl)
                rcases hways with ⟨h1, hr⟩ | ⟨h1, h2, hr⟩ | ⟨h1, rfl, hr⟩
                · have HR := hidd (HNX.out hr)
                  have H1 := hidd h1
                  clear hr h1
                  go_wp2_with fail
                  refine (KM.out _).mono ?_; rintro e w6 ⟨rfl, hb6⟩
                  rw [H1.out]
                  have hpb := (HPB.out.next hb6 (Nat.le_refl _)).bx3
                  have hb6' := below_alloc1 hb6
                  go_wp2_with fail
                  go_roundw
                  case rel => exact ⟨j + 1, by omega, by go_num, HR.out, hbs.trans ((hb6'.trans ((below_alloc w6 _).mono hb6'.size)).mono hbs.size)⟩
                  case measure => simp [intOf]; omega
                · have HR := hidd (HNX.out hr)
                  have H1 := hidd h1
                  clear hr h1
                  go_wp2_with fail
                  refine (KM.out _).mono ?_; rintro e w6 ⟨rfl, hb6⟩
                  rw [H1.out]
                  have hpb := (HPB.out.next hb6 (Nat.le_refl _)).bx3
                  have hb6' := below_alloc1 hb6
                  go_wp2_with fail
                  go_roundw
                  case rel => exact ⟨j + 1, by omega, by go_num, HR.out, hbs.trans ((hb6'.trans ((below_alloc w6 _).mono hb6'.size)).mono hbs.size)⟩
                  case measure => simp [intOf]; omega
                · have H1 := hidd h1
                  have HR := hidd hr
                  clear hr h1
                  generalize meetF p0 p1 y0 y1 = mf at *
                  generalize meetT p0 p1 y0 y1 = mt at *
                  go_wp2_with fail
                  refine (KM.out _).mono ?_; rintro e w6 ⟨rfl, hb6⟩
                  rw [H1.out]
                  have hpb := (HPB.out.next hb6 (Nat.le_refl _)).bx3
                  have hb6' := below_alloc1 hb6
                  have hB6 : Below w5.heap.size w5 w6 := hbs.trans (hb6'.mono hbs.size)
                  have HT6 := hidd (HTA5.out.next hB6 (Nat.le_refl _))
                  have hcm := HT6.out.tc.cm nd hnd
                  have hfz := HT6.out.tc.fz (1 + nd)
                  have htl := HT6.out.tc.lt
                  have hn0 : 0 ≤ (nd : Int) := by omega
                  have hn1 : (nd : Int) < 17 := by omega
                  have HP : Hid (∀ W, Below w6.heap.size w6 W → Calls Tryz.prog 40 #[ptr (ps nd), spV mf mt] W fun e w' => (∃ v, e = .returned v ∧ Own 3 encP 159 w' W.heap.size v (partsP mf mt (T.held nd))) ∧ Below W.heap.size W w') := fun W hW => iParts_c _ _ mf mt W ((HT6.out.maps nd hnd).next hW (Nat.le_refl _)) (by have := (HH.out nd).len; omega)
                  have hPl7 : (partsP mf mt (T.held nd)).length ≤ 4096 := Nat.le_trans (partsP_len _ _ _) (HH.out nd).len
                  generalize partsP mf mt (T.held nd) = P7 at *
                  go_wp2_with fail
                  refine wp_tail 7 (by kernel_rfl) ?_
                  simp only [List.take_succ_cons, List.take_zero, List.drop_succ_cons, List.drop_zero]
                  repeat still_step
                  refine wpStill_nil ?_
                  go_wp2_with fail
                  refine (HP.out _ (below_drewN (below_alloc w6 _) 1)).mono ?_; rintro e w7 ⟨⟨v7, rfl, ho7⟩, hb7⟩
                  obtain ⟨A7, c7, rfl⟩ := own_shape ho7
                  have HC7 := hidd (containsPi_c A7 _ c7 P7 w7 (Own.rd ho7 rfl) rfl (by omega))
                  have hB7 : Below w6.heap.size w6 w7 := (below_drewN (below_alloc w6 _) 1).trans (hb7.mono (by simp))
                  clear ho7
                  go_wp2_with fail
                  refine HC7.out.mono ?_; rintro e w8 ⟨rfl, hb8⟩
                  have hB8 : Below w6.heap.size w6 w8 := hB7.trans (hb8.mono hB7.size)
                  generalize P7.any shared = r at *
                  cases r
                  · go_wp2_with fail
                    go_roundw
                    case rel => exact ⟨j + 1, by omega, by go_num, HNX.out HR.out, hB6.trans (hB8.mono hB6.size)⟩
                    case measure => simp [intOf]; omega
                  · go_wp2_with fail
                    go_ret
                    exact ⟨by rw [HYX.out HR.out]; rfl, HB0.out.trans ((hBr5.trans ((hB6.trans (hB8.mono hB6.size)).mono (by have := hBr5.size; simp at this; omega))).mono (by omega))⟩
              · obtain rfl : j = P.length := by omega
                go_wp2_with fail
                go_roundw
                case rel => exact ⟨k + 1, by omega, by go_num, HIN.out (fun q hq => hno.out q hq hq), hBr5.trans (hbs.mono (by have := hBr5.size; simp at this; omega))⟩
                case measure => simp [intOf]; omega
      · obtain rfl : k = ws.length := by omega
        go_wp2_with fail
        go_ret
        exact ⟨by rw [HNO.out fun q hq => hall.out q hq hq]; rfl, hBw⟩
  · have HR := hidd (@deadF_no T.held T.waits nd s0 s1 m hm)
    clear h hT HXB
    go_enter Tryz.func157, Tryz.ntmps157
    go_wp2_with fail
    go_ret
    exact ⟨by rw [HR.out]; rfl, HB0.out⟩
end
end Go.Proofs.YtiokkoeciijkoaaGreat
