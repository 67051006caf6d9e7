/- mode: asked, Norm, Needs, Has. -/
import Derived.Test.YtiokkoeciijkoaaGreatModeB
namespace Go.Proofs.YtiokkoeciijkoaaGreat
set_option linter.unusedVariables false
set_option linter.unusedSimpArgs false
open Go.RowKit

theorem asks_yes {v : Int} (h : v = 1 ∨ v = 2) : asks v = true := by rcases h with rfl | rfl <;> rfl
theorem asks_no {v : Int} (h1 : ¬ v = 1) (h2 : ¬ v = 2) : asks v = false := by simp [asks, h1, h2]

set_option maxHeartbeats 4000000 in
set_option maxRecDepth 100000 in
theorem masked_c (A : Option Addr) (n c : Nat) (l : List (Pt Int)) (w : World) (hr : Rd 3 encP w A l) (hn : n = l.length) (hl : l.length ≤ 1000000) :
    Calls Tryz.prog 150 #[.slice A n c] w fun e w' => e = .returned (ptr w.heap.size) ∧ IM (fun k => k = w.heap.size) w' w.heap.size (askedF l) ∧ Below w.heap.size w w' := by
  subst hn
  have HR := hidd hr
  clear hr
  go_enter Tryz.func150, Tryz.ntmps150
  go_wp2_with fail
  refine (iNew_c w).mono ?_; rintro e w1 ⟨rfl, hn1, hb1⟩
  have hm1 := hn1 (fun k => k = w.heap.size)
  clear hn1
  go_wp2_with fail
  go_loopw [9] (fun i wr => ∃ k : Nat, k ≤ l.length ∧ i = .int .i64 k ∧ Hid (IM (fun k => k = w.heap.size) wr w.heap.size (askedF (l.take k))) ∧ Below w.heap.size w wr) (fun i _ => l.length - (intOf i).toNat)
  case atStart => exact ⟨0, by omega, rfl, hm1, hb1⟩
  case round =>
    obtain ⟨k, hk, rfl, hm, hbr⟩ := hrel
    by_cases hlt : k < l.length
    · have hne : l ≠ [] := by intro e; rw [e] at hlt; simp at hlt
      obtain ⟨b, o, rfl, hblt, hc⟩ := HR.out.cells3 hne
      obtain ⟨g0, g1, g2⟩ := hc k hlt
      rw [← hbr.cell (p := ⟨_, _, none⟩) hblt] at g0 g1 g2
      have hbw : b < wr.heap.size := Nat.lt_of_lt_of_le hblt hbr.size
      clear hc
      have HT := hidd (askedF_take hlt)
      have HC := hidd (askedF_can (l.take k))
      have HIL := hidd (askedF_inL (L := endsL l) (l := l.take k) fun x hx => endsL_mem (List.mem_of_mem_take hx))
      have HME := hidd (endsL_mem (List.getElem_mem hlt))
      have HEL : Hid ((endsL l).length ≤ 10000000) := by show _ ≤ _; rw [endsL_len]; omega
      generalize askedF (l.take k) = m at *
      generalize l[k] = y at *
      obtain ⟨x0, x1, xv⟩ := y
      simp only [] at g0 g1 g2
      have hB2 := hidd (below_alloc wr (.cells #[.int .i64 x0, .int .i64 x1, .int .i64 xv] 101))
      have HRS := hidd (mRaise_c (endsL l) w.heap.size m x0 x1 xv _ (hm.out.next hB2.out (Nat.le_refl _)) (fun k hk => by rw [hk]; exact Nat.lt_of_lt_of_le hm.out.lt hB2.out.size) HC.out HIL.out HME.out.1 HME.out.2 HEL.out)
      by_cases h1 : xv = 1
      · have HA : Hid (askStep m (x0, x1, xv) = raiseF x0 x1 xv m) := by show _ = _; unfold askStep; rw [if_pos (asks_yes (.inl h1))]
        subst h1
        go_wp2_with fail
        refine HRS.out.mono ?_; rintro e w3 ⟨rfl, hm3, hb3⟩
        go_wp2_with fail
        go_roundw
        case rel => exact ⟨k + 1, by omega, by go_num, by show IM _ _ _ _; rw [HT.out, HA.out]; exact hm3, hbr.trans ((hB2.out.mono hbr.size).trans (hb3.below (by simp; have := hbr.size; omega) (Nat.le_refl _)))⟩
        case measure => simp [intOf]; omega
      · by_cases h2 : xv = 2
        · have HA : Hid (askStep m (x0, x1, xv) = raiseF x0 x1 xv m) := by show _ = _; unfold askStep; rw [if_pos (asks_yes (.inr h2))]
          subst h2
          go_wp2_with fail
          refine HRS.out.mono ?_; rintro e w3 ⟨rfl, hm3, hb3⟩
          go_wp2_with fail
          go_roundw
          case rel => exact ⟨k + 1, by omega, by go_num, by show IM _ _ _ _; rw [HT.out, HA.out]; exact hm3, hbr.trans ((hB2.out.mono hbr.size).trans (hb3.below (by simp; have := hbr.size; omega) (Nat.le_refl _)))⟩
          case measure => simp [intOf]; omega
        · have HA : Hid (askStep m (x0, x1, xv) = m) := by show _ = _; unfold askStep; rw [if_neg (by rw [asks_no h1 h2]; simp)]
          have hb1 : (xv == 1) = false := by simp [h1]
          have hb2 : (xv == 2) = false := by simp [h2]
          go_wp2_with fail
          go_roundw
          case rel => exact ⟨k + 1, by omega, by go_num, by show IM _ _ _ _; rw [HT.out, HA.out]; exact hm.out.next hB2.out (Nat.le_refl _), hbr.trans (hB2.out.mono hbr.size)⟩
          case measure => simp [intOf]; omega
    · obtain rfl : k = l.length := by omega
      rw [List.take_length] at hm
      go_wp2_with fail
      go_ret
      exact ⟨rfl, hm.out, hbr⟩

set_option maxHeartbeats 1000000 in
set_option maxRecDepth 100000 in
theorem mNorm_c (A : Option Addr) (n c : Nat) (l : List (Pt Int)) (w : World) (hr : Rd 3 encP w A l) (hn : n = l.length) (hl : l.length ≤ 1000000) :
    Calls Tryz.prog 51 #[.slice A n c] w fun e w' => (∃ u, e = .returned u ∧ Own 3 encP 101 w' w.heap.size u (askedF l)) ∧ Below w.heap.size w w' := by
  subst hn
  have HA := hidd (masked_c A _ c l w hr rfl hl)
  have hal := askedF_len l
  clear hr
  go_enter Tryz.func51, Tryz.ntmps51
  go_wp2_with fail
  refine HA.out.mono ?_; rintro e w1 ⟨rfl, hm1, hb1⟩
  have HL := hidd (mlocks_c w.heap.size (askedF l) w1 hm1 (by omega))
  go_wp2_with fail
  refine HL.out.mono ?_; rintro e w2 ⟨⟨u, rfl, ho⟩, hb2⟩
  go_wp2_with fail
  go_ret
  exact ⟨⟨_, rfl, own_base ho hb1.size⟩, hb1.trans (hb2.mono hb1.size)⟩

/-- a map, or a nil map, whose Parts are told -/
def HeldAt (hv : Value) (w : World) (held : List (Pt Int)) : Prop := ∀ W, Below w.heap.size w W → ∀ a b, Calls Tryz.prog 40 #[hv, spV a b] W fun e w' => (∃ v, e = .returned v ∧ Own 3 encP 159 w' W.heap.size v (partsP a b held)) ∧ Below W.heap.size W w'
theorem HeldAt.of {F : Nat → Prop} {p : Nat} {held : List (Pt Int)} {w : World} (h : IM F w p held) (hl : held.length ≤ 100000000) : HeldAt (ptr p) w held := fun W hW a b => iParts_c p held a b W (h.next hW (Nat.le_refl _)) hl
theorem HeldAt.none {w : World} : HeldAt (.pointer none) w [] := fun W _ a b => (iPartsN_c a b W).mono fun e w' ⟨h1, h2⟩ => ⟨⟨_, h1, World.ownsRow_nil _ _ _ _⟩, h2⟩

set_option maxHeartbeats 8000000 in
set_option maxRecDepth 100000 in
theorem mNeeds_c (hv : Value) (held : List (Pt Int)) (L : List Int) (A : Option Addr) (n c : Nat) (l : List (Pt Int)) (w : World) (hh : HeldAt hv w held) (hc : CanP held) (hL : InL L held) (hlL : InL L l) (hLl : L.length ≤ 10000000) (hr : Rd 3 encP w A l) (hn : n = l.length) (hl : l.length ≤ 1000000) :
    Calls Tryz.prog 52 #[hv, .slice A n c] w fun e w' => (∃ u, e = .returned u ∧ Own 3 encP 101 w' w.heap.size u (needsF held l)) ∧ Below w.heap.size w w' := by
  subst hn
  have HA := hidd (masked_c A _ c l w hr rfl hl)
  have hal := askedF_len l
  have HH := hidd hh
  have HC := hidd hc
  have HNC := hidd (askedF_can l)
  have HNI := hidd (askedF_inL hlL)
  have HLL := hidd hL
  have HNF : Hid (needFrom held (askedF l) (askedF l) = needsF held l) := rfl
  have HNL : Hid ((needsF held l).length ≤ 10000000) := Nat.le_trans ((needsF_inL hL hlL).len (needsF_can held l)) hLl
  generalize askedF l = N at *
  generalize needsF held l = R at *
  clear hh hr hc hL hlL
  go_enter Tryz.func52, Tryz.ntmps52
  go_wp2_with fail
  refine HA.out.mono ?_; rintro e w1 ⟨rfl, hm1, hb1⟩
  have HL1 := hidd (mlocks_c w.heap.size N w1 hm1 (by omega))
  have hm1' := hidd hm1
  clear hm1
  go_wp2_with fail
  refine HL1.out.mono ?_; rintro e w2 ⟨⟨u2, rfl, ho2⟩, hb2⟩
  obtain ⟨A2, c2, rfl⟩ := own_shape ho2
  have hqw : w.heap.size < w1.heap.size := hm1'.out.lt
  have HX2 := hidd (RX.own ho2 rfl hqw)
  have hm2 := hidd (hm1'.out.next hb2 (Nat.le_refl _))
  have hB2 := hb1.trans (hb2.mono hb1.size)
  clear ho2 hm1' HL1
  go_wp2_with fail
  go_loopw [15] (fun i wr => ∃ k : Nat, k ≤ N.length ∧ i = .int .i64 k ∧ Hid (IM (fun k => k = w.heap.size) wr w.heap.size (needFrom held (N.take k) N)) ∧ Hid (RX 3 encP wr A2 N w.heap.size) ∧ Below w.heap.size w wr) (fun i _ => N.length - (intOf i).toNat)
  case atStart => exact ⟨0, by omega, rfl, hm2.out, HX2.out, hB2⟩
  case round =>
    obtain ⟨k, hk, rfl, hm, hx, hbr⟩ := hrel
    obtain ⟨wq, rfl⟩ : ∃ wq : World, wq = wr := ⟨_, rfl⟩
    by_cases hlt : k < N.length
    · have hne : N ≠ [] := by intro e; rw [e] at hlt; simp at hlt
      obtain ⟨b, o, hA, hblt, hcc⟩ := hx.out.rd.cells3 hne
      subst hA
      obtain ⟨g0, g1, g2⟩ := hcc k hlt
      clear hcc
      have HT := hidd (needFrom_take (held := held) (a := N) hlt)
      have hcan := hidd (needFrom_can (held := held) (P := N.take k) HNC.out)
      have hinl := hidd (needFrom_inL HLL.out (P := N.take k) HNC.out HNI.out (fun x hx => HNI.out x (List.mem_of_mem_take hx)))
      have hyI := hidd (HNI.out N[k] (List.getElem_mem hlt))
      generalize needFrom held (N.take k) N = m at *
      generalize N[k] = y at *
      obtain ⟨x0, x1, xv⟩ := y
      simp only [] at g0 g1 g2
      have hbw : b < wq.heap.size := hblt
      have hXb := hidd (Bk.new wq #[.int .i64 x0, .int .i64 x1, .int .i64 xv] 101 rfl)
      have HPa := hidd (HH.out _ (hbr.trans ((below_alloc wq (.cells #[.int .i64 x0, .int .i64 x1, .int .i64 xv] 101)).mono hbr.size)) x0 x1)
      have hQI := hidd (partsP_inL (s0 := x0) (s1 := x1) HLL.out hyI.out.1 hyI.out.2)
      have HT2 : Hid (needIn xv (partsP x0 x1 held) m = needIn xv (partsP x0 x1 held) m) := rfl
      have hQl : (partsP x0 x1 held).length ≤ 10000000 := by have := partsP_len x0 x1 held; have := HLL.out.len HC.out; omega
      generalize partsP x0 x1 held = Q at *
      go_wp2_with fail
      refine HPa.out.mono ?_; rintro e w5 ⟨⟨v5, rfl, ho5⟩, hb5⟩
      obtain ⟨A5, c5, rfl⟩ := own_shape ho5
      have hqw5 : w.heap.size < wq.heap.size + 1 := by have := hm.out.lt; omega
      have HX5 := hidd (RX.own ho5 rfl (show w.heap.size < _ by simp; omega))
      have hB5 : Below wq.heap.size wq w5 := below_alloc1 hb5
      have hm5 := hidd (hm.out.next hB5 (Nat.le_refl _))
      have hx5 := hidd (hx.out.next hB5 (Nat.le_refl _))
      have hXb5 := hidd (hXb.out.next hb5 (Nat.le_refl _))
      have hBw5 := hbr.trans (hB5.mono hbr.size)
      have hxq : wq.heap.size ≠ w.heap.size := by have := hm.out.lt; omega
      clear ho5 hXb hm hb5 HPa
      go_wp2_with fail
      go_loopw [24] (fun i ws => ∃ j : Nat, j ≤ Q.length ∧ i = .int .i64 j ∧ Hid (IM (fun k => k = w.heap.size) ws w.heap.size (needIn xv (Q.take j) m)) ∧ Hid (RX 3 encP ws A5 Q w.heap.size) ∧ Hid (RX 3 encP ws (some ⟨b, o, none⟩) N w.heap.size) ∧ Hid (Bk ws wq.heap.size #[.int .i64 x0, .int .i64 x1, .int .i64 xv] 101) ∧ Below w.heap.size w ws) (fun i _ => Q.length - (intOf i).toNat)
      case atStart => exact ⟨0, by omega, rfl, hm5.out, HX5.out, hx5.out, hXb5.out, hBw5⟩
      case round =>
        obtain ⟨j, hj, rfl, hmj, hxj, hxn, hXj, hbj⟩ := hrel
        by_cases hlj : j < Q.length
        · have hneq : Q ≠ [] := by intro e; rw [e] at hlj; simp at hlj
          obtain ⟨b', o', hA', hblt', hcc'⟩ := hxj.out.rd.cells3 hneq
          subst hA'
          obtain ⟨d0, d1, d2⟩ := hcc' j hlj
          clear hcc'
          have HTj := hidd (needIn_take (k := xv) (a := m) hlj)
          have hcanj := hidd (needIn_can (k := xv) (Q := Q.take j) hcan.out)
          have hlenj : (needIn xv (Q.take j) m).length ≤ 10000000 := Nat.le_trans ((needIn_inL (k := xv) hcan.out hinl.out (fun x hx => hQI.out x (List.mem_of_mem_take hx))).len hcanj.out) hLl
          generalize needIn xv (Q.take j) m = mj at *
          generalize Q[j] = z at *
          obtain ⟨z0, z1, zv⟩ := z
          simp only [] at d0 d1 d2
          have hbw' : b' < wr.heap.size := hblt'
          have hxb := hXj.out.bx3
          have hxblt : wq.heap.size < wr.heap.size := hXj.out.lt
          have HCV := hidd (mCovers_c zv xv)
          have hB9 := hidd (below_alloc wr (.cells #[.int .i64 z0, .int .i64 z1, .int .i64 zv] 159))
          cases hcv : coversB zv xv with
          | false =>
            have HCF := hidd hcv
            clear hcv
            go_wp2_with fail
            refine (HCV.out _).mono ?_; rintro e w6 ⟨rfl, rfl⟩
            rw [HCF.out]
            go_wp2_with fail
            go_roundw
            case rel => exact ⟨j + 1, by omega, by go_num, by show IM _ _ _ _; rw [HTj.out]; rw [if_neg (by rw [HCF.out]; simp)]; exact hmj.out.next hB9.out (Nat.le_refl _), hxj.out.next hB9.out (Nat.le_refl _), hxn.out.next hB9.out (Nat.le_refl _), hXj.out.next hB9.out (Nat.le_refl _), hbj.trans (hB9.out.mono hbj.size)⟩
            case measure => simp [intOf]; omega
          | true =>
            have HCF := hidd hcv
            clear hcv
            have HCl := hidd (fClear_c w.heap.size mj z0 z1 _ (hmj.out.next hB9.out (Nat.le_refl _)) (fun k hk => by rw [hk]; exact Nat.lt_of_lt_of_le hmj.out.lt hB9.out.size) hcanj.out (by omega))
            go_wp2_with fail
            refine (HCV.out _).mono ?_; rintro e w6 ⟨rfl, rfl⟩
            rw [HCF.out]
            go_wp2_with fail
            refine HCl.out.mono ?_; rintro e w7 ⟨rfl, hm7, hb7⟩
            have hq : BelX w.heap.size wr.heap.size wr w7 := (BelX.of hB9.out).trans (hb7.mono hB9.out.size)
            go_wp2_with fail
            go_roundw
            case rel => exact ⟨j + 1, by omega, by go_num, by show IM _ _ _ _; rw [HTj.out]; rw [if_pos HCF.out]; exact hm7, hxj.out.nextX hq (Nat.le_refl _), hxn.out.nextX hq (Nat.le_refl _), hq.bk hXj.out hXj.out.lt hxq, hbj.trans (hq.below hbj.size (Nat.le_refl _))⟩
            case measure => simp [intOf]; omega
        · obtain rfl : j = Q.length := by omega
          rw [List.take_length] at hmj
          go_wp2_with fail
          go_roundw
          case rel => exact ⟨k + 1, by omega, by go_num, by show IM _ _ _ _; rw [HT.out]; exact hmj.out, hxn.out, hbj⟩
          case measure => simp [intOf]; omega
    · obtain rfl : k = N.length := by omega
      rw [List.take_length, HNF.out] at hm
      have HL3 := hidd (mlocks_c w.heap.size R wq hm.out (by have := HNL.out; omega))
      go_wp2_with fail
      refine HL3.out.mono ?_; rintro e w6 ⟨⟨u6, rfl, ho6⟩, hb6⟩
      go_wp2_with fail
      go_ret
      exact ⟨⟨_, rfl, own_base ho6 hbr.size⟩, hbr.trans (hb6.mono hbr.size)⟩

set_option maxHeartbeats 1000000 in
set_option maxRecDepth 100000 in
theorem mHas_c (hv : Value) (held : List (Pt Int)) (L : List Int) (A : Option Addr) (n c : Nat) (l : List (Pt Int)) (w : World) (hh : HeldAt hv w held) (hc : CanP held) (hL : InL L held) (hlL : InL L l) (hLl : L.length ≤ 10000000) (hr : Rd 3 encP w A l) (hn : n = l.length) (hl : l.length ≤ 1000000) :
    Calls Tryz.prog 58 #[hv, .slice A n c] w fun e w' => e = .returned (.bool (decide ((needsF held l).length = 0))) ∧ Below w.heap.size w w' := by
  subst hn
  have HN := hidd (mNeeds_c hv held L A _ c l w hh hc hL hlL hLl hr rfl hl)
  have hnl : (needsF held l).length ≤ 10000000 := Nat.le_trans ((needsF_inL hL hlL).len (needsF_can held l)) hLl
  generalize needsF held l = R at *
  clear hh hr hc hL hlL
  go_enter Tryz.func58, Tryz.ntmps58
  go_wp2_with fail
  refine HN.out.mono ?_; rintro e w1 ⟨⟨u, rfl, ho⟩, hb1⟩
  obtain ⟨A1, c1, rfl⟩ := own_shape ho
  clear ho
  have hd : Hid ((((R.length : Int)) == 0) = decide (R.length = 0)) := by show _ = _; rw [Bool.eq_iff_iff, beq_iff_eq, decide_eq_true_iff]; omega
  go_wp2_with fail
  go_ret
  exact ⟨congrArg (fun b => Ending.returned (.bool b)) hd.out, hb1⟩
end Go.Proofs.YtiokkoeciijkoaaGreat
