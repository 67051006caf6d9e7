/- ltab: revoked, Revokes, the first calls. -/
import Derived.Test.YtiokkoeciijkoaaGreatTabH
import Derived.Test.YtiokkoeciijkoaaGreatPartT
namespace Go.Proofs.YtiokkoeciijkoaaGreat
set_option linter.unusedVariables false
set_option linter.unusedSimpArgs false
section
open Go.RowKit

set_option maxHeartbeats 1000000 in
theorem tkeeps_c (a h : Int) (w : World) : Calls Tryz.prog 211 #[.int .i64 a, .int .i64 h] w fun e w' => e = .returned (.int .i64 (keepsF a h)) ∧ w' = w := by
  have hways : (¬ a = 1 ∧ keepsF a h = 0) ∨ (1 = a ∧ ¬ h = 2 ∧ keepsF a h = 0) ∨ (1 = a ∧ 2 = h ∧ keepsF a h = 1) := by
    unfold keepsF
    by_cases h1 : a = 1
    · by_cases h2 : h = 2
      · exact .inr (.inr ⟨h1.symm, h2.symm, if_pos ⟨h1, h2⟩⟩)
      · exact .inr (.inl ⟨h1.symm, h2, if_neg (fun e => h2 e.2)⟩)
    · exact .inl ⟨h1, if_neg (fun e => h1 e.1)⟩
  rcases hways with ⟨h1, hr⟩ | ⟨rfl, h2, hr⟩ | ⟨rfl, rfl, hr⟩
  all_goals
    have HR := hidd hr
    clear hr
    try have hb1 : (a == 1) = false := by simp [h1]
    try have hb2 : (h == 2) = false := by simp [h2]
    go_enter Tryz.func211, Tryz.ntmps211
    go_wp2
    go_ret
    exact ⟨by rw [HR.out]; rfl, rfl⟩
theorem RvOk.len {m : List (Pt Int)} (h : RvOk m) : m.length ≤ 4096 := can_len h.can h.top
theorem revF_take {told : List (Pt Int)} {lm : Int} {P m : List (Pt Int)} {k : Nat} (h : k < P.length) : (P.take (k + 1)).foldl (rev1 told lm) m = rev1 told lm ((P.take k).foldl (rev1 told lm) m) P[k] := foldl_take _ _ _ h
theorem revIn_take {keep : Int} {Q m : List (Pt Int)} {k : Nat} (h : k < Q.length) : revIn keep (Q.take (k + 1)) m = if Q[k].2.2 ≤ keep + 1 then clearF Q[k].1 Q[k].2.1 (revIn keep (Q.take k) m) else revIn keep (Q.take k) m := by
  unfold revIn; rw [foldl_take _ _ _ h]

set_option maxHeartbeats 8000000 in
set_option maxRecDepth 100000 in
theorem trevoked_c {F2 : Nat → Prop} (t : Nat) (T : Tb) (ps : Nat → Nat) (v : Value) (q : Nat) (s0 s1 lm : Int) (pt : Nat) (told : List (Pt Int)) (w : World) (h : TAt w t T ps v) (hT : TOk T) (hq : q ≤ 16) (hto : IM F2 w pt told) (htl : told.length ≤ 100000) :
    Calls Tryz.prog 167 #[ptr t, .int .i64 q, lkV s0 s1 lm, ptr pt] w fun e w' => (∃ u, e = .returned u ∧ Own 3 encP 101 w' w.heap.size u (revokedF (T.held q) told s0 s1 lm)) ∧ Below w.heap.size w w' := by
  have HA := hidd h
  have HTO := hidd hto
  have HHQ := hidd (hT.held q)
  have HPT := hidd ((hT.held q).parts_to (s0 := s0) (s1 := s1))
  have HB0 := hidd (below_alloc w (.cells #[.int .i64 s0, .int .i64 s1, .int .i64 lm] 101))
  have HXB := hidd (Bk.new w #[.int .i64 s0, .int .i64 s1, .int .i64 lm] 101 rfl)
  have hPl : (partsP s0 s1 (T.held q)).length ≤ 4096 := Nat.le_trans (partsP_len _ _ _) (hT.held q).len
  have HP : Hid (∀ W, Below w.heap.size w W → Calls Tryz.prog 40 #[ptr (ps q), spV s0 s1] W fun e w' => (∃ v, e = .returned v ∧ Own 3 encP 159 w' W.heap.size v (partsP s0 s1 (T.held q))) ∧ Below W.heap.size W w') := fun W hW => iParts_c _ _ s0 s1 W ((HA.out.maps q hq).next hW (Nat.le_refl _)) (by have := HHQ.out.len; omega)
  have HRF : Hid (revokedF (T.held q) told s0 s1 lm = (partsP s0 s1 (T.held q)).foldl (rev1 told lm) []) := rfl
  have hi0 : 0 ≤ (q : Int) := by omega
  have hi1 : (q : Int) < 17 := by omega
  generalize revokedF (T.held q) told s0 s1 lm = R at *
  generalize partsP s0 s1 (T.held q) = P at *
  clear h hT hto
  go_enter Tryz.func167, Tryz.ntmps167
  go_wp2_with fail
  refine (iNew_c _).mono ?_; rintro e w1 ⟨rfl, hm1, hb1⟩
  obtain ⟨pm, hpm⟩ : ∃ pm : Nat, pm = (w.alloc (.cells #[.int .i64 s0, .int .i64 s1, .int .i64 lm] 101)).heap.size := ⟨_, rfl⟩
  rw [← hpm] at hm1
  simp only [← hpm]
  have hpw0 : w.heap.size < pm := by rw [hpm]; simp
  clear hpm
  have HM1 := hidd (hm1 (fun k => k = pm))
  have hB1 := HB0.out.trans (hb1.mono (by simp))
  have HX1 := hidd (HXB.out.next hb1 (Nat.le_refl _))
  have hbx1 := HX1.out.bx3
  have HA1 := hidd (HA.out.next hB1 (Nat.le_refl _))
  have hcm := HA1.out.tc.cm q hq
  have hfz := HA1.out.tc.fz (1 + q)
  have htt := HA1.out.tc.lt
  clear hm1
  go_wp2_with fail
  go_cut [27, 28, 29] (fun v5 n5 z5 wx => Hid (Own 3 encP 159 wx w1.heap.size v5 P) ∧ n5 = .int .i64 P.length ∧ z5 = .int .i64 0 ∧ Below w1.heap.size w1 wx)
  case first =>
    go_region_law (first
      | (go_simp; go_at_call 40; refine (HP.out _ (below_drewN hB1 1)).mono ?_; rintro e w5 ⟨⟨v5, rfl, ho5⟩, hb5⟩; obtain ⟨A5, c5, rfl⟩ := own_shape ho5)
      | fail)
    all_goals
      go_wp2_with fail
      go_meet
      exact ⟨ho5, rfl, rfl, below_then (below_drewN (Below.refl _ _) 1) hb5⟩
  case rest =>
    obtain ⟨ho5, rfl, rfl, hB5⟩ := hcut
    obtain ⟨A5, c5, rfl⟩ := own_shape ho5.out
    have hpw1 : pm < w1.heap.size := HM1.out.lt
    have HR5 := hidd (RX.own ho5.out rfl hpw1)
    have HX5 := hidd (HX1.out.next hB5 (Nat.le_refl _))
    have HM5 := hidd (HM1.out.next hB5 (Nat.le_refl _))
    have hB5w := hB1.trans (hB5.mono hB1.size)
    clear ho5 hcm hfz htt hbx1 HA1 HM1 HX1 HXB HP
    obtain ⟨w5, rfl⟩ : ∃ w5 : World, w5 = wc := ⟨_, rfl⟩
    go_wp2_with fail
    go_loopw [29] (fun i wr => ∃ (k : Nat) (M : List (Pt Int)), k ≤ P.length ∧ i = .int .i64 k ∧ Hid (M = (P.take k).foldl (rev1 told lm) []) ∧ Hid (RvOk M) ∧ Hid (IM (fun k => k = pm) wr pm M) ∧ Hid (RX 3 encP wr A5 P pm) ∧ Hid (Bk wr w.heap.size #[.int .i64 s0, .int .i64 s1, .int .i64 lm] 101) ∧ Below w.heap.size w wr) (fun i _ => P.length - (intOf i).toNat)
    case atStart => exact ⟨0, [], by omega, rfl, rfl, RvOk.nil, HM5.out, HR5.out, HX5.out, hB5w⟩
    case round =>
      obtain ⟨k, M, hk, rfl, hM, hok, hm, hX, hlb, hbr⟩ := hrel
      obtain ⟨wq, rfl⟩ : ∃ wq : World, wq = wr := ⟨_, rfl⟩
      have hpq : pm < wq.heap.size := hm.out.lt
      by_cases hlt : k < P.length
      · have hne : P ≠ [] := by intro e; rw [e] at hlt; simp at hlt
        obtain ⟨b, o, hAe, hblt, hc⟩ := hX.out.rd.cells3 hne
        obtain ⟨g0, g1, g2⟩ := hc k hlt
        clear hc
        have HMT := hidd (revF_take (told := told) (lm := lm) (m := []) hlt)
        rw [← hM.out] at HMT
        have HPK := hidd (HPT.out P[k] (List.getElem_mem hlt))
        have hml := hok.out.len
        clear hM
        generalize P[k] = y at *
        obtain ⟨y0, y1, yv⟩ := y
        simp only [] at g0 g1 g2
        subst hAe
        have hlb3 := hlb.out.bx3
        have hBA := hidd (below_alloc wq (.cells #[.int .i64 y0, .int .i64 y1, .int .i64 yv] 159))
        have HYB := hidd (Bk.new wq #[.int .i64 y0, .int .i64 y1, .int .i64 yv] 159 rfl)
        have hyb3 := HYB.out.bx3
        have hlba := (hlb.out.next hBA.out (Nat.le_refl _)).bx3
        have KF := hidd (mFit_c yv lm)
        have hws : w.heap.size ≤ wq.heap.size := hbr.size
        have hBw : Below w.heap.size w (wq.alloc (.cells #[.int .i64 y0, .int .i64 y1, .int .i64 yv] 159)) := hbr.trans (hBA.out.mono hws)
        cases hf : fitB yv lm with
        | true =>
          have HF := hidd hf
          have HL1 : Hid (rev1 told lm M (y0, y1, yv) = M) := by show _ = _; unfold rev1; rw [if_pos hf]
          clear hf
          go_wp2_with fail
          refine (KF.out _).mono ?_; rintro e w7 ⟨rfl, rfl⟩
          rw [HF.out]
          go_wp2_with fail
          go_roundw
          case rel => exact ⟨k + 1, M, by omega, by go_num, (HMT.out.trans HL1.out).symm, hok.out, hm.out.next hBA.out (Nat.le_refl _), hX.out.next hBA.out (Nat.le_refl _), hlb.out.next hBA.out (Nat.le_refl _), hBw⟩
          case measure => simp [intOf]; omega
        | false =>
          have HF := hidd hf
          have HL1 : Hid (rev1 told lm M (y0, y1, yv) = revIn (keepsF lm yv) (partsP y0 y1 told) (setF y0 y1 (keepsF lm yv) M)) := by show _ = _; unfold rev1; rw [if_neg (by show ¬ fitB yv lm = true; rw [hf]; simp)]
          clear hf
          have KK := hidd (tkeeps_c lm yv)
          have hkv := keepsF_val lm yv
          generalize keepsF lm yv = kp at *
          have HS := hidd (fSet_c pm M y0 y1 kp (wq.alloc (.cells #[.int .i64 y0, .int .i64 y1, .int .i64 yv] 159)) (hm.out.next hBA.out (Nat.le_refl _)) (fun k hk => by rw [hk]; simp; omega) hok.out.can (by omega))
          have HOS := hidd (hok.out.set (a := y0) HPK.out.2.2.1 hkv)
          have hql : (partsP y0 y1 told).length ≤ 100000 := Nat.le_trans (partsP_len _ _ _) htl
          have HPQ : Hid (∀ W, Below w.heap.size w W → Calls Tryz.prog 40 #[ptr pt, spV y0 y1] W fun e w' => (∃ v, e = .returned v ∧ Own 3 encP 159 w' W.heap.size v (partsP y0 y1 told)) ∧ Below W.heap.size W w') := fun W hW => iParts_c _ _ y0 y1 W (HTO.out.next hW (Nat.le_refl _)) (by omega)
          have HRT : Hid (∀ (j : Nat) (h : j < (partsP y0 y1 told).length), revIn kp ((partsP y0 y1 told).take (j + 1)) (setF y0 y1 kp M) = if (partsP y0 y1 told)[j].2.2 ≤ kp + 1 then clearF (partsP y0 y1 told)[j].1 (partsP y0 y1 told)[j].2.1 (revIn kp ((partsP y0 y1 told).take j) (setF y0 y1 kp M)) else revIn kp ((partsP y0 y1 told).take j) (setF y0 y1 kp M)) := fun j h => revIn_take h
          generalize partsP y0 y1 told = Q at *
          generalize setF y0 y1 kp M = M0 at *
          go_wp2_with fail
          refine (KF.out _).mono ?_; rintro e w7 ⟨rfl, rfl⟩
          rw [HF.out]
          go_wp2_with fail
          refine (KK.out _).mono ?_; rintro e w7 ⟨rfl, rfl⟩
          go_wp2_with fail
          refine HS.out.mono ?_; rintro e w8 ⟨rfl, hm8, hb8⟩
          have hb8q : BelX pm wq.heap.size wq w8 := (BelX.of hBA.out).trans (hb8.mono (by simp))
          have HM8 := hidd hm8
          have HYB8 := hidd (hb8.bk HYB.out HYB.out.lt (by omega))
          have hyb8 := HYB8.out.bx3
          have hB8 : Below w.heap.size w w8 := hbr.trans (hb8q.below hws (by omega))
          have HX8 := hidd (hX.out.nextX hb8q (Nat.le_refl _))
          have HLB8 := hidd (hb8q.bk hlb.out hlb.out.lt (by omega))
          clear hm8 hb8 hyb3 hlba hlb3 g0 g1 g2 HS KF KK
          go_wp2_with fail
          refine (HPQ.out _ hB8).mono ?_; rintro e w9 ⟨⟨v9, rfl, ho9⟩, hb9⟩
          obtain ⟨A9, c9, rfl⟩ := own_shape ho9
          have hp8 : pm < w8.heap.size := Nat.lt_of_lt_of_le hpq hb8q.size
          have HX9 := hidd (RX.own ho9 rfl hp8)
          have hb9q : BelX pm wq.heap.size wq w9 := hb8q.trans (BelX.of (hb9.mono hb8q.size))
          have HM9 := hidd (HM8.out.next hb9 (Nat.le_refl _))
          clear ho9 hb9 hb8q HYB8 hyb8 HX8 HLB8 hB8
          go_wp2_with fail
          go_loopw [53] (fun i wr => ∃ (j : Nat) (M2 : List (Pt Int)), j ≤ Q.length ∧ i = .int .i64 j ∧ Hid (M2 = revIn kp (Q.take j) M0) ∧ Hid (RvOk M2) ∧ Hid (IM (fun k => k = pm) wr pm M2) ∧ Hid (RX 3 encP wr A9 Q pm) ∧ Hid (BelX pm wq.heap.size wq wr)) (fun i _ => Q.length - (intOf i).toNat)
          case atStart => exact ⟨0, M0, by omega, rfl, rfl, HOS.out, HM9.out, HX9.out, hb9q⟩
          case round =>
            obtain ⟨j, M2, hj, rfl, hM2, hok2, hm2, hX2, hbq⟩ := hrel
            by_cases hlj : j < Q.length
            · have hne2 : Q ≠ [] := by intro e; rw [e] at hlj; simp at hlj
              obtain ⟨b2, o2, hAe2, hblt2, hc2⟩ := hX2.out.rd.cells3 hne2
              obtain ⟨f0, f1, f2⟩ := hc2 j hlj
              clear hc2
              have HR2 := hidd (HRT.out j hlj)
              rw [← hM2.out] at HR2
              have hml2 := hok2.out.len
              clear hM2
              generalize Q[j] = z at *
              obtain ⟨z0, z1, zv⟩ := z
              simp only [] at f0 f1 f2
              subst hAe2
              have hBA2 := hidd (below_alloc wr (.cells #[.int .i64 z0, .int .i64 z1, .int .i64 zv] 159))
              have hzb := (Bk.new wr #[.int .i64 z0, .int .i64 z1, .int .i64 zv] 159 rfl).bx3
              have hpr : pm < wr.heap.size := hm2.out.lt
              have hqs : wq.heap.size ≤ wr.heap.size := hbq.out.size
              by_cases hle : zv ≤ kp + 1
              · have hd : decide (zv ≤ kp + 1) = true := decide_eq_true hle
                have HR3 : Hid (revIn kp (Q.take (j + 1)) M0 = clearF z0 z1 M2) := by show _ = _; rw [HR2.out, if_pos hle]
                have HCL := hidd (fClear_c pm M2 z0 z1 (wr.alloc (.cells #[.int .i64 z0, .int .i64 z1, .int .i64 zv] 159)) (hm2.out.next hBA2.out (Nat.le_refl _)) (fun k hk => by rw [hk]; simp; omega) hok2.out.can (by omega))
                clear hle
                go_wp2_with fail
                refine HCL.out.mono ?_; rintro e w10 ⟨rfl, hm10, hb10⟩
                have hb10q : BelX pm wr.heap.size wr w10 := (BelX.of hBA2.out).trans (hb10.mono (by simp))
                have HM10 := hidd hm10
                clear hm10 hb10
                go_wp2_with fail
                go_roundw
                case rel => exact ⟨j + 1, clearF z0 z1 M2, by omega, by go_num, HR3.out.symm, hok2.out.clear, HM10.out, hX2.out.nextX hb10q (Nat.le_refl _), hbq.out.trans (hb10q.mono hqs)⟩
                case measure => simp [intOf]; omega
              · have hd : decide (zv ≤ kp + 1) = false := decide_eq_false hle
                have HR3 : Hid (revIn kp (Q.take (j + 1)) M0 = M2) := by show _ = _; rw [HR2.out, if_neg hle]
                clear hle
                go_wp2_with fail
                go_roundw
                case rel => exact ⟨j + 1, M2, by omega, by go_num, HR3.out.symm, hok2.out, hm2.out.next hBA2.out (Nat.le_refl _), hX2.out.next hBA2.out (Nat.le_refl _), hbq.out.trans ((BelX.of hBA2.out).mono hqs)⟩
                case measure => simp [intOf]; omega
            · obtain rfl : j = Q.length := by omega
              rw [List.take_length] at hM2
              have hbq' := hbq.out
              go_wp2_with fail
              go_roundw
              case rel => exact ⟨k + 1, M2, by omega, by go_num, hM2.out.trans (HL1.out.symm.trans HMT.out.symm), hok2.out, hm2.out, hX.out.nextX hbq' (Nat.le_refl _), hbq'.bk hlb.out hlb.out.lt (by omega), hbr.trans (hbq'.below hws (by omega))⟩
              case measure => simp [intOf]; omega
      · obtain rfl : k = P.length := by omega
        rw [List.take_length, ← HRF.out] at hM
        have hmR : Hid (IM (fun k => k = pm) wq pm R) := by have := hm.out; rw [hM.out] at this; exact this
        have hRl : R.length ≤ 4096 := by rw [← hM.out]; exact hok.out.len
        have HAL := hidd (iAll_c pm R wq hmR.out (by omega))
        clear hM hm hok hX
        go_wp2_with fail
        refine HAL.out.mono ?_; rintro e w6 ⟨⟨v6, rfl, ho6⟩, hb6⟩
        obtain ⟨A6, c6, rfl⟩ := own_shape ho6
        have HR6 := hidd (Own.rd ho6 rfl)
        have hB6 := hbr.trans (hb6.mono hbr.size)
        clear ho6
        go_wp2_with fail
        go_loopw [15, 71] (fun u i wr => ∃ k : Nat, k ≤ R.length ∧ i = .int .i64 k ∧ Hid (Own 3 encP 101 wr w6.heap.size u (R.take k)) ∧ Below w6.heap.size w6 wr) (fun _ i _ => R.length - (intOf i).toNat)
        case atStart => exact ⟨0, by omega, rfl, World.ownsRow_nil _ _ _ _, Below.refl _ _⟩
        case round =>
          obtain ⟨k, hk, rfl, hown, hbs⟩ := hrel
          by_cases hlt : k < R.length
          · have hne : R ≠ [] := by intro e; rw [e] at hlt; simp at hlt
            obtain ⟨b, o, rfl, hblt, hc⟩ := HR6.out.cells3 hne
            obtain ⟨g0, g1, g2⟩ := hc k hlt
            rw [← hbs.cell (p := ⟨_, _, none⟩) hblt] at g0 g1 g2
            have hbw : b < wr.heap.size := Nat.lt_of_lt_of_le hblt hbs.size
            clear hc
            have HT := hidd (List.take_succ_eq_append_getElem hlt)
            have hpl : (R.take k).length ≤ 100000000 := by rw [List.length_take]; omega
            generalize R[k] = y at *
            obtain ⟨x0, x1, xv⟩ := y
            simp only [] at g0 g1 g2
            go_wp2_with (at_builtin; refine wpList_app_new Tryz.underlying85 infoLock rfl (by decide) hown.out hbs.size ?c1 rfl rfl rfl rfl ?c2 ?c3 ?c4 ?c5 ?c6 (fun v' w' hown' hb' => ?_))
            case c1 => exact below_alloc _ _
            try (case c2 => simp)
            try (case c3 => rfl)
            case c4 => simp [Value.oneCell']
            case c5 => unfold maxLen; omega
            case c6 => omega
            go_roundw
            case rel => exact ⟨k + 1, by omega, by go_num, by show Own _ _ _ _ _ _ _; rw [HT.out]; unfold Own; rw [List.flatMap_append, List.length_append]; exact hown', hbs.trans hb'⟩
            case measure => simp [intOf]; omega
          · obtain rfl : k = R.length := by omega
            rw [List.take_length] at hown
            go_wp2_with fail
            go_ret
            exact ⟨⟨_, rfl, own_base hown.out hB6.size⟩, hB6.trans (hbs.mono hB6.size)⟩
end

section
open Go.RowKit

def encR (x : Rv) : List Value := [.int .i64 x.1, .int .i64 x.2.1, .int .i64 x.2.2.1, .int .i64 x.2.2.2]
theorem encR_len (x : Rv) : (encR x).length = 4 := rfl
theorem encR_one (x : Rv) : ∀ v ∈ encR x, v.oneCell' = true := by
  intro v hv; simp [encR] at hv; rcases hv with rfl | rfl | rfl | rfl <;> rfl
theorem infoRevoke : (Tryz.prog.info? 119).map (fun i => (i.zero, i.size, i.bytes)) = some (some (.agg #[.int .i64 0, .int .i64 0, .int .i64 0, .int .i64 0]), 4, 32) := by kernel_rfl

/-- the maps of what is told are being made: k of them -/
structure NewT (W : World) (pa : Nat) (pt : Nat → Nat) (k : Nat) : Prop where
  cm : ∀ i, i < k → W.cell? ⟨pa, i, none⟩ = some (ptr (pt i))
  cx : ∀ i, k ≤ i → i ≤ 16 → W.cell? ⟨pa, i, none⟩ = some (.pointer none)
  fz : ∀ i, W.frozen? ⟨pa, i, none⟩ = false
  lt : pa < W.heap.size
  maps : ∀ i, i < k → ∀ F, IM F W (pt i) []
  inj : ∀ i j, i < k → j < k → pt i = pt j → i = j
  net : ∀ i, i < k → pa < pt i
theorem NewT.next {W W' : World} {pa k B : Nat} {pt : Nat → Nat} (h : NewT W pa pt k) (hb : Below B W W') (hB : W.heap.size ≤ B) : NewT W' pa pt k := by
  have hk : W'.heap[pa]? = W.heap[pa]? := hb.block pa (Nat.lt_of_lt_of_le h.lt hB)
  have hc : ∀ i, W'.cell? ⟨pa, i, none⟩ = W.cell? ⟨pa, i, none⟩ := fun i => by unfold World.cell?; rw [hk]
  have hf : ∀ i, W'.frozen? ⟨pa, i, none⟩ = W.frozen? ⟨pa, i, none⟩ := fun i => by unfold World.frozen?; rw [hk]
  exact ⟨fun i hi => (hc _).trans (h.cm i hi), fun i h1 h2 => (hc _).trans (h.cx i h1 h2), fun i => (hf i).trans (h.fz i), Nat.lt_of_lt_of_le h.lt hb.size, fun i hi F => (h.maps i hi F).next hb hB, h.inj, h.net⟩
theorem NewT.put {W W' : World} {pa k : Nat} {pt : Nat → Nat} (h : NewT W pa pt k) (hk : k ≤ 16) (hb : Below W.heap.size W W') (hm : ∀ F, IM F W' W.heap.size []) : NewT (W'.setCell ⟨pa, k, none⟩ (ptr W.heap.size)) pa (upd pt k W.heap.size) (k + 1) := by
  have h' := h.next hb (Nat.le_refl _)
  have hlt : ∀ i, i < k → pt i < W.heap.size := fun i hi => (h.maps i hi (fun _ => False)).lt
  have hx := belX_set W' pa k (ptr W.heap.size)
  refine ⟨fun i hi => ?_, fun i h1 h2 => (cell_setCell_ne _ _ _ _ _ (by omega)).trans (h'.cx i (by omega) h2), fun i => (frozen_setCell' _ _ _ _).trans (h'.fz i), by simpa [World.setCell] using h'.lt, fun i hi F => ?_, fun i j hi hj e => ?_, fun i hi => ?_⟩
  · by_cases e : i = k
    · subst e; rw [upd_at]; exact cell_setCell_at _ _ _ _ _ (h'.cx i (Nat.le_refl _) hk)
    · rw [upd_ne _ _ e]; exact (cell_setCell_ne _ _ _ _ _ (by omega)).trans (h'.cm i (by omega))
  · by_cases e : i = k
    · subst e; rw [upd_at]
      exact ((hm (fun k => F k ∨ k = pa)).far hx (Nat.le_refl _) (.inr rfl) (by have := h.lt; omega)).sub fun k hk => .inl hk
    · rw [upd_ne _ _ e]
      exact ((h'.maps i (by omega) (fun k => F k ∨ k = pa)).far hx (Nat.le_refl _) (.inr rfl) (by have := h.net i (by omega); omega)).sub fun k hk => .inl hk
  · by_cases e1 : i = k
    · by_cases e2 : j = k
      · omega
      · subst e1; rw [upd_at, upd_ne _ _ e2] at e
        have := hlt j (by omega); omega
    · by_cases e2 : j = k
      · subst e2; rw [upd_at, upd_ne _ _ e1] at e
        have := hlt i (by omega); omega
      · rw [upd_ne _ _ e1, upd_ne _ _ e2] at e
        exact h.inj i j (by omega) (by omega) e
  · by_cases e : i = k
    · subst e; rw [upd_at]; exact h.lt
    · rw [upd_ne _ _ e]; exact h.net i (by omega)

def toldS (pa : Nat) (pt : Nat → Nat) (vo : Value) (k : Nat) : Prop := k = pa ∨ (∃ i, i ≤ 16 ∧ k = pt i) ∨ vo.ownBlock = some k
/-- what Revokes has told: maps and a row -/
structure ToS (W : World) (base pa : Nat) (pt : Nat → Nat) (vo : Value) (told : Nat → List (Pt Int)) (O : List Rv) : Prop where
  cm : ∀ i, i ≤ 16 → W.cell? ⟨pa, i, none⟩ = some (ptr (pt i))
  lt : pa < W.heap.size
  maps : ∀ i, i ≤ 16 → IM (toldS pa pt vo) W (pt i) (told i)
  o : Own 4 encR 119 W base vo O
  inj : ∀ i j, i ≤ 16 → j ≤ 16 → pt i = pt j → i = j
  net : ∀ i, i ≤ 16 → pt i ≠ pa
  vp : ∀ i, i ≤ 16 → vo.ownBlock ≠ some (pt i)
  va : vo.ownBlock ≠ some pa
  ge : ∀ i, i ≤ 16 → base ≤ pt i
  le : base ≤ W.heap.size
section
variable {W W' : World} {base pa : Nat} {pt : Nat → Nat} {vo : Value} {told : Nat → List (Pt Int)} {O : List Rv}
theorem ToS.fp_lt (h : ToS W base pa pt vo told O) : ∀ k, toldS pa pt vo k → k < W.heap.size := by
  rintro k (rfl | ⟨i, hi, rfl⟩ | hk)
  · exact h.lt
  · exact (h.maps i hi).lt
  · exact (h.o.lt k hk).2
theorem ToS.cells (h : ToS W base pa pt vo told O) (hk : W'.heap[pa]? = W.heap[pa]?) : ∀ i, i ≤ 16 → W'.cell? ⟨pa, i, none⟩ = some (ptr (pt i)) := fun i hi => by
  have : W'.cell? ⟨pa, i, none⟩ = W.cell? ⟨pa, i, none⟩ := by unfold World.cell?; rw [hk]
  exact this.trans (h.cm i hi)
theorem ToS.next {B : Nat} (h : ToS W base pa pt vo told O) (hb : Below B W W') (hB : W.heap.size ≤ B) : ToS W' base pa pt vo told O :=
  ⟨h.cells (hb.block pa (Nat.lt_of_lt_of_le h.lt hB)), Nat.lt_of_lt_of_le h.lt hb.size, fun i hi => (h.maps i hi).next hb hB, own_below h.o (hb.mono hB), h.inj, h.net, h.vp, h.va, h.ge, Nat.le_trans h.le hb.size⟩
theorem ToS.set {i : Nat} {ys : List (Pt Int)} (h : ToS W base pa pt vo told O) (hi : i ≤ 16) (hb : BelX (pt i) W.heap.size W W') (hm : IM (toldS pa pt vo) W' (pt i) ys) : ToS W' base pa pt vo (upd told i ys) O := by
  refine ⟨h.cells (hb.block pa h.lt (h.net i hi).symm), Nat.lt_of_lt_of_le h.lt hb.size, fun j hj => ?_, own_belX h.o hb (h.vp i hi), h.inj, h.net, h.vp, h.va, h.ge, Nat.le_trans h.le hb.size⟩
  by_cases e : j = i
  · subst e; rw [upd_at]; exact hm
  · rw [upd_ne _ _ e]
    exact (h.maps j hj).far hb (Nat.le_refl _) (.inr (.inl ⟨i, hi, rfl⟩)) (fun hp => e (h.inj j i hj hi hp))
theorem ToS.app {v' : Value} {O' : List Rv} (h : ToS W base pa pt vo told O) (ho : Own 4 encR 119 W' base v' O') (ha : AppF W W' vo v') : ToS W' base pa pt v' told O' :=
  ⟨h.cells (ha.block h.va h.lt), Nat.lt_of_lt_of_le h.lt ha.bel.size, fun i hi => (h.maps i hi).app ha (fun k hk => .inr (.inr hk)) (h.vp i hi) (fun k _ hk => by
    rcases hk with hk | hk | hk
    · exact .inl (.inl hk)
    · exact .inl (.inr (.inl hk))
    · exact .inr hk), ho, h.inj, h.net, fun i hi => ha.far _ (h.vp i hi) (h.maps i hi).lt, ha.far _ h.va h.lt, h.ge, Nat.le_trans h.le ha.bel.size⟩
theorem NewT.to (h : NewT W pa pt 17) (hb : base ≤ pa) : ToS W base pa pt (.slice none 0 0) (fun _ => []) [] :=
  ⟨fun i hi => h.cm i (by omega), h.lt, fun i hi => h.maps i (by omega) _, World.ownsRow_nil _ _ _ _, fun i j hi hj => h.inj i j (by omega) (by omega), fun i hi => by have := h.net i (by omega); omega, fun _ _ e => (by cases e), fun e => (by cases e), fun i hi => by have := h.net i (by omega); omega, by have := h.lt; omega⟩
end
theorem hmx (n : Nat) (h : n ≤ 1100000000) : n + 1 ≤ maxLen ∧ (n + 1) * 32 ≤ 140737488355328 := ⟨by unfold maxLen; omega, by omega⟩
theorem hmy {n a i l : Nat} (h : n ≤ a + i * 4096 + l) (hl : l ≤ 4096) : n ≤ a + (i + 1) * 4096 := by omega
theorem RsOk.len {n : Nat} {r : Rs} (h : RsOk n r) (i : Nat) : (r.told i).length ≤ 4096 := can_len (h.can i) (h.top i)

set_option maxHeartbeats 8000000 in
set_option maxRecDepth 100000 in
theorem tRevokes_c {F : Nat → Prop} (t : Nat) (T : Tb) (w : World) (h : Tab F w t T) : Calls Tryz.prog 70 #[ptr t] w fun e w' => (∃ u, e = .returned u ∧ Own 4 encR 119 w' w.heap.size u T.revokes) ∧ Below w.heap.size w w' := by
  obtain ⟨ps, v, hA, _⟩ := h.ex
  obtain ⟨A, c, rfl⟩ := own_shape hA.own
  have HA := hidd hA
  have HOK := hidd h.ok
  have hn := h.ok.n.2
  have hwl := h.ok.len
  have HRV : Hid (T.revokes = (T.waits.foldl (tellW T.held T.n) ⟨[], fun _ => []⟩).out) := rfl
  generalize T.revokes = RV at *
  have HB0 := hidd (below_alloc w (.cells #[.pointer none, .pointer none, .pointer none, .pointer none, .pointer none, .pointer none, .pointer none, .pointer none, .pointer none, .pointer none, .pointer none, .pointer none, .pointer none, .pointer none, .pointer none, .pointer none, .pointer none] 169))
  clear h hA
  go_enter Tryz.func70, Tryz.ntmps70
  go_wp2_with fail
  go_loopw [13] (fun o wr => ∃ k : Nat, k ≤ 17 ∧ o = .int .i64 k ∧ Hid (∃ pt, NewT wr w.heap.size pt k) ∧ Below w.heap.size w wr) (fun o _ => 17 - (intOf o).toNat)
  case atStart =>
    refine ⟨0, by omega, rfl, ⟨fun _ => 0, fun i hi => absurd hi (by omega), fun i _ hi => ?_, fun i => frozen_of_row _ _ i _ 169 (heap_alloc_new w _), by simp, fun i hi => absurd hi (by omega), fun i j hi => absurd hi (by omega), fun i hi => absurd hi (by omega)⟩, below_alloc _ _⟩
    refine (cell_of_row _ _ i _ 169 (0, 0) (heap_alloc_new w _)).trans ?_
    have hcs : i = 0 ∨ i = 1 ∨ i = 2 ∨ i = 3 ∨ i = 4 ∨ i = 5 ∨ i = 6 ∨ i = 7 ∨ i = 8 ∨ i = 9 ∨ i = 10 ∨ i = 11 ∨ i = 12 ∨ i = 13 ∨ i = 14 ∨ i = 15 ∨ i = 16 := by omega
    rcases hcs with rfl | rfl | rfl | rfl | rfl | rfl | rfl | rfl | rfl | rfl | rfl | rfl | rfl | rfl | rfl | rfl | rfl <;> rfl
  case round =>
    obtain ⟨k, hk, rfl, hS, hbr⟩ := hrel
    by_cases hlt : k < 17
    · obtain ⟨pt, hpt⟩ := hS.out
      have HS := hidd hpt
      have hi0 : 0 ≤ (k : Int) := by omega
      have hi1 : (k : Int) < 17 := by omega
      clear hpt hS HRV
      go_wp2_with fail
      refine (iNew_c _).mono ?_; rintro e w5 ⟨rfl, hn5, hb5⟩
      have hN := hidd (HS.out.next hb5 (Nat.le_refl _))
      have hcx := hN.out.cx k (Nat.le_refl _) (by omega)
      have hfz := hN.out.fz k
      have htl := hN.out.lt
      have HP := hidd (HS.out.put (by omega) hb5 hn5)
      have HBX : Hid (Below w.heap.size w (w5.setCell ⟨w.heap.size, k, none⟩ (ptr wr.heap.size))) := (hbr.trans (hb5.mono hbr.size)).trans ((belX_set w5 w.heap.size k _).below (Nat.le_of_lt htl) (Nat.le_refl _))
      clear hn5
      go_wp2_with fail
      go_roundw
      case rel => exact ⟨k + 1, by omega, by go_num, ⟨_, HP.out⟩, HBX.out⟩
      case measure => simp [intOf]; omega
    · obtain rfl : k = 17 := by omega
      obtain ⟨pt, hpt⟩ := hS.out
      have HTO := hidd (hpt.to (base := w.heap.size) (Nat.le_refl _))
      have HAr := hidd (HA.out.next hbr (Nat.le_refl _))
      have hcw := HAr.out.tc.cw
      have htl := HAr.out.tc.lt
      clear hpt hS
      obtain ⟨w2, rfl⟩ : ∃ w2 : World, w2 = wr := ⟨_, rfl⟩
      go_wp2_with fail
      simp only [show (((17 : Nat)) : Int) = 17 from rfl]
      go_loopw [3, 25] (fun vo i wr => ∃ (k : Nat) (r : Rs) (uo : Value), k ≤ T.waits.length ∧ i = .int .i64 k ∧ uo = vo ∧ Hid (r = (T.waits.take k).foldl (tellW T.held T.n) ⟨[], fun _ => []⟩) ∧ Hid (RsOk T.n r) ∧ r.out.length ≤ k * 65536 ∧ Hid (ToS wr w.heap.size w.heap.size pt uo r.told r.out) ∧ Below w.heap.size w wr) (fun _ i _ => T.waits.length - (intOf i).toNat)
      case atStart => exact ⟨0, ⟨[], fun _ => []⟩, _, by omega, rfl, rfl, rfl, RsOk.first _, by simp, HTO.out, hbr⟩
      case round =>
        obtain ⟨k, r, uo, hk, rfl, rfl, hr, hok, hol, hS, hbr⟩ := hrel
        have HAr := hidd (HA.out.next hbr (Nat.le_refl _))
        by_cases hlt : k < T.waits.length
        · have hne : T.waits ≠ [] := by intro e; rw [e] at hlt; simp at hlt
          obtain ⟨b, o, hAe, hblt, hc⟩ := (HAr.out.rd rfl).cellsW hne
          obtain ⟨g0, g1, g2, g3, g4⟩ := hc k hlt
          clear hc
          have HRT : Hid ((T.waits.take (k + 1)).foldl (tellW T.held T.n) ⟨[], fun _ => []⟩ = tellW T.held T.n r T.waits[k]) := by show _ = _; rw [foldl_take _ _ _ hlt, ← hr.out]
          clear hr
          subst hAe
          generalize T.waits[k] = y at *
          obtain ⟨yi, yn, y0, y1, ym⟩ := y
          simp only [] at g0 g1 g2 g3 g4
          have HRT2 : Hid (tellW T.held T.n r (yi, yn, y0, y1, ym) = (List.range T.n).foldl (tellNode T.held (yi, yn, y0, y1, ym)) r) := rfl
          have HBA := hidd (below_alloc wr (.cells #[.int .i64 yi, .int .i64 yn, .int .i64 y0, .int .i64 y1, .int .i64 ym] 168))
          have HYB := hidd (Bk.new wr #[.int .i64 yi, .int .i64 yn, .int .i64 y0, .int .i64 y1, .int .i64 ym] 168 rfl)
          have hBw := hbr.trans (HBA.out.mono hbr.size)
          have HS0 := hidd (hS.out.next HBA.out (Nat.le_refl _))
          have HPQ : Hid (∀ i, i ≤ 16 → pt i < wr.heap.size) := fun i hi => (hS.out.maps i hi).lt
          clear hcw htl
          obtain ⟨wq, rfl⟩ : ∃ wq : World, wq = wr := ⟨_, rfl⟩
          go_wp2_with fail
          go_loopw [3, 8] (fun vo o wr => ∃ (i : Nat) (r2 : Rs) (u2 : Value), i ≤ T.n ∧ o = .int .i64 ((i : Int) + 1) ∧ u2 = vo ∧ Hid (r2 = (List.range i).foldl (tellNode T.held (yi, yn, y0, y1, ym)) r) ∧ Hid (RsOk T.n r2) ∧ r2.out.length ≤ k * 65536 + i * 4096 ∧ Hid (ToS wr w.heap.size w.heap.size pt u2 r2.told r2.out) ∧ Hid (Bk wr wq.heap.size #[.int .i64 yi, .int .i64 yn, .int .i64 y0, .int .i64 y1, .int .i64 ym] 168) ∧ Hid (u2.ownBlock ≠ some wq.heap.size) ∧ Below w.heap.size w wr) (fun _ o _ => (T.n + 1 - (intOf o)).toNat)
          case atStart => exact ⟨0, r, _, by omega, rfl, rfl, rfl, hok.out, by rw [Nat.zero_mul, Nat.add_zero]; exact hol, HS0.out, HYB.out, own_far hS.out.o (Nat.le_refl _), hBw⟩
          case round =>
            obtain ⟨i, r2, u2, hi, rfl, rfl, hr2, hok2, hol2, hS2, hyb, hyf, hb2⟩ := hrel
            obtain ⟨w3, rfl⟩ : ∃ w3 : World, w3 = wr := ⟨_, rfl⟩
            have hyb5 := hyb.out.bx5
            have HA3 := hidd (HA.out.next hb2 (Nat.le_refl _))
            have h0 := HA3.out.tc.c0
            have htl := HA3.out.tc.lt
            by_cases hin : i < T.n
            · have hkn : (i : Int) + 1 ≤ T.n := by omega
              have HRN : Hid ((List.range (i + 1)).foldl (tellNode T.held (yi, yn, y0, y1, ym)) r = tellNode T.held (yi, yn, y0, y1, ym) r2 i) := by show _ = _; rw [foldl_range, ← hr2.out]
              clear hr2
              by_cases he : (i : Int) + 1 = yn
              · have hbe : ((i : Int) + 1 == yn) = true := by simp [he]
                have HRM : Hid (tellNode T.held (yi, yn, y0, y1, ym) r2 i = r2) := if_pos he
                clear he
                go_wp2_with fail
                go_roundw
                case rel => exact ⟨i + 1, r2, u2, by omega, by go_num, rfl, (HRN.out.trans HRM.out).symm, hok2.out, by omega, hS2.out, hyb.out, hyf.out, hb2⟩
                case measure => simp [intOf]; omega
              · have hbe : ((i : Int) + 1 == yn) = false := by simp [he]
                have HRM : Hid (tellNode T.held (yi, yn, y0, y1, ym) r2 i = (revokedF (T.held (i + 1)) (r2.told (i + 1)) y0 y1 ym).foldl (tell1 ((i : Int) + 1)) r2) := if_neg he
                clear he
                have hcm := hS2.out.cm (i + 1) (by omega)
                have htp := hS2.out.lt
                have hi0 : 0 ≤ (i : Int) + 1 := by omega
                have hi1 : (i : Int) + 1 < 17 := by omega
                have HRV2 : Hid (∀ W, Below w3.heap.size w3 W → Calls Tryz.prog 167 #[ptr t, .int .i64 ((i : Int) + 1), lkV y0 y1 ym, ptr (pt (i + 1))] W fun e w' => (∃ u, e = .returned u ∧ Own 3 encP 101 w' W.heap.size u (revokedF (T.held (i + 1)) (r2.told (i + 1)) y0 y1 ym)) ∧ Below W.heap.size W w') := fun W hW => by
                  have := trevoked_c t T ps _ (i + 1) y0 y1 ym (pt (i + 1)) (r2.told (i + 1)) W (HA3.out.next hW (Nat.le_refl _)) HOK.out (by omega) ((hS2.out.maps (i + 1) (by omega)).next hW (Nat.le_refl _)) (by have := hok2.out.len (i + 1); omega)
                  exact this
                have HLO := hidd (revokedF_ok (told := r2.told (i + 1)) (HOK.out.held (i + 1)) y0 y1 ym)
                have hLl := HLO.out.len
                generalize revokedF (T.held (i + 1)) (r2.told (i + 1)) y0 y1 ym = L at *
                go_wp2_with fail
                go_cut [48, 49, 50] (fun v5 n5 z5 wx => Hid (Own 3 encP 101 wx w3.heap.size v5 L) ∧ n5 = .int .i64 L.length ∧ z5 = .int .i64 0 ∧ Below w3.heap.size w3 wx)
                case first =>
                  go_region_law (first
                    | (go_simp; go_at_call 167; refine (HRV2.out _ (below_drewN (Below.refl _ _) 1)).mono ?_; rintro e w5 ⟨⟨v5, rfl, ho5⟩, hb5⟩; obtain ⟨A5, c5, rfl⟩ := own_shape ho5)
                    | fail)
                  all_goals
                    go_wp2_with fail
                    go_meet
                    exact ⟨ho5, rfl, rfl, below_then (below_drewN (Below.refl _ _) 1) hb5⟩
                case rest =>
                  obtain ⟨ho5, rfl, rfl, hB5⟩ := hcut
                  obtain ⟨A5, c5, rfl⟩ := own_shape ho5.out
                  obtain ⟨w5, rfl⟩ : ∃ w5 : World, w5 = wc := ⟨_, rfl⟩
                  have hb25 := hb2.trans (hB5.mono hb2.size)
                  have HS5 := hidd (hS2.out.next hB5 (Nat.le_refl _))
                  have HYB5 := hidd (hyb.out.next hB5 (Nat.le_refl _))
                  have HR5 := hidd (Own.rd ho5.out rfl)
                  have HLF : Hid (∀ b o, A5 = some ⟨b, o, none⟩ → w3.heap.size ≤ b) := fun b o e => by subst e; exact (ho5.out.lt b rfl).1
                  have HTL : Hid (∀ (j : Nat) (h : j < L.length), (L.take (j + 1)).foldl (tell1 ((i : Int) + 1)) r2 = tell1 ((i : Int) + 1) ((L.take j).foldl (tell1 ((i : Int) + 1)) r2) L[j]) := fun j h => foldl_take _ _ _ h
                  clear ho5 hcm htp hyb5 h0 htl HRV2 HA3 HAr g0 g1 g2 g3 g4
                  go_wp2_with fail
                  go_loopw [3, 50] (fun vo j wr => ∃ (q : Nat) (r3 : Rs) (u3 : Value), q ≤ L.length ∧ j = .int .i64 q ∧ u3 = vo ∧ Hid (r3 = (L.take q).foldl (tell1 ((i : Int) + 1)) r2) ∧ Hid (RsOk T.n r3) ∧ r3.out.length ≤ k * 65536 + i * 4096 + q ∧ Hid (ToS wr w.heap.size w.heap.size pt u3 r3.told r3.out) ∧ Hid (Bk wr wq.heap.size #[.int .i64 yi, .int .i64 yn, .int .i64 y0, .int .i64 y1, .int .i64 ym] 168) ∧ Hid (u3.ownBlock ≠ some wq.heap.size) ∧ Hid (Rd 3 encP wr A5 L) ∧ Hid (L ≠ [] → ∀ b o, A5 = some ⟨b, o, none⟩ → u3.ownBlock ≠ some b ∧ ∀ i, i ≤ 16 → pt i ≠ b) ∧ Below w.heap.size w wr) (fun _ j _ => L.length - (intOf j).toNat)
                  case atStart => exact ⟨0, r2, _, by omega, rfl, rfl, rfl, hok2.out, by rw [Nat.add_zero]; exact hol2, HS5.out, HYB5.out, hyf.out, HR5.out, fun hx b o e => ⟨fun e2 => by have := (hS2.out.o.lt b e2).2; have := HLF.out b o e; omega, fun i hi e2 => by have := (hS2.out.maps i hi).lt; have := HLF.out b o e; omega⟩, hb25⟩
                  case round =>
                    obtain ⟨q, r3, u3, hq, rfl, rfl, hr3, hok3, hol3, hS3, hyb3, hyf3, hrd3, hfar3, hb3⟩ := hrel
                    obtain ⟨w6, rfl⟩ : ∃ w6 : World, w6 = wr := ⟨_, rfl⟩
                    by_cases hql : q < L.length
                    · have hneL : L ≠ [] := by intro e; rw [e] at hql; simp at hql
                      obtain ⟨b2, o2, hAe2, hblt2, hc2⟩ := hrd3.out.cells3 hneL
                      obtain ⟨f0, f1, f2⟩ := hc2 q hql
                      clear hc2
                      subst hAe2
                      have HT3 := hidd (HTL.out q hql)
                      rw [← hr3.out] at HT3
                      have HLQ := hidd (HLO.out.each L[q] (List.getElem_mem hql))
                      have hfar := hfar3.out hneL b2 o2 rfl
                      clear hr3
                      generalize L[q] = l at *
                      obtain ⟨l0, l1, lv⟩ := l
                      simp only [] at f0 f1 f2
                      have HLV : Hid (lv = 0 ∨ lv = 1) := HLQ.out.2.2
                      have hlv0 : 0 ≤ lv := by have := HLV.out; omega
                      have hlv1 : lv ≤ 1 := by have := HLV.out; omega
                      have HBL := hidd (below_alloc w6 (.cells #[.int .i64 l0, .int .i64 l1, .int .i64 lv] 101))
                      have hlb := (Bk.new w6 #[.int .i64 l0, .int .i64 l1, .int .i64 lv] 101 rfl).bx3
                      have HLB := hidd (Bk.new w6 #[.int .i64 l0, .int .i64 l1, .int .i64 lv] 101 rfl)
                      have HSL := hidd (hS3.out.next HBL.out (Nat.le_refl _))
                      have hOT : Hid (tell1 ((i : Int) + 1) r3 (l0, l1, lv) = ⟨r3.out ++ [((i : Int) + 1, l0, l1, lv)], upd r3.told (i + 1) (setF l0 l1 (lv + 1) (r3.told (i + 1)))⟩) := by
                        show tell1 _ _ _ = _; unfold tell1; rw [show ((i : Int) + 1).toNat = i + 1 by omega]
                      have hlo : r3.out.length ≤ 1100000000 := by
                        generalize r3.out.length = n3 at hol3 ⊢
                        generalize L.length = nL at hLl hql
                        clear hlb hfar f0 f1 f2
                        omega
                      go_wp2_with (at_builtin; refine wpList_app1 (c := 1) (((i : Int) + 1, l0, l1, lv) : Rv) Tryz.underlying116 infoRevoke rfl (by decide) HSL.out.o HSL.out.le (Below.refl _ _) rfl rfl rfl rfl (by simp) rfl rfl (encR_one _) (hmx _ hlo).1 (hmx _ hlo).2 (fun v' w' ho' ha' => ?_))
                      have HSA := hidd (HSL.out.app ho' ha')
                      have hlf : u3.ownBlock ≠ some w6.heap.size := own_far hS3.out.o (Nat.le_refl _)
                      have HLB' : Hid (Bk w' w6.heap.size #[.int .i64 l0, .int .i64 l1, .int .i64 lv] 101) := (ha'.block hlf HLB.out.lt).trans HLB.out
                      have HYB' : Hid (Bk w' wq.heap.size #[.int .i64 yi, .int .i64 yn, .int .i64 y0, .int .i64 y1, .int .i64 ym] 168) := (ha'.block hyf3.out (Nat.lt_of_lt_of_le hyb3.out.lt (by simp))).trans (hyb3.out.next HBL.out (Nat.le_refl _))
                      have HYF' := hidd (ha'.far _ hyf3.out (Nat.lt_of_lt_of_le hyb3.out.lt (by simp)))
                      have HRD' : Hid (Rd 3 encP w' (some ⟨b2, o2, none⟩) L) := (hrd3.out.below HBL.out (Nat.le_refl _)).heap ha'.bel.size (fun b o e hb => ha'.block (by injection e with e; injection e with e _ _; rw [← e]; exact hfar.1) hb)
                      have HVF := hidd (ha'.far b2 hfar.1 (Nat.lt_of_lt_of_le hblt2 (by simp)))
                      have HPF := hidd hfar.2
                      have hb' : Below w.heap.size w w' := (hb3.trans (HBL.out.mono hb3.size)).trans (ha'.below HSL.out.o HSL.out.le)
                      have hgi := hS3.out.ge (i + 1) (by omega)
                      have hyl := hyb3.out.lt
                      have HNE := hidd (HSA.out.net (i + 1) (by omega))
                      have HMA := hidd (HSA.out.maps (i + 1) (by omega))
                      have HNL : Hid (pt (i + 1) ≠ w6.heap.size) := fun e => by have := (hS3.out.maps (i + 1) (by omega)).lt; omega
                      have HNY : Hid (pt (i + 1) ≠ wq.heap.size) := Nat.ne_of_lt (HPQ.out (i + 1) (by omega))
                      have hcm' := HSA.out.cm (i + 1) (by omega)
                      have htp' := HSA.out.lt
                      have hlb' := HLB'.out.bx3
                      have HSS := hidd (fSet_c (pt (i + 1)) (r3.told (i + 1)) l0 l1 (lv + 1) w'.drew (HMA.out.next (below_drewN (Below.refl _ _) 1) (Nat.le_refl _)) (fun k hk => HSA.out.fp_lt k hk) (hok3.out.can _) (by have := hok3.out.len (i + 1); omega))
                      obtain ⟨Av, cv, rfl⟩ := own_shape ho'
                      clear hlb ho' ha' f0 f1 f2 hfar hlf hfar3
                      go_wp2_with fail
                      refine wp_tail 8 (by kernel_rfl) ?_
                      simp only [List.take_succ_cons, List.take_zero, List.drop_succ_cons, List.drop_zero]
                      repeat still_step
                      refine wpStill_nil ?_
                      go_wp2_with fail
                      refine HSS.out.mono ?_; rintro e w9 ⟨rfl, hm9, hb9⟩
                      have HSD : ToS w'.drew w.heap.size w.heap.size pt (.slice Av (r3.out ++ [((i : Int) + 1, l0, l1, lv)]).length cv) r3.told (r3.out ++ [((i : Int) + 1, l0, l1, lv)]) := HSA.out.next (below_drewN (Below.refl _ _) 1) (Nat.le_refl _)
                      have HS9 := hidd (HSD.set (show i + 1 ≤ 16 by omega) hb9 hm9)
                      have HYB9 : Hid (Bk w9 wq.heap.size #[.int .i64 yi, .int .i64 yn, .int .i64 y0, .int .i64 y1, .int .i64 ym] 168) := hb9.bk (show Bk w'.drew _ _ _ from HYB'.out) HYB'.out.lt HNY.out.symm
                      have HRD9 : Hid (Rd 3 encP w9 (some ⟨b2, o2, none⟩) L) := (show Rd 3 encP w'.drew (some ⟨b2, o2, none⟩) L from HRD'.out).heap hb9.size (fun b o e hb => hb9.block b hb (by injection e with e; injection e with e _ _; rw [← e]; exact fun e2 => (HPF.out (i + 1) (by omega)) e2.symm))
                      have hb9w : Below w.heap.size w w9 := (below_drewN hb' 1).trans (hb9.below hb'.size hgi)
                      clear HSD hm9 hb9 hcm' htp' hlb'
                      rw [show (r3.out ++ [(((i : Int) + 1, l0, l1, lv) : Rv)]).length = r3.out.length + 1 by rw [List.length_append]; rfl] at HS9 HYF' HVF
                      go_wp2_with fail
                      go_roundw
                      case rel => exact ⟨q + 1, ⟨r3.out ++ [((i : Int) + 1, l0, l1, lv)], upd r3.told (i + 1) (setF l0 l1 (lv + 1) (r3.told (i + 1)))⟩, _, by omega, by go_num, rfl, (HT3.out.trans hOT.out).symm, (by have := hok3.out.tell1 (node := (i : Int) + 1) (l := (l0, l1, lv)) (by omega) HLQ.out; rw [hOT.out] at this; exact this), (by show (r3.out ++ [_]).length ≤ _; rw [List.length_append, List.length_singleton, ← Nat.add_assoc]; exact Nat.add_le_add_right hol3 1), HS9.out, HYB9.out, HYF'.out, HRD9.out, fun _ b o e => by injection e with e; injection e with e _ _; rw [← e]; exact ⟨HVF.out, HPF.out⟩, hb9w⟩
                      case measure => simp [intOf]; omega
                    · obtain rfl : q = L.length := by omega
                      rw [List.take_length] at hr3
                      have hOM : r3.out.length ≤ k * 65536 + (i + 1) * 4096 := hmy hol3 hLl
                      go_wp2_with fail
                      go_roundw
                      case rel => exact ⟨i + 1, r3, u3, by omega, by go_num, rfl, hr3.out.trans (HRM.out.symm.trans HRN.out.symm), hok3.out, hOM, hS3.out, hyb3.out, hyf3.out, hb3⟩
                      case measure => simp [intOf]; omega
            · obtain rfl : i = T.n := by omega
              have hd : decide ((T.n : Int) + 1 ≤ (T.n : Int)) = false := by simp; omega
              go_wp2_with fail
              go_roundw
              case rel => exact ⟨k + 1, r2, u2, by omega, by go_num, rfl, hr2.out.trans (HRT2.out.symm.trans HRT.out.symm), hok2.out, by omega, hS2.out, hb2⟩
              case measure => simp [intOf]; omega
        · obtain rfl : k = T.waits.length := by omega
          rw [List.take_length] at hr
          have HOW : Hid (Own 4 encR 119 wr w.heap.size uo RV) := by have := hS.out.o; rw [hr.out, ← HRV.out] at this; exact this
          clear hcw htl
          go_wp2_with fail
          go_ret
          exact ⟨⟨_, rfl, HOW.out⟩, hbr⟩
end

section
open Go.RowKit

abbrev A0 : Tb := ⟨2, fun _ => [], [], 0⟩
abbrev A1 : Tb := (A0.ask 1 0 9 2).tb
abbrev A2 : Tb := (A1.ask 2 3 5 1).tb
theorem a18_all : (A0.ask 1 0 9 2).id = 0 ∧ (A0.ask 1 0 9 2).now = true ∧ (A0.ask 1 0 9 2).err = 0 ∧ A1.last = 0 ∧ (A1.ask 2 3 5 1).id = 1 ∧ (A1.ask 2 3 5 1).now = false ∧ (A1.ask 2 3 5 1).err = 0 ∧ A2.revokes = [(1, 3, 5, 1)] ∧ relB A2.n 1 3 5 1 = true ∧ A2.given 1 3 5 1 = [(1, 2, 3, 5, 1)] ∧ (A2.release 1 3 5 1).sound = true := by
  decide +kernel
/-- beside a row that was made after the table: what it may write leaves that row alone -/
theorem Tab.avoid {α : Type} {enc : α → List Value} {k : Nat} {e : TypeId} {F : Nat → Prop} {W W' : World} {t : Nat} {T : Tb} {u : Value} {xs : List α} (h : Tab F W t T) (hb : Below W.heap.size W W') (ho : Own k enc e W' W.heap.size u xs) : Tab (fun k => F k ∧ u.ownBlock ≠ some k) W' t T := by
  obtain ⟨ps, v, h1, h2⟩ := h.ex
  exact ⟨⟨ps, v, h1.next hb (Nat.le_refl _), fun k hk => ⟨h2 k hk, fun e => by have := h1.fp_lt k hk; have := (ho.lt k e).1; omega⟩⟩, fun k hk => ⟨h.up k (Nat.le_trans hb.size hk), fun e => by have := (ho.lt k e).2; omega⟩, h.ok⟩
theorem Tab.weak {F F' : Nat → Prop} {W : World} {t : Nat} {T : Tb} (h : Tab F W t T) (hF : ∀ k, F k → F' k) : Tab F' W t T := by
  obtain ⟨ps, v, h1, h2⟩ := h.ex
  exact ⟨⟨ps, v, h1, fun k hk => hF k (h2 k hk)⟩, fun k hk => hF k (h.up k hk), h.ok⟩
theorem BelF.lo {F : Nat → Prop} {B0 : Nat} {w w' : World} (h : BelF F w.heap.size w w') (hB : B0 ≤ w.heap.size) (hF : ∀ k, F k → B0 ≤ k) : Below B0 w w' := h.below hB hF
theorem Rd.cellsR {w : World} {A : Option Addr} {xs : List Rv} (h : Rd 4 encR w A xs) (hx : xs ≠ []) : ∃ b o, A = some ⟨b, o, none⟩ ∧ b < w.heap.size ∧
    ∀ (i : Nat) (hi : i < xs.length), w.cell? ⟨b, o + i * 4, none⟩ = some (.int .i64 xs[i].1) ∧ w.cell? ⟨b, o + i * 4 + 1, none⟩ = some (.int .i64 xs[i].2.1) ∧ w.cell? ⟨b, o + i * 4 + 2, none⟩ = some (.int .i64 xs[i].2.2.1) ∧ w.cell? ⟨b, o + i * 4 + 3, none⟩ = some (.int .i64 xs[i].2.2.2) := by
  rcases h with h | ⟨b, o, hA, hb, hc⟩
  · exact absurd h hx
  · refine ⟨b, o, hA, hb, fun i hi => ?_⟩
    have hf := flat_at encR 4 encR_len xs i xs[i] (List.getElem?_eq_getElem hi)
    have h0 := hc _ _ (hf 0 (by decide))
    have h1 := hc _ _ (hf 1 (by decide))
    have h2 := hc _ _ (hf 2 (by decide))
    have h3 := hc _ _ (hf 3 (by decide))
    refine ⟨by simpa using h0, ?_, ?_, ?_⟩
    · rw [Nat.add_assoc]; exact h1
    · rw [Nat.add_assoc]; exact h2
    · rw [Nat.add_assoc]; exact h3

set_option maxHeartbeats 8000000 in
set_option maxRecDepth 100000 in
theorem alive18_c (w : World) : Calls Tryz.prog 60 #[] w fun e w' => e = .returned (.bool true) ∧ Below w.heap.size w w' := by
  obtain ⟨e1, e2, e3, e4, e5, e6, e7, e8, e9, e10, e11⟩ := a18_all
  have HK1 : Hid (∀ W t, Tab (fun k => w.heap.size ≤ k) W t A0 → Calls Tryz.prog 62 #[ptr t, .int .i64 1, lkV 0 9 2] W fun e w' => e = .returned (.tuple #[.int .i64 0, .bool true, .int .i64 0]) ∧ Tab (fun k => w.heap.size ≤ k) w' t A1 ∧ BelF (fun k => w.heap.size ≤ k) W.heap.size W w') := fun W t h => by
    have := tAsk_c t A0 1 0 9 2 W h (by decide)
    rw [e1, e2, e3] at this; exact this
  have HK2 : Hid (∀ W t, Tab (fun k => w.heap.size ≤ k) W t A1 → Calls Tryz.prog 62 #[ptr t, .int .i64 2, lkV 3 5 1] W fun e w' => e = .returned (.tuple #[.int .i64 1, .bool false, .int .i64 0]) ∧ Tab (fun k => w.heap.size ≤ k) w' t A2 ∧ BelF (fun k => w.heap.size ≤ k) W.heap.size W w') := fun W t h => by
    have := tAsk_c t A1 2 3 5 1 W h (by rw [e4]; decide)
    rw [e5, e6, e7] at this; exact this
  have HKR : Hid (∀ W t, Tab (fun k => w.heap.size ≤ k) W t A2 → Calls Tryz.prog 70 #[ptr t] W fun e w' => (∃ u, e = .returned u ∧ Own 4 encR 119 w' W.heap.size u [((1, 3, 5, 1) : Rv)]) ∧ Below W.heap.size W w') := fun W t h => by
    have := tRevokes_c t A2 W h
    rw [e8] at this; exact this
  have HKL : Hid (∀ W t F, Tab F W t A2 → Calls Tryz.prog 63 #[ptr t, .int .i64 1, spV 3 5, .int .i64 1] W fun e w' => (∃ u, e = .returned (.tuple #[u, .int .i64 0]) ∧ Own 5 encW 168 w' W.heap.size u [((1, 2, 3, 5, 1) : Wt)]) ∧ Tab F w' t (A2.release 1 3 5 1) ∧ BelF F W.heap.size W w') := fun W t F h => by
    have := tRelease_c t A2 1 3 5 1 W h
    rw [e10, show relE A2.n 1 3 5 1 = 0 from if_pos e9] at this; exact this
  have HKS : Hid (∀ W t F, Tab F W t (A2.release 1 3 5 1) → Calls Tryz.prog 67 #[ptr t] W fun e w' => e = .returned (.bool true) ∧ Below W.heap.size W w') := fun W t F h => by
    have := tSound_c t (A2.release 1 3 5 1) W h
    rw [e11] at this; exact this
  clear e1 e2 e3 e4 e5 e6 e7 e8 e9 e10 e11
  generalize A2.release 1 3 5 1 = T3 at *
  generalize A2 = T2 at *
  generalize A1 = T1 at *
  go_enter Tryz.func60, Tryz.ntmps60
  go_wp2_with fail
  refine (tNew_c 2 (by decide) (by decide) w).mono ?_; rintro e w1 ⟨rfl, hT1, hb1⟩
  have HT1 := hidd hT1
  clear hT1
  go_wp2_with fail
  refine (HK1.out _ _ HT1.out).mono ?_; rintro e w2 ⟨rfl, hT2, hb2⟩
  have HT2 := hidd hT2
  have hB2 := hb1.trans (hb2.lo hb1.size fun k hk => hk)
  clear hT2
  go_wp2_with fail
  refine (HK2.out _ _ HT2.out).mono ?_; rintro e w3 ⟨rfl, hT3, hb3⟩
  have HT3 := hidd hT3
  have hB3 := hB2.trans (hb3.lo hB2.size fun k hk => hk)
  clear hT3
  go_wp2_with fail
  refine (HKR.out _ _ HT3.out).mono ?_; rintro e w4 ⟨⟨u4, rfl, ho4⟩, hb4⟩
  have HT4 := hidd (HT3.out.avoid hb4 ho4)
  obtain ⟨A4, c4, rfl⟩ := own_shape ho4
  have HR4 := hidd (Own.rd ho4 rfl)
  have hB4 := hB3.trans (hb4.mono hB3.size)
  clear ho4
  go_wp2_with fail
  refine (HKL.out _ _ _ HT4.out).mono ?_; rintro e w5 ⟨⟨u5, rfl, ho5⟩, hT5, hb5⟩
  have HR5 := hidd (hb5.rd HR4.out (Nat.le_refl _) (fun b o e hf => hf.2 (by rw [e]; rfl)))
  have hB5 := hB4.trans (hb5.lo hB4.size fun k hk => hk.1)
  obtain ⟨b, o, hAe, hblt, hc⟩ := HR5.out.cellsR (by simp)
  subst hAe
  obtain ⟨g0, g1, g2, g3⟩ := hc 0 (by simp)
  obtain ⟨A5, c5, rfl⟩ := own_shape ho5
  obtain ⟨b5, o5, hAe5, hblt5, hc5⟩ := (Own.rd ho5 rfl).cellsW (by simp)
  subst hAe5
  obtain ⟨f0, f1, f2, f3, f4⟩ := hc5 0 (by simp)
  have HS := hidd (HKS.out _ _ _ hT5)
  clear ho5 hT5 hc hc5 HR4 HR5
  simp only [Nat.zero_mul, Nat.add_zero, List.getElem_cons_zero, List.length_singleton] at *
  go_wp2_with fail
  refine HS.out.mono ?_; rintro e w6 ⟨rfl, hb6⟩
  go_wp2_with fail
  go_ret
  exact ⟨rfl, hB5.trans (hb6.mono hB5.size)⟩
end
end Go.Proofs.YtiokkoeciijkoaaGreat
