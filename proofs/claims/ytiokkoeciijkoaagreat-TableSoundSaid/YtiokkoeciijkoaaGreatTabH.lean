/- ltab: the table as callers see it: Mode, Holds, Waits, Sound, New, Release, Ask. -/
import Derived.Test.YtiokkoeciijkoaaGreatTabE
import Derived.Test.YtiokkoeciijkoaaGreatTabB
import Derived.Test.YtiokkoeciijkoaaGreatImapG
import Derived.Test.YtiokkoeciijkoaaGreatPartT
namespace Go.Proofs.YtiokkoeciijkoaaGreat
set_option linter.unusedVariables false
set_option linter.unusedSimpArgs false
section
open Go.RowKit

/-- the table at t; what it may write lies in F -/
structure Tab (F : Nat → Prop) (W : World) (t : Nat) (T : Tb) : Prop where
  ex : ∃ ps v, TAt W t T ps v ∧ ∀ k, fpS t ps v k → F k
  up : ∀ k, W.heap.size ≤ k → F k
  ok : TOk T
theorem Tab.next {F : Nat → Prop} {W W' : World} {t B : Nat} {T : Tb} (h : Tab F W t T) (hb : Below B W W') (hB : W.heap.size ≤ B) : Tab F W' t T := by
  obtain ⟨ps, v, h1, h2⟩ := h.ex
  exact ⟨⟨ps, v, h1.next hb hB, h2⟩, fun k hk => h.up k (Nat.le_trans hb.size hk), h.ok⟩

theorem tis_t {F : Nat → Prop} (t : Nat) (T : Tb) (nd : Int) (w : World) (h : Tab F w t T) : Calls Tryz.prog 153 #[ptr t, .int .i64 nd] w fun e w' => e = .returned (.bool (isB T.n nd)) ∧ w' = w := by
  obtain ⟨ps, v, h1, _⟩ := h.ex
  exact tis_c t T.n ps v T.last nd w h1.tc

set_option maxHeartbeats 4000000 in
set_option maxRecDepth 100000 in
theorem tMode_c {F : Nat → Prop} (t : Nat) (T : Tb) (nd b : Int) (w : World) (h : Tab F w t T) : Calls Tryz.prog 165 #[ptr t, .int .i64 nd, .int .i64 b] w fun e w' => e = .returned (.int .i64 (T.mode nd b)) ∧ Below w.heap.size w w' := by
  have HI := hidd (tis_t t T nd w h)
  cases hb : isB T.n nd with
  | false =>
    have HM : Hid (T.mode nd b = 0) := by show _ = _; unfold Tb.mode; rw [hb]; rfl
    rw [hb] at HI
    clear h hb
    go_enter Tryz.func165, Tryz.ntmps165
    go_wp2_with fail
    refine HI.out.mono ?_; rintro e w1 ⟨rfl, hw⟩
    obtain rfl : w = w1 := hw.symm
    go_wp2_with fail
    go_ret
    exact ⟨by rw [HM.out]; rfl, Below.refl _ _⟩
  | true =>
    have HM : Hid (T.mode nd b = (getP b (T.held nd.toNat)).getD 0) := by show _ = _; unfold Tb.mode; rw [if_pos hb]
    rw [hb] at HI
    have hnd := isB_iff.1 hb
    have hn := h.ok.n.2
    obtain ⟨q, rfl⟩ : ∃ q : Nat, nd = q := ⟨nd.toNat, by omega⟩
    obtain ⟨ps, v, hA, _⟩ := h.ex
    have hcm := hA.tc.cm q (by omega)
    have hfz := hA.tc.fz (1 + q)
    have htl := hA.tc.lt
    have hi0 : 0 ≤ (q : Int) := by omega
    have hi1 : (q : Int) < 17 := by omega
    have HG := hidd (iGet_c _ (T.held q) b w (hA.maps q (by omega)) (by have := (h.ok.held q).len; omega))
    generalize T.mode _ _ = R at *
    clear h hb hA
    go_enter Tryz.func165, Tryz.ntmps165
    go_wp2_with fail
    refine HI.out.mono ?_; rintro e w1 ⟨rfl, hw⟩
    obtain rfl : w = w1 := hw.symm
    go_wp2_with fail
    refine HG.out.mono ?_; rintro e w2 ⟨rfl, hb2⟩
    go_wp2_with fail
    go_ret
    exact ⟨by rw [HM.out]; rfl, hb2⟩

set_option maxHeartbeats 4000000 in
set_option maxRecDepth 100000 in
theorem tHolds_c {F : Nat → Prop} (t : Nat) (T : Tb) (nd : Int) (w : World) (h : Tab F w t T) : Calls Tryz.prog 163 #[ptr t, .int .i64 nd] w fun e w' => (∃ u, e = .returned u ∧ Own 3 encP 101 w' w.heap.size u (T.holds nd)) ∧ Below w.heap.size w w' := by
  have HI := hidd (tis_t t T nd w h)
  cases hb : isB T.n nd with
  | false =>
    have HM : Hid (T.holds nd = []) := by show _ = _; unfold Tb.holds; rw [hb]; rfl
    rw [hb] at HI
    clear h hb
    go_enter Tryz.func163, Tryz.ntmps163
    go_wp2_with fail
    refine HI.out.mono ?_; rintro e w1 ⟨rfl, hw⟩
    obtain rfl : w = w1 := hw.symm
    go_wp2_with fail
    go_ret
    exact ⟨⟨_, rfl, by rw [HM.out]; exact World.ownsRow_nil _ _ _ _⟩, Below.refl _ _⟩
  | true =>
    have HM : Hid (T.holds nd = T.held nd.toNat) := by show _ = _; unfold Tb.holds; rw [if_pos hb]
    rw [hb] at HI
    have hnd := isB_iff.1 hb
    have hn := h.ok.n.2
    obtain ⟨q, rfl⟩ : ∃ q : Nat, nd = q := ⟨nd.toNat, by omega⟩
    obtain ⟨ps, v, hA, _⟩ := h.ex
    have hcm := hA.tc.cm q (by omega)
    have hfz := hA.tc.fz (1 + q)
    have htl := hA.tc.lt
    have hi0 : 0 ≤ (q : Int) := by omega
    have hi1 : (q : Int) < 17 := by omega
    have HG := hidd (iAll_c _ (T.held q) w (hA.maps q (by omega)) (by have := (h.ok.held q).len; omega))
    have hxl := (h.ok.held q).len
    rw [Int.toNat_natCast] at HM
    generalize T.holds _ = xs at *
    generalize T.held q = R at *
    obtain rfl := HM.out
    clear h hb hA
    go_enter Tryz.func163, Tryz.ntmps163
    go_wp2_with fail
    refine HI.out.mono ?_; rintro e w1 ⟨rfl, hw⟩
    obtain rfl : w = w1 := hw.symm
    go_wp2_with fail
    refine HG.out.mono ?_; rintro e w1 ⟨⟨v1, rfl, ho1⟩, hb1⟩
    obtain ⟨A, c, rfl⟩ := own_shape ho1
    have HR := hidd (Own.rd ho1 rfl)
    clear ho1
    go_wp2_with fail
    go_loopw [5, 20] (fun u i wr => ∃ k : Nat, k ≤ xs.length ∧ i = .int .i64 k ∧ Hid (Own 3 encP 101 wr w1.heap.size u (xs.take k)) ∧ Below w1.heap.size w1 wr) (fun _ i _ => xs.length - (intOf i).toNat)
    case atStart => exact ⟨0, by omega, rfl, World.ownsRow_nil _ _ _ _, Below.refl _ _⟩
    case round =>
      obtain ⟨k, hk, rfl, hown, hbr⟩ := hrel
      by_cases hlt : k < xs.length
      · have hne : xs ≠ [] := by intro e; rw [e] at hlt; simp at hlt
        obtain ⟨b, o, rfl, hblt, hc⟩ := HR.out.cells3 hne
        obtain ⟨g0, g1, g2⟩ := hc k hlt
        rw [← hbr.cell (p := ⟨_, _, none⟩) hblt] at g0 g1 g2
        have hbw : b < wr.heap.size := Nat.lt_of_lt_of_le hblt hbr.size
        clear hc
        have HT := hidd (List.take_succ_eq_append_getElem hlt)
        have hpl : (xs.take k).length ≤ 100000000 := by rw [List.length_take]; omega
        generalize xs[k] = y at *
        obtain ⟨x0, x1, xv⟩ := y
        simp only [] at g0 g1 g2
        go_wp2_with (at_builtin; refine wpList_app_new Tryz.underlying85 infoLock rfl (by decide) hown.out hbr.size ?c1 rfl rfl rfl rfl ?c2 ?c3 ?c4 ?c5 ?c6 (fun v' w' hown' hb' => ?_))
        case c1 => exact below_alloc _ _
        try (case c2 => simp)
        try (case c3 => rfl)
        case c4 => simp [Value.oneCell']
        case c5 => unfold maxLen; omega
        case c6 => omega
        go_roundw
        case rel => exact ⟨k + 1, by omega, by go_num, by show Own _ _ _ _ _ _ _; rw [HT.out]; unfold Own; rw [List.flatMap_append, List.length_append]; exact hown', hbr.trans hb'⟩
        case measure => simp [intOf]; omega
      · obtain rfl : k = xs.length := by omega
        rw [List.take_length] at hown
        go_wp2_with fail
        go_ret
        exact ⟨⟨_, rfl, own_base hown.out hb1.size⟩, hb1.trans (hbr.mono hb1.size)⟩

set_option maxHeartbeats 400000 in
theorem cloneWait_c (A : Option Addr) (n c : Nat) (xs : List Wt) (w : World) (h : Rd 5 encW w A xs) (hn : n = xs.length) (hbig : xs.length ≤ 1000000000) :
    Calls Tryz.prog 166 #[.slice A n c] w fun e w' => (∃ v', e = .returned v' ∧ Own 5 encW 168 w' w.heap.size v' xs) ∧ Below w.heap.size w w' := by
  have q := fun (w : World) (a : Option Addr) (n c n' c' : Nat) => Lib.run_eql_slice_nil (P := Tryz.prog) w 107 168 a n c n' c' Tryz.underlying107
  have hl := flat_length encW 5 encW_len xs
  cases A with
  | none =>
    have hx : xs = [] := by rcases h with h | ⟨b, o, h, _⟩; · exact h
                            · cases h
    subst hx
    simp at hn
    subst hn
    go_enter Tryz.func166, Tryz.ntmps166
    go_wp2
    go_ret
    exact ⟨⟨_, rfl, World.ownsRow_nil _ _ _ _⟩, Below.refl _ _⟩
  | some a =>
    have H : Hid (∀ j u, (xs.flatMap encW)[j]? = some u → w.cell? (a.add j) = some u) := by
      intro j u hu
      rcases h with h | ⟨b, o, ha, _, hc⟩
      · subst h; simp at hu
      · injection ha with ha; subst ha; rw [add_lit']; exact hc j u hu
    have h1 : Hid (∀ u ∈ xs.flatMap encW, u.oneCell' = true) := by
      intro u hu; obtain ⟨x, _, hx⟩ := List.mem_flatMap.1 hu; exact encW_one x u hx
    have HL := hidd hl
    have HN := hidd hn
    clear hl hn h
    obtain ⟨i, hi, hz, h3, h4⟩ := info_parts infoWait
    go_enter Tryz.func166, Tryz.ntmps166
    go_wp2_with (at_builtin; refine wpList_append_own _ rfl _ _ 107 rfl w.heap.size 168 i _ 5 40 Tryz.underlying107 hi hz h3 h4 rfl (by decide) _ 0 [] rfl (World.ownsRow_made w #[] 0 (Nat.le_refl _) (Nat.zero_le _) (by simp)) a n c (xs.flatMap encW) rfl (by rw [HL.out, HN.out]) (fun j u hu => Lib.cell?_alloc_some _ (H.out j u hu)) h1.out (by rw [HN.out]; unfold maxLen; omega) (by rw [HN.out]; omega) (by simp) (fun v' w' ho hg hnil => ?_))
    go_ret
    exact ⟨⟨v', rfl, by simpa [HN.out] using ho⟩, (((Below.refl _ w).alloc (Nat.le_refl _) _).grown hg (by simp) (fun k hk => by cases hk; exact Nat.le_refl _))⟩

set_option maxHeartbeats 1000000 in
set_option maxRecDepth 100000 in
theorem tWaits_c {F : Nat → Prop} (t : Nat) (T : Tb) (w : World) (h : Tab F w t T) : Calls Tryz.prog 69 #[ptr t] w fun e w' => (∃ u, e = .returned u ∧ Own 5 encW 168 w' w.heap.size u T.waits) ∧ Below w.heap.size w w' := by
  obtain ⟨ps, v, hA, _⟩ := h.ex
  obtain ⟨A, c, rfl⟩ := own_shape hA.own
  have h18 := hA.tc.cw
  have htl := hA.tc.lt
  have HC := hidd (cloneWait_c A _ c T.waits w (hA.rd rfl) rfl (by have := h.ok.len; omega))
  clear h hA
  go_enter Tryz.func69, Tryz.ntmps69
  go_wp2_with fail
  refine HC.out.mono ?_; rintro e w1 ⟨⟨v1, rfl, ho1⟩, hb1⟩
  go_wp2_with fail
  go_ret
  exact ⟨⟨_, rfl, ho1⟩, hb1⟩

theorem sound_no {T : Tb} {k j : Nat} (hk : k < T.n) (hj : j < (T.held (k + 1)).length) (h : fitsF T.held T.n ((k : Int) + 1) (T.held (k + 1))[j].1 (T.held (k + 1))[j].2.1 (T.held (k + 1))[j].2.2 = false) : T.sound = false := by
  unfold Tb.sound; rw [List.all_eq_false]
  refine ⟨k, List.mem_range.2 hk, ?_⟩
  rw [Bool.not_eq_true, List.all_eq_false]
  exact ⟨_, List.getElem_mem hj, by rw [h]; simp⟩
theorem sound_yes {T : Tb} (h : ∀ k, k < T.n → ∀ j (hj : j < (T.held (k + 1)).length), fitsF T.held T.n ((k : Int) + 1) (T.held (k + 1))[j].1 (T.held (k + 1))[j].2.1 (T.held (k + 1))[j].2.2 = true) : T.sound = true := by
  unfold Tb.sound; rw [List.all_eq_true]
  intro k hk
  rw [List.all_eq_true]
  intro x hx
  obtain ⟨j, hj, rfl⟩ := List.getElem_of_mem hx
  exact h k (List.mem_range.1 hk) j hj

set_option maxHeartbeats 4000000 in
set_option maxRecDepth 100000 in
theorem tSound_c {F : Nat → Prop} (t : Nat) (T : Tb) (w : World) (h : Tab F w t T) : Calls Tryz.prog 67 #[ptr t] w fun e w' => e = .returned (.bool T.sound) ∧ Below w.heap.size w w' := by
  have HT := hidd h
  have HNO := hidd (fun k j => @sound_no T k j)
  have HYES := hidd (@sound_yes T)
  have HOK := hidd h.ok
  have HHO : Hid (∀ k, k < T.n → T.holds ((k : Int) + 1) = T.held (k + 1)) := fun k hk => by
    unfold Tb.holds; rw [if_pos (isB_iff.2 (by omega))]; rfl
  have hn := h.ok.n
  obtain ⟨hn1, hn2⟩ := hn
  generalize T.sound = R at *
  have hc : ∀ W, Below w.heap.size w W → W.cell? ⟨t, 0, none⟩ = some (.int .i64 T.n) ∧ t < W.heap.size := fun W hW => by
    obtain ⟨ps, v, hA, _⟩ := (HT.out.next hW (Nat.le_refl _)).ex
    exact ⟨hA.tc.c0, hA.tc.lt⟩
  have HC := hidd hc
  clear h hc
  go_enter Tryz.func67, Tryz.ntmps67
  go_wp2_with fail
  go_loopw [3] (fun o wr => ∃ k : Nat, k ≤ T.n ∧ o = .int .i64 ((k : Int) + 1) ∧ Hid (∀ i, i < k → ∀ j (hj : j < (T.held (i + 1)).length), fitsF T.held T.n ((i : Int) + 1) (T.held (i + 1))[j].1 (T.held (i + 1))[j].2.1 (T.held (i + 1))[j].2.2 = true) ∧ Below w.heap.size w wr) (fun o _ => (T.n + 1 - (intOf o)).toNat)
  case atStart => exact ⟨0, by omega, rfl, fun j hj => absurd hj (by omega), Below.refl _ _⟩
  case round =>
    obtain ⟨k, hk, rfl, hall, hbr⟩ := hrel
    obtain ⟨h0, htl⟩ := HC.out wr hbr
    have HTr := hidd (HT.out.next hbr (Nat.le_refl _))
    by_cases hlt : k < T.n
    · have hkn : (k : Int) + 1 ≤ T.n := by omega
      have HL := hidd (tHolds_c t T ((k : Int) + 1) wr HTr.out)
      rw [HHO.out k hlt] at HL
      have HNK : Hid (∀ j (hj : j < (T.held (k + 1)).length), fitsF T.held T.n ((k : Int) + 1) (T.held (k + 1))[j].1 (T.held (k + 1))[j].2.1 (T.held (k + 1))[j].2.2 = false → R = false) := fun j hj h => HNO.out k j hlt hj h
      have HYK : Hid ((∀ j (hj : j < (T.held (k + 1)).length), fitsF T.held T.n ((k : Int) + 1) (T.held (k + 1))[j].1 (T.held (k + 1))[j].2.1 (T.held (k + 1))[j].2.2 = true) → ∀ i, i < k + 1 → ∀ j (hj : j < (T.held (i + 1)).length), fitsF T.held T.n ((i : Int) + 1) (T.held (i + 1))[j].1 (T.held (i + 1))[j].2.1 (T.held (i + 1))[j].2.2 = true) := by
        intro h i hi
        by_cases e : i < k
        · exact hall.out i e
        · have : i = k := by omega
          subst this; exact h
      have hll := (HOK.out.held (k + 1)).len
      have HFI : Hid (∀ W, Below w.heap.size w W → ∀ a b m, Calls Tryz.prog 162 #[ptr t, .int .i64 ((k : Int) + 1), lkV a b m] W fun e w' => e = .returned (.bool (fitsF T.held T.n ((k : Int) + 1) a b m)) ∧ Below W.heap.size W w') := fun W hW a b m => by
        obtain ⟨ps, v, hA, _⟩ := (HT.out.next hW (Nat.le_refl _)).ex
        exact tfits_c t T ps v _ a b m W hA HOK.out
      generalize T.held (k + 1) = l at *
      clear hall HNO HYES
      go_wp2_with fail
      refine HL.out.mono ?_; rintro e w5 ⟨⟨v5, rfl, ho5⟩, hb5⟩
      obtain ⟨A5, c5, rfl⟩ := own_shape ho5
      have HR5 := hidd (Own.rd ho5 rfl)
      have hB5 := hbr.trans (hb5.mono hbr.size)
      clear ho5
      obtain ⟨wq, rfl⟩ : ∃ wq : World, wq = wr := ⟨_, rfl⟩
      go_wp2_with fail
      go_loopw [20] (fun i wr => ∃ j : Nat, j ≤ l.length ∧ i = .int .i64 j ∧ Hid (∀ q (h : q < l.length), q < j → fitsF T.held T.n ((k : Int) + 1) l[q].1 l[q].2.1 l[q].2.2 = true) ∧ Below w5.heap.size w5 wr) (fun i _ => l.length - (intOf i).toNat)
      case atStart => exact ⟨0, by omega, rfl, fun q _ h => absurd h (by omega), Below.refl _ _⟩
      case round =>
        obtain ⟨j, hj, rfl, hfit, hbs⟩ := hrel
        have hBs := hB5.trans (hbs.mono hB5.size)
        by_cases hlj : j < l.length
        · have hne : l ≠ [] := by intro e; rw [e] at hlj; simp at hlj
          obtain ⟨b, o, rfl, hblt, hc⟩ := HR5.out.cells3 hne
          obtain ⟨g0, g1, g2⟩ := hc j hlj
          rw [← hbs.cell (p := ⟨_, _, none⟩) hblt] at g0 g1 g2
          have hbw : b < wr.heap.size := Nat.lt_of_lt_of_le hblt hbs.size
          clear hc
          have HF0 := hidd (HNK.out j hlj)
          have HF1 : Hid (fitsF T.held T.n ((k : Int) + 1) l[j].1 l[j].2.1 l[j].2.2 = true → ∀ q (h : q < l.length), q < j + 1 → fitsF T.held T.n ((k : Int) + 1) l[q].1 l[q].2.1 l[q].2.2 = true) := by
            intro h q hq hqj
            by_cases e : q < j
            · exact hfit.out q hq e
            · have : q = j := by omega
              subst this; exact h
          generalize l[j] = y at *
          obtain ⟨y0, y1, yv⟩ := y
          simp only [] at g0 g1 g2
          have KF := hidd (HFI.out (wr.alloc (.cells #[.int .i64 y0, .int .i64 y1, .int .i64 yv] 101)) (hBs.trans ((below_alloc wr _).mono hBs.size)) y0 y1 yv)
          cases hf : fitsF T.held T.n ((k : Int) + 1) y0 y1 yv with
          | false =>
            have HF := hidd hf
            rw [hf] at KF
            clear hf
            go_wp2_with fail
            refine KF.out.mono ?_; rintro e w7 ⟨rfl, hb7⟩
            go_wp2_with fail
            go_ret
            exact ⟨by rw [HF0.out HF.out]; rfl, hBs.trans ((below_alloc1 hb7).mono hBs.size)⟩
          | true =>
            have HF := hidd hf
            rw [hf] at KF
            clear hf
            go_wp2_with fail
            refine KF.out.mono ?_; rintro e w7 ⟨rfl, hb7⟩
            go_wp2_with fail
            go_roundw
            case rel => exact ⟨j + 1, by omega, by go_num, HF1.out HF.out, hbs.trans ((below_alloc1 hb7).mono hbs.size)⟩
            case measure => simp [intOf]; omega
        · obtain rfl : j = l.length := by omega
          go_wp2_with fail
          go_roundw
          case rel => exact ⟨k + 1, by omega, by go_num, HYK.out (fun q hq => hfit.out q hq hq), hBs⟩
          case measure => simp [intOf]; omega
    · obtain rfl : k = T.n := by omega
      have hd : decide ((T.n : Int) + 1 ≤ (T.n : Int)) = false := by simp; omega
      go_wp2_with fail
      go_ret
      exact ⟨by rw [HYES.out hall.out]; rfl, hbr⟩
end

section
open Go.RowKit

/-- a table that is being made: k maps are laid -/
structure NewS (W : World) (t n : Nat) (ps : Nat → Nat) (k : Nat) : Prop where
  c0 : W.cell? ⟨t, 0, none⟩ = some (.int .i64 n)
  cm : ∀ i, i < k → W.cell? ⟨t, 1 + i, none⟩ = some (ptr (ps i))
  cx : ∀ i, k ≤ i → i ≤ 16 → W.cell? ⟨t, 1 + i, none⟩ = some (.pointer none)
  cw : W.cell? ⟨t, 18, none⟩ = some (.slice none 0 0)
  cl : W.cell? ⟨t, 19, none⟩ = some (.int .i64 0)
  fz : ∀ i, W.frozen? ⟨t, i, none⟩ = false
  lt : t < W.heap.size
  maps : ∀ i, i < k → ∀ F, IM F W (ps i) []
  inj : ∀ i j, i < k → j < k → ps i = ps j → i = j
  net : ∀ i, i < k → t < ps i
theorem NewS.next {W W' : World} {t n k B : Nat} {ps : Nat → Nat} (h : NewS W t n ps k) (hb : Below B W W') (hB : W.heap.size ≤ B) : NewS W' t n ps k := by
  have hk : W'.heap[t]? = W.heap[t]? := hb.block t (Nat.lt_of_lt_of_le h.lt hB)
  have hc : ∀ i, W'.cell? ⟨t, i, none⟩ = W.cell? ⟨t, i, none⟩ := fun i => by unfold World.cell?; rw [hk]
  have hf : ∀ i, W'.frozen? ⟨t, i, none⟩ = W.frozen? ⟨t, i, none⟩ := fun i => by unfold World.frozen?; rw [hk]
  exact ⟨(hc _).trans h.c0, fun i hi => (hc _).trans (h.cm i hi), fun i h1 h2 => (hc _).trans (h.cx i h1 h2), (hc _).trans h.cw, (hc _).trans h.cl, fun i => (hf i).trans (h.fz i), Nat.lt_of_lt_of_le h.lt hb.size, fun i hi F => (h.maps i hi F).next hb hB, h.inj, h.net⟩
theorem NewS.put {W W' : World} {t n k : Nat} {ps : Nat → Nat} (h : NewS W t n ps k) (hk : k ≤ 16) (hb : Below W.heap.size W W') (hm : ∀ F, IM F W' W.heap.size []) : NewS (W'.setCell ⟨t, 1 + k, none⟩ (ptr W.heap.size)) t n (upd ps k W.heap.size) (k + 1) := by
  have h' := h.next hb (Nat.le_refl _)
  have hlt : ∀ i, i < k → ps i < W.heap.size := fun i hi => (h.maps i hi (fun _ => False)).lt
  have hx := belX_set W' t (1 + k) (ptr W.heap.size)
  refine ⟨(cell_setCell_ne _ _ _ _ _ (by omega)).trans h'.c0, fun i hi => ?_, fun i h1 h2 => (cell_setCell_ne _ _ _ _ _ (by omega)).trans (h'.cx i (by omega) h2), (cell_setCell_ne _ _ _ _ _ (by omega)).trans h'.cw, (cell_setCell_ne _ _ _ _ _ (by omega)).trans h'.cl, fun i => (frozen_setCell' _ _ _ _).trans (h'.fz i), by simpa [World.setCell] using h'.lt, fun i hi F => ?_, fun i j hi hj e => ?_, fun i hi => ?_⟩
  · by_cases e : i = k
    · subst e; rw [upd_at]; exact cell_setCell_at _ _ _ _ _ (h'.cx i (Nat.le_refl _) hk)
    · rw [upd_ne _ _ e]; exact (cell_setCell_ne _ _ _ _ _ (by omega)).trans (h'.cm i (by omega))
  · by_cases e : i = k
    · subst e; rw [upd_at]
      exact ((hm (fun k => F k ∨ k = t)).far hx (Nat.le_refl _) (.inr rfl) (by have := h.lt; omega)).sub fun k hk => .inl hk
    · rw [upd_ne _ _ e]
      exact ((h'.maps i (by omega) (fun k => F k ∨ k = t)).far hx (Nat.le_refl _) (.inr rfl) (by have := h.net i (by omega); omega)).sub fun k hk => .inl hk
  · by_cases e1 : i = k
    · by_cases e2 : j = k
      · omega
      · subst e1; rw [upd_at, upd_ne _ _ e2] at e
        have := hlt j (by omega); omega
    · by_cases e2 : j = k
      · subst e2; rw [upd_at, upd_ne _ _ e1] at e
        have := hlt i (by omega); omega
      · rw [upd_ne _ _ e1, upd_ne _ _ e2] at e
        exact h.inj i j (by omega) (by omega) e
  · by_cases e : i = k
    · subst e; rw [upd_at]; exact h.lt
    · rw [upd_ne _ _ e]; exact h.net i (by omega)
theorem NewS.tab {W : World} {t n : Nat} {ps : Nat → Nat} (h : NewS W t n ps 17) (h1 : 1 ≤ n) (h2 : n ≤ 16) : Tab (fun k => t ≤ k) W t ⟨n, fun _ => [], [], 0⟩ :=
  ⟨⟨ps, .slice none 0 0, ⟨⟨h.c0, fun i hi => h.cm i (by omega), h.cw, h.cl, h.fz, h.lt⟩, World.ownsRow_nil _ _ _ _, fun i hi => h.maps i (by omega) _, fun i j hi hj => h.inj i j (by omega) (by omega), fun i hi => by have := h.net i (by omega); omega, fun e => (by cases e), fun i hi e => (by cases e)⟩,
    fun k hk => by rcases hk with hk | ⟨i, hi, hk⟩ | hk
                   · omega
                   · have := h.net i (by omega); omega
                   · cases hk⟩, fun k hk => by have := h.lt; omega, TOk.new h1 h2⟩

set_option maxHeartbeats 4000000 in
set_option maxRecDepth 100000 in
theorem tNew_c (n : Nat) (h1 : 1 ≤ n) (h2 : n ≤ 16) (w : World) : Calls Tryz.prog 61 #[.int .i64 n] w fun e w' => e = .returned (ptr w.heap.size) ∧ Tab (fun k => w.heap.size ≤ k) w' w.heap.size ⟨n, fun _ => [], [], 0⟩ ∧ Below w.heap.size w w' := by
  have hn1 : decide ((n : Int) < 1) = false := by simp; omega
  have hn2 : decide ((16 : Int) < n) = false := by simp; omega
  go_enter Tryz.func61, Tryz.ntmps61
  go_wp2_with fail
  go_loopw [14] (fun o wr => ∃ k : Nat, k ≤ 17 ∧ o = .int .i64 k ∧ Hid (∃ ps, NewS wr w.heap.size n ps k) ∧ Below w.heap.size w wr) (fun o _ => 17 - (intOf o).toNat)
  case atStart =>
    refine ⟨0, by omega, rfl, ⟨fun _ => 0, ?_, fun i hi => absurd hi (by omega), fun i _ hi => ?_, ?_, ?_, fun i => ?_, ?_, fun i hi => absurd hi (by omega), fun i j hi => absurd hi (by omega), fun i hi => absurd hi (by omega)⟩, ?_⟩
    case refine_2 =>
      refine (cell_of_row _ _ (1 + i) _ 171 (0, 0) (heap_alloc_new w _)).trans ?_
      have hcs : i = 0 ∨ i = 1 ∨ i = 2 ∨ i = 3 ∨ i = 4 ∨ i = 5 ∨ i = 6 ∨ i = 7 ∨ i = 8 ∨ i = 9 ∨ i = 10 ∨ i = 11 ∨ i = 12 ∨ i = 13 ∨ i = 14 ∨ i = 15 ∨ i = 16 := by omega
      rcases hcs with rfl | rfl | rfl | rfl | rfl | rfl | rfl | rfl | rfl | rfl | rfl | rfl | rfl | rfl | rfl | rfl | rfl <;> rfl
    case refine_5 => exact frozen_of_row _ _ i _ 171 (heap_alloc_new w _)
    case refine_6 => simp
    case refine_7 => exact below_alloc _ _
    all_goals exact (cell_of_row _ _ _ _ 171 (0, 0) (heap_alloc_new w _)).trans rfl
  case round =>
    obtain ⟨k, hk, rfl, hS, hbr⟩ := hrel
    by_cases hlt : k < 17
    · obtain ⟨ps, hps⟩ := hS.out
      have HS := hidd hps
      clear hps hS
      have hi0 : 0 ≤ (k : Int) := by omega
      have hi1 : (k : Int) < 17 := by omega
      go_wp2_with fail
      go_region_law (first
        | (go_simp; go_at_call 32; refine (iNew_c _).mono ?_; rintro e w5 ⟨rfl, hn5, hb5⟩
           have hN := hidd (HS.out.next (below_then (below_drewN (Below.refl _ _) 1) hb5) (Nat.le_refl _))
           have hcx := hN.out.cx k (Nat.le_refl _) (by omega)
           have hfz := hN.out.fz (1 + k)
           have htl := hN.out.lt)
        | fail)
      all_goals
        go_wp2_with fail
        go_roundw
        case rel => exact ⟨k + 1, by omega, by go_num, ⟨_, HS.out.put (by omega) (below_then (below_drewN (Below.refl _ _) 1) hb5) hn5⟩, (hbr.trans ((below_then (below_drewN (Below.refl wr.heap.size wr) 1) hb5).mono hbr.size)).trans ((belX_set w5 w.heap.size (1 + k) _).below (Nat.le_of_lt htl) (Nat.le_refl _))⟩
        case measure => simp [intOf]; omega
    · obtain rfl : k = 17 := by omega
      obtain ⟨ps, hps⟩ := hS.out
      have HT := hidd (hps.tab h1 h2)
      clear hps hS
      go_wp2_with fail
      go_ret
      exact ⟨rfl, HT.out, hbr⟩
end

section
open Go.RowKit

theorem upd_upd {α : Type} (f : Nat → α) (i : Nat) (x y : α) : upd (upd f i x) i y = upd f i y := by funext j; unfold upd; split <;> rfl
theorem upd_self {α : Type} (f : Nat → α) (i : Nat) : upd f i (f i) = f := by funext j; unfold upd; split <;> simp_all
theorem lowerF_take {keep : Int} {P l : List (Pt Int)} {k : Nat} (h : k < P.length) : lowerF keep (P.take (k + 1)) l = lower1 keep (lowerF keep (P.take k) l) P[k] := by
  unfold lowerF; rw [foldl_take _ _ _ h]
theorem rel_ways (n : Nat) (nd a b keep : Int) : (isB n nd = false ∧ relB n nd a b keep = false) ∨ (isB n nd = true ∧ vld a b = false ∧ relB n nd a b keep = false) ∨ (isB n nd = true ∧ vld a b = true ∧ (keep != 0) = true ∧ (keep != 1) = true ∧ relB n nd a b keep = false) ∨ (isB n nd = true ∧ vld a b = true ∧ ((keep == 0) = true ∧ (keep == 1) = false ∨ (keep == 0) = false ∧ (keep == 1) = true) ∧ relB n nd a b keep = true) := by
  unfold relB
  cases isB n nd
  · exact .inl ⟨rfl, rfl⟩
  · cases vld a b
    · exact .inr (.inl ⟨rfl, rfl, rfl⟩)
    · by_cases h0 : keep = 0
      · subst h0; exact .inr (.inr (.inr ⟨rfl, rfl, .inl ⟨rfl, rfl⟩, rfl⟩))
      · by_cases h1 : keep = 1
        · subst h1; exact .inr (.inr (.inr ⟨rfl, rfl, .inr ⟨rfl, rfl⟩, rfl⟩))
        · exact .inr (.inr (.inl ⟨rfl, rfl, by simp [h0], by simp [h1], by simp [h0, h1]⟩))

def relE (n : Nat) (nd a b keep : Int) : Int := if relB n nd a b keep = true then 0 else 1

set_option maxHeartbeats 8000000 in
set_option maxRecDepth 100000 in
theorem tRelease_c {F : Nat → Prop} (t : Nat) (T : Tb) (nd s0 s1 keep : Int) (w : World) (h : Tab F w t T) :
    Calls Tryz.prog 63 #[ptr t, .int .i64 nd, spV s0 s1, .int .i64 keep] w fun e w' => (∃ u, e = .returned (.tuple #[u, .int .i64 (relE T.n nd s0 s1 keep)]) ∧ Own 5 encW 168 w' w.heap.size u (T.given nd s0 s1 keep)) ∧ Tab F w' t (T.release nd s0 s1 keep) ∧ BelF F w.heap.size w w' := by
  have HT := hidd h
  have HI : Hid (∀ W, Below w.heap.size w W → Calls Tryz.prog 153 #[ptr t, .int .i64 nd] W fun e w' => e = .returned (.bool (isB T.n nd)) ∧ w' = W) := fun W hW => tis_t t T nd W (h.next hW (Nat.le_refl _))
  have HB0 := hidd (below_alloc w (.cells #[.int .i64 s0, .int .i64 s1] 43))
  have HXB := hidd (Bk.new w #[.int .i64 s0, .int .i64 s1] 43 rfl)
  have HV := hidd (sValid_c s0 s1)
  rcases rel_ways T.n nd s0 s1 keep with ⟨h1, hr⟩ | ⟨h1, h2, hr⟩ | ⟨h1, h2, h3, h4, hr⟩ | ⟨h1, h2, h3, hr⟩
  · have HG : Hid (T.given nd s0 s1 keep = []) := by show _ = _; unfold Tb.given; rw [hr]; rfl
    have HRL : Hid (T.release nd s0 s1 keep = T) := by show _ = _; unfold Tb.release; rw [hr]; rfl
    have HR : Hid (relE T.n nd s0 s1 keep = 1) := by show _ = _; unfold relE; rw [hr]; rfl
    rw [h1] at HI
    clear h h1 hr
    go_enter Tryz.func63, Tryz.ntmps63
    go_wp2_with fail
    refine (HI.out _ HB0.out).mono ?_; rintro e w1 ⟨rfl, hw⟩
    subst hw
    go_wp2_with fail
    refine bodyPost_ret (v := .tuple #[.slice none 0 0, .int .i64 1]) (by simp [results, Tryz.results63, go_sem]) rfl ⟨⟨_, by rw [HR.out], by rw [HG.out]; exact World.ownsRow_nil _ _ _ _⟩, by rw [HRL.out]; exact HT.out.next HB0.out (Nat.le_refl _), BelF.of HB0.out⟩
  · have HG : Hid (T.given nd s0 s1 keep = []) := by show _ = _; unfold Tb.given; rw [hr]; rfl
    have HRL : Hid (T.release nd s0 s1 keep = T) := by show _ = _; unfold Tb.release; rw [hr]; rfl
    have HR : Hid (relE T.n nd s0 s1 keep = 1) := by show _ = _; unfold relE; rw [hr]; rfl
    have H2 := hidd h2
    rw [h1] at HI
    clear h h1 h2 hr
    go_enter Tryz.func63, Tryz.ntmps63
    go_wp2_with fail
    refine (HI.out _ HB0.out).mono ?_; rintro e w1 ⟨rfl, hw⟩
    subst hw
    go_wp2_with fail
    refine (HV.out _).mono ?_; rintro e w2 ⟨rfl, hb2⟩
    rw [H2.out]
    have hB2 := HB0.out.trans (hb2.mono (by simp))
    go_wp2_with fail
    refine bodyPost_ret (v := .tuple #[.slice none 0 0, .int .i64 1]) (by simp [results, Tryz.results63, go_sem]) rfl ⟨⟨_, by rw [HR.out], by rw [HG.out]; exact World.ownsRow_nil _ _ _ _⟩, by rw [HRL.out]; exact HT.out.next hB2 (Nat.le_refl _), BelF.of hB2⟩
  · have HG : Hid (T.given nd s0 s1 keep = []) := by show _ = _; unfold Tb.given; rw [hr]; rfl
    have HRL : Hid (T.release nd s0 s1 keep = T) := by show _ = _; unfold Tb.release; rw [hr]; rfl
    have HR : Hid (relE T.n nd s0 s1 keep = 1) := by show _ = _; unfold relE; rw [hr]; rfl
    have H2 := hidd h2
    rw [h1] at HI
    clear h h1 h2 hr
    go_enter Tryz.func63, Tryz.ntmps63
    go_wp2_with fail
    refine (HI.out _ HB0.out).mono ?_; rintro e w1 ⟨rfl, hw⟩
    subst hw
    go_wp2_with fail
    refine (HV.out _).mono ?_; rintro e w2 ⟨rfl, hb2⟩
    rw [H2.out]
    have hB2 := HB0.out.trans (hb2.mono (by simp))
    go_wp2_with fail
    refine bodyPost_ret (v := .tuple #[.slice none 0 0, .int .i64 1]) (by simp [results, Tryz.results63, go_sem]) rfl ⟨⟨_, by rw [HR.out], by rw [HG.out]; exact World.ownsRow_nil _ _ _ _⟩, by rw [HRL.out]; exact HT.out.next hB2 (Nat.le_refl _), BelF.of hB2⟩
  · have hkk : keep = 0 ∨ keep = 1 := (relB_iff.1 hr).2.2
    have HG := hidd (given_yes hr)
    have HRL := hidd (release_yes hr)
    have HR : Hid (relE T.n nd s0 s1 keep = 0) := by show _ = _; unfold relE; rw [if_pos hr]
    have H2 := hidd h2
    rw [h1] at HI
    have hnd := isB_iff.1 h1
    have hn := h.ok.n.2
    obtain ⟨q, rfl⟩ : ∃ q : Nat, nd = q := ⟨nd.toNat, by omega⟩
    obtain ⟨ps, v, hA, hF⟩ := h.ex
    have HA := hidd hA
    have HFF := hidd hF
    have HUP := hidd h.up
    have HOK := hidd h.ok
    have hi0 : 0 ≤ (q : Int) := by omega
    have hi1 : (q : Int) < 17 := by omega
    have hpsw := (hA.maps q (by omega)).lt
    have HLW : Hid (T.lowered q s0 s1 keep = { T with held := upd T.held q (lowerF keep (partsP s0 s1 (T.held q)) (T.held q)) }) := rfl
    have HOL := hidd (h.ok.lowered (node := q) (s0 := s0) (s1 := s1) hkk)
    have HPT := hidd ((h.ok.held q).parts_to (s0 := s0) (s1 := s1))
    have hPl : (partsP s0 s1 (T.held q)).length ≤ 4096 := Nat.le_trans (partsP_len _ _ _) (h.ok.held q).len
    have HP : Hid (∀ W, Below w.heap.size w W → Calls Tryz.prog 40 #[ptr (ps q), spV s0 s1] W fun e w' => (∃ v, e = .returned v ∧ Own 3 encP 159 w' W.heap.size v (partsP s0 s1 (T.held q))) ∧ Below W.heap.size W w') := fun W hW => iParts_c _ _ s0 s1 W ((HA.out.maps q (by omega)).next hW (Nat.le_refl _)) (by have := (HOK.out.held q).len; omega)
    have HLK : Hid (∀ k, HOk (lowerF keep ((partsP s0 s1 (T.held q)).take k) (T.held q))) := fun k => HOk.lower hkk (HOK.out.held q) fun x hx => (HPT.out x (List.mem_of_mem_take hx)).2.2.1
    have HL0 : Hid (upd T.held q (T.held q) = T.held) := upd_self _ _
    have HLF : Hid (∀ (k : Nat) (h : k < (partsP s0 s1 (T.held q)).length), lowerF keep ((partsP s0 s1 (T.held q)).take (k + 1)) (T.held q) = lower1 keep (lowerF keep ((partsP s0 s1 (T.held q)).take k) (T.held q)) (partsP s0 s1 (T.held q))[k]) := fun k h => lowerF_take h
    have HQ0 : Hid (TAt w t { T with held := upd T.held q (lowerF keep ((partsP s0 s1 (T.held q)).take 0) (T.held q)) } ps v) := by
      show TAt w t { T with held := upd T.held q (T.held q) } ps v
      rw [HL0.out]; exact hA
    generalize T.given q s0 s1 keep = GD at *
    generalize T.release q s0 s1 keep = GR at *
    generalize T.lowered q s0 s1 keep = LW at *
    generalize partsP s0 s1 (T.held q) = P at *
    generalize T.held q = l0 at *
    clear h h1 h2 hr hA hF h3 HL0 HPT
    rcases hkk with rfl | rfl
    · go_enter Tryz.func63, Tryz.ntmps63
      go_wp2_with fail
      refine (HI.out _ HB0.out).mono ?_; rintro e w1 ⟨rfl, hw⟩
      subst hw
      go_wp2_with fail
      refine (HV.out _).mono ?_; rintro e w2 ⟨rfl, hb2⟩
      rw [H2.out]
      have hB2 := HB0.out.trans (hb2.mono (by simp))
      have hbx2 := (HXB.out.next hb2 (Nat.le_refl _)).bx2
      have HA2 := hidd (HA.out.next hB2 (Nat.le_refl _))
      have hcm := HA2.out.tc.cm q (by omega)
      have hfz := HA2.out.tc.fz (1 + q)
      have htl := HA2.out.tc.lt
      go_wp2_with fail
      go_upto_region 4 with (fail)
      go_cut [36, 37, 38] (fun v5 n5 z5 wx => Hid (Own 3 encP 159 wx w2.heap.size v5 P) ∧ n5 = .int .i64 P.length ∧ z5 = .int .i64 0 ∧ Below w2.heap.size w2 wx)
      case first =>
        go_region_law (first
          | (go_simp; go_at_call 40; refine (HP.out _ (hB2.trans ((below_drewN (Below.refl _ _) 1).mono hB2.size))).mono ?_; rintro e w5 ⟨⟨v5, rfl, ho5⟩, hb5⟩; obtain ⟨A5, c5, rfl⟩ := own_shape ho5)
          | fail)
        all_goals
          go_wp2_with fail
          go_meet
          exact ⟨ho5, rfl, rfl, (below_drewN (Below.refl _ _) 1).trans hb5⟩
      case rest =>
        obtain ⟨ho5, rfl, rfl, hB5⟩ := hcut
        obtain ⟨A5, c5, rfl⟩ := own_shape ho5.out
        have hB5w := hB2.trans (hB5.mono hB2.size)
        have HR5 := hidd (RX.own ho5.out rfl (show ps q < w2.heap.size from Nat.lt_of_lt_of_le hpsw hB2.size))
        have HQ5 := hidd (HQ0.out.next hB5w (Nat.le_refl _))
        clear ho5 hcm hfz htl hbx2 HA2
        obtain ⟨w5, rfl⟩ : ∃ w5 : World, w5 = wc := ⟨_, rfl⟩
        go_wp2_with fail
        go_loopw [38] (fun i wr => ∃ (k : Nat) (M : List (Pt Int)), k ≤ P.length ∧ i = .int .i64 k ∧ Hid (M = lowerF 0 (P.take k) l0) ∧ Hid (TAt wr t { T with held := upd T.held q M } ps v) ∧ Hid (RX 3 encP wr A5 P (ps q)) ∧ BelF (mapsS ps) w.heap.size w wr) (fun i _ => P.length - (intOf i).toNat)
        case atStart => exact ⟨0, _, by omega, rfl, rfl, HQ5.out, HR5.out, BelF.of hB5w⟩
        case round =>
          obtain ⟨k, M, hk, rfl, hM, hQ, hX, hbr⟩ := hrel
          by_cases hlt : k < P.length
          · have hne : P ≠ [] := by intro e; rw [e] at hlt; simp at hlt
            obtain ⟨b, o, hAe, hblt, hc⟩ := hX.out.rd.cells3 hne
            obtain ⟨g0, g1, g2⟩ := hc k hlt
            clear hc
            have HMT := hidd (HLF.out k hlt)
            rw [← hM.out] at HMT
            have HMO := hidd (HLK.out k)
            rw [← hM.out] at HMO
            have hml := HMO.out.len
            clear hM
            generalize P[k] = y at *
            obtain ⟨y0, y1, yv⟩ := y
            simp only [] at g0 g1 g2
            subst hAe
            have HXB2 := hidd (Bk.new wr #[.int .i64 y0, .int .i64 y1, .int .i64 yv] 159 rfl)
            have hb3 := HXB2.out.bx3
            have hQa := hidd (hQ.out.next (below_alloc wr (.cells #[.int .i64 y0, .int .i64 y1, .int .i64 yv] 159)) (Nat.le_refl _))
            have hXa := hidd (hX.out.next (below_alloc wr (.cells #[.int .i64 y0, .int .i64 y1, .int .i64 yv] 159)) (Nat.le_refl _))
            have hws : w.heap.size ≤ wr.heap.size := hbr.size
            have hbra : BelF (mapsS ps) w.heap.size w (wr.alloc (.cells #[.int .i64 y0, .int .i64 y1, .int .i64 yv] 159)) := hbr.trans (BelF.of ((below_alloc wr _).mono hws))
            by_cases hle : yv ≤ 0
            · have HL1 : Hid (lower1 0 M (y0, y1, yv) = M) := by show _ = _; unfold lower1; rw [if_pos hle]
              have hd : decide (yv ≤ 0) = true := decide_eq_true hle
              clear hle
              go_wp2_with fail
              go_roundw
              case rel => exact ⟨k + 1, M, by omega, by go_num, (HMT.out.trans HL1.out).symm, hQa.out, hXa.out, hbra⟩
              case measure => simp [intOf]; omega
            · have hd : decide (yv ≤ 0) = false := decide_eq_false hle
              have HL1 : Hid (lower1 0 M (y0, y1, yv) = clearF y0 y1 M) := by show _ = _; unfold lower1; rw [if_neg hle]; rfl
              clear hle
              have hcm := hQa.out.tc.cm q (by omega)
              have hfz := hQa.out.tc.fz (1 + q)
              have htl := hQa.out.tc.lt
              have HIM : IM (fpS t ps v) (wr.alloc (.cells #[.int .i64 y0, .int .i64 y1, .int .i64 yv] 159)) (ps q) M := by
                have hq2 : IM (fpS t ps v) (wr.alloc (.cells #[.int .i64 y0, .int .i64 y1, .int .i64 yv] 159)) (ps q) (upd T.held q M q) := hQa.out.maps q (by omega)
                rw [upd_at] at hq2
                exact hq2
              have HS := hidd (fClear_c (ps q) M y0 y1 ((wr.alloc (.cells #[.int .i64 y0, .int .i64 y1, .int .i64 yv] 159)).drew) (show IM (fpS t ps v) ((wr.alloc (.cells #[.int .i64 y0, .int .i64 y1, .int .i64 yv] 159)).drew) (ps q) M from HIM.next (below_drewN (Below.refl _ _) 1) (Nat.le_refl _)) (fun k hk => by have := hQa.out.fp_lt k hk; exact this) HMO.out.can (by omega))
              generalize clearF y0 y1 M = M2 at *
              clear HIM
              go_wp2_with fail
              refine wp_tail 8 (by kernel_rfl) ?_
              simp only [List.take_succ_cons, List.take_zero, List.drop_succ_cons, List.drop_zero]
              repeat still_step
              refine wpStill_nil ?_
              go_wp2_with fail
              refine HS.out.mono ?_; rintro e w6 ⟨rfl, hm6, hb6⟩
              have hQ6 := hidd ((hQa.out.next (below_drewN (Below.refl _ _) 1) (Nat.le_refl _)).map (show q ≤ 16 by omega) hb6 hm6)
              have hX6 := hidd ((hXa.out.next (below_drewN (Below.refl _ _) 1) (Nat.le_refl _)).nextX hb6 (Nat.le_refl _))
              have hbr6 : BelF (mapsS ps) w.heap.size w w6 := (hbra.trans (BelF.of (below_drewN (Below.refl _ _) 1))).trans (BelF.ofX (hb6.mono (by simp; omega)) ⟨q, by omega, rfl⟩)
              clear hm6 hb6 hcm hfz htl
              go_wp2_with fail
              go_roundw
              case rel => exact ⟨k + 1, M2, by omega, by go_num, (HMT.out.trans HL1.out).symm, by have := hQ6.out; simp only [upd_upd] at this; exact this, hX6.out, hbr6⟩
              case measure => simp [intOf]; omega
          · obtain rfl : k = P.length := by omega
            rw [List.take_length] at hM
            have hLT : TAt wr t LW ps v := by rw [HLW.out, ← hM.out]; exact hQ.out
            have HGC := hidd (tgrant_c t LW ps v wr hLT HOL.out)
            clear hLT
            go_wp2_with fail
            refine HGC.out.mono ?_; rintro e w6 ⟨vo, vl, rfl, ho6, ht6, hvl, hap, hb6⟩
            have hws : w.heap.size ≤ wr.heap.size := hbr.size
            have HTB : Hid (Tab F w6 t GR) := ⟨⟨ps, vl, by rw [HRL.out]; exact ht6, fun k hk => by
              rcases hk with hk | hk | hk
              · exact HFF.out k (.inl hk)
              · exact HFF.out k (.inr (.inl hk))
              · exact HUP.out k (Nat.le_trans hws (hvl k hk))⟩, fun k hk => HUP.out k (Nat.le_trans hws (Nat.le_trans hb6.size hk)), by rw [HRL.out]; exact HOL.out.grant⟩
            have HBB : Hid (BelF F w.heap.size w w6) := (hbr.sub fun k _ hk => HFF.out k (.inr (.inl hk))).trans ((hb6.sub fun k _ hk => by
              rcases hk with hk | hk
              · exact HFF.out k (.inl hk)
              · exact HFF.out k (.inr (.inl hk))).mono hws)
            have HO6 := hidd (own_base ho6 hws)
            clear ho6 ht6 hb6 hvl hap
            go_wp2_with fail
            refine bodyPost_ret (v := .tuple #[vo, .int .i64 0]) (by simp [results, Tryz.results63, go_sem]) rfl ⟨⟨vo, by rw [HR.out], by rw [HG.out]; exact HO6.out⟩, HTB.out, HBB.out⟩
    · go_enter Tryz.func63, Tryz.ntmps63
      go_wp2_with fail
      refine (HI.out _ HB0.out).mono ?_; rintro e w1 ⟨rfl, hw⟩
      subst hw
      go_wp2_with fail
      refine (HV.out _).mono ?_; rintro e w2 ⟨rfl, hb2⟩
      rw [H2.out]
      have hB2 := HB0.out.trans (hb2.mono (by simp))
      have hbx2 := (HXB.out.next hb2 (Nat.le_refl _)).bx2
      have HA2 := hidd (HA.out.next hB2 (Nat.le_refl _))
      have hcm := HA2.out.tc.cm q (by omega)
      have hfz := HA2.out.tc.fz (1 + q)
      have htl := HA2.out.tc.lt
      go_wp2_with fail
      go_upto_region 4 with (fail)
      go_cut [36, 37, 38] (fun v5 n5 z5 wx => Hid (Own 3 encP 159 wx w2.heap.size v5 P) ∧ n5 = .int .i64 P.length ∧ z5 = .int .i64 0 ∧ Below w2.heap.size w2 wx)
      case first =>
        go_region_law (first
          | (go_simp; go_at_call 40; refine (HP.out _ (hB2.trans ((below_drewN (Below.refl _ _) 1).mono hB2.size))).mono ?_; rintro e w5 ⟨⟨v5, rfl, ho5⟩, hb5⟩; obtain ⟨A5, c5, rfl⟩ := own_shape ho5)
          | fail)
        all_goals
          go_wp2_with fail
          go_meet
          exact ⟨ho5, rfl, rfl, (below_drewN (Below.refl _ _) 1).trans hb5⟩
      case rest =>
        obtain ⟨ho5, rfl, rfl, hB5⟩ := hcut
        obtain ⟨A5, c5, rfl⟩ := own_shape ho5.out
        have hB5w := hB2.trans (hB5.mono hB2.size)
        have HR5 := hidd (RX.own ho5.out rfl (show ps q < w2.heap.size from Nat.lt_of_lt_of_le hpsw hB2.size))
        have HQ5 := hidd (HQ0.out.next hB5w (Nat.le_refl _))
        clear ho5 hcm hfz htl hbx2 HA2
        obtain ⟨w5, rfl⟩ : ∃ w5 : World, w5 = wc := ⟨_, rfl⟩
        go_wp2_with fail
        go_loopw [38] (fun i wr => ∃ (k : Nat) (M : List (Pt Int)), k ≤ P.length ∧ i = .int .i64 k ∧ Hid (M = lowerF 1 (P.take k) l0) ∧ Hid (TAt wr t { T with held := upd T.held q M } ps v) ∧ Hid (RX 3 encP wr A5 P (ps q)) ∧ BelF (mapsS ps) w.heap.size w wr) (fun i _ => P.length - (intOf i).toNat)
        case atStart => exact ⟨0, _, by omega, rfl, rfl, HQ5.out, HR5.out, BelF.of hB5w⟩
        case round =>
          obtain ⟨k, M, hk, rfl, hM, hQ, hX, hbr⟩ := hrel
          by_cases hlt : k < P.length
          · have hne : P ≠ [] := by intro e; rw [e] at hlt; simp at hlt
            obtain ⟨b, o, hAe, hblt, hc⟩ := hX.out.rd.cells3 hne
            obtain ⟨g0, g1, g2⟩ := hc k hlt
            clear hc
            have HMT := hidd (HLF.out k hlt)
            rw [← hM.out] at HMT
            have HMO := hidd (HLK.out k)
            rw [← hM.out] at HMO
            have hml := HMO.out.len
            clear hM
            generalize P[k] = y at *
            obtain ⟨y0, y1, yv⟩ := y
            simp only [] at g0 g1 g2
            subst hAe
            have HXB2 := hidd (Bk.new wr #[.int .i64 y0, .int .i64 y1, .int .i64 yv] 159 rfl)
            have hb3 := HXB2.out.bx3
            have hQa := hidd (hQ.out.next (below_alloc wr (.cells #[.int .i64 y0, .int .i64 y1, .int .i64 yv] 159)) (Nat.le_refl _))
            have hXa := hidd (hX.out.next (below_alloc wr (.cells #[.int .i64 y0, .int .i64 y1, .int .i64 yv] 159)) (Nat.le_refl _))
            have hws : w.heap.size ≤ wr.heap.size := hbr.size
            have hbra : BelF (mapsS ps) w.heap.size w (wr.alloc (.cells #[.int .i64 y0, .int .i64 y1, .int .i64 yv] 159)) := hbr.trans (BelF.of ((below_alloc wr _).mono hws))
            by_cases hle : yv ≤ 1
            · have HL1 : Hid (lower1 1 M (y0, y1, yv) = M) := by show _ = _; unfold lower1; rw [if_pos hle]
              have hd : decide (yv ≤ 1) = true := decide_eq_true hle
              clear hle
              go_wp2_with fail
              go_roundw
              case rel => exact ⟨k + 1, M, by omega, by go_num, (HMT.out.trans HL1.out).symm, hQa.out, hXa.out, hbra⟩
              case measure => simp [intOf]; omega
            · have hd : decide (yv ≤ 1) = false := decide_eq_false hle
              have HL1 : Hid (lower1 1 M (y0, y1, yv) = setF y0 y1 1 M) := by show _ = _; unfold lower1; rw [if_neg hle]; rfl
              clear hle
              have hcm := hQa.out.tc.cm q (by omega)
              have hfz := hQa.out.tc.fz (1 + q)
              have htl := hQa.out.tc.lt
              have HIM : IM (fpS t ps v) (wr.alloc (.cells #[.int .i64 y0, .int .i64 y1, .int .i64 yv] 159)) (ps q) M := by
                have hq2 : IM (fpS t ps v) (wr.alloc (.cells #[.int .i64 y0, .int .i64 y1, .int .i64 yv] 159)) (ps q) (upd T.held q M q) := hQa.out.maps q (by omega)
                rw [upd_at] at hq2
                exact hq2
              have HS := hidd (fSet_c (ps q) M y0 y1 1 ((wr.alloc (.cells #[.int .i64 y0, .int .i64 y1, .int .i64 yv] 159)).drew) (show IM (fpS t ps v) ((wr.alloc (.cells #[.int .i64 y0, .int .i64 y1, .int .i64 yv] 159)).drew) (ps q) M from HIM.next (below_drewN (Below.refl _ _) 1) (Nat.le_refl _)) (fun k hk => by have := hQa.out.fp_lt k hk; exact this) HMO.out.can (by omega))
              generalize setF y0 y1 1 M = M2 at *
              clear HIM
              go_wp2_with fail
              refine wp_tail 9 (by kernel_rfl) ?_
              simp only [List.take_succ_cons, List.take_zero, List.drop_succ_cons, List.drop_zero]
              repeat still_step
              refine wpStill_nil ?_
              go_wp2_with fail
              refine HS.out.mono ?_; rintro e w6 ⟨rfl, hm6, hb6⟩
              have hQ6 := hidd ((hQa.out.next (below_drewN (Below.refl _ _) 1) (Nat.le_refl _)).map (show q ≤ 16 by omega) hb6 hm6)
              have hX6 := hidd ((hXa.out.next (below_drewN (Below.refl _ _) 1) (Nat.le_refl _)).nextX hb6 (Nat.le_refl _))
              have hbr6 : BelF (mapsS ps) w.heap.size w w6 := (hbra.trans (BelF.of (below_drewN (Below.refl _ _) 1))).trans (BelF.ofX (hb6.mono (by simp; omega)) ⟨q, by omega, rfl⟩)
              clear hm6 hb6 hcm hfz htl
              go_wp2_with fail
              go_roundw
              case rel => exact ⟨k + 1, M2, by omega, by go_num, (HMT.out.trans HL1.out).symm, by have := hQ6.out; simp only [upd_upd] at this; exact this, hX6.out, hbr6⟩
              case measure => simp [intOf]; omega
          · obtain rfl : k = P.length := by omega
            rw [List.take_length] at hM
            have hLT : TAt wr t LW ps v := by rw [HLW.out, ← hM.out]; exact hQ.out
            have HGC := hidd (tgrant_c t LW ps v wr hLT HOL.out)
            clear hLT
            go_wp2_with fail
            refine HGC.out.mono ?_; rintro e w6 ⟨vo, vl, rfl, ho6, ht6, hvl, hap, hb6⟩
            have hws : w.heap.size ≤ wr.heap.size := hbr.size
            have HTB : Hid (Tab F w6 t GR) := ⟨⟨ps, vl, by rw [HRL.out]; exact ht6, fun k hk => by
              rcases hk with hk | hk | hk
              · exact HFF.out k (.inl hk)
              · exact HFF.out k (.inr (.inl hk))
              · exact HUP.out k (Nat.le_trans hws (hvl k hk))⟩, fun k hk => HUP.out k (Nat.le_trans hws (Nat.le_trans hb6.size hk)), by rw [HRL.out]; exact HOL.out.grant⟩
            have HBB : Hid (BelF F w.heap.size w w6) := (hbr.sub fun k _ hk => HFF.out k (.inr (.inl hk))).trans ((hb6.sub fun k _ hk => by
              rcases hk with hk | hk
              · exact HFF.out k (.inl hk)
              · exact HFF.out k (.inr (.inl hk))).mono hws)
            have HO6 := hidd (own_base ho6 hws)
            clear ho6 ht6 hb6 hvl hap
            go_wp2_with fail
            refine bodyPost_ret (v := .tuple #[vo, .int .i64 0]) (by simp [results, Tryz.results63, go_sem]) rfl ⟨⟨vo, by rw [HR.out], by rw [HG.out]; exact HO6.out⟩, HTB.out, HBB.out⟩
end

section
open Go.RowKit

theorem rd_bk {W : World} {p : Nat} {a b v : Int} {t : TypeId} (h : Bk W p #[.int .i64 a, .int .i64 b, .int .i64 v] t) : Rd 3 encP W (some ⟨p, 0, none⟩) [(a, b, v)] := by
  refine .inr ⟨p, 0, rfl, h.lt, fun j u hu => ?_⟩
  rw [Nat.zero_add, cell_of_row _ _ j _ t (0, 0) h]
  simpa [encP] using hu
section
variable {W W' : World} {t : Nat} {T : Tb} {ps : Nat → Nat} {v : Value}
theorem TAt.setLast (h : TAt W t T ps v) (x : Int) : TAt (W.setCell ⟨t, 19, none⟩ (.int .i64 x)) t { T with last := x } ps v :=
  ⟨h.tc.setLast x, own_belX h.own (belX_set W t 19 _) h.vt, fun i hi => (h.maps i hi).far (belX_set W t 19 _) (Nat.le_refl _) (.inl rfl) (h.net i hi), h.inj, h.net, h.vt, h.vp⟩
/-- the table's own row grows -/
theorem TAt.appWaits {v' : Value} {ws : List Wt} {base : Nat} (h : TAt W t T ps v) (ha : AppF W W' v v') (ho : Own 5 encW 168 W' base v' ws) : TAt (W'.setCell ⟨t, 18, none⟩ v') t { T with waits := ws } ps v' := by
  have htc : TC W' t T.n ps v T.last := h.tc.keep (ha.block h.vt h.tc.lt) ha.bel.size
  have hvt : v'.ownBlock ≠ some t := ha.far t h.vt h.tc.lt
  have hvp : ∀ i, i ≤ 16 → v'.ownBlock ≠ some (ps i) := fun i hi => ha.far _ (h.vp i hi) (h.maps i hi).lt
  refine ⟨htc.setWaits v', own_base (own_belX ho (belX_set W' t 18 v') hvt) (Nat.zero_le _), fun i hi => ?_, h.inj, h.net, hvt, hvp⟩
  have h2 : IM (fpS t ps v') W' (ps i) (T.held i) := (h.maps i hi).app ha (fun k hk => .inr (.inr hk)) (h.vp i hi) fun k _ hk => by
    rcases hk with hk | hk | hk
    · exact .inl (.inl hk)
    · exact .inl (.inr (.inl hk))
    · exact .inr hk
  exact h2.far (belX_set W' t 18 v') (Nat.le_refl _) (.inl rfl) (h.net i hi)
end
theorem Tab.raised {F : Nat → Prop} {W W' : World} {t : Nat} {T : Tb} {ps : Nat → Nat} {v : Value} {q : Nat} {s0 s1 m : Int} (hA : TAt W t T ps v) (hF : ∀ k, fpS t ps v k → F k) (hup : ∀ k, W.heap.size ≤ k → F k) (hT : TOk T) (hr : rightB s0 s1 m = true) (hq : q ≤ 16) (hb : BelX (ps q) W.heap.size W W') (hm : IM (fpS t ps v) W' (ps q) (raiseF s0 s1 m (T.held q))) : Tab F W' t { T with held := upd T.held q (raiseF s0 s1 m (T.held q)) } :=
  ⟨⟨ps, v, hA.map hq hb hm, hF⟩, fun k hk => hup k (Nat.le_trans hb.size hk), by have := hT.raise (node := q) hr; simpa using this⟩
/-- the table's own row grows, at a step of a drawn region -/
theorem step_tabW {W0 W : World} {t : Nat} {T : Tb} {ps : Nat → Nat} {v : Value} {ops : Array Oper} {o : Oper} {a : Act} {K : Act → World → Prop} {Q : Exit → Act → World → Prop} {E : Prop} {s x : Operand} {c g : Nat} {lit : Array Value} (y : Wt) (hA : TAt W0 t T ps v) (hb : Below W0.heap.size W0 W) (hlit : Bk W g lit 168)
    (hgd : o.guard = none) (ho : o.op = .call { callee := .builtin .append, args := #[s, x], argTypes := #[107, 107] })
    (hs : a.eval s = v) (hx : a.eval x = .slice (some ⟨g, 0, none⟩) 1 c) (hcs : lit.toList = encW y) (h63 : T.waits.length ≤ 1000)
    (h : ∀ v' w', Own 5 encW 168 w' 0 v' (T.waits ++ [y]) → TC w' t T.n ps v T.last → TAt (w'.setCell ⟨t, 18, none⟩ v') t { T with waits := T.waits ++ [y] } ps v' → BelF (fun k => k = t ∨ v.ownBlock = some k) W0.heap.size W0 (w'.setCell ⟨t, 18, none⟩ v') → (∀ k, v'.ownBlock = some k → v.ownBlock = some k ∨ W0.heap.size ≤ k) → K (a.put o.dst v') w') :
    if Region.wanted o (yielded ops a.tmps) = true then Oper.wp Tryz.prog o a W K Q else E := by
  have hA' := hA.next hb (Nat.le_refl _)
  refine step_appG y Tryz.underlying107 infoWait rfl (by decide) (show Own 5 encW 168 W 0 v T.waits from hA'.own) (Nat.zero_le _) hlit hgd ho hs hx hcs rfl (encW_one y) (by unfold maxLen; omega) (by omega) fun v' w' ho' ha' => ?_
  have hb1 : BelF (fun k => k = t ∨ v.ownBlock = some k) W0.heap.size W0 w' := (BelF.of hb).trans ((ha'.bel.sub fun k _ hk => .inr hk).mono hb.size)
  refine h v' w' ho' (hA'.tc.keep (ha'.block hA'.vt hA'.tc.lt) ha'.bel.size) (hA'.appWaits ha' ho') (hb1.trans ((BelF.ofX (belX_set w' t 18 v') (.inl rfl)).mono hb1.size)) fun k hk => ?_
  by_cases e : v.ownBlock = some k
  · exact .inl e
  · right
    have := hb.size
    by_cases hl : k < W.heap.size
    · exact absurd hk (ha'.far k e hl)
    · omega
theorem ask_ways (T : Tb) (nd s0 s1 m : Int) : (isB T.n nd = false ∧ T.ask nd s0 s1 m = ⟨0, false, 1, T⟩) ∨ (isB T.n nd = true ∧ rightB s0 s1 m = false ∧ T.ask nd s0 s1 m = ⟨0, false, 1, T⟩) ∨ (isB T.n nd = true ∧ rightB s0 s1 m = true ∧ T.has nd s0 s1 m = true ∧ T.ask nd s0 s1 m = ⟨0, true, 0, T⟩) ∨ (isB T.n nd = true ∧ rightB s0 s1 m = true ∧ T.has nd s0 s1 m = false ∧ freeF T.held T.n T.waits nd s0 s1 m = true ∧ T.ask nd s0 s1 m = ⟨0, true, 0, { T with held := upd T.held nd.toNat (raiseF s0 s1 m (T.held nd.toNat)) }⟩) ∨ (isB T.n nd = true ∧ rightB s0 s1 m = true ∧ T.has nd s0 s1 m = false ∧ freeF T.held T.n T.waits nd s0 s1 m = false ∧ deadF T.held T.waits nd s0 s1 m = true ∧ T.ask nd s0 s1 m = ⟨0, false, 33, T⟩) ∨ (isB T.n nd = true ∧ rightB s0 s1 m = true ∧ T.has nd s0 s1 m = false ∧ freeF T.held T.n T.waits nd s0 s1 m = false ∧ deadF T.held T.waits nd s0 s1 m = false ∧ decide ((1000 : Int) ≤ T.waits.length) = true ∧ T.ask nd s0 s1 m = ⟨0, false, 10, T⟩) ∨ (isB T.n nd = true ∧ rightB s0 s1 m = true ∧ T.has nd s0 s1 m = false ∧ freeF T.held T.n T.waits nd s0 s1 m = false ∧ deadF T.held T.waits nd s0 s1 m = false ∧ decide ((1000 : Int) ≤ T.waits.length) = false ∧ T.ask nd s0 s1 m = ⟨T.last + 1, false, 0, { T with waits := T.waits ++ [(T.last + 1, nd, s0, s1, m)], last := T.last + 1 }⟩) := by
  cases h1 : isB T.n nd with
  | false => exact .inl ⟨rfl, ask_bad (.inl h1)⟩
  | true =>
    cases h2 : rightB s0 s1 m with
    | false => exact .inr (.inl ⟨rfl, rfl, ask_bad (.inr h2)⟩)
    | true =>
      cases h3 : T.has nd s0 s1 m with
      | true => exact .inr (.inr (.inl ⟨rfl, rfl, rfl, ask_has h1 h2 h3⟩))
      | false =>
        have h3' : ¬ T.has nd s0 s1 m = true := by rw [h3]; simp
        cases h4 : freeF T.held T.n T.waits nd s0 s1 m with
        | true => exact .inr (.inr (.inr (.inl ⟨rfl, rfl, rfl, rfl, ask_free h1 h2 h3' h4⟩)))
        | false =>
          have h4' : ¬ freeF T.held T.n T.waits nd s0 s1 m = true := by rw [h4]; simp
          cases h5 : deadF T.held T.waits nd s0 s1 m with
          | true => exact .inr (.inr (.inr (.inr (.inl ⟨rfl, rfl, rfl, rfl, rfl, ask_dead h1 h2 h3' h4' h5⟩))))
          | false =>
            by_cases h6 : 1000 ≤ T.waits.length
            · refine .inr (.inr (.inr (.inr (.inr (.inl ⟨rfl, rfl, rfl, rfl, rfl, by simp; omega, ?_⟩)))))
              unfold Tb.ask; rw [if_neg (and2 h1 h2), if_neg h3', if_neg h4', if_neg (by rw [h5]; simp), if_pos h6]
            · exact .inr (.inr (.inr (.inr (.inr (.inr ⟨rfl, rfl, rfl, rfl, rfl, by simp; omega, ask_wait h1 h2 h3' h4' h5 (by omega)⟩)))))

set_option maxHeartbeats 8000000 in
set_option maxRecDepth 100000 in
theorem tAsk_c {F : Nat → Prop} (t : Nat) (T : Tb) (nd s0 s1 m : Int) (w : World) (h : Tab F w t T) (hlast : T.last ≤ 1000000000) :
    Calls Tryz.prog 62 #[ptr t, .int .i64 nd, lkV s0 s1 m] w fun e w' => e = .returned (.tuple #[.int .i64 (T.ask nd s0 s1 m).id, .bool (T.ask nd s0 s1 m).now, .int .i64 (T.ask nd s0 s1 m).err]) ∧ Tab F w' t (T.ask nd s0 s1 m).tb ∧ BelF F w.heap.size w w' := by
  have HT := hidd h
  have HI : Hid (∀ W, Below w.heap.size w W → Calls Tryz.prog 153 #[ptr t, .int .i64 nd] W fun e w' => e = .returned (.bool (isB T.n nd)) ∧ w' = W) := fun W hW => tis_t t T nd W (h.next hW (Nat.le_refl _))
  have HB0 := hidd (below_alloc w (.cells #[.int .i64 s0, .int .i64 s1, .int .i64 m] 101))
  have HXB := hidd (Bk.new w #[.int .i64 s0, .int .i64 s1, .int .i64 m] 101 rfl)
  have HV := hidd (tright_c s0 s1 m)
  by_cases hb : isB T.n nd = true
  · have hnd := isB_iff.1 hb
    have hn := h.ok.n.2
    obtain ⟨q, rfl⟩ : ∃ q : Nat, nd = q := ⟨nd.toNat, by omega⟩
    rw [hb] at HI
    cases h2 : rightB s0 s1 m with
    | false =>
      have HA : Hid (T.ask q s0 s1 m = ⟨0, false, 1, T⟩) := ask_bad (.inr h2)
      have H2 := hidd h2
      clear h hb h2
      go_enter Tryz.func62, Tryz.ntmps62
      go_wp2_with fail
      refine (HI.out _ HB0.out).mono ?_; rintro e w1 ⟨rfl, hw⟩
      subst hw
      go_wp2_with fail
      refine (HV.out _).mono ?_; rintro e w2 ⟨rfl, hb2⟩
      rw [H2.out]
      have hB2 := HB0.out.trans (hb2.mono (by simp))
      go_wp2_with fail
      refine bodyPost_ret (v := .tuple #[.int .i64 0, .bool false, .int .i64 1]) (by simp [results, Tryz.results62, go_sem]) rfl ⟨by rw [HA.out], by rw [HA.out]; exact HT.out.next hB2 (Nat.le_refl _), BelF.of hB2⟩
    | true =>
      have hr := rightB_iff.1 h2
      obtain ⟨ps, v, hAt, hF⟩ := h.ex
      have HAt := hidd hAt
      have HFF := hidd hF
      have HUP := hidd h.up
      have HOK := hidd h.ok
      have HH0 := hidd (h.ok.held q)
      have HIL : Hid (InL (upTo 4097) [(s0, s1, m)]) := fun x hx => by
        rw [List.mem_singleton] at hx; subst hx; exact upTo_ok hr.1 hr.2.1
      have HHAS : Hid (∀ W g, Below w.heap.size w W → Bk W g #[.int .i64 s0, .int .i64 s1, .int .i64 m] 101 → Calls Tryz.prog 58 #[ptr (ps q), .slice (some ⟨g, 0, none⟩) 1 1] W fun e w' => e = .returned (.bool (T.has q s0 s1 m)) ∧ Below W.heap.size W w') := fun W g hW hbk =>
        mHas_c (ptr (ps q)) (T.held q) (upTo 4097) (some ⟨g, 0, none⟩) 1 1 [(s0, s1, m)] W (HeldAt.of ((HAt.out.maps q (by omega)).next hW (Nat.le_refl _)) (by have := HH0.out.len; omega)) HH0.out.can HH0.out.inL HIL.out (by rw [upTo_len]; omega) (rd_bk hbk) rfl (by simp)
      have HFREE : Hid (∀ W, Below w.heap.size w W → Calls Tryz.prog 155 #[ptr t, .int .i64 q, lkV s0 s1 m] W fun e w' => e = .returned (.bool (freeF T.held T.n T.waits q s0 s1 m)) ∧ Below W.heap.size W w') := fun W hW => tfree_c t T ps v q s0 s1 m W (HAt.out.next hW (Nat.le_refl _)) HOK.out
      have HDEAD : Hid (∀ W, Below w.heap.size w W → Calls Tryz.prog 157 #[ptr t, .int .i64 q, lkV s0 s1 m] W fun e w' => e = .returned (.bool (deadF T.held T.waits q s0 s1 m)) ∧ Below W.heap.size W w') := fun W hW => tdead_c t T ps v q s0 s1 m W (HAt.out.next hW (Nat.le_refl _)) HOK.out (by omega)
      have HRAI : Hid (∀ W, Below w.heap.size w W → Calls Tryz.prog 156 #[ptr (ps q), lkV s0 s1 m] W fun e w' => e = .returned (.tuple #[]) ∧ IM (fpS t ps v) w' (ps q) (raiseF s0 s1 m (T.held q)) ∧ BelX (ps q) W.heap.size W w') := fun W hW => mRaise_c (upTo 4097) (ps q) (T.held q) s0 s1 m W ((HAt.out.next hW (Nat.le_refl _)).maps q (by omega)) (HAt.out.next hW (Nat.le_refl _)).fp_lt HH0.out.can HH0.out.inL (upTo_ok hr.1 hr.2.1).1 (upTo_ok hr.1 hr.2.1).2 (by rw [upTo_len]; omega)
      have HLEN := hidd h.ok.len
      have H2 := hidd h2
      have H1 := hidd hb
      have hi0 : 0 ≤ (q : Int) := by omega
      have hi1 : (q : Int) < 17 := by omega
      clear h hb h2 hr hAt hF
      go_enter Tryz.func62, Tryz.ntmps62
      go_wp2_with fail
      refine (HI.out _ HB0.out).mono ?_; rintro e w1 ⟨rfl, hw⟩
      subst hw
      go_wp2_with fail
      refine (HV.out _).mono ?_; rintro e w2 ⟨rfl, hb2⟩
      rw [H2.out]
      have hB2 := HB0.out.trans (hb2.mono (by simp))
      have hbx2 := (HXB.out.next hb2 (Nat.le_refl _)).bx3
      have HA2 := hidd (HAt.out.next hB2 (Nat.le_refl _))
      have hcm := HA2.out.tc.cm q (by omega)
      have hfz := HA2.out.tc.fz (1 + q)
      have htl := HA2.out.tc.lt
      go_wp2_with fail
      go_cut [19] (fun v5 wx => v5 = .bool (T.has q s0 s1 m) ∧ Below w2.heap.size w2 wx)
      case first =>
        go_region_law (first
          | (go_simp; go_at_call 58; refine (HHAS.out _ _ (hB2.trans ((by first | exact (below_drewN (Below.refl _ _) 1).alloc (Nat.le_refl _) _ | exact below_drewN (below_alloc _ _) 1 : Below w2.heap.size w2 _).mono hB2.size)) (by first | exact Bk.new _ _ _ rfl | exact (Bk.new w2 _ _ rfl).next (below_drewN (Below.refl _ _) 1) (Nat.le_refl _))).mono ?_; rintro e w5 ⟨rfl, hb5⟩)
          | fail)
        all_goals
          go_wp2_with fail
          go_meet
          exact ⟨rfl, below_then (by first | exact (below_drewN (Below.refl _ _) 1).alloc (Nat.le_refl _) _ | exact below_drewN (below_alloc _ _) 1) hb5⟩
      case rest =>
        obtain ⟨rfl, hB3⟩ := hcut
        obtain ⟨w3, rfl⟩ : ∃ w3 : World, w3 = wc := ⟨_, rfl⟩
        have hB3w := hB2.trans (hB3.mono hB2.size)
        have hbx3 := (HXB.out.next (hb2.trans (hB3.mono hb2.size)) (Nat.le_refl _)).bx3
        clear hbx2 hcm hfz htl HA2 HHAS
        cases h3 : T.has q s0 s1 m with
        | true =>
          have HA : Hid (T.ask q s0 s1 m = ⟨0, true, 0, T⟩) := ask_has H1.out H2.out h3
          clear h3
          go_wp2_with fail
          refine bodyPost_ret (v := .tuple #[.int .i64 0, .bool true, .int .i64 0]) (by simp [results, Tryz.results62, go_sem]) rfl ⟨by rw [HA.out], by rw [HA.out]; exact HT.out.next hB3w (Nat.le_refl _), BelF.of hB3w⟩
        | false =>
          have H3 : Hid (¬ T.has q s0 s1 m = true) := by show ¬ _; rw [h3]; simp
          clear h3
          go_wp2_with fail
          refine (HFREE.out _ hB3w).mono ?_; rintro e w4 ⟨rfl, hb4⟩
          have hB4 := hB3w.trans (hb4.mono hB3w.size)
          have hbx4 := (HXB.out.next ((hb2.trans (hB3.mono hb2.size)).trans (hb4.mono (by have := hB3.size; have := hb2.size; omega))) (Nat.le_refl _)).bx3
          clear hbx3 HFREE
          cases h4 : freeF T.held T.n T.waits q s0 s1 m with
          | true =>
            have HA : Hid (T.ask q s0 s1 m = ⟨0, true, 0, { T with held := upd T.held q (raiseF s0 s1 m (T.held q)) }⟩) := ask_free H1.out H2.out H3.out h4
            clear h4
            have HA4 := hidd (HAt.out.next hB4 (Nat.le_refl _))
            have hcm := HA4.out.tc.cm q (by omega)
            have hfz := HA4.out.tc.fz (1 + q)
            have htl := HA4.out.tc.lt
            go_wp2_with fail
            refine wp_tail 7 (by kernel_rfl) ?_
            simp only [List.take_succ_cons, List.take_zero, List.drop_succ_cons, List.drop_zero]
            repeat still_step
            refine wpStill_nil ?_
            go_wp2_with fail
            refine (HRAI.out _ (below_drewN hB4 1)).mono ?_; rintro e w5 ⟨rfl, hm5, hb5⟩
            have HTR : Hid (Tab F w5 t { T with held := upd T.held q (raiseF s0 s1 m (T.held q)) }) := Tab.raised (HA4.out.next (below_drewN (Below.refl _ _) 1) (Nat.le_refl _)) HFF.out (fun k hk => HUP.out k (Nat.le_trans hB4.size hk)) HOK.out H2.out (by omega) hb5 hm5
            have HBB : Hid (BelF F w.heap.size w w5) := (BelF.of (below_drewN hB4 1)).trans (BelF.ofX (hb5.mono hB4.size) (HFF.out _ (.inr (.inl ⟨q, by omega, rfl⟩))))
            clear hm5 hb5 hcm hfz htl HA4
            go_wp2_with fail
            refine bodyPost_ret (v := .tuple #[.int .i64 0, .bool true, .int .i64 0]) (by simp [results, Tryz.results62, go_sem]) rfl ⟨by rw [HA.out], by rw [HA.out]; exact HTR.out, HBB.out⟩
          | false =>
            have H4 : Hid (¬ freeF T.held T.n T.waits q s0 s1 m = true) := by show ¬ _; rw [h4]; simp
            clear h4
            go_wp2_with fail
            refine (HDEAD.out _ hB4).mono ?_; rintro e w5 ⟨rfl, hb5⟩
            have hB5 := hB4.trans (hb5.mono hB4.size)
            have hbx5 := (HXB.out.next (((hb2.trans (hB3.mono hb2.size)).trans (hb4.mono (by have := hB3.size; have := hb2.size; omega))).trans (hb5.mono (by have := hB3.size; have := hb2.size; have := hb4.size; omega))) (Nat.le_refl _)).bx3
            clear hbx4 HDEAD
            cases h5 : deadF T.held T.waits q s0 s1 m with
            | true =>
              have HA : Hid (T.ask q s0 s1 m = ⟨0, false, 33, T⟩) := ask_dead H1.out H2.out H3.out H4.out h5
              clear h5
              go_wp2_with fail
              refine bodyPost_ret (v := .tuple #[.int .i64 0, .bool false, .int .i64 33]) (by simp [results, Tryz.results62, go_sem]) rfl ⟨by rw [HA.out], by rw [HA.out]; exact HT.out.next hB5 (Nat.le_refl _), BelF.of hB5⟩
            | false =>
              have H5 := hidd h5
              clear h5
              obtain ⟨A, c, rfl⟩ := own_shape HAt.out.own
              have HA5 := hidd (HAt.out.next hB5 (Nat.le_refl _))
              have hcw := HA5.out.tc.cw
              have hcl := HA5.out.tc.cl
              have hfz := HA5.out.tc.fz 19
              have hfw := HA5.out.tc.fz 18
              have htl := HA5.out.tc.lt
              by_cases h6 : 1000 ≤ T.waits.length
              · have HA : Hid (T.ask q s0 s1 m = ⟨0, false, 10, T⟩) := by
                  show _ = _; unfold Tb.ask
                  rw [if_neg (and2 H1.out H2.out), if_neg H3.out, if_neg H4.out, if_neg (by rw [H5.out]; simp), if_pos h6]
                have hd : decide ((1000 : Int) ≤ T.waits.length) = true := by simp; omega
                go_wp2_with fail
                refine bodyPost_ret (v := .tuple #[.int .i64 0, .bool false, .int .i64 10]) (by simp [results, Tryz.results62, go_sem]) rfl ⟨by rw [HA.out], by rw [HA.out]; exact HT.out.next hB5 (Nat.le_refl _), BelF.of hB5⟩
              · have HA : Hid (T.ask q s0 s1 m = ⟨T.last + 1, false, 0, { T with waits := T.waits ++ [(T.last + 1, (q : Int), s0, s1, m)], last := T.last + 1 }⟩) := ask_wait H1.out H2.out H3.out H4.out H5.out (by omega)
                have hd : decide ((1000 : Int) ≤ T.waits.length) = false := by simp; omega
                have hlast0 := HOK.out.last
                go_wp2_with fail
                have HA19 := hidd (HA5.out.setLast (T.last + 1))
                have hbx19 := ((belX_set w5 t 19 (.int .i64 (T.last + 1))).bk ((HXB.out.next (((hb2.trans (hB3.mono hb2.size)).trans (hb4.mono (by have := hB3.size; have := hb2.size; omega))).trans (hb5.mono (by have := hB3.size; have := hb2.size; have := hb4.size; omega))) (Nat.le_refl _))) (by have := hB5.size; have := HXB.out.lt; have := hb2.size; have := hB3.size; have := hb4.size; have := hb5.size; simp at *; omega) (by have := HAt.out.tc.lt; omega)).bx3
                have HB19 : Hid (BelF F w.heap.size w (w5.setCell ⟨t, 19, none⟩ (.int .i64 (T.last + 1)))) := (BelF.of hB5).trans ((BelF.ofX (belX_set w5 t 19 _) (HFF.out _ (.inl rfl))).mono hB5.size)
                generalize w5.setCell ⟨t, 19, none⟩ (.int .i64 (T.last + 1)) = w6 at *
                clear hbx5 hcw hcl hfz hfw htl hd
                have hcw := HA19.out.tc.cw
                have hcl := HA19.out.tc.cl
                have htl := HA19.out.tc.lt
                go_cut [76] (fun _ wx => Hid (∃ v', TAt wx t { T with waits := T.waits ++ [(T.last + 1, (q : Int), s0, s1, m)], last := T.last + 1 } ps v' ∧ ∀ k, v'.ownBlock = some k → F k) ∧ Hid (BelF F w.heap.size w wx))
                case first =>
                  go_region_law (first
                    | (refine step_tabW (c := 1) ((T.last + 1, (q : Int), s0, s1, m) : Wt) HA19.out (by first | exact below_alloc _ _ | exact (below_drewN (Below.refl _ _) 1).alloc (Nat.le_refl _) _ | exact below_drewN (below_alloc _ _) 1) (Bk.new _ _ _ rfl) rfl rfl (by simp [Act.eval, Act.put]) (by simp [Act.eval, Act.put]) rfl HLEN.out ?_
                       intro v' w' ho' htc7 hA7 hb7 hf7
                       obtain ⟨A', c', rfl⟩ := own_shape ho'
                       clear ho'
                       generalize (T.waits ++ [((T.last + 1, (q : Int), s0, s1, m) : Wt)]).length = n9 at hA7 hb7 hf7 ⊢
                       have hcw7 := htc7.cw
                       have hfw7 := htc7.fz 18
                       have htl7 := htc7.lt)
                    | fail)
                  all_goals
                    go_wp2_with fail
                    go_meet
                    exact ⟨⟨_, hA7, fun k hk => (hf7 k hk).elim (fun e => HFF.out k (.inr (.inr e))) fun e => HUP.out k (Nat.le_trans HB19.out.size e)⟩, HB19.out.trans ((hb7.sub fun k _ hk => hk.elim (fun e => e ▸ HFF.out t (.inl rfl)) fun e => HFF.out k (.inr (.inr e))).mono HB19.out.size)⟩
                case rest =>
                  obtain ⟨hT9, hB9⟩ := hcut
                  obtain ⟨v9, hA9, hF9⟩ := hT9.out
                  have HT9 : Hid (Tab F wc t { T with waits := T.waits ++ [(T.last + 1, (q : Int), s0, s1, m)], last := T.last + 1 }) := ⟨⟨ps, v9, hA9, fun k hk => by
                    rcases hk with hk | hk | hk
                    · exact HFF.out k (.inl hk)
                    · exact HFF.out k (.inr (.inl hk))
                    · exact hF9 k hk⟩, fun k hk => HUP.out k (Nat.le_trans hB9.out.size hk), by have := HOK.out.ask (q : Int) s0 s1 m; rw [HA.out] at this; exact this⟩
                  have hcl9 := hA9.tc.cl
                  have htl9 := hA9.tc.lt
                  clear hA9 hT9 hcw hcl htl
                  go_wp2_with fail
                  refine bodyPost_ret (v := .tuple #[.int .i64 (T.last + 1), .bool false, .int .i64 0]) (by simp [results, Tryz.results62, go_sem]) rfl ⟨by rw [HA.out], by rw [HA.out]; exact HT9.out, hB9.out⟩
  · have hb' : isB T.n nd = false := by simpa using hb
    have HA : Hid (T.ask nd s0 s1 m = ⟨0, false, 1, T⟩) := ask_bad (.inl hb')
    rw [hb'] at HI
    clear h hb hb'
    go_enter Tryz.func62, Tryz.ntmps62
    go_wp2_with fail
    refine (HI.out _ HB0.out).mono ?_; rintro e w1 ⟨rfl, hw⟩
    subst hw
    go_wp2_with fail
    refine bodyPost_ret (v := .tuple #[.int .i64 0, .bool false, .int .i64 1]) (by simp [results, Tryz.results62, go_sem]) rfl ⟨by rw [HA.out], by rw [HA.out]; exact HT.out.next HB0.out (Nat.le_refl _), BelF.of HB0.out⟩
end
end Go.Proofs.YtiokkoeciijkoaaGreat
