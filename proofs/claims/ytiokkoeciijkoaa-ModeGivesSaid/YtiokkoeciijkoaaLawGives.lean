/- ModeGives, walked. -/
import Derived.Test.YtiokkoeciijkoaaRefE
namespace Go.Proofs.Ytiokkoeciijkoaa
set_option linter.unusedVariables false
set_option linter.unusedSimpArgs false
open Go.RowKit

section
variable {held l : List (Pt Int)}
theorem gives_apart {x : List (Pt Int)} (h : CanP x) {i k : Nat} (hi : i < k) (hk : k < x.length) : meetB (x[i]'(by omega)).1 (x[i]'(by omega)).2.1 x[k].1 x[k].2.1 = false := by
  rw [Bool.eq_false_iff]
  intro hm
  rw [meetB_iff] at hm
  have := (List.pairwise_iff_getElem.1 h.sep i k (by omega) hk hi).1
  omega
theorem CanP.one {x : Pt Int} (h : 0 ≤ x.1 ∧ x.1 < x.2.1) : CanP [x] := ⟨fun y hy => by rw [List.mem_singleton.1 hy]; exact h, List.pairwise_singleton _ _⟩
theorem gives_parts (hh : CanP held) {x : Pt Int} (hx : x ∈ needsF held l) : partsP x.1 x.2.1 (askedF l) = [x] := by
  have hn := needsF_can held l
  refine CanP.uniqG (partsP_can (askedF_can l)) (CanP.one (hn.val x hx)) fun n => ?_
  rw [getP_parts (askedF_can l), getP_cons, getP_nil]
  by_cases h : hasS x.1 x.2.1 n = true
  · rw [if_pos h, if_pos h]
    have h1 : getP n (needsF held l) = some x.2.2 := (getP_at hn.dis).2 ⟨x, hx, h, rfl⟩
    rw [getP_needs hh] at h1
    cases hg : getP n (askedF l) with
    | none => rw [hg] at h1; cases h1
    | some k =>
      rw [hg] at h1
      simp only [] at h1
      cases hq : getP n held with
      | none => rw [hq] at h1; exact h1
      | some u =>
        rw [hq] at h1
        simp only [] at h1
        split at h1
        · cases h1
        · exact h1
  · rw [if_neg h, if_neg h]
theorem gives_none (hh : CanP held) : needsF (setsF (fun u => u) (needsF held l) held) l = [] := by
  have hc : CanP (setsF (fun u => u) (needsF held l) held) := setsF_can hh
  refine CanP.uniqG (needsF_can _ _) CanP.nil fun n => ?_
  rw [getP_needs hc, getP_nil, getP_sets (needsF_can held l).dis hh, getP_needs hh]
  cases hg : getP n (askedF l) with
  | none => rfl
  | some k =>
    have hk := get_of_val (Q := fun v => v = 1 ∨ v = 2) (asked_val l) hg
    have hcv : coversB k k = true := by rw [coversB_iff]; omega
    simp only []
    cases hq : getP n held with
    | none => simp [hcv]
    | some u =>
      by_cases h2 : coversB u k = true
      · simp [h2]
      · simp [h2, hcv]
end

set_option maxHeartbeats 8000000 in
set_option maxRecDepth 100000 in
theorem ModeGives_c (A : Option Addr) (n c : Nat) (hl : List (Pt Int)) (B : Option Addr) (n2 c2 : Nat) (l : List (Pt Int)) (w : World) (h : Rd 3 encP w A hl) (hn : n = hl.length) (_ : ∀ x ∈ hl, I64 x.1 ∧ I64 x.2.1 ∧ I64 x.2.2) (h2 : Rd 3 encP w B l) (hn2 : n2 = l.length) (_ : ∀ x ∈ l, I64 x.1 ∧ I64 x.2.1 ∧ I64 x.2.2) :
    Calls Try.prog 16 #[.slice A n c, .slice B n2 c2] w fun e w' => e = .returned (.bool true) ∧ Below w.heap.size w w' := by
  subst hn hn2
  have HR := hidd h
  have HR2 := hidd h2
  clear h h2
  rcases (by omega : (30 < hl.length) ∨ (¬ 30 < hl.length ∧ 30 < l.length) ∨ (¬ 30 < hl.length ∧ ¬ 30 < l.length)) with q1 | ⟨q1, q2⟩ | ⟨q1, q2⟩
  case inr.inr =>
    have HH := hidd (Held_c A _ c hl w HR.out rfl (by omega))
    have HL1 : Hid (InL (endsL hl ++ endsL l) (heldF hl)) := heldF_inL fun x hx => ⟨List.mem_append_left _ (endsL_mem hx).1, List.mem_append_left _ (endsL_mem hx).2⟩
    have HL2 : Hid (InL (endsL hl ++ endsL l) l) := fun x hx => ⟨List.mem_append_right _ (endsL_mem hx).1, List.mem_append_right _ (endsL_mem hx).2⟩
    have HLL : Hid ((endsL hl ++ endsL l).length ≤ 120) := by show _ ≤ _; rw [List.length_append, endsL_len, endsL_len]; omega
    have HC := hidd (heldF_can hl)
    have HGP : Hid (∀ x ∈ needsF (heldF hl) l, partsP x.1 x.2.1 (askedF l) = [x]) := fun x hx => gives_parts HC.out hx
    have HGN := hidd (gives_none (l := l) HC.out)
    have HNC := hidd (needsF_can (heldF hl) l)
    have HNI := hidd (needsF_inL HL1.out HL2.out)
    have hNl : (needsF (heldF hl) l).length ≤ 120 := Nat.le_trans (HNI.out.len HNC.out) HLL.out
    have hml : (heldF hl).length ≤ 120 := Nat.le_trans (HL1.out.len HC.out) HLL.out
    have HN : Hid (∀ W, IM (fun k => k = w.heap.size) W w.heap.size (heldF hl) → Below w.heap.size w W → Calls Try.prog 63 #[ptr w.heap.size, .slice B l.length c2] W fun e w' => (∃ u, e = .returned u ∧ Own 3 encP 72 w' W.heap.size u (needsF (heldF hl) l)) ∧ Below W.heap.size W w') := fun W hW hb =>
      mNeeds_c _ _ (endsL hl ++ endsL l) B _ c2 l W (HeldAt.of hW (by omega)) HC.out HL1.out HL2.out (Nat.le_trans HLL.out (by omega)) (HR2.out.below hb (Nat.le_refl _)) rfl (by omega)
    generalize heldF hl = m at *
    generalize endsL hl ++ endsL l = LL at *
    generalize hND : needsF m l = N at *
    clear hND
    have HAP : Hid (∀ i j (hij : i < j) (h : j < N.length), meetB (N[i]'(by omega)).1 (N[i]'(by omega)).2.1 N[j].1 N[j].2.1 = false) := fun i j hij h => gives_apart HNC.out hij h
    go_enter Try.func16, Try.ntmps16
    go_wp2_with fail
    refine HH.out.mono ?_; rintro e w1 ⟨⟨A1, c1, rfl, _⟩, hm1, hb1⟩
    have HN1 := hidd (HN.out w1 hm1 hb1)
    have hm1 := hidd hm1
    clear HN
    go_wp2_with fail
    refine HN1.out.mono ?_; rintro e w2 ⟨⟨u2, rfl, ho2⟩, hb2⟩
    obtain ⟨A2, c2', rfl⟩ := own_shape ho2
    have hpw1 := hm1.out.lt
    have HX2 := hidd (RX.own ho2 rfl hpw1)
    have hm2 := hidd (hm1.out.next hb2 (Nat.le_refl _))
    have hB2 := hb1.trans (hb2.mono hb1.size)
    clear ho2 HN1 hm1 HH
    go_wp2_with fail
    go_loopw [8] (fun i wr => ∃ k : Nat, k ≤ N.length ∧ i = .int .i64 k ∧ Hid (IM (fun k => k = w.heap.size) wr w.heap.size (setsF (fun u => u) (N.take k) m)) ∧ Hid (RX 3 encP wr A2 N w.heap.size) ∧ Below w.heap.size w wr) (fun i _ => N.length - (intOf i).toNat)
    case atStart => exact ⟨0, by omega, rfl, hm2.out, HX2.out, hB2⟩
    case round =>
      obtain ⟨k, hk, rfl, hm, hx, hbr⟩ := hrel
      obtain ⟨wq, rfl⟩ : ∃ wq : World, wq = wr := ⟨_, rfl⟩
      by_cases hlt : k < N.length
      · have hne : N ≠ [] := by intro e; rw [e] at hlt; simp at hlt
        obtain ⟨b, o, hA, hblt, hcc⟩ := hx.out.rd.cells3 hne
        subst hA
        obtain ⟨g0, g1, g2⟩ := hcc k hlt
        clear hcc
        have HT := hidd (setsF_take (g := fun u => u) (m := m) hlt)
        have hcan := hidd (setsF_can (g := fun u => u) (P := N.take k) HC.out)
        have hlen : Hid ((setsF (fun u => u) (N.take k) m).length ≤ 120) := Nat.le_trans ((setsF_inL HC.out HL1.out (fun x hx => HNI.out x (List.mem_of_mem_take hx))).len hcan.out) HLL.out
        generalize setsF (fun u => u) (N.take k) m = mk at *
        have hbw : b < wq.heap.size := hblt
        generalize hy : N[k] = y at *
        have HY := hidd hy
        clear hy
        obtain ⟨x0, x1, xv⟩ := y
        simp only [] at g0 g1 g2
        have HSt := hidd (fSet_c w.heap.size mk x0 x1 xv wq.drew (show IM _ wq.drew _ _ from hm.out.next (below_drewN (Below.refl _ _) 1) (Nat.le_refl _)) (fun k hk => by rw [hk]; exact hm.out.lt) hcan.out (by have := hlen.out; omega))
        have hpq : w.heap.size < wq.heap.size := hm.out.lt
        go_wp2_with fail
        refine wp_tail 11 (by kernel_rfl) ?_
        simp only [List.take_succ_cons, List.take_zero, List.drop_succ_cons, List.drop_zero]
        repeat still_step
        refine wpStill_nil ?_
        go_wp2_with fail
        refine HSt.out.mono ?_; rintro e w5 ⟨rfl, hm5, hb5⟩
        have hB5 : Below w.heap.size w w5 := hbr.trans ((below_drewN (Below.refl w.heap.size wq) 1).trans (hb5.below hbr.size (Nat.le_refl _)))
        have hx5 : Hid (RX 3 encP w5 (some ⟨b, o, none⟩) N w.heap.size) := (show RX 3 encP wq.drew _ N w.heap.size from hx.out.next (below_drewN (Below.refl _ _) 1) (Nat.le_refl _)).nextX hb5 (Nat.le_refl _)
        have hm5' := hidd hm5
        clear hm5 HSt g0 g1 g2 hm hx
        go_wp2_with fail
        go_loopw [9] (fun i ws => ∃ j : Nat, k < j ∧ j ≤ N.length ∧ i = .int .i64 j ∧ Below w5.heap.size w5 ws) (fun i _ => N.length - (intOf i).toNat)
        case atStart => exact ⟨k + 1, by omega, by omega, by go_num, Below.refl _ _⟩
        case round =>
          obtain ⟨j, hkj, hj, rfl, hbj⟩ := hrel
          have hxj := hidd (hx5.out.next hbj (Nat.le_refl _))
          by_cases hlj : j < N.length
          · obtain ⟨b', o', hA, hblt', hcc⟩ := hxj.out.rd.cells3 hne
            injection hA with hA
            injection hA with hA1 hA2 _
            subst hA1
            subst hA2
            obtain ⟨g0, g1, g2⟩ := hcc k hlt
            obtain ⟨d0, d1, d2⟩ := hcc j hlj
            clear hcc
            have KM := hidd (rMeet_c N[k].1 N[k].2.1 N[j].1 N[j].2.1)
            rw [HAP.out k j hkj hlj] at KM
            generalize meetF N[k].1 N[k].2.1 N[j].1 N[j].2.1 = mf at *
            generalize meetT N[k].1 N[k].2.1 N[j].1 N[j].2.1 = mt at *
            generalize N[k] = y at *
            generalize N[j] = z at *
            obtain ⟨y0, y1, yv⟩ := y
            obtain ⟨z0, z1, zv⟩ := z
            simp only [] at g0 g1 g2 d0 d1 d2
            have hbwj : b < wr.heap.size := hblt'
            go_upto_region 12 with (fail)
            go_cut [10, 11] (fun p ok wx => ok = .bool false ∧ Below wr.heap.size wr wx)
            case first =>
              go_region_law (first
                | (go_simp; go_at_call 66; refine (KM.out _).mono ?_; rintro e w7 ⟨rfl, hb7⟩; have hq7 : Below wr.heap.size wr w7 := (by first | exact (below_drewN (Below.refl _ _) 1).trans hb7 | exact ((below_drewN (Below.refl wr.heap.size wr) 1).alloc (Nat.le_refl _) _).trans (hb7.mono (by simp))); try have hlit7 : Bk w7 wr.heap.size #[.int .i64 0, .int .i64 0] 27 := (Bk.new wr.drew #[.int .i64 0, .int .i64 0] 27 rfl).next hb7 (Nat.le_refl _); try have hlb7 := hlit7.bx2)
                | fail)
              all_goals
                go_wp2_with fail
                go_meet
                refine ⟨rfl, ?_⟩
                first
                  | exact (hq7.setCell (Nat.le_refl _) _).setCell (Nat.le_refl _) _
                  | exact hq7.alloc hq7.size _
            case rest =>
              obtain ⟨rfl, hbc⟩ := hcut
              go_wp2_with fail
              go_roundw
              case rel => exact ⟨j + 1, by omega, by omega, by go_num, hbj.trans (hbc.mono hbj.size)⟩
              case measure => simp [intOf]; omega
          · obtain rfl : j = N.length := by omega
            go_wp2_with fail
            go_roundw
            case rel => exact ⟨k + 1, by omega, by go_num, by show IM _ _ _ _; rw [HT.out]; exact hm5'.out.next hbj (Nat.le_refl _), hxj.out, hB5.trans (hbj.mono hB5.size)⟩
            case measure => simp [intOf]; omega
      · obtain rfl : k = N.length := by omega
        rw [List.take_length] at hm
        have HMC := hidd (setsF_can (g := fun u => u) (P := N) HC.out)
        have HMI := hidd (setsF_inL (g := fun u => u) HC.out HL1.out HNI.out)
        generalize setsF (fun u => u) N m = m2 at *
        have hm2l : m2.length ≤ 120 := Nat.le_trans (HMI.out.len HMC.out) HLL.out
        have HQ := hidd (qNorm_c B _ c2 l wq (HR2.out.below hbr (Nat.le_refl _)) rfl (by omega))
        have hal := askedF_len l
        go_wp2_with fail
        refine HQ.out.mono ?_; rintro e w6 ⟨⟨A6, c6, rfl, hr6⟩, hb6⟩
        have hR6 := hidd hr6
        have hx6 := hidd (hx.out.next hb6 (Nat.le_refl _))
        have hm6 := hidd (hm.out.next hb6 (Nat.le_refl _))
        have hB6 := hbr.trans (hb6.mono hbr.size)
        clear hr6 HQ hm hx
        generalize askedF l = AL at *
        go_wp2_with fail
        go_loopw [13] (fun i ws => ∃ j : Nat, j ≤ N.length ∧ i = .int .i64 j ∧ Below w6.heap.size w6 ws) (fun i _ => N.length - (intOf i).toNat)
        case atStart => exact ⟨0, by omega, rfl, Below.refl _ _⟩
        case round =>
          obtain ⟨j, hj, rfl, hbj⟩ := hrel
          have hxj := hidd (hx6.out.next hbj (Nat.le_refl _))
          have hRj := hidd (hR6.out.below hbj (Nat.le_refl _))
          have hmj := hidd (hm6.out.next hbj (Nat.le_refl _))
          have hBj := hB6.trans (hbj.mono hB6.size)
          by_cases hlj : j < N.length
          · have hne : N ≠ [] := by intro e; rw [e] at hlj; simp at hlj
            obtain ⟨b, o, hA, hblt, hcc⟩ := hxj.out.rd.cells3 hne
            subst hA
            obtain ⟨g0, g1, g2⟩ := hcc j hlj
            clear hcc
            have HPx := hidd (HGP.out N[j] (List.getElem_mem hlj))
            have HPc := hidd (rmParts_c A6 _ c6 AL N[j].1 N[j].2.1 wr hRj.out rfl (by omega))
            rw [HPx.out] at HPc
            generalize N[j] = y at *
            obtain ⟨x0, x1, xv⟩ := y
            simp only [] at g0 g1 g2
            have hbw : b < wr.heap.size := hblt
            go_wp2_with fail
            refine HPc.out.mono ?_; rintro e w7 ⟨⟨v7, rfl, ho7⟩, hb7⟩
            obtain ⟨g, cap, rfl, hgb, hgl, hgc, _⟩ := own_at ho7 (by simp)
            have c0 : w7.cell? ⟨g, 0, none⟩ = some (.int .i64 x0) := hgc 0 _ rfl
            have c1 : w7.cell? ⟨g, 1, none⟩ = some (.int .i64 x1) := hgc 1 _ rfl
            have c2 : w7.cell? ⟨g, 2, none⟩ = some (.int .i64 xv) := hgc 2 _ rfl
            have d0 := (hb7.cell (p := ⟨b, _, none⟩) hbw).trans g0
            have d1 := (hb7.cell (p := ⟨b, _, none⟩) hbw).trans g1
            have d2 := (hb7.cell (p := ⟨b, _, none⟩) hbw).trans g2
            have hbw7 : b < w7.heap.size := Nat.lt_of_lt_of_le hbw hb7.size
            clear ho7 hgc HPc g0 g1 g2
            go_wp2_with fail
            go_quiet (fail)
            go_wp2_with fail
            go_roundw
            case rel => exact ⟨j + 1, by omega, by go_num, (hbj.trans (hb7.mono hbj.size)).trans (below_drewN (Below.refl _ _) _)⟩
            case measure => simp [intOf]; omega
          · obtain rfl : j = N.length := by omega
            go_wp2_with fail
            refine (alive17_c _).mono ?_; rintro e w8 ⟨rfl, hb8⟩
            have hB8 := hBj.trans (hb8.mono hBj.size)
            have hm8 := hidd (hmj.out.next hb8 (Nat.le_refl _))
            have HHa := hidd (mHas_c (ptr w.heap.size) m2 LL B _ c2 l w8 (HeldAt.of hm8.out (by omega)) HMC.out HMI.out HL2.out (Nat.le_trans HLL.out (by omega)) (HR2.out.below hB8 (Nat.le_refl _)) rfl (by omega))
            rw [HGN.out] at HHa
            go_wp2_with fail
            refine HHa.out.mono ?_; rintro e w9 ⟨rfl, hb9⟩
            have hB9 := hB8.trans (hb9.mono hB8.size)
            have hm9 := hidd (hm8.out.next hb9 (Nat.le_refl _))
            have HNe := hidd (mNeeds_c (ptr w.heap.size) m2 LL B _ c2 l w9 (HeldAt.of hm9.out (by omega)) HMC.out HMI.out HL2.out (Nat.le_trans HLL.out (by omega)) (HR2.out.below hB9 (Nat.le_refl _)) rfl (by omega))
            rw [HGN.out] at HNe
            go_wp2_with fail
            refine HNe.out.mono ?_; rintro e w10 ⟨⟨v10, rfl, ho10⟩, hb10⟩
            obtain ⟨A10, c10, rfl⟩ := own_shape ho10
            clear ho10
            go_wp2_with fail
            go_ret
            exact ⟨by first | rfl | simp, hB9.trans (hb10.mono hB9.size)⟩
  all_goals
    go_enter Try.func16, Try.ntmps16
    go_wp2_with fail
    refine (alive17_c _).mono ?_; rintro e w1 ⟨rfl, hb⟩
    go_wp2_with fail
    go_ret
    exact ⟨rfl, hb⟩
end Go.Proofs.Ytiokkoeciijkoaa
