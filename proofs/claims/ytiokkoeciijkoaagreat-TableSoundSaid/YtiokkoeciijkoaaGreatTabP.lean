/- ltab: Cancel, Drop, Force. -/
import Derived.Test.YtiokkoeciijkoaaGreatLibWt
namespace Go.Proofs.YtiokkoeciijkoaaGreat
set_option linter.unusedVariables false
set_option linter.unusedSimpArgs false
open Go.RowKit

theorem AppF.of_grown {w w' : World} {v v' : Value} (h : w.grownBy w' v.ownBlock) (he : v'.ownBlock = v.ownBlock) : AppF w w' v v' :=
  ⟨⟨h.os, h.tape, h.output, h.size, fun k hk hn => h.block k hk (fun e => hn e.symm)⟩, fun k hk _ => by rw [he]; exact hk⟩
section
variable {W W' : World} {t : Nat} {T : Tb} {ps : Nat → Nat} {v : Value}
theorem TAt.newMap {q : Nat} (h : TAt W t T ps v) (hq : q ≤ 16) (hb : Below W.heap.size W W') (hm : ∀ F, IM F W' W.heap.size []) : TAt (W'.setCell ⟨t, 1 + q, none⟩ (ptr W.heap.size)) t { T with held := upd T.held q [] } (upd ps q W.heap.size) v := by
  have h' := h.next hb (Nat.le_refl _)
  have htl := h.tc.lt
  have hne : t ≠ W.heap.size := by omega
  have hps : ∀ i, i ≤ 16 → ps i < W.heap.size := fun i hi => (h.maps i hi).lt
  have hx := belX_set W' t (1 + q) (ptr W.heap.size)
  have hvw : ∀ k, v.ownBlock = some k → k < W.heap.size := fun k hk => (h.own.lt k hk).2
  refine ⟨⟨(cell_setCell_ne _ _ _ _ _ (by omega)).trans h'.tc.c0, fun i hi => ?_, (cell_setCell_ne _ _ _ _ _ (by omega)).trans h'.tc.cw, (cell_setCell_ne _ _ _ _ _ (by omega)).trans h'.tc.cl, fun i => (frozen_setCell' _ _ _ _).trans (h'.tc.fz i), by simpa [World.setCell] using h'.tc.lt⟩, own_belX h'.own hx h.vt, fun i hi => ?_, fun i j hi hj e => ?_, fun i hi => ?_, h.vt, fun i hi => ?_⟩
  · by_cases e : i = q
    · subst e; rw [upd_at]; exact cell_setCell_at _ _ _ _ _ (h'.tc.cm i hi)
    · rw [upd_ne _ _ e]; exact (cell_setCell_ne _ _ _ _ _ (by omega)).trans (h'.tc.cm i hi)
  · have hsub : ∀ k, fpS t (upd ps q W.heap.size) v k → fpS t ps v k ∨ k = W.heap.size := by
      rintro k (hk | ⟨j, hj, hk⟩ | hk)
      · exact .inl (.inl hk)
      · by_cases e : j = q
        · rw [e, upd_at] at hk; exact .inr hk
        · rw [upd_ne _ _ e] at hk; exact .inl (.inr (.inl ⟨j, hj, hk⟩))
      · exact .inl (.inr (.inr hk))
    show IM _ _ (upd ps q W.heap.size i) (upd T.held q [] i)
    by_cases e : i = q
    · subst e; rw [upd_at, upd_at]
      exact (hm (fun k => fpS t ps v k ∨ k = W.heap.size)).far hx (Nat.le_refl _) (.inl (.inl rfl)) (by omega) |>.sub hsub
    · rw [upd_ne _ _ e, upd_ne _ _ e]
      have h1 : IM (fun k => fpS t ps v k ∨ k = W.heap.size) W' (ps i) (T.held i) := by
        obtain ⟨A, c, g1, g2, g3⟩ := (h.maps i hi).ex
        refine ((h.maps i hi).next hb (Nat.le_refl _)).ex.elim fun A' hA' => hA'.elim fun c' hc' => ⟨A', c', hc'.1, hc'.2.1, fun b o hne hA hf => ?_⟩
        rcases hf with hf | hf
        · exact hc'.2.2 b o hne hA hf
        · have e2 : W'.heap[ps i]? = W.heap[ps i]? := hb.block _ (hps i hi)
          have g1' : W.heap[ps i]? = some (.cells #[.slice A' (T.held i).length c'] 68 (0, 0)) := e2.symm.trans hc'.1
          rw [g1] at g1'
          injection g1' with g1'
          injection g1' with g1' _ _
          have g4 : Value.slice A (T.held i).length c = .slice A' (T.held i).length c' := by simpa using g1'
          injection g4 with g4 _ _
          rw [← g4] at hA
          subst hA
          have := g2.lt_of hne
          omega
      exact (h1.far hx (Nat.le_refl _) (.inl (.inl rfl)) (h.net i hi)).sub hsub
  · by_cases e1 : i = q
    · by_cases e2 : j = q
      · omega
      · rw [e1, upd_at, upd_ne _ _ e2] at e
        have := hps j hj; omega
    · by_cases e2 : j = q
      · rw [e2, upd_at, upd_ne _ _ e1] at e
        have := hps i hi; omega
      · rw [upd_ne _ _ e1, upd_ne _ _ e2] at e
        exact h.inj i j hi hj e
  · by_cases e : i = q
    · rw [e, upd_at]; omega
    · rw [upd_ne _ _ e]; exact h.net i hi
  · by_cases e : i = q
    · rw [e, upd_at]; intro hk; have := hvw _ hk; omega
    · rw [upd_ne _ _ e]; exact h.vp i hi
end
set_option maxHeartbeats 1000000 in
theorem tCancelC_c (y : Wt) (p : Nat) (id : Int) (w : World) (h : Bk w p #[.int .i64 id] 3) : Calls Tryz.prog 160 #[wtV y, ptr p] w fun e w' => e = .returned (.bool (y.1 == id)) ∧ Below w.heap.size w w' := by
  obtain ⟨y0, y1, y2, y3, y4⟩ := y
  have hb := (h.next (below_alloc w (.cells #[.int .i64 y0, .int .i64 y1, .int .i64 y2, .int .i64 y3, .int .i64 y4] 168)) (Nat.le_refl _)).bx1
  clear h
  go_enter Tryz.func160, Tryz.ntmps160
  go_wp2_with fail
  go_ret
  exact ⟨rfl, below_alloc _ _⟩
set_option maxHeartbeats 1000000 in
theorem tDropC_c (y : Wt) (p : Nat) (id : Int) (w : World) (h : Bk w p #[.int .i64 id] 3) : Calls Tryz.prog 161 #[wtV y, ptr p] w fun e w' => e = .returned (.bool (y.2.1 == id)) ∧ Below w.heap.size w w' := by
  obtain ⟨y0, y1, y2, y3, y4⟩ := y
  have hb := (h.next (below_alloc w (.cells #[.int .i64 y0, .int .i64 y1, .int .i64 y2, .int .i64 y3, .int .i64 y4] 168)) (Nat.le_refl _)).bx1
  clear h
  go_enter Tryz.func161, Tryz.ntmps161
  go_wp2_with fail
  go_ret
  exact ⟨rfl, below_alloc _ _⟩
theorem eg_CancelC : ∀ args w, (callFunc 160 args).run Tryz.prog w = .ok (.enter 160 args) w := Proofs.enters_of Tryz.func160 (by kernel_rfl) rfl
theorem eg_DropC : ∀ args w, (callFunc 161 args).run Tryz.prog w = .ok (.enter 161 args) w := Proofs.enters_of Tryz.func161 (by kernel_rfl) rfl
theorem TAt.del {W W' : World} {t : Nat} {T : Tb} {ps : Nat → Nat} {v v' : Value} {ws : List Wt} (h : TAt W t T ps v) (hg : W.grownBy W' v.ownBlock) (he : v'.ownBlock = v.ownBlock) (ho : Own 5 encW 168 W' 0 v' ws) : TAt (W'.setCell ⟨t, 18, none⟩ v') t { T with waits := ws } ps v' :=
  h.appWaits (AppF.of_grown hg he) ho
/-- a table after grant, as callers see it -/
theorem Tab.granted {F : Nat → Prop} {W W' : World} {t : Nat} {T : Tb} {ps : Nat → Nat} {v vl : Value} (hF : ∀ k, fpS t ps v k → F k) (hup : ∀ k, W.heap.size ≤ k → F k) (hT : TOk T) (ht : TAt W' t T.grant ps vl) (hvl : ∀ k, vl.ownBlock = some k → W.heap.size ≤ k) (hb : BelF (fun k => k = t ∨ mapsS ps k) W.heap.size W W') : Tab F W' t T.grant ∧ BelF F W.heap.size W W' := by
  refine ⟨⟨⟨ps, vl, ht, fun k hk => ?_⟩, fun k hk => hup k (Nat.le_trans hb.size hk), hT.grant⟩, hb.sub fun k _ hk => ?_⟩
  · rcases hk with hk | hk | hk
    · exact hF k (.inl hk)
    · exact hF k (.inr (.inl hk))
    · exact hup k (hvl k hk)
  · rcases hk with hk | hk
    · exact hF k (.inl hk)
    · exact hF k (.inr (.inl hk))

set_option maxHeartbeats 8000000 in
set_option maxRecDepth 100000 in
theorem tCancel_c {F : Nat → Prop} (t : Nat) (T : Tb) (id : Int) (w : World) (h : Tab F w t T) :
    Calls Tryz.prog 64 #[ptr t, .int .i64 id] w fun e w' => (∃ u, e = .returned u) ∧ Tab F w' t (T.cancel id) ∧ BelF F w.heap.size w w' := by
  obtain ⟨ps, v, hA, hF⟩ := h.ex
  obtain ⟨A, c, rfl⟩ := own_shape hA.own
  have HUP := hidd h.up
  have HOK := hidd h.ok
  have HFF := hidd hF
  have hwl := h.ok.len
  have HB0 := hidd (below_alloc w (.cells #[.int .i64 id] 3))
  have HXB := hidd (Bk.new w #[.int .i64 id] 3 rfl)
  have HA0 := hidd (hA.next HB0.out (Nat.le_refl _))
  have hcw := HA0.out.tc.cw
  have hfz := HA0.out.tc.fz 18
  have htl := HA0.out.tc.lt
  have hbv : (Value.slice A T.waits.length c).ownBlock ≠ some w.heap.size := fun e => by have := (hA.own.lt _ e).2; omega
  have HDEL := hidd (delWait_c (.slice A T.waits.length c) T.waits (w.alloc (.cells #[.int .i64 id] 3)) 0 HA0.out.own (by omega) (fun y => y.1 == id) 160 #[ptr w.heap.size] eg_CancelC (fun y W hW => tCancelC_c y w.heap.size id W ((hW.block _ HXB.out.lt (fun e => hbv e.symm)).trans HXB.out)))
  clear h hA hF hbv
  go_enter Tryz.func64, Tryz.ntmps64
  go_wp2_with fail
  refine HDEL.out.mono ?_; rintro e w1 ⟨⟨v1, rfl, ho1, hv1⟩, hg1⟩
  obtain ⟨A1, c1, rfl⟩ := own_shape ho1
  have HA1 := hidd (HA0.out.del hg1 hv1 ho1)
  have htc1 : TC w1 t T.n ps (.slice A T.waits.length c) T.last := HA0.out.tc.keep ((AppF.of_grown hg1 hv1).block HA0.out.vt HA0.out.tc.lt) hg1.size
  have hcw1 := htc1.cw
  have hfz1 := htc1.fz 18
  have htl1 := htc1.lt
  have HF1 : Hid (∀ k, fpS t ps (.slice A1 (keepL (fun y : Wt => y.1 == id) T.waits).length c1) k → F k) := fun k hk => by
    rcases hk with hk | hk | hk
    · exact HFF.out k (.inl hk)
    · exact HFF.out k (.inr (.inl hk))
    · exact HFF.out k (.inr (.inr (hv1 ▸ hk)))
  have HB1 : Hid (BelF F w.heap.size w (w1.setCell ⟨t, 18, none⟩ (.slice A1 (keepL (fun y : Wt => y.1 == id) T.waits).length c1))) := by
    refine (BelF.of HB0.out).trans ((((AppF.of_grown hg1 hv1).bel.sub fun k _ hk => HFF.out k (.inr (.inr hk))).mono (by simp)).trans ((BelF.ofX (belX_set w1 t 18 _) (HFF.out _ (.inl rfl))).mono ?_))
    have := hg1.size; simp at this; omega
  have HCW := hidd HA1.out.tc.cw
  clear ho1 hv1 hg1 htc1 hcw hfz htl
  generalize hkk : keepL (fun y : Wt => y.1 == id) T.waits = K at *
  have HKD : Hid (T.cancelled id = { T with waits := K }) := by show _ = _; rw [← hkk]; rfl
  have HKE : Hid (T.cancel id = if K.length = T.waits.length then T.cancelled id else (T.cancelled id).grant) := by show _ = _; rw [← hkk]; rfl
  have HKO := hidd (HOK.out.cancelled id)
  have hkl : K.length ≤ T.waits.length := by rw [← hkk]; exact List.length_filter_le _ _
  clear hkk
  have HA2 : Hid (TAt (w1.setCell ⟨t, 18, none⟩ (.slice A1 K.length c1)) t (T.cancelled id) ps (.slice A1 K.length c1)) := by have := HA1.out; rw [← HKD.out] at this; exact this
  by_cases he : K.length = T.waits.length
  · have HC : Hid (T.cancel id = T.cancelled id) := by show _ = _; rw [HKE.out, if_pos he]
    have hq : ((K.length : Int) == (T.waits.length : Int)) = true := by rw [he]; simp
    have hcw2 := HCW.out
    generalize K.length = kn at *
    have HTB : Hid (Tab F (w1.setCell ⟨t, 18, none⟩ (.slice A1 kn c1)) t (T.cancelled id)) := ⟨⟨ps, _, HA2.out, HF1.out⟩, fun k hk => HUP.out k (Nat.le_trans HB1.out.size hk), HKO.out⟩
    clear he
    go_wp2_with fail
    exact bodyPost_ret (v := .tuple #[.slice none 0 0, .bool false]) (by simp [results, Tryz.results64, go_sem]) rfl ⟨⟨_, rfl⟩, by rw [HC.out]; exact HTB.out, HB1.out⟩
  · have HC : Hid (T.cancel id = (T.cancelled id).grant) := by show _ = _; rw [HKE.out, if_neg he]
    have hq : ((K.length : Int) == (T.waits.length : Int)) = false := by rw [beq_eq_false_iff_ne]; omega
    have hcw2 := HCW.out
    have HGR := hidd (tgrant_c t (T.cancelled id) ps _ _ HA2.out HKO.out)
    have HUP2 : Hid (∀ k, (w1.setCell ⟨t, 18, none⟩ (.slice A1 K.length c1)).heap.size ≤ k → F k) := fun k hk => HUP.out k (Nat.le_trans HB1.out.size hk)
    generalize K.length = kn at *
    clear he
    go_wp2_with fail
    refine HGR.out.mono ?_; rintro e w2 ⟨vo, vl, rfl, ho2, ht2, hvl, hap, hb2⟩
    have HTG := hidd (Tab.granted HF1.out HUP2.out HKO.out ht2 hvl hb2)
    clear ho2 ht2 hvl hap hb2
    go_wp2_with fail
    exact bodyPost_ret (v := .tuple #[vo, .bool true]) (by simp [results, Tryz.results64, go_sem]) rfl ⟨⟨_, rfl⟩, by rw [HC.out]; exact HTG.out.1, HB1.out.trans (HTG.out.2.mono HB1.out.size)⟩

set_option maxHeartbeats 8000000 in
set_option maxRecDepth 100000 in
theorem tDrop_c {F : Nat → Prop} (t : Nat) (T : Tb) (nd : Int) (w : World) (h : Tab F w t T) :
    Calls Tryz.prog 65 #[ptr t, .int .i64 nd] w fun e w' => (∃ u, e = .returned u) ∧ Tab F w' t (T.drop nd) ∧ BelF F w.heap.size w w' := by
  have HT := hidd h
  have HB0 := hidd (below_alloc w (.cells #[.int .i64 nd] 3))
  have HXB := hidd (Bk.new w #[.int .i64 nd] 3 rfl)
  have hbx := HXB.out.bx1
  have HI := hidd (tis_t t T nd _ (h.next HB0.out (Nat.le_refl _)))
  cases hb : isB T.n nd with
  | false =>
    have HD : Hid (T.drop nd = T) := by show _ = _; unfold Tb.drop; rw [hb]; rfl
    rw [hb] at HI
    clear h hb
    go_enter Tryz.func65, Tryz.ntmps65
    go_wp2_with fail
    refine HI.out.mono ?_; rintro e w1 ⟨rfl, hw⟩
    subst hw
    go_wp2_with fail
    go_ret
    exact ⟨⟨_, rfl⟩, by rw [HD.out]; exact HT.out.next HB0.out (Nat.le_refl _), BelF.of HB0.out⟩
  | true =>
    have HD : Hid (T.drop nd = (T.dropped nd).grant) := by show _ = _; unfold Tb.drop; rw [if_pos hb]
    rw [hb] at HI
    have hnd := isB_iff.1 hb
    have hn := h.ok.n.2
    obtain ⟨q, rfl⟩ : ∃ q : Nat, nd = q := ⟨nd.toNat, by omega⟩
    have hq : q ≤ 16 := by omega
    obtain ⟨ps, v, hA, hF⟩ := h.ex
    obtain ⟨A, c, rfl⟩ := own_shape hA.own
    have HUP := hidd h.up
    have HFF := hidd hF
    have HKO := hidd (h.ok.dropped (q : Int))
    have hwl := h.ok.len
    have HA0 := hidd (hA.next HB0.out (Nat.le_refl _))
    have hcm := HA0.out.tc.cm q hq
    have hfz := HA0.out.tc.fz (1 + q)
    have htl := HA0.out.tc.lt
    have hi0 : 0 ≤ (q : Int) := by omega
    have hi1 : (q : Int) < 17 := by omega
    have HXF : Hid (Bk (w.alloc (.cells #[.int .i64 (q : Int)] 3)) w.heap.size #[.int .i64 (q : Int)] 3 ∧ w.heap.size ≠ t) := ⟨HXB.out, by have := hA.tc.lt; omega⟩
    have HVF : Hid ((Value.slice A T.waits.length c).ownBlock ≠ some w.heap.size) := fun e => by have := (hA.own.lt _ e).2; omega
    have HS1 : Hid ((w.alloc (.cells #[.int .i64 (q : Int)] 3)).heap.size = w.heap.size + 1) := by show _ = _; simp
    have HDR : Hid (T.dropped (q : Int) = { T with held := upd T.held q [], waits := keepL (fun y : Wt => y.2.1 == (q : Int)) T.waits }) := rfl
    clear h hA hF hb
    go_enter Tryz.func65, Tryz.ntmps65
    go_wp2_with fail
    refine HI.out.mono ?_; rintro e w1 ⟨rfl, hw⟩
    subst hw
    go_wp2_with fail
    go_cut [11] (fun _ wx => Hid (∃ ps', TAt wx t { T with held := upd T.held q [] } ps' (.slice A T.waits.length c) ∧ ∀ i, i ≤ 16 → F (ps' i)) ∧ Hid (Bk wx w.heap.size #[.int .i64 (q : Int)] 3) ∧ Hid (BelF F w.heap.size w wx))
    case first =>
      go_region_law (first
        | (go_simp; go_at_call 32; refine (iNew_c _).mono ?_; rintro e w5 ⟨rfl, hn5, hb5⟩
           have hb5' := below_then (below_drewN (Below.refl (w.alloc (.cells #[.int .i64 (q : Int)] 3)).heap.size (w.alloc (.cells #[.int .i64 (q : Int)] 3))) 1) hb5
           have HN := hidd (HA0.out.newMap hq hb5' hn5)
           rw [HS1.out] at HN
           have HBX := hidd (HXF.out.1.next hb5' (Nat.le_refl _))
           have HAN := HA0.out.next hb5' (Nat.le_refl _)
           have hbx5 := HBX.out.bx1
           have hcm5 := HAN.tc.cm q hq
           have hfz5 := HAN.tc.fz (1 + q)
           have htl5 := HAN.tc.lt)
        | fail)
      all_goals
        go_wp2_with fail
        go_meet
        exact ⟨⟨_, HN.out, fun i hi => by
          by_cases e : i = q
          · rw [e, upd_at]; exact HUP.out _ (Nat.le_succ _)
          · rw [upd_ne _ _ e]; exact HFF.out _ (.inr (.inl ⟨i, hi, rfl⟩))⟩, (belX_set w5 t (1 + q) _).bk HBX.out HBX.out.lt HXF.out.2, (BelF.of HB0.out).trans (((BelF.of hb5').trans ((BelF.ofX (belX_set w5 t (1 + q) _) (HFF.out _ (.inl rfl))).mono hb5'.size)).mono (by simp))⟩
    case rest =>
      obtain ⟨hcu, HX2, HB2⟩ := hcut
      obtain ⟨ps2, hA2, hF2⟩ := hcu.out
      have HA2 := hidd hA2
      have HF2 := hidd hF2
      obtain ⟨w2, rfl⟩ : ∃ w2 : World, w2 = wc := ⟨_, rfl⟩
      clear hcu hA2 hF2 hcm hfz htl hbx
      have hcw := HA2.out.tc.cw
      have htl := HA2.out.tc.lt
      have HDEL := hidd (delWait_c (.slice A T.waits.length c) T.waits w2 0 HA2.out.own (by omega) (fun y => y.2.1 == (q : Int)) 161 #[ptr w.heap.size] eg_DropC (fun y W hW => tDropC_c y w.heap.size q W ((hW.block _ HX2.out.lt (fun e => HVF.out e.symm)).trans HX2.out)))
      go_wp2_with fail
      refine HDEL.out.mono ?_; rintro e w3 ⟨⟨v3, rfl, ho3, hv3⟩, hg3⟩
      obtain ⟨A3, c3, rfl⟩ := own_shape ho3
      have HA3 := hidd (HA2.out.del hg3 hv3 ho3)
      have htc3 : TC w3 t T.n ps2 (.slice A T.waits.length c) T.last := HA2.out.tc.keep ((AppF.of_grown hg3 hv3).block HA2.out.vt HA2.out.tc.lt) hg3.size
      have hcw3 := htc3.cw
      have hfz3 := htc3.fz 18
      have htl3 := htc3.lt
      have HF3 : Hid (∀ k, fpS t ps2 (.slice A3 (keepL (fun y : Wt => y.2.1 == (q : Int)) T.waits).length c3) k → F k) := fun k hk => by
        rcases hk with hk | ⟨i, hi, hk⟩ | hk
        · exact HFF.out k (.inl hk)
        · rw [hk]; exact HF2.out i hi
        · exact HFF.out k (.inr (.inr (hv3 ▸ hk)))
      have HB3 : Hid (BelF F w.heap.size w (w3.setCell ⟨t, 18, none⟩ (.slice A3 (keepL (fun y : Wt => y.2.1 == (q : Int)) T.waits).length c3))) := by
        refine HB2.out.trans ((((AppF.of_grown hg3 hv3).bel.sub fun k _ hk => HFF.out k (.inr (.inr hk))).mono HB2.out.size).trans ((BelF.ofX (belX_set w3 t 18 _) (HFF.out _ (.inl rfl))).mono (Nat.le_trans HB2.out.size hg3.size)))
      have HUP3 : Hid (∀ k, (w3.setCell ⟨t, 18, none⟩ (.slice A3 (keepL (fun y : Wt => y.2.1 == (q : Int)) T.waits).length c3)).heap.size ≤ k → F k) := fun k hk => HUP.out k (Nat.le_trans HB3.out.size hk)
      have HA4 : Hid (TAt (w3.setCell ⟨t, 18, none⟩ (.slice A3 (keepL (fun y : Wt => y.2.1 == (q : Int)) T.waits).length c3)) t (T.dropped (q : Int)) ps2 (.slice A3 (keepL (fun y : Wt => y.2.1 == (q : Int)) T.waits).length c3)) := by rw [HDR.out]; exact HA3.out
      have HGR := hidd (tgrant_c t (T.dropped (q : Int)) ps2 _ _ HA4.out HKO.out)
      clear ho3 hv3 hg3 htc3 hcw htl
      generalize (keepL (fun y : Wt => y.2.1 == (q : Int)) T.waits).length = kn at *
      go_wp2_with fail
      refine HGR.out.mono ?_; rintro e w4 ⟨vo, vl, rfl, ho4, ht4, hvl, hap, hb4⟩
      have HTG := hidd (Tab.granted HF3.out HUP3.out HKO.out ht4 hvl hb4)
      clear ho4 ht4 hvl hap hb4
      go_wp2_with fail
      go_ret
      exact ⟨⟨_, rfl⟩, by rw [HD.out]; exact HTG.out.1, HB3.out.trans (HTG.out.2.mono HB3.out.size)⟩

set_option maxHeartbeats 8000000 in
set_option maxRecDepth 100000 in
theorem tForce_c {F : Nat → Prop} (t : Nat) (T : Tb) (nd s0 s1 m : Int) (w : World) (h : Tab F w t T) :
    Calls Tryz.prog 66 #[ptr t, .int .i64 nd, lkV s0 s1 m] w fun e w' => (∃ u, e = .returned u) ∧ Tab F w' t (T.force nd s0 s1 m).2 ∧ BelF F w.heap.size w w' := by
  have HT := hidd h
  have HI : Hid (∀ W, Below w.heap.size w W → Calls Tryz.prog 153 #[ptr t, .int .i64 nd] W fun e w' => e = .returned (.bool (isB T.n nd)) ∧ w' = W) := fun W hW => tis_t t T nd W (h.next hW (Nat.le_refl _))
  have HB0 := hidd (below_alloc w (.cells #[.int .i64 s0, .int .i64 s1, .int .i64 m] 101))
  have HXB := hidd (Bk.new w #[.int .i64 s0, .int .i64 s1, .int .i64 m] 101 rfl)
  have HV := hidd (tright_c s0 s1 m)
  cases hb : isB T.n nd with
  | false =>
    have HD : Hid ((T.force nd s0 s1 m).2 = T) := by show _ = _; unfold Tb.force; rw [if_pos (.inl hb)]
    rw [hb] at HI
    clear h hb
    go_enter Tryz.func66, Tryz.ntmps66
    go_wp2_with fail
    refine (HI.out _ HB0.out).mono ?_; rintro e w1 ⟨rfl, hw⟩
    subst hw
    go_wp2_with fail
    go_ret
    exact ⟨⟨_, rfl⟩, by rw [HD.out]; exact HT.out.next HB0.out (Nat.le_refl _), BelF.of HB0.out⟩
  | true =>
    rw [hb] at HI
    have hnd := isB_iff.1 hb
    have hn := h.ok.n.2
    obtain ⟨q, rfl⟩ : ∃ q : Nat, nd = q := ⟨nd.toNat, by omega⟩
    cases h2 : rightB s0 s1 m with
    | false =>
      have HD : Hid ((T.force (q : Int) s0 s1 m).2 = T) := by show _ = _; unfold Tb.force; rw [if_pos (.inr h2)]
      have H2 := hidd h2
      clear h hb h2
      go_enter Tryz.func66, Tryz.ntmps66
      go_wp2_with fail
      refine (HI.out _ HB0.out).mono ?_; rintro e w1 ⟨rfl, hw⟩
      subst hw
      go_wp2_with fail
      refine (HV.out _).mono ?_; rintro e w2 ⟨rfl, hb2⟩
      rw [H2.out]
      have hB2 := HB0.out.trans (hb2.mono (by simp))
      go_wp2_with fail
      go_ret
      exact ⟨⟨_, rfl⟩, by rw [HD.out]; exact HT.out.next hB2 (Nat.le_refl _), BelF.of hB2⟩
    | true =>
      have hr := rightB_iff.1 h2
      obtain ⟨ps, v, hAt, hF⟩ := h.ex
      have HAt := hidd hAt
      have HFF := hidd hF
      have HUP := hidd h.up
      have HOK := hidd h.ok
      have HH0 := hidd (h.ok.held q)
      have HFI : Hid (∀ W, Below w.heap.size w W → Calls Tryz.prog 162 #[ptr t, .int .i64 q, lkV s0 s1 m] W fun e w' => e = .returned (.bool (fitsF T.held T.n q s0 s1 m)) ∧ Below W.heap.size W w') := fun W hW => tfits_c t T ps v q s0 s1 m W (HAt.out.next hW (Nat.le_refl _)) HOK.out
      have HRAI : Hid (∀ W, Below w.heap.size w W → Calls Tryz.prog 156 #[ptr (ps q), lkV s0 s1 m] W fun e w' => e = .returned (.tuple #[]) ∧ IM (fpS t ps v) w' (ps q) (raiseF s0 s1 m (T.held q)) ∧ BelX (ps q) W.heap.size W w') := fun W hW => mRaise_c (upTo 4097) (ps q) (T.held q) s0 s1 m W ((HAt.out.next hW (Nat.le_refl _)).maps q (by omega)) (HAt.out.next hW (Nat.le_refl _)).fp_lt HH0.out.can HH0.out.inL (upTo_ok hr.1 hr.2.1).1 (upTo_ok hr.1 hr.2.1).2 (by rw [upTo_len]; omega)
      have H2 := hidd h2
      have H1 := hidd hb
      have HFO : Hid (T.force (q : Int) s0 s1 m = if fitsF T.held T.n q s0 s1 m = false then (8, T) else (0, { T with held := upd T.held q (raiseF s0 s1 m (T.held q)) })) := by show _ = _; unfold Tb.force; rw [if_neg (and2 hb h2)]; rfl
      have hi0 : 0 ≤ (q : Int) := by omega
      have hi1 : (q : Int) < 17 := by omega
      clear h hb h2 hr hAt hF
      go_enter Tryz.func66, Tryz.ntmps66
      go_wp2_with fail
      refine (HI.out _ HB0.out).mono ?_; rintro e w1 ⟨rfl, hw⟩
      subst hw
      go_wp2_with fail
      refine (HV.out _).mono ?_; rintro e w2 ⟨rfl, hb2⟩
      rw [H2.out]
      have hB2 := HB0.out.trans (hb2.mono (by simp))
      have hbx2 := (HXB.out.next hb2 (Nat.le_refl _)).bx3
      go_wp2_with fail
      refine (HFI.out _ hB2).mono ?_; rintro e w3 ⟨rfl, hb3⟩
      have hB3 := hB2.trans (hb3.mono hB2.size)
      have hbx3 := (HXB.out.next (hb2.trans (hb3.mono hb2.size)) (Nat.le_refl _)).bx3
      clear hbx2
      cases hf : fitsF T.held T.n q s0 s1 m with
      | false =>
        have HD : Hid ((T.force (q : Int) s0 s1 m).2 = T) := by show _ = _; rw [HFO.out, if_pos hf]
        clear hf
        go_wp2_with fail
        go_ret
        exact ⟨⟨_, rfl⟩, by rw [HD.out]; exact HT.out.next hB3 (Nat.le_refl _), BelF.of hB3⟩
      | true =>
        have HD : Hid ((T.force (q : Int) s0 s1 m).2 = { T with held := upd T.held q (raiseF s0 s1 m (T.held q)) }) := by show _ = _; rw [HFO.out, if_neg (by rw [hf]; simp)]
        clear hf
        have HA3 := hidd (HAt.out.next hB3 (Nat.le_refl _))
        have hcm := HA3.out.tc.cm q (by omega)
        have hfz := HA3.out.tc.fz (1 + q)
        have htl := HA3.out.tc.lt
        go_wp2_with fail
        refine wp_tail 7 (by kernel_rfl) ?_
        simp only [List.take_succ_cons, List.take_zero, List.drop_succ_cons, List.drop_zero]
        repeat still_step
        refine wpStill_nil ?_
        go_wp2_with fail
        refine (HRAI.out _ (below_drewN hB3 1)).mono ?_; rintro e w5 ⟨rfl, hm5, hb5⟩
        have HTR : Hid (Tab F w5 t { T with held := upd T.held q (raiseF s0 s1 m (T.held q)) }) := Tab.raised (HA3.out.next (below_drewN (Below.refl _ _) 1) (Nat.le_refl _)) HFF.out (fun k hk => HUP.out k (Nat.le_trans hB3.size hk)) HOK.out H2.out (by omega) hb5 hm5
        have HBB : Hid (BelF F w.heap.size w w5) := (BelF.of (below_drewN hB3 1)).trans (BelF.ofX (hb5.mono hB3.size) (HFF.out _ (.inr (.inl ⟨q, by omega, rfl⟩))))
        clear hm5 hb5 hcm hfz htl HA3
        go_wp2_with fail
        go_ret
        exact ⟨⟨_, rfl⟩, by rw [HD.out]; exact HTR.out, HBB.out⟩
end Go.Proofs.YtiokkoeciijkoaaGreat
