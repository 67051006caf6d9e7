/- imap: lay. -/
import Derived.Test.YtiokkoeciijkoaaGreatImapB
namespace Go.Proofs.YtiokkoeciijkoaaGreat
set_option linter.unusedVariables false
set_option linter.unusedSimpArgs false
open Go.RowKit

theorem flatP_to (zz : List (Pt Int)) (z0 z1 x1 zv : Int) (m : Nat) (hm : zz.length = m) : ((zz ++ [((z0, z1, zv) : Pt Int)]).flatMap encP).set (m * 3 + 1) (.int .i64 x1) = (zz ++ [((z0, x1, zv) : Pt Int)]).flatMap encP := by
  have hl := flat_length encP 3 encP_len zz
  rw [List.flatMap_append, List.flatMap_append, List.set_append_right _ _ (by omega)]
  congr 1
  rw [hl, hm, show m * 3 + 1 - m * 3 = 1 by omega]
  rfl

set_option maxHeartbeats 8000000 in
set_option maxRecDepth 100000 in
theorem ilay_c (p : Nat) (old : Value) (v : Value) (zs : List (Pt Int)) (w : World) (base : Nat) (hp : Bk w p #[old] 68) (hown : Own 3 encP 159 w base v zs) (hpb : p < base) (hbw : base ≤ w.heap.size) (hap : Apart zs) (hl : zs.length ≤ 200000000) :
    Calls Tryz.prog 141 #[ptr p, v] w fun e w' => e = .returned (.tuple #[]) ∧ (∃ A c ys, LayOf zs ys ∧ Bk w' p #[.slice A ys.length c] 68 ∧ Own 3 encP 159 w' w.heap.size (.slice A ys.length c) ys) ∧ BelX p base w w' := by
  have HS := hidd (sortPi_c v zs w base hown (by omega))
  have hpw := hp.lt
  have HP := hidd hp
  have HAP := hidd hap
  have HBel := hidd (fun (w1 : World) (h : w.grownBy w1 v.ownBlock) => below_grown h hbw (fun k hk => (hown.lt k hk).1))
  obtain ⟨A0, c0, rfl⟩ := own_shape hown
  clear hp hown hap
  go_enter Tryz.func141, Tryz.ntmps141
  go_wp2_with fail
  refine HS.out.mono ?_; rintro e w1 ⟨rfl, ⟨ys, hperm, hsort, ho1⟩, hg1⟩
  have hb1 := HBel.out w1 hg1
  have hbk1 : Bk w1 p #[old] 68 := (hb1.block p hpb).trans HP.out
  have hbx := hbk1.bx1
  have hyl : ys.length = zs.length := hperm.length_eq
  have HLAY := hidd (LayOf.mk' HAP.out hperm hsort)
  have hsz1 := hb1.size
  have hpw1 : p < w1.heap.size := Nat.lt_of_lt_of_le hpw hsz1
  have hfar := own_far_base ho1 hpb
  have ho1' : w1.ownsRow base 159 3 (.slice A0 zs.length c0) zs.length (ys.flatMap encP) := by have := ho1; unfold Own at this; rw [hyl] at this; exact this
  have hR1 := hidd (Own.rd ho1' hyl.symm)
  clear ho1 ho1'
  clear hperm hsort HS HBel HAP hg1
  go_wp2_with fail
  go_loopw [14] (fun i wr => ∃ (k m : Nat) (out : List (Pt Int)) (vm : Value), k ≤ zs.length ∧ i = .int .i64 k ∧ m ≤ k ∧ Hid (out.length = m) ∧ Hid (out = (ys.take k).foldl stepP []) ∧ Hid (wr.ownsRow w1.heap.size 159 3 vm m (out.flatMap encP)) ∧ Bk wr p #[vm] 68 ∧ BelX p w1.heap.size w1 wr) (fun i _ => zs.length - (intOf i).toNat)
  case atStart => exact ⟨0, 0, [], _, by omega, rfl, by simp, rfl, rfl, World.ownsRow_nil _ _ _ _, hbk1.setp, (BelX.refl _ _ _).setp _ _⟩
  case round =>
    obtain ⟨k, m, out, vm, hk, rfl, hok, hml, hout, hown, hbk, hbx2⟩ := hrel
    have hbkx := hbk.bx1
    obtain ⟨Am, cm, rfl⟩ := own_shape hown.out
    by_cases hlt : k < zs.length
    · have hlt2 : k < ys.length := by omega
      have hne : ys ≠ [] := by intro e; rw [e] at hlt2; simp at hlt2
      obtain ⟨b, o, rfl, hblt, hc⟩ := hR1.out.cells3 hne
      have hbp : b ≠ p := fun e => hfar (by simp [Value.ownBlock, e])
      obtain ⟨g0, g1, g2⟩ := hc k hlt2
      rw [← hbx2.cell hblt hbp] at g0 g1 g2
      have hbwr : b < wr.heap.size := Nat.lt_of_lt_of_le hblt hbx2.size
      clear hc
      have HNX := hidd (show (ys.take (k + 1)).foldl stepP [] = stepP out ys[k] by rw [List.take_succ_eq_append_getElem hlt2, List.foldl_append, ← hout.out]; rfl)
      generalize ys[k] = y at *
      obtain ⟨x0, x1, xv⟩ := y
      simp only [] at g0 g1 g2
      have hpwr : p < wr.heap.size := hbk.lt
      rcases m with _ | m
      · obtain rfl : out = [] := List.eq_nil_of_length_eq_zero hml.out
        go_wp2_with fail
        go_quiet (fail)
        go_wp2_with fail
        go_region_law (refine step_app_new (g := wr.heap.size + 1) (m := 1) (c := 1) Tryz.underlying66 infoPartI rfl (by decide) hown.out hbx2.size (below_drewN (below_alloc _ _) _) rfl rfl (by simp [Act.eval, Act.put]) (by simp [Act.eval, Act.put]) (by simp) (by decide) rfl rfl (by unfold maxLen; simp) (by simp) ?_; intro v' w' hown' hb' hk'; obtain ⟨A', c', rfl⟩ := own_shape hown'; have hq := hk' p (own_far_base hown.out hpw1) hpwr; have hbk' := hq.2 _ _ hbk; have hbkx' := hbk'.bx1)
        all_goals
          go_wp2_with fail
          go_roundw
          case rel => exact ⟨k + 1, 1, [(x0, x1, xv)], _, by omega, by go_num, by omega, rfl, HNX.out.symm, ownsRow_setCell_other hown' hq.1 _, hbk'.setp, (hbx2.trans (BelX.of hb')).setp _ _⟩
          case measure => simp [intOf]; omega
      · obtain ⟨zz, z, hz⟩ : ∃ zs z, out = zs ++ [z] := by
          rcases List.eq_nil_or_concat out with h | ⟨zs, z, h⟩
          · have := hml.out; rw [h] at this; simp at this
          · exact ⟨zs, z, by rw [h, List.concat_eq_append]⟩
        subst hz
        have hzl : Hid (zz.length = m) := by have := hml.out; simp at this; exact this
        obtain ⟨gg, cap, hv, hgb, hgl, _, _⟩ := own_at hown.out (Nat.succ_pos m)
        injection hv with hv _ hcap
        subst hv; subst hcap
        obtain ⟨q0, q1, q2, q3, q4, q5⟩ := own_cells3 hown.out (i := m) (by have := hml.out; omega)
        have hzz : (zz ++ [z])[m]'(by have := hml.out; omega) = z := by rw [List.getElem_append_right (by have := hzl.out; omega)]; simp
        rw [hzz] at q0 q1 q2
        clear hzz
        obtain ⟨z0, z1, zv⟩ := z
        simp only [] at q0 q1 q2
        have hmm : (m : Int) < (m : Int) + 1 := by omega
        have hgp : gg ≠ p := by omega
        by_cases h1 : z1 = x0 ∧ zv = xv
        · obtain ⟨rfl, rfl⟩ := h1
          go_wp2_with fail
          go_quiet (fail)
          go_wp2_with fail
          refine wp_tail 11 (by kernel_rfl) ?_
          simp only [List.take_succ_cons, List.take_zero, List.drop_succ_cons, List.drop_zero]
          repeat still_step
          refine wpStill_nil ?_
          go_wp2_with fail
          go_roundw
          case rel =>
            refine ⟨k + 1, m + 1, zz ++ [(z0, x1, zv)], .slice (some ⟨gg, 0, none⟩) (m + 1) cm, by omega, by go_num, by omega, ?_, ?_, ?_, ?_, ?_⟩
            · show _ = _; rw [List.length_append, hzl.out]; rfl
            · show _ = _; exact ((stepP_in zz (z0, z1, zv) (z1, x1, zv) ⟨rfl, rfl⟩).symm.trans HNX.out.symm)
            · have hs := (show (((wr.alloc (.cells #[.int .i64 z1, .int .i64 x1, .int .i64 zv] 159)).drewN (nq + 1))).ownsRow _ _ _ _ _ _ from hown.out.alloc _).stored (m * 3 + 1) (.int .i64 x1)
              rw [flatP_to zz z0 z1 x1 zv m hzl.out] at hs
              exact hs.1
            · exact (show Bk ((wr.alloc (.cells #[.int .i64 z1, .int .i64 x1, .int .i64 zv] 159)).drewN (nq + 1)) p _ _ from hbk.alloc _).other (fun e => hgp e.symm)
            · exact hbx2.trans (BelX.of ((below_drewN ((Below.refl _ _).alloc hbx2.size _) _).setCell (by exact hgb) _))
          case measure => simp [intOf]; omega
        · have HNS := hidd (stepP_out zz (z0, z1, zv) (x0, x1, xv) h1)
          by_cases h2 : z1 = x0
          · subst h2
            have h3 : ¬ zv = xv := fun e => h1 ⟨rfl, e⟩
            clear h1
            go_wp2_with fail
            go_quiet (fail)
            go_wp2_with fail
            go_region_law (refine step_app_new (g := wr.heap.size + 1) (m := 1) (c := 1) Tryz.underlying66 infoPartI rfl (by decide) hown.out hbx2.size (below_drewN (below_alloc _ _) _) rfl rfl (by simp [Act.eval, Act.put]) (by simp [Act.eval, Act.put]) (by simp) (by decide) rfl rfl (by unfold maxLen; omega) (by omega) ?_; intro v' w' hown' hb' hk'; obtain ⟨A', c', rfl⟩ := own_shape hown'; have hq := hk' p (own_far_base hown.out hpw1) hpwr; have hbk' := hq.2 _ _ hbk; have hbkx' := hbk'.bx1)
            all_goals
              go_wp2_with fail
              go_roundw
              case rel => exact ⟨k + 1, m + 1 + 1, zz ++ [(z0, z1, zv)] ++ [(z1, x1, xv)], _, by omega, by go_num, by omega, by show _ = _; rw [List.length_append, hml.out]; rfl, by show _ = _; rw [HNX.out, HNS.out], ownsRow_setCell_other (by rw [List.flatMap_append]; exact hown') hq.1 _, hbk'.setp, (hbx2.trans (BelX.of hb')).setp _ _⟩
              case measure => simp [intOf]; omega
          · clear h1
            go_wp2_with fail
            go_quiet (fail)
            go_wp2_with fail
            go_region_law (refine step_app_new (g := wr.heap.size + 1) (m := 1) (c := 1) Tryz.underlying66 infoPartI rfl (by decide) hown.out hbx2.size (below_drewN (below_alloc _ _) _) rfl rfl (by simp [Act.eval, Act.put]) (by simp [Act.eval, Act.put]) (by simp) (by decide) rfl rfl (by unfold maxLen; omega) (by omega) ?_; intro v' w' hown' hb' hk'; obtain ⟨A', c', rfl⟩ := own_shape hown'; have hq := hk' p (own_far_base hown.out hpw1) hpwr; have hbk' := hq.2 _ _ hbk; have hbkx' := hbk'.bx1)
            all_goals
              go_wp2_with fail
              go_roundw
              case rel => exact ⟨k + 1, m + 1 + 1, zz ++ [(z0, z1, zv)] ++ [(x0, x1, xv)], _, by omega, by go_num, by omega, by show _ = _; rw [List.length_append, hml.out]; rfl, by show _ = _; rw [HNX.out, HNS.out], ownsRow_setCell_other (by rw [List.flatMap_append]; exact hown') hq.1 _, hbk'.setp, (hbx2.trans (BelX.of hb')).setp _ _⟩
              case measure => simp [intOf]; omega
    · obtain rfl : k = zs.length := by omega
      go_wp2_with fail
      refine bodyPost_end (results_none rfl _ _ _) rfl ?_
      refine ⟨rfl, ⟨Am, cm, out, ?_, ?_, ?_⟩, ?_⟩
      · rw [hout.out, ← hyl, List.take_length]; exact HLAY.out
      · rw [hml.out]; exact hbk
      · unfold Own; rw [hml.out]; exact own_base hown.out hsz1
      · exact (BelX.of hb1).trans (hbx2.mono (Nat.le_trans hbw hsz1))
end Go.Proofs.YtiokkoeciijkoaaGreat
