/- span.Norm answers as few ranges as it takes, rising: NormOf. -/
import Derived.Test.YtiokkoeciijkoaaGreatLibSp
import Derived.Test.YtiokkoeciijkoaaGreatSpanM
namespace Go.Proofs.YtiokkoeciijkoaaGreat
set_option linter.unusedVariables false
set_option linter.unusedSimpArgs false
open Go.RowKit

theorem eg_c1 : ∀ args w, (callFunc 73 args).run Tryz.prog w = .ok (.enter 73 args) w := Proofs.enters_of Tryz.func73 (by kernel_rfl) rfl

theorem flat_snoc_to (zs : List Sp) (z0 z1 M : Int) (m : Nat) (hm : zs.length = m) : ((zs ++ [(z0, z1)]).flatMap encS).set (m * 2 + 1) (.int .i64 M) = (zs ++ [(z0, M)]).flatMap encS := by
  have hl : (zs.flatMap encS).length = m * 2 := by rw [flat_length encS 2 encS_len, hm]
  rw [List.flatMap_append, List.flatMap_append, List.set_append_right _ _ (by omega), hl]
  have e : m * 2 + 1 - m * 2 = 1 := by omega
  rw [e]
  rfl

set_option maxHeartbeats 1000000 in
set_option maxRecDepth 100000 in
theorem sNorm_c (A : Option Addr) (n c : Nat) (xs : List Sp) (w : World) (h : Rd 2 encS w A xs) (hn : n = xs.length) (hbig : xs.length ≤ 1000000000) :
    Calls Tryz.prog 17 #[.slice A n c] w fun e w' => (∃ v' out, e = .returned v' ∧ Own 2 encS 43 w' w.heap.size v' out ∧ NormOf xs out) ∧ Below w.heap.size w w' := by
  subst hn
  have hcl := hidd (cloneSp_c A _ c xs w h rfl hbig)
  clear h
  go_enter Tryz.func17, Tryz.ntmps17
  go_wp2_with fail
  refine hcl.out.mono ?_; rintro e w1 ⟨⟨v1, rfl, ho1⟩, hb1⟩
  have hO1 := hidd ho1; clear ho1
  go_wp2_with fail
  refine (delSp_c v1 xs w1 w.heap.size hO1.out hbig (fun x => !vld x.1 x.2) 73 #[] eg_c1 (fun a b W _ => sNormC1_c a b W)).mono ?_; rintro e w2 ⟨⟨v2, rfl, ho2, _⟩, hg2⟩
  have hb2 := below_grown hg2 hb1.size (fun k hk => (hO1.out.lt k hk).1)
  have hl2 : (keepL (fun x : Sp => !vld x.1 x.2) xs).length ≤ xs.length := List.length_filter_le _ _
  have hO2 := hidd ho2
  have hB2 := hb1.trans hb2
  clear ho2 hg2 hb2
  go_wp2_with fail
  refine (sortSp_c v2 _ w2 w.heap.size hO2.out (by omega)).mono ?_; rintro e w3 ⟨rfl, ⟨ys, hp, hs, ho3⟩, hg3⟩
  have hB3 := hB2.trans (below_grown hg3 hB2.size (fun k hk => (hO2.out.lt k hk).1))
  have hNF := hidd (NormOf.mk' hp hs)
  have hyl : ys.length ≤ xs.length := by rw [hp.length_eq]; exact hl2
  obtain ⟨A3, c3, hv3⟩ := own_shape ho3
  have hlen : (keepL (fun x : Sp => !vld x.1 x.2) xs).length = ys.length := hp.length_eq.symm
  subst hv3
  have hO3 := hidd ho3
  have hR3 := hidd (Own.rd ho3 rfl)
  clear hO2 hp hs ho3 hg3 hO1 hb1 hB2 hcl hlen hl2
  go_wp2_with fail
  go_loopw [3, 14] (fun v i wr => ∃ (k m : Nat) (out : List Sp), k ≤ ys.length ∧ i = .int .i64 k ∧ m ≤ k ∧ Hid (out.length = m) ∧ Hid (out = (ys.take k).foldl step1 []) ∧ Below w3.heap.size w3 wr ∧ Hid (wr.ownsRow w3.heap.size 43 2 v m (out.flatMap encS))) (fun _ i _ => ys.length - (intOf i).toNat)
  case atStart => exact ⟨0, 0, [], by omega, rfl, by simp, rfl, rfl, Below.refl _ _, World.ownsRow_nil _ _ _ _⟩
  case round =>
    obtain ⟨k, m, out, hk, rfl, hol, hml, hout, hbr, hown⟩ := hrel
    obtain ⟨vA, vc, rfl⟩ := own_shape hown.out
    by_cases hlt : k < ys.length
    · have hne : ys ≠ [] := by intro e; rw [e] at hlt; simp at hlt
      obtain ⟨b, o, rfl, hblt, hc⟩ := hR3.out.cells2 hne
      obtain ⟨g0, g1⟩ := hc k hlt
      rw [← hbr.cell (p := ⟨_, _, none⟩) hblt] at g0 g1
      have hnext : Hid (∀ out', step1 out ys[k] = out' → out' = (ys.take (k + 1)).foldl step1 []) := by
        intro out' ho
        rw [List.take_succ_eq_append_getElem hlt, List.foldl_append, ← hout.out]
        exact ho.symm
      generalize ys[k] = s at g0 g1 hnext
      obtain ⟨s0, s1⟩ := s
      clear hc
      rcases m with _ | m
      · obtain rfl : out = [] := List.eq_nil_of_length_eq_zero hml.out
        go_wp2_with fail
        go_quiet (fail)
        go_wp2_with (at_builtin; refine wpList_app_new Tryz.underlying22 infoSpan rfl (by decide) hown.out hbr.size ?c1 rfl rfl rfl rfl ?c2 ?c3 ?c4 ?c5 ?c6 (fun v' w' hown' hb' => ?_))
        case c1 => exact below_drewN ((Below.refl _ _).alloc (Nat.le_refl _) _) _
        case c2 => simp
        case c3 => rfl
        case c4 => simp [Value.oneCell']
        case c5 => unfold maxLen; simp
        case c6 => simp
        go_roundw
        case rel => exact ⟨k + 1, 1, [(s0, s1)], by omega, by go_num, by omega, rfl, hnext.out _ rfl, hbr.trans hb', hown'⟩
        case measure => simp [intOf]; omega
      · obtain ⟨zs, z, hz⟩ : ∃ zs z, out = zs ++ [z] := by
          rcases List.eq_nil_or_concat out with h | ⟨zs, z, h⟩
          · have := hml.out; rw [h] at this; simp at this
          · exact ⟨zs, z, by rw [h, List.concat_eq_append]⟩
        subst hz
        have hzl : Hid (zs.length = m) := by have := hml.out; simp at this; exact this
        obtain ⟨gg, cap, hv, hgb, hgl, _, _⟩ := own_at hown.out (Nat.succ_pos m)
        injection hv with hv _ hcap
        subst hv; subst hcap
        obtain ⟨q0, q1, q2, q3⟩ := own_cells2 hown.out (i := m) (by have := hml.out; omega)
        have hzz : (zs ++ [z])[m]'(by have := hml.out; omega) = z := by rw [List.getElem_append_right (by have := hzl.out; omega)]; simp
        rw [hzz] at q0 q1
        clear hzz
        obtain ⟨z0, z1⟩ := z
        by_cases hle : s0 ≤ z1
        · go_wp2_with fail
          go_quiet (fail)
          go_wp2_with fail
          have hmm : (m : Int) < (m : Int) + 1 := by omega
          have hM := hidd (show step1 (zs ++ [(z0, z1)]) (s0, s1) = zs ++ [(z0, max z1 s1)] from step1_in _ _ _ hle)
          refine wp_tail 12 (by kernel_rfl) ?_
          simp only [List.take_succ_cons, List.take_zero, List.drop_succ_cons, List.drop_zero]
          repeat still_step
          refine wpStill_nil ?_
          go_wp2_with fail
          go_roundw
          case rel =>
            refine ⟨k + 1, m + 1, _, by omega, by go_num, by omega, ?_, hnext.out _ hM.out, ?_, ?_⟩
            · show _ = _; have := hzl.out; simp [this]
            · exact hbr.trans ((below_drewN ((Below.refl _ _).alloc hbr.size _) _).setCell (by exact hgb) _)
            · have hs := (show (((wr.alloc (.cells #[.int .i64 s0, .int .i64 s1] 43)).drewN (nq + 1))).ownsRow _ _ _ _ _ _ from hown.out.alloc _).stored (m * 2 + 1) (.int .i64 (max z1 s1))
              rw [flat_snoc_to zs z0 z1 _ m hzl.out] at hs
              exact hs.1
          case measure => simp [intOf]; omega
        · go_wp2_with fail
          go_quiet (fail)
          go_wp2_with (at_builtin; refine wpList_app_new Tryz.underlying22 infoSpan rfl (by decide) hown.out hbr.size ?c1 rfl rfl rfl rfl ?c2 ?c3 ?c4 ?c5 ?c6 (fun v' w' hown' hb' => ?_))
          case c1 => exact below_drewN ((Below.refl _ _).alloc (Nat.le_refl _) _) _
          case c2 => simp
          case c3 => rfl
          case c4 => simp [Value.oneCell']
          case c5 => unfold maxLen; omega
          case c6 => omega
          go_roundw
          case rel => exact ⟨k + 1, m + 1 + 1, zs ++ [(z0, z1)] ++ [(s0, s1)], by omega, by go_num, by omega, by have := hml.out; rw [List.length_append, this]; rfl, hnext.out _ (step1_out _ _ _ (by simp only []; omega)), hbr.trans hb', by rw [List.flatMap_append]; exact hown'⟩
          case measure => simp [intOf]; omega
    · go_wp2_with fail
      go_ret
      obtain rfl : k = ys.length := by omega
      refine ⟨⟨_, out, rfl, ?_, ?_⟩, hB3.trans (hbr.mono hB3.size)⟩
      · unfold Own; rw [hml.out]; exact own_base hown.out hB3.size
      · have := hout.out
        rw [List.take_length] at this
        rw [this]
        exact hNF.out
end Go.Proofs.YtiokkoeciijkoaaGreat
