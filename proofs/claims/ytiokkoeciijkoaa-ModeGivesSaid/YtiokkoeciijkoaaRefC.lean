/- The reference's maps: Set, walked. -/
import Derived.Test.YtiokkoeciijkoaaRefB
import Derived.Test.YtiokkoeciijkoaaImapC
namespace Go.Proofs.Ytiokkoeciijkoaa
set_option linter.unusedVariables false
set_option linter.unusedSimpArgs false
open Go.RowKit

set_option maxHeartbeats 8000000 in
set_option maxRecDepth 100000 in
theorem rmSet_c (A : Option Addr) (n c : Nat) (m : List (Pt Int)) (s0 s1 v : Int) (w : World) (hr : Rd 3 encP w A m) (hn : n = m.length) (hm : CanP m) (hl : m.length ≤ 10000000) :
    Calls Try.prog 97 #[.slice A n c, spV s0 s1, .int .i64 v] w fun e w' => (∃ A' c', e = .returned (.slice A' (setF s0 s1 v m).length c') ∧ Rd 3 encP w' A' (setF s0 s1 v m) ∧ (A' = A ∨ ∀ b o, A' = some ⟨b, o, none⟩ → w.heap.size ≤ b)) ∧ Below w.heap.size w w' := by
  subst hn
  have HR := hidd hr
  have HM := hidd hm
  have HB0 := hidd (below_alloc w (.cells #[.int .i64 s0, .int .i64 s1] 27))
  have HXB := hidd (Bk.new w #[.int .i64 s0, .int .i64 s1] 27 rfl)
  clear hr hm
  cases hv : vld s0 s1 with
  | false =>
    have HV := hidd hv
    clear hv
    go_enter Try.func97, Try.ntmps97
    go_wp2_with fail
    refine (rValid_c _ _ _).mono ?_; rintro e w1 ⟨rfl, hb1⟩
    rw [HV.out]
    have hb01 := HB0.out.trans (hb1.mono (by simp))
    go_wp2_with fail
    go_ret
    rw [setF_no HV.out]
    exact ⟨⟨_, _, rfl, HR.out.below hb01 (Nat.le_refl _), .inl rfl⟩, hb01⟩
  | true =>
    have HV := hidd hv
    have hs := hidd (vld_iff.1 hv)
    clear hv
    go_enter Try.func97, Try.ntmps97
    go_wp2_with fail
    refine (rValid_c _ _ _).mono ?_; rintro e w1 ⟨rfl, hb1⟩
    rw [HV.out]
    have hb01 := HB0.out.trans (hb1.mono (by simp))
    have hbx := hidd (HXB.out.next hb1 (Nat.le_refl _))
    have hxx := hbx.out.bx2
    have HCl := hidd (rmClearV_c A _ c m s0 s1 w1 (HR.out.below hb01 (Nat.le_refl _)) rfl HM.out HV.out hl)
    have hcl := clearF_len (s0 := s0) (s1 := s1) HM.out
    have HIN := hidd (fun k (h : CutAt s0 (clearF s0 s1 m) k) => ins_set (v := v) hs.out HM.out h)
    clear hb1 HXB
    generalize clearF s0 s1 m = M at *
    go_wp2_with fail
    refine HCl.out.mono ?_; rintro e w2 ⟨⟨v2, rfl, ho2⟩, hb2⟩
    have hB2 := hb01.trans (hb2.mono hb01.size)
    have hbx2 := hidd (hbx.out.next hb2 (Nat.le_refl _))
    have hxx2 := hbx2.out.bx2
    have HRM : Hid (∀ j (h : j < M.length), ∀ W, Below w2.heap.size w2 W → ∃ g cap, v2 = .slice (some ⟨g, 0, none⟩) M.length cap ∧ g < W.heap.size ∧ W.cell? ⟨g, j * 3, none⟩ = some (.int .i64 M[j].1)) := by
      intro j hj W hW
      obtain ⟨g, cap, hv, _, hlt, _, _⟩ := own_at ho2 (by omega)
      subst hv
      have := (own_cells3 ho2 hj).1
      exact ⟨g, cap, rfl, Nat.lt_of_lt_of_le hlt hW.size, (hW.cell (p := ⟨g, _, none⟩) hlt).trans this⟩
    have ho2' := hidd ho2
    obtain ⟨A2, c2, h2⟩ := own_shape ho2
    clear ho2 HCl hbx
    subst h2
    go_wp2_with fail
    go_loopw [7] (fun i wr => ∃ k : Nat, k ≤ M.length ∧ i = .int .i64 k ∧ Hid (∀ j (h : j < M.length), j < k → M[j].1 < s0) ∧ Below w2.heap.size w2 wr) (fun i _ => M.length - (intOf i).toNat)
    case atStart => exact ⟨0, by omega, rfl, fun j _ h => absurd h (by omega), Below.refl _ _⟩
    case round =>
      obtain ⟨k, hk, rfl, hlow, hbr⟩ := hrel
      have hbxr := hidd (hbx2.out.next hbr (Nat.le_refl _))
      have hxr := hbxr.out.bx2
      by_cases hq : ∃ h : k < M.length, M[k].1 < s0
      · obtain ⟨hlt, hq⟩ := hq
        obtain ⟨g, cap, hg, hgl, gc⟩ := HRM.out k hlt wr hbr
        injection hg with hg _ hcap
        subst hg
        subst hcap
        have HLN : Hid (∀ j (h : j < M.length), j < k + 1 → M[j].1 < s0) := by
            intro j hj hjk
            by_cases e : j < k
            · exact hlow.out j hj e
            · have : j = k := by omega
              subst this; exact hq
        generalize M[k].1 = y at *
        go_wp2_with fail
        go_quiet (fail)
        go_wp2_with fail
        go_roundw
        case rel => exact ⟨k + 1, by omega, by go_num, HLN.out, hbr.trans (below_drewN (Below.refl _ _) _)⟩
        case measure => simp [intOf]; omega
      · have HCUT : Hid (CutAt s0 M k) := ⟨hk, fun j h hj => hlow.out j h hj, fun h => Int.not_lt.1 (fun h2 => hq ⟨h, h2⟩)⟩
        have HFIN := hidd (HIN.out k HCUT.out)
        have hcap := own_cap ho2'.out
        have hforms : (A2 = none ∧ c2 = 0 ∧ M.length = 0) ∨ ∃ g, A2 = some ⟨g, 0, none⟩ := by
          rcases ho2'.out.2 with ⟨h1, h2⟩ | ⟨g, cap, cur, h1, _⟩
          · injection h1 with h1 _ h3; exact .inl ⟨h1, h3, h2⟩
          · injection h1 with h1 _ _; exact .inr ⟨g, h1⟩
        have hways : (∃ g, A2 = some ⟨g, 0, none⟩ ∧ k < M.length ∧ k < c2) ∨ (A2 = none ∧ c2 = 0 ∧ M.length = 0 ∧ k = 0) ∨ (∃ g, A2 = some ⟨g, 0, none⟩ ∧ k = M.length ∧ k = c2) ∨ (∃ g, A2 = some ⟨g, 0, none⟩ ∧ k = M.length ∧ k < c2) := by
          rcases hforms with ⟨h1, h2, h3⟩ | ⟨g, h1⟩
          · exact .inr (.inl ⟨h1, h2, h3, by omega⟩)
          · rcases Nat.lt_or_ge k M.length with h | h
            · exact .inl ⟨g, h1, h, by omega⟩
            · rcases Nat.lt_or_ge k c2 with h2 | h2
              · exact .inr (.inr (.inr ⟨g, h1, by omega, h2⟩))
              · exact .inr (.inr (.inl ⟨g, h1, by omega, by omega⟩))
        have HRW := hidd ((Own.rd ho2'.out rfl).below hbr (Nat.le_refl _))
        rcases Nat.lt_or_ge k M.length with hlt | hge
        all_goals
          first
            | (obtain ⟨g0, cap0, hg, hgl, gc⟩ := HRM.out k hlt wr hbr; injection hg with hg _ hcap0; subst hg; subst hcap0; have hd : decide (M[k].1 < s0) = false := decide_eq_false (fun h2 => hq ⟨hlt, h2⟩); generalize M[k].1 = y at *)
            | (have hd : decide (k < M.length) = false := by simp; omega)
          clear hq
          go_wp2_with fail
          go_quiet (fail)
          go_wp2_with fail
          have hqz : Below wr.heap.size wr (wr.drewN nq) := below_drewN (Below.refl _ _) _
          generalize wr.drewN nq = wz at hqz ⊢
          have HBZ := hidd (hbxr.out.next hqz (Nat.le_refl _))
          have hbzz : Below w2.heap.size w2 wz := hbr.trans (hqz.mono hbr.size)
          have hzz : w2.heap.size ≤ wz.heap.size := hbzz.size
          go_cut [8] (fun u wx => Hid (Own 3 encP 94 wx w2.heap.size u (M.take k ++ [(s0, s1, v)] ++ M.drop k)) ∧ Below w2.heap.size w2 wx)
          case first =>
            have hbz := HBZ.out.bx2
            have htl : Hid ((M.take k).length = k) := by show _ = _; rw [List.length_take]; omega
            have hdl : Hid ((M.drop k).length = M.length - k) := by show _ = _; rw [List.length_drop]
            have hMl : M.length ≤ 10000002 := by omega
            have HRG := hidd (fun W (hW : Below wz.heap.size wz W) => (HRW.out.below hqz (Nat.le_refl _)).below hW (Nat.le_refl _))
            rcases hways with ⟨g, hA, hlt2, hkc⟩ | ⟨hA, hc0, hm0, hk0⟩ | ⟨g, hA, hkl, hkc⟩ | ⟨g, hA, hkl, hkc⟩
            all_goals first
              | (exfalso; omega)
              | (exfalso; cases hA; done)
              | skip
            all_goals first
              | (subst hkl; subst hkc; subst hA
                 have HDR : Hid (M.drop M.length = []) := by show _ = _; exact List.eq_nil_of_length_eq_zero (by rw [List.length_drop]; omega)
                 go_region_law (first
                   | (refine step_app_rd (P := Try.prog) (k := 3) (enc := encP) (base := wz.heap.size) (A := some ⟨g, 0, none⟩) (m := M.length) (c := M.length) Try.underlying88 infoRPart rfl (by decide) encP_len encP_one (ys := []) (xs := M.take M.length) (v := .slice none 0 0) (World.ownsRow_nil _ _ _ _) (by simp) rfl rfl (by simp [Act.eval, Act.put]) (by simp [Act.eval, Act.put]) ((HRG.out _ (by first | exact below_drewN (Below.refl _ _) 1 | exact (below_drewN (Below.refl _ _) 1).alloc (Nat.le_refl _) _)).take M.length) htl.out.symm (by rw [htl.out]; unfold maxLen; simp; omega) (by rw [htl.out]; simp; omega) ?_; intro v5 w5 ho5 hb5 hk5; have hq5 : Below wz.heap.size wz w5 := (by first | exact (below_drewN (Below.refl _ _) 1).trans hb5 | exact ((below_drewN (Below.refl _ _) 1).alloc (Nat.le_refl _) _).trans hb5); rw [List.nil_append] at ho5; have hz5 := (HBZ.out.next hq5 (Nat.le_refl _)).bx2; try have hlit5 : Bk w5 wz.heap.size #[.int .i64 s0, .int .i64 s1, .int .i64 v] 94 := (hk5 wz.heap.size (by simp [Value.ownBlock]) (by simp)).2 _ _ (Bk.new wz.drew _ 94 rfl))
                   | (refine step_app_bk (g := w5.heap.size) (m := 1) (c := 1) Try.underlying88 infoRPart rfl (by decide) (ho5.alloc _) (by simp; exact Nat.le_succ_of_le hq5.size) (Bk.new w5 #[.int .i64 s0, .int .i64 s1, .int .i64 v] 94 rfl) rfl rfl (by simp [Act.eval, Act.put]) (by simp [Act.eval, Act.put]) (by decide) rfl rfl (by rw [htl.out]; unfold maxLen; omega) (by rw [htl.out]; omega) ?_; intro v6 w6 ho6 hb6; have hq6 : Below wz.heap.size wz w6 := (hq5.alloc hq5.size _).trans hb6)
                   | (refine step_app_bk (g := wz.heap.size) (m := 1) (c := 1) Try.underlying88 infoRPart rfl (by decide) ho5 hq5.size hlit5 rfl rfl (by simp [Act.eval, Act.put]) (by simp [Act.eval, Act.put]) (by decide) rfl rfl (by rw [htl.out]; unfold maxLen; omega) (by rw [htl.out]; omega) ?_; intro v6 w6 ho6 hb6; have hq6 : Below wz.heap.size wz w6 := hq5.trans hb6)
                   | (go_loud ((refine step_app_rd (P := Try.prog) (k := 3) (enc := encP) (base := wz.heap.size) (A := some ⟨g, 0, none⟩) (m := 0) (c := 0) Try.underlying88 infoRPart rfl (by decide) encP_len encP_one (ys := M.take M.length ++ [(s0, s1, v)]) (xs := M.drop M.length) (v := v6) (by unfold Own; rw [List.flatMap_append, List.length_append]; exact ho6) hq6.size rfl rfl (by simp [Act.eval, Act.put]) (by simp [Act.eval, Act.put]) (by rw [HDR.out]; exact .inl rfl) (by rw [HDR.out]; rfl) (by rw [hdl.out, List.length_append, htl.out]; unfold maxLen; simp; omega) (by rw [hdl.out, List.length_append, htl.out]; simp; omega) ?_; intro v7 w7 ho7 hb7 hk7; have hq7 : Below wz.heap.size wz w7 := hq6.trans hb7)))))
              | (subst hkl; subst hA
                 have HDR : Hid (M.drop M.length = []) := by show _ = _; exact List.eq_nil_of_length_eq_zero (by rw [List.length_drop]; omega)
                 have hkc2 : M.length ≤ c2 := by omega
                 have hne2 : ¬ c2 = M.length := by omega
                 go_region_law (first
                   | (refine step_app_rd (P := Try.prog) (k := 3) (enc := encP) (base := wz.heap.size) (A := some ⟨g, 0, none⟩) (m := M.length) (c := c2) Try.underlying88 infoRPart rfl (by decide) encP_len encP_one (ys := []) (xs := M.take M.length) (v := .slice none 0 0) (World.ownsRow_nil _ _ _ _) (by simp) rfl rfl (by simp [Act.eval, Act.put]) (by simp [Act.eval, Act.put]) ((HRG.out _ (by first | exact below_drewN (Below.refl _ _) 1 | exact (below_drewN (Below.refl _ _) 1).alloc (Nat.le_refl _) _)).take M.length) htl.out.symm (by rw [htl.out]; unfold maxLen; simp; omega) (by rw [htl.out]; simp; omega) ?_; intro v5 w5 ho5 hb5 hk5; have hq5 : Below wz.heap.size wz w5 := (by first | exact (below_drewN (Below.refl _ _) 1).trans hb5 | exact ((below_drewN (Below.refl _ _) 1).alloc (Nat.le_refl _) _).trans hb5); rw [List.nil_append] at ho5; have hz5 := (HBZ.out.next hq5 (Nat.le_refl _)).bx2; try have hlit5 : Bk w5 wz.heap.size #[.int .i64 s0, .int .i64 s1, .int .i64 v] 94 := (hk5 wz.heap.size (by simp [Value.ownBlock]) (by simp)).2 _ _ (Bk.new wz.drew _ 94 rfl))
                   | (refine step_app_bk (g := w5.heap.size) (m := 1) (c := 1) Try.underlying88 infoRPart rfl (by decide) (ho5.alloc _) (by simp; exact Nat.le_succ_of_le hq5.size) (Bk.new w5 #[.int .i64 s0, .int .i64 s1, .int .i64 v] 94 rfl) rfl rfl (by simp [Act.eval, Act.put]) (by simp [Act.eval, Act.put]) (by decide) rfl rfl (by rw [htl.out]; unfold maxLen; omega) (by rw [htl.out]; omega) ?_; intro v6 w6 ho6 hb6; have hq6 : Below wz.heap.size wz w6 := (hq5.alloc hq5.size _).trans hb6)
                   | (refine step_app_bk (g := wz.heap.size) (m := 1) (c := 1) Try.underlying88 infoRPart rfl (by decide) ho5 hq5.size hlit5 rfl rfl (by simp [Act.eval, Act.put]) (by simp [Act.eval, Act.put]) (by decide) rfl rfl (by rw [htl.out]; unfold maxLen; omega) (by rw [htl.out]; omega) ?_; intro v6 w6 ho6 hb6; have hq6 : Below wz.heap.size wz w6 := hq5.trans hb6)
                   | (go_loud ((refine step_app_rd (P := Try.prog) (k := 3) (enc := encP) (base := wz.heap.size) (A := some ⟨g, 0 + M.length * 3, none⟩) (m := 0) (c := c2 - M.length) Try.underlying88 infoRPart rfl (by decide) encP_len encP_one (ys := M.take M.length ++ [(s0, s1, v)]) (xs := M.drop M.length) (v := v6) (by unfold Own; rw [List.flatMap_append, List.length_append]; exact ho6) hq6.size rfl rfl (by simp [Act.eval, Act.put]) (by simp [Act.eval, Act.put]) (by rw [HDR.out]; exact .inl rfl) (by rw [HDR.out]; rfl) (by rw [hdl.out, List.length_append, htl.out]; unfold maxLen; simp; omega) (by rw [hdl.out, List.length_append, htl.out]; simp; omega) ?_; intro v7 w7 ho7 hb7 hk7; have hq7 : Below wz.heap.size wz w7 := hq6.trans hb7)))))
              | (have hkc2 : k ≤ c2 := by omega
                 have hne2 : ¬ c2 = k := by omega
                 injection hA.symm with hA
                 injection hA with hA _ _
                 subst hA
                 go_region_law (first
                   | (refine step_app_rd (P := Try.prog) (k := 3) (enc := encP) (base := wz.heap.size) (A := some ⟨g, 0, none⟩) (m := k) (c := c2) Try.underlying88 infoRPart rfl (by decide) encP_len encP_one (ys := []) (xs := M.take k) (v := .slice none 0 0) (World.ownsRow_nil _ _ _ _) (by simp) rfl rfl (by simp [Act.eval, Act.put]) (by simp [Act.eval, Act.put]) ((HRG.out _ (by first | exact below_drewN (Below.refl _ _) 1 | exact (below_drewN (Below.refl _ _) 1).alloc (Nat.le_refl _) _)).take k) htl.out.symm (by rw [htl.out]; unfold maxLen; simp; omega) (by rw [htl.out]; simp; omega) ?_; intro v5 w5 ho5 hb5 hk5; have hq5 : Below wz.heap.size wz w5 := (by first | exact (below_drewN (Below.refl _ _) 1).trans hb5 | exact ((below_drewN (Below.refl _ _) 1).alloc (Nat.le_refl _) _).trans hb5); rw [List.nil_append] at ho5; have hz5 := (HBZ.out.next hq5 (Nat.le_refl _)).bx2; try have hlit5 : Bk w5 wz.heap.size #[.int .i64 s0, .int .i64 s1, .int .i64 v] 94 := (hk5 wz.heap.size (by simp [Value.ownBlock]) (by simp)).2 _ _ (Bk.new wz.drew _ 94 rfl))
                   | (refine step_app_bk (g := w5.heap.size) (m := 1) (c := 1) Try.underlying88 infoRPart rfl (by decide) (ho5.alloc _) (by simp; exact Nat.le_succ_of_le hq5.size) (Bk.new w5 #[.int .i64 s0, .int .i64 s1, .int .i64 v] 94 rfl) rfl rfl (by simp [Act.eval, Act.put]) (by simp [Act.eval, Act.put]) (by decide) rfl rfl (by rw [htl.out]; unfold maxLen; omega) (by rw [htl.out]; omega) ?_; intro v6 w6 ho6 hb6; have hq6 : Below wz.heap.size wz w6 := (hq5.alloc hq5.size _).trans hb6)
                   | (refine step_app_bk (g := wz.heap.size) (m := 1) (c := 1) Try.underlying88 infoRPart rfl (by decide) ho5 hq5.size hlit5 rfl rfl (by simp [Act.eval, Act.put]) (by simp [Act.eval, Act.put]) (by decide) rfl rfl (by rw [htl.out]; unfold maxLen; omega) (by rw [htl.out]; omega) ?_; intro v6 w6 ho6 hb6; have hq6 : Below wz.heap.size wz w6 := hq5.trans hb6)
                   | (go_loud ((refine step_app_rd (P := Try.prog) (k := 3) (enc := encP) (base := wz.heap.size) (A := some ⟨g, 0 + k * 3, none⟩) (m := M.length - k) (c := c2 - k) Try.underlying88 infoRPart rfl (by decide) encP_len encP_one (ys := M.take k ++ [(s0, s1, v)]) (xs := M.drop k) (v := v6) (by unfold Own; rw [List.flatMap_append, List.length_append]; exact ho6) hq6.size rfl rfl (by simp [Act.eval, Act.put]) (by simp [Act.eval, Act.put]) (Rd.drop encP_len (HRG.out _ hq6) hk) hdl.out.symm (by rw [hdl.out, List.length_append, htl.out]; unfold maxLen; simp; omega) (by rw [hdl.out, List.length_append, htl.out]; simp; omega) ?_; intro v7 w7 ho7 hb7 hk7; have hq7 : Below wz.heap.size wz w7 := hq6.trans hb7)))))
              | (subst hc0; subst hk0; subst hA
                 have hM0 : M = [] := List.eq_nil_of_length_eq_zero hm0
                 subst hM0
                 clear hm0 hdl htl
                 go_region_law (first
                   | (refine step_app_rd (P := Try.prog) (k := 3) (enc := encP) (base := wz.heap.size) (A := none) (m := 0) (c := 0) Try.underlying88 infoRPart rfl (by decide) encP_len encP_one (ys := []) (xs := []) (v := .slice none 0 0) (World.ownsRow_nil _ _ _ _) (by simp) rfl rfl (by simp [Act.eval, Act.put]) (by simp [Act.eval, Act.put]) (.inl rfl) rfl (by unfold maxLen; simp) (by simp) ?_; intro v5 w5 ho5 hb5 hk5; have hq5 : Below wz.heap.size wz w5 := (by first | exact (below_drewN (Below.refl _ _) 1).trans hb5 | exact ((below_drewN (Below.refl _ _) 1).alloc (Nat.le_refl _) _).trans hb5); rw [List.nil_append] at ho5; have hz5 := (HBZ.out.next hq5 (Nat.le_refl _)).bx2; try have hlit5 : Bk w5 wz.heap.size #[.int .i64 s0, .int .i64 s1, .int .i64 v] 94 := (hk5 wz.heap.size (by simp [Value.ownBlock]) (by simp)).2 _ _ (Bk.new wz.drew _ 94 rfl))
                   | (refine step_app_bk (g := w5.heap.size) (m := 1) (c := 1) Try.underlying88 infoRPart rfl (by decide) (ho5.alloc _) (by simp; exact Nat.le_succ_of_le hq5.size) (Bk.new w5 #[.int .i64 s0, .int .i64 s1, .int .i64 v] 94 rfl) rfl rfl (by simp [Act.eval, Act.put]) (by simp [Act.eval, Act.put]) (by decide) rfl rfl (by unfold maxLen; simp) (by simp) ?_; intro v6 w6 ho6 hb6; have hq6 : Below wz.heap.size wz w6 := (hq5.alloc hq5.size _).trans hb6)
                   | (refine step_app_bk (g := wz.heap.size) (m := 1) (c := 1) Try.underlying88 infoRPart rfl (by decide) ho5 hq5.size hlit5 rfl rfl (by simp [Act.eval, Act.put]) (by simp [Act.eval, Act.put]) (by decide) rfl rfl (by unfold maxLen; simp) (by simp) ?_; intro v6 w6 ho6 hb6; have hq6 : Below wz.heap.size wz w6 := hq5.trans hb6)
                   | (refine step_app_rd (P := Try.prog) (k := 3) (enc := encP) (base := wz.heap.size) (A := none) (m := 0) (c := 0) Try.underlying88 infoRPart rfl (by decide) encP_len encP_one (ys := [(s0, s1, v)]) (xs := []) (v := v6) (by unfold Own; exact ho6) hq6.size rfl rfl (by simp [Act.eval, Act.put]) (by simp [Act.eval, Act.put]) (.inl rfl) rfl (by unfold maxLen; simp) (by simp) ?_; intro v7 w7 ho7 hb7 hk7; have hq7 : Below wz.heap.size wz w7 := hq6.trans hb7)
                   | fail))
            all_goals
              go_wp2_with fail
              go_meet
              exact ⟨by show Own _ _ _ _ _ _ _; exact own_base ho7 hzz, hbzz.trans (hq7.mono hzz)⟩
          case rest =>
            obtain ⟨HL, hbc⟩ := hcut
            have hLl : (M.take k ++ [((s0, s1, v) : Pt Int)] ++ M.drop k).length = M.length + 1 := by
              rw [List.length_append, List.length_append, List.length_take, List.length_drop]; simp; omega
            have hLb : (M.take k ++ [((s0, s1, v) : Pt Int)] ++ M.drop k).length ≤ 10000003 := by omega
            clear hLl
            obtain ⟨AL, cL, hAL⟩ := own_shape HL.out
            subst hAL
            have hRL := hidd (Own.rd HL.out rfl)
            have hBc := hB2.trans (hbc.mono hB2.size)
            clear HL
            generalize M.take k ++ [((s0, s1, v) : Pt Int)] ++ M.drop k = L at *
            go_wp2_with fail
            go_loopw [9, 10] (fun vm i wx => ∃ (j mc : Nat) (out : List (Pt Int)), j ≤ L.length ∧ i = .int .i64 j ∧ mc ≤ j ∧ Hid (out.length = mc) ∧ Hid (out = (L.take j).foldl stepP []) ∧ Hid (wx.ownsRow wc.heap.size 94 3 vm mc (out.flatMap encP)) ∧ Below wc.heap.size wc wx) (fun _ i _ => L.length - (intOf i).toNat)
            case atStart => exact ⟨0, 0, [], by omega, rfl, by simp, rfl, rfl, World.ownsRow_nil _ _ _ _, Below.refl _ _⟩
            case round =>
              obtain ⟨j, mc, out, hj, rfl, hmj, hml, hout, hown, hbx⟩ := hrel
              obtain ⟨Am, cm, rfl⟩ := own_shape hown.out
              by_cases hlj : j < L.length
              · have hneL : L ≠ [] := by intro e; rw [e] at hlj; simp at hlj
                obtain ⟨b, o, rfl, hblt, hc⟩ := hRL.out.cells3 hneL
                obtain ⟨g0, g1, g2⟩ := hc j hlj
                rw [← hbx.cell (p := ⟨_, _, none⟩) hblt] at g0 g1 g2
                have hbw : b < wr.heap.size := Nat.lt_of_lt_of_le hblt hbx.size
                clear hc
                have HNX := hidd (show (L.take (j + 1)).foldl stepP [] = stepP out L[j] by rw [List.take_succ_eq_append_getElem hlj, List.foldl_append, ← hout.out]; rfl)
                generalize L[j] = y at *
                obtain ⟨x0, x1, xv⟩ := y
                simp only [] at g0 g1 g2
                rcases mc with _ | mc
                · obtain rfl : out = [] := List.eq_nil_of_length_eq_zero hml.out
                  go_wp2_with fail
                  go_quiet (fail)
                  go_wp2_with (at_builtin; refine wpList_app_new3 (P := Try.prog) Try.underlying88 infoRPart rfl (by decide) hown.out hbx.size (below_drewN (Below.refl _ _) _) rfl rfl rfl rfl (by simp) (by decide) rfl (by simp [Value.oneCell']) (by unfold maxLen; simp) (by simp) (fun v' w' hown' hb' hk' => ?_))
                  go_roundw
                  case rel => exact ⟨j + 1, 1, [(x0, x1, xv)], by omega, by go_num, by omega, rfl, HNX.out.symm, hown', hbx.trans hb'⟩
                  case measure => simp [intOf]; omega
                · obtain ⟨zz, z, hz⟩ : ∃ zs z, out = zs ++ [z] := by
                    rcases List.eq_nil_or_concat out with h | ⟨zs, z, h⟩
                    · have := hml.out; rw [h] at this; simp at this
                    · exact ⟨zs, z, by rw [h, List.concat_eq_append]⟩
                  subst hz
                  have hzl : Hid (zz.length = mc) := by have := hml.out; simp at this; exact this
                  obtain ⟨gg, cap, hv, hgb, hgl, _, _⟩ := own_at hown.out (Nat.succ_pos mc)
                  injection hv with hv _ hcap
                  subst hv; subst hcap
                  obtain ⟨q0, q1, q2, q3, q4, q5⟩ := own_cells3 hown.out (i := mc) (by have := hml.out; omega)
                  have hzz : (zz ++ [z])[mc]'(by have := hml.out; omega) = z := by rw [List.getElem_append_right (by have := hzl.out; omega)]; simp
                  rw [hzz] at q0 q1 q2
                  clear hzz
                  obtain ⟨z0, z1, zv⟩ := z
                  simp only [] at q0 q1 q2
                  have hmm : (mc : Int) < (mc : Int) + 1 := by omega
                  by_cases h1 : z1 = x0 ∧ zv = xv
                  · obtain ⟨rfl, rfl⟩ := h1
                    go_wp2_with fail
                    go_quiet (fail)
                    go_wp2_with fail
                    go_roundw
                    case rel =>
                      refine ⟨j + 1, mc + 1, zz ++ [(z0, x1, zv)], by omega, by go_num, by omega, ?_, ?_, ?_, ?_⟩
                      · show _ = _; rw [List.length_append, hzl.out]; rfl
                      · show _ = _; exact ((stepP_in zz (z0, z1, zv) (z1, x1, zv) ⟨rfl, rfl⟩).symm.trans HNX.out.symm)
                      · have hs := (show ((wr.drewN nq)).ownsRow _ _ _ _ _ _ from hown.out).stored (mc * 3 + 1) (.int .i64 x1)
                        rw [flatP_to zz z0 z1 x1 zv mc hzl.out] at hs
                        exact hs.1
                      · exact hbx.trans ((below_drewN (Below.refl wc.heap.size wr) _).setCell (by exact hgb) _)
                    case measure => simp [intOf]; omega
                  · have HNS := hidd (stepP_out zz (z0, z1, zv) (x0, x1, xv) h1)
                    have hcs : (z1 = x0 ∧ (zv == xv) = false) ∨ (z1 == x0) = false := by
                      by_cases he : z1 = x0
                      · exact .inl ⟨he, by simp; exact fun e => h1 ⟨he, e⟩⟩
                      · exact .inr (by simp [he])
                    clear h1
                    rcases hcs with ⟨rfl, h3⟩ | h3
                    all_goals
                      go_wp2_with fail
                      go_quiet (fail)
                      go_wp2_with (at_builtin; refine wpList_app_new3 (P := Try.prog) Try.underlying88 infoRPart rfl (by decide) hown.out hbx.size (below_drewN (Below.refl _ _) _) rfl rfl rfl rfl (by simp) (by decide) rfl (by simp [Value.oneCell']) (by unfold maxLen; omega) (by omega) (fun v' w' hown' hb' hk' => ?_))
                      go_roundw
                      case rel => exact ⟨j + 1, mc + 1 + 1, zz ++ [(z0, z1, zv)] ++ [(_, x1, xv)], by omega, by go_num, by omega, by show _ = _; rw [List.length_append, hml.out]; rfl, by show _ = _; rw [HNX.out, HNS.out], by show World.ownsRow _ _ _ _ _ _ _; rw [List.flatMap_append]; exact hown', hbx.trans hb'⟩
                      case measure => simp [intOf]; omega
              · obtain rfl : j = L.length := by omega
                rw [List.take_length] at hout
                have hres := hidd (hout.out.trans HFIN.out)
                go_wp2_with fail
                go_ret
                refine ⟨⟨Am, cm, ?_, ?_, ?_⟩, hBc.trans (hbx.mono hBc.size)⟩
                · rw [← hres.out, hml.out]; rfl
                · rw [← hres.out]; exact Own.rd hown.out hml.out.symm
                · right; intro b o hA; subst hA; exact Nat.le_trans hBc.size (hown.out.lt b rfl).1
end Go.Proofs.Ytiokkoeciijkoaa
