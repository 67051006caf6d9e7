/- imap: Set and Clear. -/
import Derived.Test.YtiokkoeciijkoaaGreatImapC
namespace Go.Proofs.YtiokkoeciijkoaaGreat
set_option linter.unusedVariables false
set_option linter.unusedSimpArgs false
open Go.RowKit

/-- the map at p holds the parts xs; their row lies outside of F -/
structure IM (F : Nat → Prop) (W : World) (p : Nat) (xs : List (Pt Int)) : Prop where
  ex : ∃ A c, Bk W p #[.slice A xs.length c] 68 ∧ Rd 3 encP W A xs ∧ ∀ b o, xs ≠ [] → A = some ⟨b, o, none⟩ → ¬ F b
theorem IM.lt {F : Nat → Prop} {W : World} {p : Nat} {xs : List (Pt Int)} (h : IM F W p xs) : p < W.heap.size := by obtain ⟨A, c, h1, _⟩ := h.ex; exact h1.lt
theorem IM.next {F : Nat → Prop} {W W' : World} {p B : Nat} {xs : List (Pt Int)} (h : IM F W p xs) (hb : Below B W W') (hB : W.heap.size ≤ B) : IM F W' p xs := by
  obtain ⟨A, c, h1, h2, h3⟩ := h.ex
  exact ⟨A, c, h1.next hb hB, h2.below hb hB, h3⟩

/-- what Set makes of the parts -/
def setZ (s0 s1 v : Int) (xs : List (Pt Int)) : List (Pt Int) := withoutP (s0, s1) xs ++ [(s0, s1, v)]

structure SetTo (s0 s1 v : Int) (xs ys : List (Pt Int)) : Prop where
  yes : vld s0 s1 = true → LayOf (setZ s0 s1 v xs) ys
  no : vld s0 s1 = false → ys = xs

set_option maxHeartbeats 8000000 in
set_option maxRecDepth 100000 in
theorem iSet_c {F : Nat → Prop} (p : Nat) (xs : List (Pt Int)) (s0 s1 v : Int) (w : World) (h : IM F w p xs) (hF : ∀ k, F k → k < w.heap.size) (hd : Dis xs) (hl : xs.length ≤ 50000000) :
    Calls Tryz.prog 33 #[ptr p, spV s0 s1, .int .i64 v] w fun e w' => e = .returned (.bool (vld s0 s1)) ∧ (∃ ys, IM F w' p ys ∧ SetTo s0 s1 v xs ys) ∧ BelX p w.heap.size w w' := by
  have HD := hidd hd
  have HB0 := hidd (below_alloc w (.cells #[.int .i64 s0, .int .i64 s1] 43))
  have HXB := hidd (Bk.new w #[.int .i64 s0, .int .i64 s1] 43 rfl)
  have HM := hidd h
  have HF := hidd hF
  have hpw := h.lt
  clear h hd hF
  cases hv : vld s0 s1 with
  | false =>
    have HV := hidd hv
    clear hv
    go_enter Tryz.func33, Tryz.ntmps33
    go_wp2_with fail
    refine (sValid_c _ _ _).mono ?_; rintro e w1 ⟨rfl, hb1⟩
    rw [HV.out]
    have hb01 := HB0.out.trans (hb1.mono (by simp))
    go_wp2_with fail
    go_ret
    exact ⟨rfl, ⟨xs, HM.out.next hb01 (Nat.le_refl _), fun h => (by rw [HV.out] at h; cases h), fun _ => rfl⟩, BelX.of hb01⟩
  | true =>
    have HV := hidd hv
    clear hv
    go_enter Tryz.func33, Tryz.ntmps33
    go_wp2_with fail
    refine (sValid_c _ _ _).mono ?_; rintro e w1 ⟨rfl, hb1⟩
    rw [HV.out]
    have hb01 := HB0.out.trans (hb1.mono (by simp))
    have hs := hidd (vld_iff.1 HV.out)
    obtain ⟨A, c, hbk0, hrd0, hfar0⟩ := HM.out.ex
    have HW : Hid (∀ W, Below w1.heap.size w1 W → Bk W p #[.slice A xs.length c] 68 ∧ Rd 3 encP W A xs ∧ Bk W w.heap.size #[.int .i64 s0, .int .i64 s1] 43) := fun W hW =>
      ⟨(hbk0.next hb01 (Nat.le_refl _)).next hW (Nat.le_refl _), (hrd0.below hb01 (Nat.le_refl _)).below hW (Nat.le_refl _), (HXB.out.next hb1 (Nat.le_refl _)).next hW (Nat.le_refl _)⟩
    have hpw1 : p < w1.heap.size := Nat.lt_of_lt_of_le hpw hb01.size
    have hw0 : Bx2 w1 w.heap.size (.int .i64 s0) (.int .i64 s1) := (HW.out w1 (Below.refl _ _)).2.2.bx2
    have HAP := hidd (withoutP_apart (s := (s0, s1)) hs.out HD.out v)
    have HLZ : Hid ((withoutP (s0, s1) xs).length ≤ 100000000) := by show _ ≤ _; have := withoutP_len (s0, s1) xs; omega
    clear hbk0 hrd0
    go_wp2_with fail
    go_region_law (first
      | (go_simp; go_at_call 142; refine (iwithout_c p A c xs s0 s1 _ (HW.out _ ?zq).1 (HW.out _ ?zq).2.1 hs.out HD.out ?zr).mono ?_; (case zq => first | exact below_drewN (Below.refl _ _) 1 | exact (below_drewN (Below.refl _ _) 1).alloc (Nat.le_refl _) _); (case zr => omega); rintro e w5 ⟨⟨v5, rfl, ho5⟩, hb5⟩; have hq5 : Below w1.heap.size w1 w5 := (by first | exact (below_drewN (Below.refl w1.heap.size w1) 1).trans (hb5.mono (Nat.le_refl _)) | exact ((below_drewN (Below.refl w1.heap.size w1) 1).alloc (Nat.le_refl _) _).trans (hb5.mono (by simp))); have hx5 := (HW.out w5 hq5).2.2.bx2; have ho5' := own_base ho5 (show w1.heap.size ≤ _ by simp); clear ho5; try have hlit5 : Bk w5 w1.heap.size #[.int .i64 s0, .int .i64 s1, .int .i64 v] 159 := (Bk.new w1.drew _ 159 rfl).next hb5 (Nat.le_refl _))
      | (go_simp; go_at_call 141; refine (ilay_c p _ v6 (setZ s0 s1 v xs) w6 w1.heap.size (HW.out w6 hq6).1 ?zo hpw1 hq6.size HAP.out ?zl).mono ?_; (case zo => show Own _ _ _ _ _ _ _; unfold Own setZ; rw [List.flatMap_append, List.length_append]; exact ho6); (case zl => have := HLZ.out; unfold setZ; rw [List.length_append]; show _ + 1 ≤ _; omega); rintro e w7 ⟨rfl, ⟨A7, c7, ys, hlay, hbk7, ho7⟩, hb7⟩)
      | (refine step_app_bk (g := w5.heap.size) (m := 1) (c := 1) Tryz.underlying66 infoPartI rfl (by decide) (ho5'.alloc _) (by simp; exact Nat.le_succ_of_le hq5.size) (Bk.new w5 #[.int .i64 s0, .int .i64 s1, .int .i64 v] 159 rfl) rfl rfl (by simp [Act.eval, Act.put]) (by simp [Act.eval, Act.put]) (by decide) rfl rfl (by have := HLZ.out; unfold maxLen; omega) (by have := HLZ.out; omega) ?_; intro v6 w6 ho6 hb6; have hq6 : Below w1.heap.size w1 w6 := (hq5.alloc hq5.size _).trans hb6)
      | (refine step_app_bk (g := w1.heap.size) (m := 1) (c := 1) Tryz.underlying66 infoPartI rfl (by decide) ho5' hq5.size hlit5 rfl rfl (by simp [Act.eval, Act.put]) (by simp [Act.eval, Act.put]) (by decide) rfl rfl (by have := HLZ.out; unfold maxLen; omega) (by have := HLZ.out; omega) ?_; intro v6 w6 ho6 hb6; have hq6 : Below w1.heap.size w1 w6 := hq5.trans hb6))
    all_goals
      go_wp2_with fail
      go_ret
      refine ⟨rfl, ⟨ys, ⟨A7, c7, hbk7, Own.rd ho7 rfl, fun b o hne hA hFb => ?_⟩, fun _ => hlay, fun h => (by rw [HV.out] at h; cases h)⟩, ?_⟩
      · subst hA
        have := ho7.lt b rfl
        have := hq6.size
        have := HF.out b hFb
        have := hb01.size
        omega
      · exact (BelX.of hb01).trans ((BelX.of hq6).trans hb7 |>.mono hb01.size)
end Go.Proofs.YtiokkoeciijkoaaGreat
