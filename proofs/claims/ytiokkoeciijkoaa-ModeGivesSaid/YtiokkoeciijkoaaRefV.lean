/- The reference's Valid and Meet. -/
import Derived.Test.YtiokkoeciijkoaaSpanA
namespace Go.Proofs.Ytiokkoeciijkoaa
set_option linter.unusedVariables false
set_option linter.unusedSimpArgs false
open Go.RowKit

set_option maxHeartbeats 400000 in
theorem rValid_c (a b : Int) (w : World) :
    Calls Try.prog 38 #[spV a b] w fun e w' => e = .returned (.bool (vld a b)) ∧ Below w.heap.size w w' := by
  by_cases h : 0 ≤ a
  all_goals
    go_enter Try.func38, Try.ntmps38
    go_wp2
    go_ret
    exact ⟨by simp [vld]; omega, (Below.refl _ _).alloc (Nat.le_refl _) _⟩


set_option maxHeartbeats 1600000 in
theorem rMeet_c (a b c d : Int) (w : World) :
    Calls Try.prog 66 #[spV a b, spV c d] w fun e w' => e = .returned (.tuple #[spV (meetF a b c d) (meetT a b c d), .bool (meetB a b c d)]) ∧ Below w.heap.size w w' := by
  have HT : Hid (∀ r, meetB a b c d = r → meetF a b c d = (if r then max a c else 0) ∧ meetT a b c d = (if r then min b d else 0)) := by
    intro r hr; subst hr; exact ⟨rfl, rfl⟩
  have HB : Hid (meetB a b c d = (vld a b && (vld c d && vld (max a c) (min b d)))) := rfl
  generalize meetB a b c d = r at HT HB
  generalize meetF a b c d = rF at HT
  generalize meetT a b c d = rT at HT
  have h5 := max_two a c
  have h6 := min_two b d
  generalize max a c = M at h5 HB HT
  generalize min b d = m at h6 HB HT
  rcases h5 with ⟨h1, rfl⟩ | ⟨h1, rfl⟩ <;> rcases h6 with ⟨h2, rfl⟩ | ⟨h2, rfl⟩
  all_goals
    go_enter Try.func66, Try.ntmps66
    go_wp2_with fail
    refine (rValid_c _ _ _).mono ?_; rintro e w1 ⟨rfl, hb1⟩
    obtain ⟨hc1, hf1⟩ := bcell hb1
    generalize hv1 : vld _ _ = r1
    have HV1 := hidd hv1; clear hv1
    cases r1
    · go_wp2_with fail
      have e := HT.out false (by rw [HB.out, HV1.out]; rfl)
      refine bodyPost_ret (v := .tuple #[spV 0 0, .bool false]) (by simp [results, Try.results66, go_sem, hc1, hf1]) rfl ⟨by rw [HB.out, HV1.out, e.1, e.2]; rfl, ?_⟩
      exact (((((((Below.refl _ w).alloc (Nat.le_refl _) _).alloc (by simp) _).alloc (by simp; omega) _).alloc (by simp; omega) _).trans (hb1.mono (by simp; omega))).setCell (by simp; omega) _).setCell (by simp; omega) _
    · go_wp2_with fail
      refine (rValid_c _ _ _).mono ?_; rintro e w2 ⟨rfl, hb2⟩
      replace hb1 := below_next hb1 hb2
      clear hc1 hf1 hb2
      obtain ⟨hc1, hf1⟩ := bcell hb1
      generalize hv2 : vld _ _ = r2
      have HV2 := hidd hv2; clear hv2
      cases r2
      · go_wp2_with fail
        have e := HT.out false (by rw [HB.out, HV1.out, HV2.out]; rfl)
        refine bodyPost_ret (v := .tuple #[spV 0 0, .bool false]) (by simp [results, Try.results66, go_sem, hc1, hf1]) rfl ⟨by rw [HB.out, HV1.out, HV2.out, e.1, e.2]; rfl, ?_⟩
        exact (((((((Below.refl _ w).alloc (Nat.le_refl _) _).alloc (by simp) _).alloc (by simp; omega) _).alloc (by simp; omega) _).trans (hb1.mono (by simp; omega))).setCell (by simp; omega) _).setCell (by simp; omega) _
      · go_wp2_with fail
        refine (rValid_c _ _ _).mono ?_; rintro e w3 ⟨rfl, hb2⟩
        replace hb1 := below_next hb1 hb2
        clear hc1 hf1 hb2
        obtain ⟨hc1, hf1⟩ := bcell hb1
        generalize hv3 : vld _ _ = r3
        have HV3 := hidd hv3; clear hv3
        cases r3
        · go_wp2_with fail
          have hr : r = false := HB.out.trans (by first | (rw [HV1.out, HV2.out, HV3.out]; rfl) | (exact absurd (HV1.out.symm.trans HV3.out) (by decide)) | (exact absurd (HV2.out.symm.trans HV3.out) (by decide)))
          have e := HT.out false hr
          refine bodyPost_ret (v := .tuple #[spV 0 0, .bool false]) (by simp [results, Try.results66, go_sem, hc1, hf1]) rfl ⟨by rw [hr, e.1, e.2]; rfl, ?_⟩
          exact (((((((Below.refl _ w).alloc (Nat.le_refl _) _).alloc (by simp) _).alloc (by simp; omega) _).alloc (by simp; omega) _).trans (hb1.mono (by simp; omega))).setCell (by simp; omega) _).setCell (by simp; omega) _
        · go_wp2_with fail
          have hr : r = true := HB.out.trans (by first | (rw [HV1.out, HV2.out, HV3.out]; rfl) | (rw [HV1.out, HV2.out]; rfl))
          have e := HT.out true hr
          refine bodyPost_ret (by simp [results, Try.results66, go_sem, hc1, hf1]; rfl) rfl ⟨by rw [hr, e.1, e.2]; rfl, ?_⟩
          exact (((((((Below.refl _ w).alloc (Nat.le_refl _) _).alloc (by simp) _).alloc (by simp; omega) _).alloc (by simp; omega) _).trans (hb1.mono (by simp; omega))).setCell (by simp; omega) _).setCell (by simp; omega) _

end Go.Proofs.Ytiokkoeciijkoaa
