/- The small functions of package span: Valid, Len, Has, Meet, Meets answer as the plain functions vld, lenS, hasS, meetS say, and turn nothing that was there. -/
import Derived.Test.YtiokkoeciijkoaaGreatBase
namespace Go.Proofs.YtiokkoeciijkoaaGreat
set_option linter.unusedVariables false
set_option linter.unusedSimpArgs false
open Go.RowKit

abbrev Sp := Int × Int
def encS (x : Sp) : List Value := [.int .i64 x.1, .int .i64 x.2]
abbrev spV (a b : Int) : Value := .agg #[.int .i64 a, .int .i64 b]
theorem encS_len (x : Sp) : (encS x).length = 2 := rfl
theorem encS_one (x : Sp) : ∀ v ∈ encS x, v.oneCell' = true := by
  intro v hv; simp [encS] at hv; rcases hv with rfl | rfl <;> rfl
theorem infoSpan : (Tryz.prog.info? 43).map (fun i => (i.zero, i.size, i.bytes)) = some (some (.agg #[.int .i64 0, .int .i64 0]), 2, 16) := by kernel_rfl

def vld (a b : Int) : Bool := decide (0 ≤ a) && decide (a < b)
def lenS (a b : Int) : Int := if vld a b then b - a else 0
def hasS (a b n : Int) : Bool := vld a b && (decide (a ≤ n) && decide (n < b))
def meetB (a b c d : Int) : Bool := vld a b && (vld c d && vld (max a c) (min b d))
def meetF (a b c d : Int) : Int := if meetB a b c d then max a c else 0
def meetT (a b c d : Int) : Int := if meetB a b c d then min b d else 0
theorem vld_iff {a b : Int} : vld a b = true ↔ 0 ≤ a ∧ a < b := by simp [vld]
theorem vld_false {a b : Int} : vld a b = false ↔ ¬ (0 ≤ a ∧ a < b) := by rw [← vld_iff]; simp

set_option maxHeartbeats 400000 in
theorem sValid_c (a b : Int) (w : World) :
    Calls Tryz.prog 9 #[spV a b] w fun e w' => e = .returned (.bool (vld a b)) ∧ Below w.heap.size w w' := by
  by_cases h : 0 ≤ a
  all_goals
    go_enter Tryz.func9, Tryz.ntmps9
    go_wp2
    go_ret
    exact ⟨by simp [vld]; omega, (Below.refl _ _).alloc (Nat.le_refl _) _⟩

set_option maxHeartbeats 400000 in
theorem sNormC1_c (a b : Int) (w : World) :
    Calls Tryz.prog 73 #[spV a b] w fun e w' => e = .returned (.bool (!vld a b)) ∧ Below w.heap.size w w' := by
  go_enter Tryz.func73, Tryz.ntmps73
  go_wp2_with fail
  refine (sValid_c _ _ _).mono ?_; rintro e w1 ⟨rfl, hb⟩
  go_wp2_with fail
  go_ret
  exact ⟨by simp, ((Below.refl _ _).alloc (Nat.le_refl _) _).trans (hb.mono (by simp))⟩

set_option maxHeartbeats 400000 in
theorem sLen_c (a b : Int) (w : World) (ha : I64 a) (hb : I64 b) :
    Calls Tryz.prog 10 #[spV a b] w fun e w' => e = .returned (.int .i64 (lenS a b)) ∧ Below w.heap.size w w' := by
  have hv0 := @vld_iff a b
  cases hv : vld a b with
  | true =>
    obtain ⟨h1, h2⟩ := hv0.1 hv
    have h3 := hb.hi
    clear ha hb hv0
    have HS := hidd (show lenS a b = b - a by simp [lenS, hv])
    have HV := hidd hv
    clear hv
    go_enter Tryz.func10, Tryz.ntmps10
    go_wp2_with fail
    refine (sValid_c _ _ _).mono ?_; rintro e w1 ⟨rfl, hb⟩
    rw [HV.out]
    obtain ⟨hc, hf⟩ := bcell hb
    go_wp2_with fail
    go_ret
    exact ⟨by rw [HS.out]; rfl, ((Below.refl _ _).alloc (Nat.le_refl _) _).trans (hb.mono (by simp))⟩
  | false =>
    have HS := hidd (show lenS a b = 0 by simp [lenS, hv])
    have HV := hidd hv
    clear hv hv0
    go_enter Tryz.func10, Tryz.ntmps10
    go_wp2_with fail
    refine (sValid_c _ _ _).mono ?_; rintro e w1 ⟨rfl, hb⟩
    rw [HV.out]
    go_wp2_with fail
    go_ret
    exact ⟨by rw [HS.out]; rfl, ((Below.refl _ _).alloc (Nat.le_refl _) _).trans (hb.mono (by simp))⟩

set_option maxHeartbeats 400000 in
theorem sHas_c (a b n : Int) (w : World) :
    Calls Tryz.prog 11 #[spV a b, .int .i64 n] w fun e w' => e = .returned (.bool (hasS a b n)) ∧ Below w.heap.size w w' := by
  cases hv : vld a b with
  | true =>
    have HS := hidd (show hasS a b n = (decide (a ≤ n) && decide (n < b)) by simp [hasS, hv])
    have HV := hidd hv
    clear hv
    by_cases h1 : a ≤ n
    all_goals
      go_enter Tryz.func11, Tryz.ntmps11
      go_wp2_with fail
      refine (sValid_c _ _ _).mono ?_; rintro e w1 ⟨rfl, hb⟩
      rw [HV.out]
      obtain ⟨hc, hf⟩ := bcell hb
      go_wp2_with fail
      go_ret
      exact ⟨by rw [HS.out]; simp; omega, ((Below.refl _ _).alloc (Nat.le_refl _) _).trans (hb.mono (by simp))⟩
  | false =>
    have HS := hidd (show hasS a b n = false by simp [hasS, hv])
    have HV := hidd hv
    clear hv
    go_enter Tryz.func11, Tryz.ntmps11
    go_wp2_with fail
    refine (sValid_c _ _ _).mono ?_; rintro e w1 ⟨rfl, hb⟩
    rw [HV.out]
    go_wp2_with fail
    go_ret
    exact ⟨by rw [HS.out]; rfl, ((Below.refl _ _).alloc (Nat.le_refl _) _).trans (hb.mono (by simp))⟩

theorem max_two (a c : Int) : (c ≤ a ∧ max a c = a) ∨ (a < c ∧ max a c = c) := by omega
theorem min_two (a c : Int) : (a ≤ c ∧ min a c = a) ∨ (c < a ∧ min a c = c) := by omega

set_option maxHeartbeats 1600000 in
theorem sMeet_c (a b c d : Int) (w : World) :
    Calls Tryz.prog 12 #[spV a b, spV c d] w fun e w' => e = .returned (.tuple #[spV (meetF a b c d) (meetT a b c d), .bool (meetB a b c d)]) ∧ Below w.heap.size w w' := by
  have HT : Hid (∀ r, meetB a b c d = r → meetF a b c d = (if r then max a c else 0) ∧ meetT a b c d = (if r then min b d else 0)) := by
    intro r hr; subst hr; exact ⟨rfl, rfl⟩
  have HB : Hid (meetB a b c d = (vld a b && (vld c d && vld (max a c) (min b d)))) := rfl
  generalize meetB a b c d = r at HT HB
  generalize meetF a b c d = rF at HT
  generalize meetT a b c d = rT at HT
  have h5 := max_two a c
  have h6 := min_two b d
  generalize max a c = M at h5 HB HT
  generalize min b d = m at h6 HB HT
  rcases h5 with ⟨h1, rfl⟩ | ⟨h1, rfl⟩ <;> rcases h6 with ⟨h2, rfl⟩ | ⟨h2, rfl⟩
  all_goals
    go_enter Tryz.func12, Tryz.ntmps12
    go_wp2_with fail
    refine (sValid_c _ _ _).mono ?_; rintro e w1 ⟨rfl, hb1⟩
    obtain ⟨hc1, hf1⟩ := bcell hb1
    generalize hv1 : vld _ _ = r1
    have HV1 := hidd hv1; clear hv1
    cases r1
    · go_wp2_with fail
      have e := HT.out false (by rw [HB.out, HV1.out]; rfl)
      refine bodyPost_ret (v := .tuple #[spV 0 0, .bool false]) (by simp [results, Tryz.results12, go_sem, hc1, hf1]) rfl ⟨by rw [HB.out, HV1.out, e.1, e.2]; rfl, ?_⟩
      exact (((((((Below.refl _ w).alloc (Nat.le_refl _) _).alloc (by simp) _).alloc (by simp; omega) _).alloc (by simp; omega) _).trans (hb1.mono (by simp; omega))).setCell (by simp; omega) _).setCell (by simp; omega) _
    · go_wp2_with fail
      refine (sValid_c _ _ _).mono ?_; rintro e w2 ⟨rfl, hb2⟩
      replace hb1 := below_next hb1 hb2
      clear hc1 hf1 hb2
      obtain ⟨hc1, hf1⟩ := bcell hb1
      generalize hv2 : vld _ _ = r2
      have HV2 := hidd hv2; clear hv2
      cases r2
      · go_wp2_with fail
        have e := HT.out false (by rw [HB.out, HV1.out, HV2.out]; rfl)
        refine bodyPost_ret (v := .tuple #[spV 0 0, .bool false]) (by simp [results, Tryz.results12, go_sem, hc1, hf1]) rfl ⟨by rw [HB.out, HV1.out, HV2.out, e.1, e.2]; rfl, ?_⟩
        exact (((((((Below.refl _ w).alloc (Nat.le_refl _) _).alloc (by simp) _).alloc (by simp; omega) _).alloc (by simp; omega) _).trans (hb1.mono (by simp; omega))).setCell (by simp; omega) _).setCell (by simp; omega) _
      · go_wp2_with fail
        refine (sValid_c _ _ _).mono ?_; rintro e w3 ⟨rfl, hb2⟩
        replace hb1 := below_next hb1 hb2
        clear hc1 hf1 hb2
        obtain ⟨hc1, hf1⟩ := bcell hb1
        generalize hv3 : vld _ _ = r3
        have HV3 := hidd hv3; clear hv3
        cases r3
        · go_wp2_with fail
          have hr : r = false := HB.out.trans (by first | (rw [HV1.out, HV2.out, HV3.out]; rfl) | (exact absurd (HV1.out.symm.trans HV3.out) (by decide)) | (exact absurd (HV2.out.symm.trans HV3.out) (by decide)))
          have e := HT.out false hr
          refine bodyPost_ret (v := .tuple #[spV 0 0, .bool false]) (by simp [results, Tryz.results12, go_sem, hc1, hf1]) rfl ⟨by rw [hr, e.1, e.2]; rfl, ?_⟩
          exact (((((((Below.refl _ w).alloc (Nat.le_refl _) _).alloc (by simp) _).alloc (by simp; omega) _).alloc (by simp; omega) _).trans (hb1.mono (by simp; omega))).setCell (by simp; omega) _).setCell (by simp; omega) _
        · go_wp2_with fail
          have hr : r = true := HB.out.trans (by first | (rw [HV1.out, HV2.out, HV3.out]; rfl) | (rw [HV1.out, HV2.out]; rfl))
          have e := HT.out true hr
          refine bodyPost_ret (by simp [results, Tryz.results12, go_sem, hc1, hf1]; rfl) rfl ⟨by rw [hr, e.1, e.2]; rfl, ?_⟩
          exact (((((((Below.refl _ w).alloc (Nat.le_refl _) _).alloc (by simp) _).alloc (by simp; omega) _).alloc (by simp; omega) _).trans (hb1.mono (by simp; omega))).setCell (by simp; omega) _).setCell (by simp; omega) _

set_option maxHeartbeats 400000 in
theorem sMeets_c (a b c d : Int) (w : World) :
    Calls Tryz.prog 14 #[spV a b, spV c d] w fun e w' => e = .returned (.bool (meetB a b c d)) ∧ Below w.heap.size w w' := by
  go_enter Tryz.func14, Tryz.ntmps14
  go_wp2_with fail
  refine (sMeet_c _ _ _ _ _).mono ?_; rintro e w1 ⟨rfl, hb⟩
  go_wp2_with fail
  go_ret
  exact ⟨rfl, (((((Below.refl _ _).alloc (Nat.le_refl _) _).alloc (by simp) _).trans (hb.mono (by simp; omega)))).alloc (by have := hb.size; simp at this; omega) _⟩

end Go.Proofs.YtiokkoeciijkoaaGreat
