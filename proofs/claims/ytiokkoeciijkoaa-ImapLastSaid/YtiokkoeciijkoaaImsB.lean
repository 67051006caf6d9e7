/- imap, of texts: sorting parts. -/
import Derived.Test.YtiokkoeciijkoaaImsA
namespace Go.Proofs.Ytiokkoeciijkoaa
set_option linter.unusedVariables false
set_option linter.unusedSimpArgs false
open Go.RowKit Go.Sort Go.Lib

def cmpPs (x y : Int × Int × ByteArray) : Int := Lib.compareInt x.1 y.1
theorem cmpPs_lt (x y : Int × Int × ByteArray) : ltOf cmpPs x y = decide (x.1 < y.1) := by
  unfold ltOf cmpPs Lib.compareInt
  by_cases h1 : x.1 < y.1
  · simp [h1]
  · by_cases h2 : y.1 < x.1 <;> simp [h1, h2]
theorem swoPs : SWO (ltOf cmpPs) where
  irrefl x := by rw [cmpPs_lt]; simp
  trans x y z h1 h2 := by rw [cmpPs_lt] at *; simp at *; omega
  ntrans x y z h1 h2 := by rw [cmpPs_lt] at *; simp at *; omega

set_option maxHeartbeats 1000000 in
set_option maxRecDepth 100000 in
theorem islayC_c (x y : Int × Int × ByteArray) (w : World) :
    Calls Try.prog 116 #[.agg (encPs x).toArray, .agg (encPs y).toArray] w fun e w' => e = .returned (.int .i64 (cmpPs x y)) ∧ ∃ q os', w' = grow (w.drewN q) os' := by
  have hcmp0 := fun x y W => AnyG.cmp_Compare_int Try.layCmp x y W
  change ∀ x y W, Calls Try.prog 87 _ _ _ at hcmp0
  have hcmp := hidd hcmp0
  clear hcmp0
  obtain ⟨a, b, c⟩ := x
  obtain ⟨d, e, f⟩ := y
  show Calls Try.prog 116 #[.agg #[.int .i64 a, .int .i64 b, .string c], .agg #[.int .i64 d, .int .i64 e, .string f]] w _
  go_enter Try.func116, Try.ntmps116
  go_wp2_with fail
  refine (hcmp.out _ _ _).mono ?_; rintro e w1 ⟨rfl, rfl⟩
  go_wp2_with fail
  go_ret
  exact ⟨rfl, grow_of_below (((RowKit.Below.refl _ _).alloc (Nat.le_refl _) _).alloc (by simp) _) (Nat.le_refl _)⟩

theorem sortPs_c (v : Value) (xs : List (Int × Int × ByteArray)) (w : World) (base : Nat) (h : Own 3 encPs 53 w base v xs) (hbig : xs.length ≤ 1000000000) :
    Calls Try.prog 115 #[v, .func (.func 116) #[] #[]] w fun e w' => e = .returned (.tuple #[]) ∧ (∃ ys : List (Int × Int × ByteArray), ys.Perm xs ∧ ys.Pairwise (fun x y => x.1 ≤ y.1) ∧ Own 3 encPs 53 w' base v ys) ∧ w.grownBy w' v.ownBlock := by
  have eg : ∀ args w, (callFunc 116 args).run Try.prog w = .ok (.enter 116 args) w := Proofs.enters_of Try.func116 (by kernel_rfl) rfl
  have hc := sort_generic (P := Try.prog) Try.laySortPs Try.isAgg53 Try.sizeOf53 encPs_len encPs_one cmpPs swoPs 116 eg (fun x y W => islayC_c x y W) h (by omega)
  change Calls Try.prog 115 _ _ _ at hc
  refine hc.mono fun e w' ⟨he, ys, hp, hs, ho, hg⟩ => ⟨he, ⟨ys, hp, ?_, ?_⟩, hg⟩
  · refine hs.imp fun {x y} hxy => ?_
    rw [cmpPs_lt] at hxy
    simp at hxy
    omega
  · unfold Own; rw [hp.length_eq]; exact ho
end Go.Proofs.Ytiokkoeciijkoaa
