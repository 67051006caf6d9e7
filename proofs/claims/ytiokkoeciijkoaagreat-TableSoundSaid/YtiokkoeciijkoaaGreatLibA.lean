/- The comparison that Norm sorts by: it orders ranges by their begins, then by their ends. -/
import Derived.Test.YtiokkoeciijkoaaGreatSpanA
import Derived.Test.YtiokkoeciijkoaaGreatShelf
namespace Go.Proofs.YtiokkoeciijkoaaGreat
set_option linter.unusedVariables false
set_option linter.unusedSimpArgs false
open Go.RowKit Go.Sort Go.Lib

theorem grow_of_below {W w' : World} (h : RowKit.Below W.heap.size W w') (hd : W.drawn ≤ w'.drawn) : ∃ q os', w' = grow (W.drewN q) os' := by
  refine ⟨w'.drawn - W.drawn, w'.heap.extract W.heap.size w'.heap.size, ?_⟩
  obtain ⟨h1, h2, h3, h4, h5⟩ := h
  have e1 : w'.heap = W.heap ++ w'.heap.extract W.heap.size w'.heap.size := by
    apply Array.ext_getElem?
    intro i
    by_cases hi : i < W.heap.size
    · rw [Array.getElem?_append_left hi]; exact h5 i hi
    · rw [Array.getElem?_append_right (by omega), Array.getElem?_extract]
      by_cases h6 : i < w'.heap.size
      · rw [if_pos (by omega)]; congr 1; omega
      · rw [if_neg (by omega), Array.getElem?_eq_none (by omega)]
  have e2 : W.drawn + (w'.drawn - W.drawn) = w'.drawn := by omega
  cases w'
  simp only [grow, World.drewN] at *
  simp only [World.mk.injEq]
  exact ⟨e1, h2, e2.symm, h1, h3⟩

def orI (x y : Int) : Int := if x = 0 then y else x

set_option maxHeartbeats 400000 in
theorem cmpOr_c (b c : Nat) (x y : Int) (w : World) (h0 : w.cell? ⟨b, 0, none⟩ = some (.int .i64 x)) (h1 : w.cell? ⟨b, 1, none⟩ = some (.int .i64 y)) :
    Calls Tryz.prog 76 #[.slice (some ⟨b, 0, none⟩) 2 c] w fun e w' => e = .returned (.int .i64 (orI x y)) ∧ w' = w := by
  go_enter Tryz.func76, Tryz.ntmps76
  go_wp2_with fail
  go_loop [8] (fun i => ∃ k : Nat, k ≤ 2 ∧ i = .int .i64 k ∧ Hid ((1 ≤ k → x = 0) ∧ (2 ≤ k → y = 0))) (fun i => 2 - (intOf i).toNat)
  case atStart => exact ⟨0, by omega, rfl, by constructor <;> intro h <;> omega⟩
  case round =>
    obtain ⟨k, hk, rfl, hz⟩ := hrel
    rcases (by omega : k = 0 ∨ k = 1 ∨ k = 2) with rfl | rfl | rfl
    · by_cases hx : x = 0
      · have hx' : (x != 0) = false := by simp [hx]
        go_wp2
        go_round
        case rel => exact ⟨1, by omega, rfl, by constructor <;> intro h <;> omega⟩
        case measure => simp [intOf]
      · have hx' : (x != 0) = true := by simp [hx]
        go_wp2
        go_ret
        exact ⟨by simp [orI, hx], rfl⟩
    · by_cases hy : y = 0
      · have hy' : (y != 0) = false := by simp [hy]
        go_wp2
        go_round
        case rel => exact ⟨2, by omega, rfl, by constructor <;> intro h <;> first | exact hz.out.1 (by omega) | exact hy⟩
        case measure => simp [intOf]
      · have hy' : (y != 0) = true := by simp [hy]
        go_wp2
        go_ret
        exact ⟨by have := hz.out.1 (by omega); simp [orI, this], rfl⟩
    · go_wp2
      go_ret
      exact ⟨by have := hz.out.1 (by omega); have h2 := hz.out.2 (by omega); simp [orI, this, h2], rfl⟩

def cmpS (x y : Sp) : Int := orI (Lib.compareInt x.1 y.1) (Lib.compareInt x.2 y.2)

set_option maxHeartbeats 1000000 in
set_option maxRecDepth 100000 in
theorem sNormC2_c (a b c d : Int) (w : World) :
    Calls Tryz.prog 75 #[spV a b, spV c d] w fun e w' => e = .returned (.int .i64 (cmpS (a, b) (c, d))) ∧ ∃ q os', w' = grow (w.drewN q) os' := by
  have hcmp0 := fun x y W => AnyG.cmp_Compare_int Tryz.layCmp x y W
  change ∀ x y W, Calls Tryz.prog 77 _ _ _ at hcmp0
  have hcmp := hidd hcmp0
  clear hcmp0
  go_enter Tryz.func75, Tryz.ntmps75
  go_wp2_with fail
  refine wp_tail 10 (by kernel_rfl) ?_
  simp only [List.take_succ_cons, List.take_zero, List.drop_succ_cons, List.drop_zero]
  still_step
  still_step
  still_step
  still_step
  still_call (hcmp.out _ _ _)
  still_step
  still_step
  still_step
  still_step
  still_call (hcmp.out _ _ _)
  refine wpStill_nil ?_
  go_wp2_with fail
  refine (cmpOr_c _ _ (Lib.compareInt a c) (Lib.compareInt b d) _ (by simp [go_sem]) (by simp [go_sem])).mono ?_; rintro e w1 ⟨rfl, rfl⟩
  go_wp2_with fail
  go_ret
  exact ⟨rfl, grow_of_below ((((Below.refl _ _).alloc (Nat.le_refl _) _).alloc (by simp) _).alloc (by simp; omega) _).drew (Nat.le_add_right _ 1)⟩

end Go.Proofs.YtiokkoeciijkoaaGreat
