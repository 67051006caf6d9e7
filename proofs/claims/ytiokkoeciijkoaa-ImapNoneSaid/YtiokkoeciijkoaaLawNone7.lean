/- ImapNone, walked. -/
import Derived.Test.YtiokkoeciijkoaaImapH
namespace Go.Proofs.Ytiokkoeciijkoaa
set_option linter.unusedVariables false
set_option linter.unusedSimpArgs false
open Go.RowKit

set_option maxHeartbeats 1000000 in
set_option maxRecDepth 100000 in
theorem iWithN_c (v : Int) (w : World) : Calls Try.prog 48 #[.pointer none, .int .i64 v] w fun e w' => e = .returned (.slice none 0 0) ∧ Below w.heap.size w w' := by
  go_enter Try.func48, Try.ntmps48
  go_wp2_with fail
  refine (iAllN_c _).mono ?_; rintro e w1 ⟨rfl, hb1⟩
  go_wp2_with fail
  go_loopw [5, 11] (fun v i wr => v = .slice none 0 0 ∧ i = .int .i64 0 ∧ Below w1.heap.size w1 wr) (fun _ _ _ => 0)
  case atStart => exact ⟨rfl, rfl, Below.refl _ _⟩
  case round =>
    obtain ⟨rfl, rfl, hbr⟩ := hrel
    go_wp2_with fail
    go_ret
    exact ⟨rfl, hb1.trans (hbr.mono hb1.size)⟩
set_option maxHeartbeats 1000000 in
set_option maxRecDepth 100000 in
theorem iSwapN_c (a b x y : Int) (w : World) : Calls Try.prog 50 #[.pointer none, spV a b, .int .i64 x, .int .i64 y] w fun e w' => e = .returned (.int .i64 0) ∧ Below w.heap.size w w' := by
  go_enter Try.func50, Try.ntmps50
  go_wp2_with fail
  refine (iPartsN_c _ _ _).mono ?_; rintro e w1 ⟨rfl, hb1⟩
  have hB1 := (below_alloc w (.cells #[.int .i64 a, .int .i64 b] 27)).trans (hb1.mono (by simp))
  go_wp2_with fail
  go_loopw [9, 16] (fun v i wr => v = .int .i64 0 ∧ i = .int .i64 0 ∧ Below w1.heap.size w1 wr) (fun _ _ _ => 0)
  case atStart => exact ⟨rfl, rfl, Below.refl _ _⟩
  case round =>
    obtain ⟨rfl, rfl, hbr⟩ := hrel
    go_wp2_with fail
    go_ret
    exact ⟨rfl, hB1.trans (hbr.mono hB1.size)⟩

set_option maxHeartbeats 4000000 in
set_option maxRecDepth 100000 in
theorem ImapNone_c (x : Sp) (v : Int) (w : World) (_ : I64 x.1 ∧ I64 x.2) (_ : I64 v) :
    Calls Try.prog 11 #[.agg (encS x).toArray, .int .i64 v] w fun e w' => e = .returned (.bool true) ∧ Below w.heap.size w w' := by
  obtain ⟨a, b⟩ := x
  show Calls Try.prog 11 #[spV a b, .int .i64 v] w _
  go_enter Try.func11, Try.ntmps11
  go_wp2_with fail
  refine (iGetN_c _ _).mono ?_; rintro e w1 ⟨rfl, hb1⟩
  have xa := (Bx2.new w (.int .i64 a) (.int .i64 b) 27 rfl).next hb1 (Nat.le_refl _)
  have hB1 := (below_alloc w (.cells #[.int .i64 a, .int .i64 b] 27)).trans (hb1.mono (by simp))
  clear hb1
  have hwr : IntKind.i64.wrap 0 = 0 := rfl
  go_wp2_with fail
  refine wp_calm (by kernel_rfl) ?_
  repeat (go_big_quiet_step (first
    | (with_reducible refine (alive7_c _).mono ?_; rintro e w' ⟨rfl, hb⟩; exact ⟨rfl, regrow_call hb⟩)
    | (with_reducible refine (iSetN_c _ _ _ _).mono ?_; rintro e w' ⟨rfl, hb⟩; exact ⟨rfl, regrow_call hb⟩)
    | (with_reducible refine (iClearN_c _ _ _).mono ?_; rintro e w' ⟨rfl, hb⟩; exact ⟨rfl, regrow_call hb⟩)
    | (with_reducible refine (iPartsN_c _ _ _).mono ?_; rintro e w' ⟨rfl, hb⟩; exact ⟨rfl, regrow_call hb⟩)
    | (with_reducible refine (iAllN_c _).mono ?_; rintro e w' ⟨rfl, hb⟩; exact ⟨rfl, regrow_call hb⟩)
    | (with_reducible refine (iWithN_c _ _).mono ?_; rintro e w' ⟨rfl, hb⟩; exact ⟨rfl, regrow_call hb⟩)
    | (with_reducible refine (iSwapN_c _ _ _ _ _).mono ?_; rintro e w' ⟨rfl, hb⟩; exact ⟨rfl, regrow_call hb⟩)
    | (with_reducible refine (iLenN_c _).mono ?_; rintro e w' ⟨rfl, hb⟩; exact ⟨rfl, regrow_call hb⟩)))
  refine wpQuiet_nil ?_
  intro W hW
  go_wp2_with fail
  go_ret
  exact ⟨by first | rfl | simp, hB1.trans (hW.mono hB1.size)⟩
end Go.Proofs.Ytiokkoeciijkoaa
