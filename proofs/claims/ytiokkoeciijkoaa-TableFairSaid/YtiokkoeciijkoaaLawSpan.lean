/- The laws of chapter 6 that go by Norm alone, walked. -/
import Derived.Test.YtiokkoeciijkoaaSpanN
namespace Go.Proofs.Ytiokkoeciijkoaa
set_option linter.unusedVariables false
set_option linter.unusedSimpArgs false
open Go.RowKit

theorem alive6_norm {out : List Sp} (h : NormOf [(3, 5), (1, 3), (9, 9)] out) : out = [(1, 5)] := by
  refine Can.uniq h.can ⟨by simp, by simp⟩ fun n => ?_
  rw [h.blocks n]
  simp only [memS_cons, hasS_iff]
  simp [memS_nil]
  omega

set_option maxHeartbeats 1000000 in
set_option maxRecDepth 100000 in
theorem alive6_c (w : World) : Calls Try.prog 22 #[] w fun e w' => e = .returned (.bool true) ∧ Below w.heap.size w w' := by
  go_enter Try.func22, Try.ntmps22
  go_wp2_with fail
  refine (sNorm_c _ _ _ [(3, 5), (1, 3), (9, 9)] _ (.inr ⟨w.heap.size, 0, rfl, by simp, ?_⟩) rfl (by decide)).mono ?_
  · intro j u hu
    rw [Nat.zero_add, cell_of_row _ _ j _ 27 (0, 0) (heap_alloc_new w _)]
    simpa [encS] using hu
  rintro e w1 ⟨⟨v1, out, rfl, hO, hN⟩, hb⟩
  obtain rfl := alive6_norm hN
  obtain ⟨g, cap, rfl, hgb, hgl, hgc, _⟩ := own_at hO (by simp)
  have c0 : w1.cell? ⟨g, 0, none⟩ = some (.int .i64 1) := hgc 0 _ rfl
  have c1 : w1.cell? ⟨g, 1, none⟩ = some (.int .i64 5) := hgc 1 _ rfl
  clear hO hN hgc
  go_wp2_with fail
  refine (sMeet_c _ _ _ _ _).mono ?_; rintro e w2 ⟨rfl, hb2⟩
  have d0 : w2.cell? ⟨g, 0, none⟩ = some (.int .i64 1) := (hb2.cell (p := ⟨g, 0, none⟩) hgl).trans c0
  have d1 : w2.cell? ⟨g, 1, none⟩ = some (.int .i64 5) := (hb2.cell (p := ⟨g, 1, none⟩) hgl).trans c1
  have hgl2 : g < w2.heap.size := Nat.lt_of_lt_of_le hgl hb2.size
  go_wp2_with fail
  refine (sHas_c _ _ _ _).mono ?_; rintro e w3 ⟨rfl, hb3⟩
  rw [show hasS 4 5 4 = true from rfl]
  obtain ⟨hc, hf⟩ := bcell hb3
  go_wp2_with fail
  refine (sLen_c _ _ _ (by unfold I64; omega) (by unfold I64; omega)).mono ?_; rintro e w4 ⟨rfl, hb4⟩
  rw [show lenS 4 5 = 1 from rfl]
  go_wp2_with fail
  go_ret
  refine ⟨rfl, ?_⟩
  have z1 := hb.size
  have z2 := hb2.size
  have z3 := hb3.size
  simp at z1 z3
  exact (((((Below.refl _ _).alloc (Nat.le_refl _) _).trans (hb.mono (by simp))).trans (hb2.mono (by omega))).alloc (by omega) _).trans ((hb3.mono (by simp; omega)).trans (hb4.mono (by omega)))

def anyS (block : Int) (l : List Sp) : Bool := l.any fun x => hasS x.1 x.2 block
theorem anyS_iff {block : Int} {l : List Sp} : anyS block l = true ↔ memS block l := by simp [anyS, memS]
theorem anyS_take {block : Int} {l : List Sp} {k : Nat} (h : k < l.length) : anyS block (l.take (k + 1)) = (anyS block (l.take k) || hasS l[k].1 l[k].2 block) := by
  unfold anyS; rw [List.take_succ_eq_append_getElem h, List.any_append]; simp
theorem anyS_eq {block : Int} {a b : List Sp} (h : memS block a ↔ memS block b) : anyS block a = anyS block b := by
  rw [Bool.eq_iff_iff, anyS_iff, anyS_iff]; exact h

set_option maxHeartbeats 2000000 in
set_option maxRecDepth 100000 in
theorem SpanFew_c (A : Option Addr) (n c : Nat) (xs : List Sp) (block : Int) (w : World) (h : Rd 2 encS w A xs) (hn : n = xs.length) (_ : ∀ x ∈ xs, I64 x.1 ∧ I64 x.2) (_ : I64 block) :
    Calls Try.prog 3 #[.slice A n c, .int .i64 block] w fun e w' => e = .returned (.bool true) ∧ Below w.heap.size w w' := by
  subst hn
  by_cases hl : 60 < xs.length
  · go_enter Try.func3, Try.ntmps3
    go_wp2_with fail
    refine (alive6_c _).mono ?_; rintro e w1 ⟨rfl, hb⟩
    go_wp2_with fail
    go_ret
    exact ⟨rfl, hb⟩
  · have hN := hidd (sNorm_c A _ c xs w h rfl (by omega))
    have hR := hidd h
    clear h
    go_enter Try.func3, Try.ntmps3
    go_wp2_with fail
    refine hN.out.mono ?_; rintro e w1 ⟨⟨v1, out, rfl, ho, hno⟩, hb1⟩
    obtain ⟨A1, c1, rfl⟩ := own_shape ho
    have hO := hidd ho
    have hR1 := hidd (Own.rd ho rfl)
    have hNO := hidd hno
    have hol : out.length ≤ xs.length := hno.len
    clear ho hno hN
    go_wp2_with fail
    go_loopw [6, 8] (fun v i wr => ∃ k : Nat, k ≤ out.length ∧ i = .int .i64 k ∧ v = .bool (anyS block (out.take k)) ∧ Below w1.heap.size w1 wr) (fun _ i _ => out.length - (intOf i).toNat)
    case atStart => exact ⟨0, by omega, rfl, rfl, Below.refl _ _⟩
    case round =>
      obtain ⟨k, hk, rfl, rfl, hbr⟩ := hrel
      by_cases hlt : k < out.length
      · have hne : out ≠ [] := by intro e; rw [e] at hlt; simp at hlt
        obtain ⟨b, o, rfl, hblt, hc⟩ := hR1.out.cells2 hne
        have hbw : b < wr.heap.size := Nat.lt_of_lt_of_le hblt hbr.size
        obtain ⟨g0, g1⟩ := hc k hlt
        rw [← hbr.cell (p := ⟨_, _, none⟩) hblt] at g0 g1
        have hv := hidd (vld_iff.2 (hNO.out.can.val out[k] (List.getElem_mem hlt)))
        have hA := hidd (anyS_take (block := block) hlt)
        cases hin : anyS block (out.take k)
        all_goals
          have HIN := hidd hin; clear hin
          rcases k with _ | k
          · clear hc
            simp only [Nat.zero_mul, Nat.add_zero] at g0 g1
            rw [show ((0 : Nat) : Int) = 0 from rfl]
            go_wp2_with fail
            refine wp_calm (by kernel_rfl) ?_
            repeat (go_big_quiet_step ((refine (sValid_c _ _ _).mono ?_; rintro e w' ⟨rfl, hb⟩; exact ⟨congrArg (fun b => Ending.returned (.bool b)) hv.out, regrow_call hb⟩)))
            refine wpQuiet_nil ?_
            intro W hW
            have q0 := (hW.cell (p := ⟨_, _, none⟩) hbw).trans g0
            have q1 := (hW.cell (p := ⟨_, _, none⟩) hbw).trans g1
            go_wp2_with fail
            try (refine (sHas_c _ _ _ _).mono ?_; rintro e w3 ⟨rfl, hb3⟩)
            try go_wp2_with fail
            go_roundw
            case rel => exact ⟨1, by omega, rfl, by rw [hA.out, HIN.out]; simp, by first | exact hbr.trans (hW.mono hbr.size) | exact (hbr.trans (hW.mono hbr.size)).trans (hb3.mono (Nat.le_trans hbr.size hW.size))⟩
            case measure => simp [intOf]; omega
          · obtain ⟨g2, g3⟩ := hc k (by omega)
            rw [← hbr.cell (p := ⟨_, _, none⟩) hblt] at g2 g3
            have hsep : out[k].2 < out[k + 1].1 := List.pairwise_iff_getElem.1 hNO.out.can.sep k (k + 1) (by omega) hlt (by omega)
            have hdc : decide (out[k + 1].1 ≤ out[k].2) = false := by simp; omega
            clear hc
            rw [show ((k + 1 : Nat) : Int) = (k : Int) + 1 from rfl]
            go_wp2_with fail
            refine wp_calm (by kernel_rfl) ?_
            repeat (go_big_quiet_step ((refine (sValid_c _ _ _).mono ?_; rintro e w' ⟨rfl, hb⟩; exact ⟨congrArg (fun b => Ending.returned (.bool b)) hv.out, regrow_call hb⟩)))
            refine wpQuiet_nil ?_
            intro W hW
            have q0 := (hW.cell (p := ⟨_, _, none⟩) hbw).trans g0
            have q1 := (hW.cell (p := ⟨_, _, none⟩) hbw).trans g1
            go_wp2_with fail
            try (refine (sHas_c _ _ _ _).mono ?_; rintro e w3 ⟨rfl, hb3⟩)
            try go_wp2_with fail
            go_roundw
            case rel => exact ⟨k + 1 + 1, by omega, by go_num, by rw [hA.out, HIN.out]; simp, by first | exact hbr.trans (hW.mono hbr.size) | exact (hbr.trans (hW.mono hbr.size)).trans (hb3.mono (Nat.le_trans hbr.size hW.size))⟩
            case measure => simp [intOf]; omega
      · obtain rfl : k = out.length := by omega
        have hin : anyS block (out.take out.length) = anyS block xs := by rw [List.take_length]; exact anyS_eq (hNO.out.blocks block)
        rw [hin]
        clear hin
        go_wp2_with fail
        obtain ⟨wo, rfl⟩ : ∃ wo : World, wo = wr := ⟨_, rfl⟩
        have hB2 := hb1.trans (hbr.mono hb1.size)
        go_loopw [7, 9] (fun v i wr => ∃ k : Nat, k ≤ xs.length ∧ i = .int .i64 k ∧ v = .bool (anyS block (xs.take k)) ∧ Below wo.heap.size wo wr) (fun _ i _ => xs.length - (intOf i).toNat)
        case atStart => exact ⟨0, by omega, rfl, rfl, Below.refl _ _⟩
        case round =>
          obtain ⟨k, hk, rfl, rfl, hbs⟩ := hrel
          have hB3 := hB2.trans (hbs.mono hB2.size)
          by_cases hlt : k < xs.length
          · have hne : xs ≠ [] := by intro e; rw [e] at hlt; simp at hlt
            obtain ⟨b, o, rfl, hblt, hc⟩ := hR.out.cells2 hne
            obtain ⟨g0, g1⟩ := hc k hlt
            rw [← hB3.cell (p := ⟨_, _, none⟩) hblt] at g0 g1
            have hA := hidd (anyS_take (block := block) hlt)
            clear hc
            cases hin : anyS block (xs.take k)
            all_goals
              have HIN := hidd hin; clear hin
              go_wp2_with fail
              try (refine (sHas_c _ _ _ _).mono ?_; rintro e w3 ⟨rfl, hb3⟩)
              try go_wp2_with fail
              go_roundw
              case rel => exact ⟨k + 1, by omega, by go_num, by rw [hA.out, HIN.out]; simp, by first | exact hbs | exact hbs.trans (hb3.mono hbs.size)⟩
              case measure => simp [intOf]; omega
          · obtain rfl : k = xs.length := by omega
            rw [List.take_length]
            have hNn := hidd (sNorm_c A1 _ c1 out wr ((hR1.out.below hbr (Nat.le_refl _)).below hbs (Nat.le_refl _)) rfl (by omega))
            go_wp2_with fail
            refine hNn.out.mono ?_; rintro e w4 ⟨⟨v4, out4, rfl, ho4, hno4⟩, hb4⟩
            obtain rfl : out4 = out := Can.uniq hno4.can hNO.out.can hno4.blocks
            obtain ⟨A4, c4, rfl⟩ := own_shape ho4
            clear ho4 hno4
            go_wp2_with fail
            refine (alive6_c _).mono ?_; rintro e w5 ⟨rfl, hb5⟩
            go_wp2_with fail
            go_ret
            exact ⟨by simp, hB3.trans ((hb4.mono hB3.size).trans (hb5.mono (Nat.le_trans hB3.size hb4.size)))⟩

end Go.Proofs.Ytiokkoeciijkoaa
