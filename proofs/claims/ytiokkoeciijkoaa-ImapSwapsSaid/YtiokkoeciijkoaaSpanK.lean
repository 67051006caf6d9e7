/- Both, Covers, SameSpans, has: what they compute. -/
import Derived.Test.YtiokkoeciijkoaaSpanJ
import Derived.Test.YtiokkoeciijkoaaLawSpan
namespace Go.Proofs.Ytiokkoeciijkoaa
set_option linter.unusedVariables false
set_option linter.unusedSimpArgs false
open Go.RowKit

structure BothOf (a b out : List Sp) : Prop where
  can : Can out
  blocks : ∀ n, memS n out ↔ memS n a ∧ memS n b
  len : out.length ≤ 2 * a.length + b.length
  i64 : (∀ x ∈ a, I64 x.1 ∧ I64 x.2) → (∀ x ∈ b, I64 x.1 ∧ I64 x.2) → ∀ x ∈ out, I64 x.1 ∧ I64 x.2
theorem BothOf.mk' {a b m out : List Sp} (h1 : MinusOf a b m) (h2 : MinusOf a m out) : BothOf a b out :=
  ⟨h2.can, fun n => by
    rw [h2.blocks, h1.blocks]
    by_cases hb : memS n b <;> simp [hb], by have := h1.len; have := h2.len; omega, fun ha hb => h2.i64 ha (h1.i64 ha hb)⟩

set_option maxHeartbeats 2000000 in
set_option maxRecDepth 100000 in
theorem sBoth_c (A B : Option Addr) (na nb ca cb : Nat) (xs ys : List Sp) (w : World) (hx : Rd 2 encS w A xs) (hy : Rd 2 encS w B ys) (hna : na = xs.length) (hnb : nb = ys.length) (hbig : 2 * xs.length + ys.length ≤ 400000000) :
    Calls Try.prog 31 #[.slice A na ca, .slice B nb cb] w fun e w' => (∃ v' out, e = .returned v' ∧ Own 2 encS 27 w' w.heap.size v' out ∧ BothOf xs ys out) ∧ Below w.heap.size w w' := by
  have hM := hidd (sMinus_c A B na nb ca cb xs ys w hx hy hna hnb (by omega))
  have HX := hidd hx
  have HA := hidd hna
  clear hx hy hna hnb
  go_enter Try.func31, Try.ntmps31
  go_wp2_with fail
  refine hM.out.mono ?_; rintro e w1 ⟨⟨v1, o1, rfl, ho1, hm1⟩, hb1⟩
  obtain ⟨A1, c1, rfl⟩ := own_shape ho1
  have hM2 := hidd (sMinus_c A A1 na o1.length ca c1 xs o1 w1 (HX.out.below hb1 (Nat.le_refl _)) (Own.rd ho1 rfl) HA.out rfl (by have := hm1.len; omega))
  have HM1 := hidd hm1
  clear ho1 hm1
  go_wp2_with fail
  refine hM2.out.mono ?_; rintro e w2 ⟨⟨v2, o2, rfl, ho2, hm2⟩, hb2⟩
  go_wp2_with fail
  go_ret
  exact ⟨⟨_, o2, rfl, own_base ho2 hb1.size, BothOf.mk' HM1.out hm2⟩, hb1.trans (hb2.mono hb1.size)⟩

set_option maxHeartbeats 2000000 in
set_option maxRecDepth 100000 in
theorem sCovers_c (A B : Option Addr) (na nb ca cb : Nat) (xs ys : List Sp) (w : World) (hx : Rd 2 encS w A xs) (hy : Rd 2 encS w B ys) (hna : na = xs.length) (hnb : nb = ys.length) (hbig : xs.length + ys.length ≤ 400000000) :
    Calls Try.prog 35 #[.slice A na ca, .slice B nb cb] w fun e w' => (∃ out, MinusOf ys xs out ∧ e = .returned (.bool (decide (out.length = 0)))) ∧ Below w.heap.size w w' := by
  have hM := hidd (sMinus_c B A nb na cb ca ys xs w hy hx hnb hna (by omega))
  clear hx hy hna hnb
  go_enter Try.func35, Try.ntmps35
  go_wp2_with fail
  refine hM.out.mono ?_; rintro e w1 ⟨⟨v1, o1, rfl, ho1, hm1⟩, hb1⟩
  obtain ⟨A1, c1, rfl⟩ := own_shape ho1
  have hl : o1.length ≤ 400000000 := by have := hm1.len; omega
  have HM1 := hidd hm1
  clear ho1 hm1
  have hd : Hid ((((o1.length : Int)) == 0) = decide (o1.length = 0)) := by show _ = _; rw [Bool.eq_iff_iff, beq_iff_eq, decide_eq_true_iff]; omega
  go_wp2_with fail
  go_ret
  exact ⟨⟨o1, HM1.out, congrArg (fun b => Ending.returned (.bool b)) hd.out⟩, hb1⟩

theorem minus_none {a b out : List Sp} (h : MinusOf a b out) (hs : ∀ n, memS n a → memS n b) : out = [] :=
  Can.uniq h.can Can.nil fun n => by
    rw [h.blocks]
    constructor
    · rintro ⟨h1, h2⟩; exact absurd (hs n h1) h2
    · intro h; exact absurd h memS_nil

set_option maxHeartbeats 2000000 in
set_option maxRecDepth 100000 in
theorem has6_c (A : Option Addr) (na ca : Nat) (xs : List Sp) (n : Int) (w : World) (hx : Rd 2 encS w A xs) (hna : na = xs.length) (hbig : xs.length ≤ 400000000) :
    Calls Try.prog 33 #[.slice A na ca, .int .i64 n] w fun e w' => e = .returned (.bool (anyS n xs)) ∧ Below w.heap.size w w' := by
  subst hna
  have HX := hidd hx
  clear hx
  go_enter Try.func33, Try.ntmps33
  go_wp2_with fail
  go_loopw [5] (fun i wr => ∃ k : Nat, k ≤ xs.length ∧ i = .int .i64 k ∧ Hid (anyS n (xs.take k) = false) ∧ Below w.heap.size w wr) (fun i _ => xs.length - (intOf i).toNat)
  case atStart => exact ⟨0, by omega, rfl, rfl, Below.refl _ _⟩
  case round =>
    obtain ⟨k, hk, rfl, hany, hbr⟩ := hrel
    by_cases hlt : k < xs.length
    · have hne : xs ≠ [] := by intro e; rw [e] at hlt; simp at hlt
      obtain ⟨b, o, rfl, hblt, hc⟩ := HX.out.cells2 hne
      obtain ⟨g0, g1⟩ := hc k hlt
      rw [← hbr.cell (p := ⟨_, _, none⟩) hblt] at g0 g1
      have hbw : b < wr.heap.size := Nat.lt_of_lt_of_le hblt hbr.size
      clear hc
      have HT := hidd (anyS_take (block := n) hlt)
      have HM := hidd (List.getElem_mem hlt)
      generalize xs[k] = y at *
      obtain ⟨y0, y1⟩ := y
      simp only [] at g0 g1
      generalize hh : hasS y0 y1 n = r
      have HH := hidd hh
      clear hh
      go_wp2_with fail
      refine (sHas_c _ _ _ _).mono ?_; rintro e w3 ⟨rfl, hb3⟩
      rw [HH.out]
      cases r
      · go_wp2_with fail
        go_roundw
        case rel => exact ⟨k + 1, by omega, by go_num, by show _ = _; rw [HT.out, hany.out, HH.out]; rfl, hbr.trans (hb3.mono hbr.size)⟩
        case measure => simp [intOf]; omega
      · go_wp2_with fail
        go_ret
        refine ⟨?_, hbr.trans (hb3.mono hbr.size)⟩
        rw [show anyS n xs = true from anyS_iff.2 ⟨(y0, y1), HM.out, HH.out⟩]; rfl
    · obtain rfl : k = xs.length := by omega
      rw [List.take_length] at hany
      go_wp2_with fail
      go_ret
      exact ⟨by rw [hany.out]; rfl, hbr⟩

set_option maxHeartbeats 2000000 in
set_option maxRecDepth 100000 in
theorem sameSpans_c (A B : Option Addr) (na nb ca cb : Nat) (xs ys : List Sp) (w : World) (hx : Rd 2 encS w A xs) (hy : Rd 2 encS w B ys) (hna : na = xs.length) (hnb : nb = ys.length) (hbig : xs.length ≤ 2000000000) (hbig2 : ys.length ≤ 2000000000) :
    Calls Try.prog 32 #[.slice A na ca, .slice B nb cb] w fun e w' => e = .returned (.bool (decide (xs = ys))) ∧ Below w.heap.size w w' := by
  subst hna hnb
  have HX := hidd hx
  have HY := hidd hy
  clear hx hy
  by_cases hl : xs.length = ys.length
  · have HL := hidd hl
    clear hl
    go_enter Try.func32, Try.ntmps32
    rw [← HL.out]
    go_wp2_with fail
    go_loopw [5] (fun i wr => ∃ k : Nat, k ≤ xs.length ∧ i = .int .i64 k ∧ Hid (xs.take k = ys.take k) ∧ Below w.heap.size w wr) (fun i _ => xs.length - (intOf i).toNat)
    case atStart => exact ⟨0, by omega, rfl, rfl, Below.refl _ _⟩
    case round =>
      obtain ⟨k, hk, rfl, hsm, hbr⟩ := hrel
      by_cases hlt : k < xs.length
      · have hlt2 : k < ys.length := by have := HL.out; omega
        have hne : xs ≠ [] := by intro e; rw [e] at hlt; simp at hlt
        have hne2 : ys ≠ [] := by intro e; rw [e] at hlt2; simp at hlt2
        obtain ⟨b, o, rfl, hblt, hc⟩ := HX.out.cells2 hne
        obtain ⟨b2, o2, rfl, hblt2, hc2⟩ := HY.out.cells2 hne2
        obtain ⟨g0, g1⟩ := hc k hlt
        obtain ⟨j0, j1⟩ := hc2 k hlt2
        rw [← hbr.cell (p := ⟨_, _, none⟩) hblt] at g0 g1
        rw [← hbr.cell (p := ⟨_, _, none⟩) hblt2] at j0 j1
        have hbw : b < wr.heap.size := Nat.lt_of_lt_of_le hblt hbr.size
        have hbw2 : b2 < wr.heap.size := Nat.lt_of_lt_of_le hblt2 hbr.size
        clear hc hc2
        have HT1 := hidd (List.take_succ_eq_append_getElem hlt)
        have HT2 := hidd (List.take_succ_eq_append_getElem hlt2)
        have HG1 := hidd (List.getElem?_eq_getElem hlt)
        have HG2 := hidd (List.getElem?_eq_getElem hlt2)
        generalize xs[k] = y at *
        generalize ys[k] = z at *
        obtain ⟨y0, y1⟩ := y
        obtain ⟨z0, z1⟩ := z
        simp only [] at g0 g1 j0 j1
        by_cases he : y0 = z0 ∧ y1 = z1
        · obtain ⟨rfl, rfl⟩ := he
          go_wp2_with fail
          go_quiet (fail)
          go_wp2_with fail
          go_roundw
          case rel => exact ⟨k + 1, by omega, by go_num, by show _ = _; rw [HT1.out, HT2.out, hsm.out], hbr.trans (below_drewN (Below.refl _ _) _)⟩
          case measure => simp [intOf]; omega
        · have HN : Hid (xs ≠ ys) := by
            show xs ≠ ys
            intro e
            have h1 := HG1.out
            rw [e, HG2.out] at h1
            injection h1 with h1
            injection h1 with h1 h2
            exact he ⟨h1.symm, h2.symm⟩
          have hd : (decide (y0 = z0) && decide (y1 = z1)) = false := by
            rw [Bool.eq_false_iff]; intro h
            rw [Bool.and_eq_true, decide_eq_true_iff, decide_eq_true_iff] at h
            exact he h
          by_cases he0 : y0 = z0
          · subst he0
            have he1 : ¬ y1 = z1 := fun h => he ⟨rfl, h⟩
            clear he hd
            go_wp2_with fail
            go_quiet (fail)
            go_wp2_with fail
            go_ret
            exact ⟨by rw [decide_eq_false HN.out]; rfl, hbr.trans (below_drewN (Below.refl _ _) _)⟩
          · clear he hd
            go_wp2_with fail
            go_quiet (fail)
            go_wp2_with fail
            go_ret
            exact ⟨by rw [decide_eq_false HN.out]; rfl, hbr.trans (below_drewN (Below.refl _ _) _)⟩
      · obtain rfl : k = xs.length := by omega
        have he : Hid (xs = ys) := by
          have := hsm.out
          rw [List.take_length, HL.out, List.take_length] at this
          exact this
        go_wp2_with fail
        go_ret
        exact ⟨by rw [decide_eq_true he.out]; rfl, hbr⟩
  · have hl2 : ¬ ((xs.length : Int) = (ys.length : Int)) := by omega
    have HN : Hid (xs ≠ ys) := fun e => hl (congrArg List.length e)
    go_enter Try.func32, Try.ntmps32
    go_wp2_with fail
    go_ret
    exact ⟨by rw [decide_eq_false HN.out]; rfl, Below.refl _ _⟩
end Go.Proofs.Ytiokkoeciijkoaa
