/- The reference's maps: Clear, walked. -/
import Derived.Test.YtiokkoeciijkoaaRefM
import Derived.Test.YtiokkoeciijkoaaRefV
import Derived.Test.YtiokkoeciijkoaaRowX
namespace Go.Proofs.Ytiokkoeciijkoaa
set_option linter.unusedVariables false
set_option linter.unusedSimpArgs false
open Go.RowKit

theorem infoRPart : (Try.prog.info? 94).map (fun i => (i.zero, i.size, i.bytes)) = some (some (.agg #[.int .i64 0, .int .i64 0, .int .i64 0]), 3, 24) := by kernel_rfl

set_option maxHeartbeats 8000000 in
set_option maxRecDepth 100000 in
theorem rmClearV_c (A : Option Addr) (n c : Nat) (m : List (Pt Int)) (s0 s1 : Int) (w : World) (hr : Rd 3 encP w A m) (hn : n = m.length) (hm : CanP m) (hv : vld s0 s1 = true) (hl : m.length ≤ 10000000) :
    Calls Try.prog 119 #[.slice A n c, spV s0 s1] w fun e w' => (∃ v', e = .returned v' ∧ Own 3 encP 94 w' w.heap.size v' (clearF s0 s1 m)) ∧ Below w.heap.size w w' := by
  subst hn
  have HR := hidd hr
  have HM := hidd hm
  have HB0 := hidd (below_alloc w (.cells #[.int .i64 s0, .int .i64 s1] 27))
  have HXB := hidd (Bk.new w #[.int .i64 s0, .int .i64 s1] 27 rfl)
  clear hr hm
  have HV := hidd hv
  have hs := hidd (vld_iff.1 hv)
  clear hv
  have HCL := hidd (clrF_clear hs.out HM.out)
  have hcl := clrF_len s0 s1 m
  go_enter Try.func119, Try.ntmps119
  go_wp2_with fail
  refine (rValid_c _ _ _).mono ?_; rintro e w1 ⟨rfl, hb1⟩
  rw [HV.out]
  have hb01 := HB0.out.trans (hb1.mono (by simp))
  have hbx := hidd (HXB.out.next hb1 (Nat.le_refl _))
  have HR1 := hidd (HR.out.below hb01 (Nat.le_refl _))
  have hw1 : w.heap.size < w1.heap.size := hbx.out.lt
  clear hb1 HXB
  go_wp2_with fail
  go_loopw [5, 6] (fun u i wr => ∃ k : Nat, k ≤ m.length ∧ i = .int .i64 k ∧ Hid (Own 3 encP 94 wr w1.heap.size u (clrF s0 s1 (m.take k))) ∧ Below w1.heap.size w1 wr) (fun _ i _ => m.length - (intOf i).toNat)
  case atStart => exact ⟨0, by omega, rfl, World.ownsRow_nil _ _ _ _, Below.refl _ _⟩
  case round =>
    obtain ⟨k, hk, rfl, hown, hbr⟩ := hrel
    by_cases hlt : k < m.length
    · have hne : m ≠ [] := by intro e; rw [e] at hlt; simp at hlt
      obtain ⟨b, o, rfl, hblt, hc⟩ := HR1.out.cells3 hne
      obtain ⟨g0, g1, g2⟩ := hc k hlt
      rw [← hbr.cell (p := ⟨_, _, none⟩) hblt] at g0 g1 g2
      have hbw : b < wr.heap.size := Nat.lt_of_lt_of_le hblt hbr.size
      clear hc
      have HT := hidd (clrF_take (s0 := s0) (s1 := s1) hlt)
      have hck : (clrF s0 s1 (m.take k)).length ≤ 20000000 := by have := clrF_len s0 s1 (m.take k); rw [List.length_take] at this; omega
      generalize m[k] = y at *
      generalize clrF s0 s1 (m.take k) = D at *
      obtain ⟨x0, x1, xv⟩ := y
      simp only [] at g0 g1 g2
      have HC1 : Hid (clr1 s0 s1 (x0, x1, xv) = (if x0 < s0 then [(x0, min x1 s0, xv)] else []) ++ (if s1 < x1 then [(max x0 s1, x1, xv)] else [])) := rfl
      have hsb := (hbx.out.next hbr (Nat.le_refl _)).bx2
      have hBa := hidd (below_alloc wr (.cells #[.int .i64 x0, .int .i64 x1, .int .i64 xv] 94))
      have hownA := hidd (own_below hown.out hBa.out)
      have hbkA := hidd (Bk.new wr #[.int .i64 x0, .int .i64 x1, .int .i64 xv] 94 rfl)
      have hbsA : w1.heap.size ≤ (wr.alloc (.cells #[.int .i64 x0, .int .i64 x1, .int .i64 xv] 94)).heap.size := by have := hbr.size; simp; omega
      have hwsz : w1.heap.size ≤ wr.heap.size := hbr.size
      have HFAR := hidd (own_far hown.out (k := wr.heap.size) (Nat.le_refl _))
      by_cases h1 : x0 < s0
      · by_cases h2 : s1 < x1
        · go_wp2_with (first
            | (at_builtin; refine wpList_app_new3 (P := Try.prog) Try.underlying88 infoRPart rfl (by decide) hownA.out hbsA (Below.refl _ _) rfl rfl rfl rfl (by simp) (by decide) rfl (by simp [Value.oneCell']) (by unfold maxLen; omega) (by omega) (fun v' w' hown' hb' hk' => ?_)
               have hkk0 := hk' wr.heap.size
               obtain ⟨A', c', rfl⟩ := own_shape hown'
               have hkk := (hkk0 HFAR.out (by simp)).2 _ _ hbkA.out
               have hx3 := hkk.bx3
               have hs3 := (Bk.next (hbx.out.next hbr (Nat.le_refl _)) (hBa.out.mono (B' := wr.heap.size) (Nat.le_refl _)) (Nat.le_refl _))
               have hs4 : Bk w' w.heap.size #[.int .i64 s0, .int .i64 s1] 27 := (hb'.block w.heap.size hw1).trans hs3
               have hs5 := hs4.bx2
               have hwx : wr.heap.size < w'.heap.size := hkk.lt
               have hown2 := hidd hown'
               have hB2 := hidd hb'
               clear hkk hkk0 hs3 hs4 hk' hown' hb')
            | (at_builtin; refine wpList_app_new3 (P := Try.prog) Try.underlying88 infoRPart rfl (by decide) hown2.out (Nat.le_trans hbsA hB2.out.size) (Below.refl _ _) rfl rfl rfl rfl (by simp) (by decide) rfl (by simp [Value.oneCell']) (by unfold maxLen; omega) (by omega) (fun v'' w'' hown' hb' hk' => ?_)
               have hown3 := hidd hown'
               have hB3 := hidd hb'
               clear hk' hown' hb'))
          go_roundw
          case rel => exact ⟨k + 1, by omega, by go_num, by show Own _ _ _ _ _ _ _; rw [HT.out, HC1.out, if_pos h1, if_pos h2, ← List.append_assoc]; unfold Own; rw [List.flatMap_append, List.length_append, List.flatMap_append, List.length_append]; exact hown3.out, (hbr.trans (hBa.out.mono hwsz)).trans (hB2.out.trans hB3.out)⟩
          case measure => simp [intOf]; omega
        · have hd2 : decide (s1 < x1) = false := by simp; omega
          go_wp2_with (first
            | (at_builtin; refine wpList_app_new3 (P := Try.prog) Try.underlying88 infoRPart rfl (by decide) hownA.out hbsA (Below.refl _ _) rfl rfl rfl rfl (by simp) (by decide) rfl (by simp [Value.oneCell']) (by unfold maxLen; omega) (by omega) (fun v' w' hown' hb' hk' => ?_)
               have hkk0 := hk' wr.heap.size
               obtain ⟨A', c', rfl⟩ := own_shape hown'
               have hkk := (hkk0 HFAR.out (by simp)).2 _ _ hbkA.out
               have hx3 := hkk.bx3
               have hs3 := (Bk.next (hbx.out.next hbr (Nat.le_refl _)) (hBa.out.mono (B' := wr.heap.size) (Nat.le_refl _)) (Nat.le_refl _))
               have hs4 : Bk w' w.heap.size #[.int .i64 s0, .int .i64 s1] 27 := (hb'.block w.heap.size hw1).trans hs3
               have hs5 := hs4.bx2
               have hwx : wr.heap.size < w'.heap.size := hkk.lt
               have hown2 := hidd hown'
               have hB2 := hidd hb'
               clear hkk hkk0 hs3 hs4 hk' hown' hb'))
          go_roundw
          case rel => exact ⟨k + 1, by omega, by go_num, by show Own _ _ _ _ _ _ _; rw [HT.out, HC1.out, if_pos h1, if_neg h2, List.append_nil]; unfold Own; rw [List.flatMap_append, List.length_append]; exact hown2.out, (hbr.trans (hBa.out.mono hwsz)).trans hB2.out⟩
          case measure => simp [intOf]; omega
      · by_cases h2 : s1 < x1
        · have hd1 : decide (x0 < s0) = false := by simp; omega
          go_wp2_with (first
            | (at_builtin; refine wpList_app_new3 (P := Try.prog) Try.underlying88 infoRPart rfl (by decide) hownA.out hbsA (Below.refl _ _) rfl rfl rfl rfl (by simp) (by decide) rfl (by simp [Value.oneCell']) (by unfold maxLen; omega) (by omega) (fun v' w' hown' hb' hk' => ?_)
               have hkk0 := hk' wr.heap.size
               obtain ⟨A', c', rfl⟩ := own_shape hown'
               have hkk := (hkk0 HFAR.out (by simp)).2 _ _ hbkA.out
               have hx3 := hkk.bx3
               have hs3 := (Bk.next (hbx.out.next hbr (Nat.le_refl _)) (hBa.out.mono (B' := wr.heap.size) (Nat.le_refl _)) (Nat.le_refl _))
               have hs4 : Bk w' w.heap.size #[.int .i64 s0, .int .i64 s1] 27 := (hb'.block w.heap.size hw1).trans hs3
               have hs5 := hs4.bx2
               have hwx : wr.heap.size < w'.heap.size := hkk.lt
               have hown2 := hidd hown'
               have hB2 := hidd hb'
               clear hkk hkk0 hs3 hs4 hk' hown' hb'))
          go_roundw
          case rel => exact ⟨k + 1, by omega, by go_num, by show Own _ _ _ _ _ _ _; rw [HT.out, HC1.out, if_neg h1, if_pos h2, List.nil_append]; unfold Own; rw [List.flatMap_append, List.length_append]; exact hown2.out, (hbr.trans (hBa.out.mono hwsz)).trans hB2.out⟩
          case measure => simp [intOf]; omega
        · have hd1 : decide (x0 < s0) = false := by simp; omega
          have hd2 : decide (s1 < x1) = false := by simp; omega
          go_wp2_with fail
          go_roundw
          case rel => exact ⟨k + 1, by omega, by go_num, by show Own _ _ _ _ _ _ _; rw [HT.out, HC1.out, if_neg h1, if_neg h2, List.append_nil, List.append_nil]; exact hownA.out, hbr.trans (hBa.out.mono hwsz)⟩
          case measure => simp [intOf]; omega
    · obtain rfl : k = m.length := by omega
      rw [List.take_length, HCL.out] at hown
      obtain ⟨A2, c2, h2⟩ := own_shape hown.out
      subst h2
      go_wp2_with fail
      go_ret
      exact ⟨⟨_, rfl, own_base hown.out hb01.size⟩, hb01.trans (hbr.mono hb01.size)⟩

set_option maxHeartbeats 8000000 in
set_option maxRecDepth 100000 in
theorem rmClear_c (A : Option Addr) (n c : Nat) (m : List (Pt Int)) (s0 s1 : Int) (w : World) (hr : Rd 3 encP w A m) (hn : n = m.length) (hm : CanP m) (hl : m.length ≤ 10000000) :
    Calls Try.prog 119 #[.slice A n c, spV s0 s1] w fun e w' => (∃ A' c', e = .returned (.slice A' (clearF s0 s1 m).length c') ∧ Rd 3 encP w' A' (clearF s0 s1 m)) ∧ Below w.heap.size w w' := by
  subst hn
  have HR := hidd hr
  have HM := hidd hm
  have HB0 := hidd (below_alloc w (.cells #[.int .i64 s0, .int .i64 s1] 27))
  have HXB := hidd (Bk.new w #[.int .i64 s0, .int .i64 s1] 27 rfl)
  clear hr hm
  cases hv : vld s0 s1 with
  | false =>
    have HV := hidd hv
    clear hv
    go_enter Try.func119, Try.ntmps119
    go_wp2_with fail
    refine (rValid_c _ _ _).mono ?_; rintro e w1 ⟨rfl, hb1⟩
    rw [HV.out]
    have hb01 := HB0.out.trans (hb1.mono (by simp))
    go_wp2_with fail
    go_ret
    rw [clearF_no HV.out]
    exact ⟨⟨_, _, rfl, HR.out.below hb01 (Nat.le_refl _)⟩, hb01⟩
  | true =>
    refine (rmClearV_c A _ c m s0 s1 w HR.out rfl HM.out hv hl).mono ?_
    rintro e w1 ⟨⟨v1, rfl, ho1⟩, hb1⟩
    obtain ⟨A1, c1, rfl⟩ := own_shape ho1
    exact ⟨⟨_, _, rfl, Own.rd ho1 rfl⟩, hb1⟩
end Go.Proofs.Ytiokkoeciijkoaa
