/- The reference's maps: Parts, walked. -/
import Derived.Test.YtiokkoeciijkoaaRefC
import Derived.Deep.RegionLaw
namespace Go.Proofs.Ytiokkoeciijkoaa
set_option linter.unusedVariables false
set_option linter.unusedSimpArgs false
open Go.RowKit

theorem Bk.set2 {W : World} {q : Nat} {a b a' b' : Value} {t : TypeId} (h : Bk W q #[a, b] t) : Bk ((W.setCell ⟨q, 0, none⟩ a').setCell ⟨q, 1, none⟩ b') q #[a', b'] t := by
  show ((W.setCell ⟨q, 0, none⟩ a').setCell ⟨q, 1, none⟩ b').heap[q]? = _
  simp only [World.setCell]
  rw [Array.getElem?_modify, if_pos rfl, Array.getElem?_modify, if_pos rfl, h]
  rfl

set_option maxHeartbeats 8000000 in
set_option maxRecDepth 100000 in
theorem rmParts_c (A : Option Addr) (n c : Nat) (m : List (Pt Int)) (s0 s1 : Int) (w : World) (hr : Rd 3 encP w A m) (hn : n = m.length) (hl : m.length ≤ 10000000) :
    Calls Try.prog 68 #[.slice A n c, spV s0 s1] w fun e w' => (∃ v', e = .returned v' ∧ Own 3 encP 94 w' w.heap.size v' (partsP s0 s1 m)) ∧ Below w.heap.size w w' := by
  subst hn
  have HR := hidd hr
  have HB0 := hidd (below_alloc w (.cells #[.int .i64 s0, .int .i64 s1] 27))
  have HXB := hidd (Bk.new w #[.int .i64 s0, .int .i64 s1] 27 rfl)
  clear hr
  go_enter Try.func68, Try.ntmps68
  go_wp2_with fail
  go_loopw [5, 6] (fun v i wr => ∃ k : Nat, k ≤ m.length ∧ i = .int .i64 k ∧ Hid (Own 3 encP 94 wr (w.heap.size + 1) v (partsP s0 s1 (m.take k))) ∧ Below (w.heap.size + 1) (w.alloc (.cells #[.int .i64 s0, .int .i64 s1] 27)) wr) (fun _ i _ => m.length - (intOf i).toNat)
  case atStart => exact ⟨0, by omega, rfl, World.ownsRow_nil _ _ _ _, Below.refl _ _⟩
  case round =>
    obtain ⟨k, hk, rfl, hown, hbr⟩ := hrel
    have hsz0 : w.heap.size + 1 ≤ wr.heap.size := by have := hbr.size; simpa using this
    have hBw : Below w.heap.size w wr := HB0.out.trans (hbr.mono (by omega))
    have HBX := hidd (HXB.out.next hbr (by simp))
    have hbx := HBX.out.bx2
    by_cases hlt : k < m.length
    · have hne : m ≠ [] := by intro e; rw [e] at hlt; simp at hlt
      obtain ⟨b, o, rfl, hblt, hc⟩ := HR.out.cells3 hne
      have hc' := hc k hlt
      obtain ⟨g0, g1, g2⟩ := hc k hlt
      rw [← hBw.cell (p := ⟨_, _, none⟩) hblt] at g0 g1 g2
      have hbw : b < wr.heap.size := Nat.lt_of_lt_of_le hblt hBw.size
      clear hc hc'
      have HT := hidd (partsP_take (s0 := s0) (s1 := s1) hlt)
      have hpl : (partsP s0 s1 (m.take k)).length ≤ 100000000 := by have := partsP_len s0 s1 (m.take k); rw [List.length_take] at this; omega
      generalize m[k] = y at *
      obtain ⟨x0, x1, xv⟩ := y
      simp only [] at g0 g1 g2
      have HG2 := hidd g2
      have KM := hidd (rMeet_c x0 x1 s0 s1)
      have HMP : Hid (meetP s0 s1 (x0, x1, xv) = if meetB x0 x1 s0 s1 = true then [(meetF x0 x1 s0 s1, meetT x0 x1 s0 s1, xv)] else []) := rfl
      generalize meetF x0 x1 s0 s1 = mf at *
      generalize meetT x0 x1 s0 s1 = mt at *
      generalize meetB x0 x1 s0 s1 = mb at *
      go_upto_region 5 with (fail)
      go_cut [7, 8] (fun p ok wx => ok = .bool mb ∧ (∃ q, p = .pointer (some ⟨q, 0, none⟩) ∧ Hid (Bk wx q #[.int .i64 mf, .int .i64 mt] 27) ∧ wr.heap.size ≤ q) ∧ Below wr.heap.size wr wx)
      case first =>
        go_region_law (first
          | (go_simp; go_at_call 66; refine (KM.out _).mono ?_; rintro e w5 ⟨rfl, hb5⟩; have hq5 : Below wr.heap.size wr w5 := (by first | exact (below_drewN (Below.refl _ _) 1).trans hb5 | exact ((below_drewN (Below.refl wr.heap.size wr) 1).alloc (Nat.le_refl _) _).trans (hb5.mono (by simp))); try have hlit5 : Bk w5 wr.heap.size #[.int .i64 0, .int .i64 0] 27 := (Bk.new wr.drew #[.int .i64 0, .int .i64 0] 27 rfl).next hb5 (Nat.le_refl _); try have hlb5 := hlit5.bx2)
          | fail)
        all_goals
          go_wp2_with fail
          go_meet
          refine ⟨rfl, ⟨_, rfl, ?_, ?_⟩, ?_⟩
          · first
              | exact hlit5.set2
              | exact Bk.new w5 _ 27 rfl
          · first
              | exact Nat.le_refl _
              | exact hq5.size
          · first
              | exact (hq5.setCell (Nat.le_refl _) _).setCell (Nat.le_refl _) _
              | exact hq5.alloc hq5.size _
      case rest =>
        obtain ⟨rfl, ⟨q, rfl, hq, hqw⟩, hbc⟩ := hcut
        have hqx := hq.out.bx2
        have hql : q < wc.heap.size := hq.out.lt
        have g2' := (hbc.cell (p := ⟨b, o + k * 3 + 2, none⟩) hbw).trans HG2.out
        have hbwc : b < wc.heap.size := Nat.lt_of_lt_of_le hbw hbc.size
        have hownc := hidd (own_below hown.out hbc)
        have hszc : w.heap.size + 1 ≤ wc.heap.size := Nat.le_trans hsz0 hbc.size
        clear g0 g1 g2
        cases mb
        · go_wp2_with fail
          go_roundw
          case rel => exact ⟨k + 1, by omega, by go_num, by show Own _ _ _ _ _ _ _; rw [HT.out, HMP.out, if_neg (by simp), List.append_nil]; exact hownc.out, hbr.trans (hbc.mono hsz0)⟩
          case measure => simp [intOf]; omega
        · go_upto_region 7 with (fail)
          go_region_law (first
              | (refine step_app_new (g := wc.heap.size) (m := 1) (c := 1) Try.underlying88 infoRPart rfl (by decide) hownc.out hszc (below_drewN (Below.refl _ _) 1) rfl rfl (by simp [Act.eval, Act.put]) (by simp [Act.eval, Act.put]) (by simp) (by decide) rfl rfl (by unfold maxLen; omega) (by omega) ?_; intro v' w' hown' hb' hk')
              | fail)
          all_goals
            go_wp2_with fail
            go_roundw
            case rel => exact ⟨k + 1, by omega, by go_num, by show Own _ _ _ _ _ _ _; rw [HT.out, HMP.out, if_pos rfl]; unfold Own; rw [List.flatMap_append, List.length_append]; exact hown', (hbr.trans (hbc.mono hsz0)).trans hb'⟩
            case measure => simp [intOf]; omega
    · obtain rfl : k = m.length := by omega
      rw [List.take_length] at hown
      go_wp2_with fail
      go_ret
      exact ⟨⟨_, rfl, own_base hown.out (by omega)⟩, hBw⟩
end Go.Proofs.Ytiokkoeciijkoaa
