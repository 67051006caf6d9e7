/- imap: Parts. -/
import Derived.Test.YtiokkoeciijkoaaGreatImapH
namespace Go.Proofs.YtiokkoeciijkoaaGreat
set_option linter.unusedVariables false
set_option linter.unusedSimpArgs false
open Go.RowKit

def meetP (s0 s1 : Int) (x : Pt Int) : List (Pt Int) := if meetB x.1 x.2.1 s0 s1 then [(meetF x.1 x.2.1 s0 s1, meetT x.1 x.2.1 s0 s1, x.2.2)] else []
def partsP (s0 s1 : Int) (l : List (Pt Int)) : List (Pt Int) := l.flatMap (meetP s0 s1)
theorem partsP_take {s0 s1 : Int} {l : List (Pt Int)} {k : Nat} (h : k < l.length) : partsP s0 s1 (l.take (k + 1)) = partsP s0 s1 (l.take k) ++ meetP s0 s1 l[k] := by
  unfold partsP; rw [List.take_succ_eq_append_getElem h, List.flatMap_append]; simp
theorem partsP_len (s0 s1 : Int) (l : List (Pt Int)) : (partsP s0 s1 l).length ≤ l.length := by
  unfold partsP
  induction l with
  | nil => simp
  | cons p l ih =>
    have : (meetP s0 s1 p).length ≤ 1 := by unfold meetP; split <;> simp
    rw [List.flatMap_cons, List.length_append, List.length_cons]; omega

set_option maxHeartbeats 4000000 in
set_option maxRecDepth 100000 in
theorem iParts_c {F : Nat → Prop} (p : Nat) (xs : List (Pt Int)) (s0 s1 : Int) (w : World) (h : IM F w p xs) (hl : xs.length ≤ 100000000) :
    Calls Tryz.prog 40 #[ptr p, spV s0 s1] w fun e w' => (∃ v, e = .returned v ∧ Own 3 encP 159 w' w.heap.size v (partsP s0 s1 xs)) ∧ Below w.heap.size w w' := by
  obtain ⟨A, c, hbk, hrd, _⟩ := h.ex
  have hpx := hbk.bx1
  have HR := hidd hrd
  have HB0 := hidd (below_alloc w (.cells #[.int .i64 s0, .int .i64 s1] 43))
  have HXB := hidd (Bx2.new w (.int .i64 s0) (.int .i64 s1) 43 rfl)
  clear h hbk hrd
  go_enter Tryz.func40, Tryz.ntmps40
  go_wp2_with fail
  go_loopw [5, 17] (fun v i wr => ∃ k : Nat, k ≤ xs.length ∧ i = .int .i64 k ∧ Hid (Own 3 encP 159 wr (w.heap.size + 1) v (partsP s0 s1 (xs.take k))) ∧ Below (w.heap.size + 1) (w.alloc (.cells #[.int .i64 s0, .int .i64 s1] 43)) wr) (fun _ i _ => xs.length - (intOf i).toNat)
  case atStart => exact ⟨0, by omega, rfl, World.ownsRow_nil _ _ _ _, Below.refl _ _⟩
  case round =>
    obtain ⟨k, hk, rfl, hown, hbr⟩ := hrel
    have hsz0 : w.heap.size + 1 ≤ wr.heap.size := by have := hbr.size; simpa using this
    have hBw : Below w.heap.size w wr := HB0.out.trans (hbr.mono (by omega))
    by_cases hlt : k < xs.length
    · have hne : xs ≠ [] := by intro e; rw [e] at hlt; simp at hlt
      obtain ⟨b, o, rfl, hblt, hc⟩ := HR.out.cells3 hne
      obtain ⟨g0, g1, g2⟩ := hc k hlt
      rw [← hBw.cell (p := ⟨_, _, none⟩) hblt] at g0 g1 g2
      have hbw : b < wr.heap.size := Nat.lt_of_lt_of_le hblt hBw.size
      clear hc
      have HT := hidd (partsP_take (s0 := s0) (s1 := s1) hlt)
      have hpl : (partsP s0 s1 (xs.take k)).length ≤ 100000000 := by have := partsP_len s0 s1 (xs.take k); rw [List.length_take] at this; omega
      generalize xs[k] = y at *
      obtain ⟨x0, x1, xv⟩ := y
      simp only [] at g0 g1 g2
      have xb := HXB.out.next hbr (by simp)
      generalize hm : meetB x0 x1 s0 s1 = r
      have HM := hidd hm
      clear hm
      go_wp2_with fail
      refine (sMeet_c _ _ _ _ _).mono ?_; rintro e w3 ⟨rfl, hb3⟩
      rw [HM.out]
      have xp := (Bk.new wr #[.int .i64 x0, .int .i64 x1, .int .i64 xv] 159 rfl |>.next hb3 (Nat.le_refl _)).bx3
      replace hb3 := below_alloc1 hb3
      cases r
      · go_wp2_with fail
        go_roundw
        case rel => exact ⟨k + 1, by omega, by go_num, by show Own _ _ _ _ _ _ _; rw [HT.out, show meetP s0 s1 (x0, x1, xv) = [] by unfold meetP; rw [if_neg (by simp [HM.out])], List.append_nil]; exact own_below hown.out (hb3.trans ((below_alloc w3 _).mono hb3.size)), hbr.trans ((hb3.trans ((below_alloc w3 _).mono hb3.size)).mono hsz0)⟩
        case measure => simp [intOf]; omega
      · go_wp2_with (at_builtin; refine wpList_app_new3 Tryz.underlying66 infoPartI rfl (by decide) hown.out hsz0 ?c1 rfl rfl rfl rfl ?c2 (by decide) ?c3 ?c4 ?c5 ?c6 (fun v' w' hown' hb' hk' => ?_))
        case c1 => exact hb3.trans ((below_alloc w3 _).mono hb3.size)
        case c2 => simp
        case c3 => rfl
        case c4 => simp [Value.oneCell']
        case c5 => unfold maxLen; omega
        case c6 => omega
        go_roundw
        case rel => exact ⟨k + 1, by omega, by go_num, by show Own _ _ _ _ _ _ _; rw [HT.out, show meetP s0 s1 (x0, x1, xv) = [(meetF x0 x1 s0 s1, meetT x0 x1 s0 s1, xv)] by unfold meetP; rw [if_pos HM.out]]; unfold Own; rw [List.flatMap_append, List.length_append]; exact hown', hbr.trans hb'⟩
        case measure => simp [intOf]; omega
    · obtain rfl : k = xs.length := by omega
      rw [List.take_length] at hown
      go_wp2_with fail
      go_ret
      exact ⟨⟨_, rfl, own_base hown.out (by omega)⟩, hBw⟩
end Go.Proofs.YtiokkoeciijkoaaGreat
