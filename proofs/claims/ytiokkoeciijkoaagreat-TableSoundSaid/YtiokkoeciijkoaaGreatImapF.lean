/- imap: Get, Len, New. -/
import Derived.Test.YtiokkoeciijkoaaGreatImapE
namespace Go.Proofs.YtiokkoeciijkoaaGreat
set_option linter.unusedVariables false
set_option linter.unusedSimpArgs false
open Go.RowKit

set_option maxHeartbeats 4000000 in
set_option maxRecDepth 100000 in
theorem iGet_c {F : Nat → Prop} (p : Nat) (xs : List (Pt Int)) (n : Int) (w : World) (h : IM F w p xs) (hl : xs.length ≤ 1000000000) :
    Calls Tryz.prog 43 #[ptr p, .int .i64 n] w fun e w' => e = .returned (.tuple #[.int .i64 ((getP n xs).getD 0), .bool (getP n xs).isSome]) ∧ Below w.heap.size w w' := by
  obtain ⟨A, c, hbk, hrd, _⟩ := h.ex
  have hpx := hbk.bx1
  have HR := hidd hrd
  clear h hbk hrd
  go_enter Tryz.func43, Tryz.ntmps43
  go_wp2_with fail
  go_loopw [17] (fun i wr => ∃ k : Nat, k ≤ xs.length ∧ i = .int .i64 k ∧ Hid (∀ j (hj : j < xs.length), j < k → hasS xs[j].1 xs[j].2.1 n = false) ∧ Below w.heap.size w wr) (fun i _ => xs.length - (intOf i).toNat)
  case atStart => exact ⟨0, by omega, rfl, fun j _ hj => absurd hj (by omega), Below.refl _ _⟩
  case round =>
    obtain ⟨k, hk, rfl, hno, hbr⟩ := hrel
    by_cases hlt : k < xs.length
    · have hne : xs ≠ [] := by intro e; rw [e] at hlt; simp at hlt
      obtain ⟨b, o, rfl, hblt, hc⟩ := HR.out.cells3 hne
      obtain ⟨g0, g1, g2⟩ := hc k hlt
      rw [← hbr.cell (p := ⟨_, _, none⟩) hblt] at g0 g1 g2
      have hbw : b < wr.heap.size := Nat.lt_of_lt_of_le hblt hbr.size
      clear hc
      have HH : Hid (hasS xs[k].1 xs[k].2.1 n = true → getP n xs = some xs[k].2.2) := fun h => getP_hit hlt (fun j hj => hno.out j (by omega) hj) h
      have HN : Hid (hasS xs[k].1 xs[k].2.1 n = false → ∀ j (hj : j < xs.length), j < k + 1 → hasS xs[j].1 xs[j].2.1 n = false) := by
        intro h j hj hjk
        by_cases hjk2 : j < k
        · exact hno.out j hj hjk2
        · have : j = k := by omega
          subst this; exact h
      generalize xs[k] = y at *
      obtain ⟨x0, x1, xv⟩ := y
      simp only [] at g0 g1 g2
      generalize hh : hasS x0 x1 n = r
      have HR2 := hidd hh
      clear hh
      go_wp2_with fail
      refine (sHas_c _ _ _ _).mono ?_; rintro e w3 ⟨rfl, hb3⟩
      rw [HR2.out]
      have xb := (Bk.new wr #[.int .i64 x0, .int .i64 x1, .int .i64 xv] 159 rfl |>.next hb3 (Nat.le_refl _)).bx3
      replace hb3 := below_alloc1 hb3
      cases r
      · go_wp2_with fail
        go_roundw
        case rel => exact ⟨k + 1, by omega, by go_num, HN.out HR2.out, hbr.trans (hb3.mono hbr.size)⟩
        case measure => simp [intOf]; omega
      · go_wp2_with fail
        refine bodyPost_ret (v := .tuple #[.int .i64 xv, .bool true]) (by simp [results, Tryz.results43, go_sem]) rfl ⟨by rw [HH.out HR2.out]; rfl, hbr.trans (hb3.mono hbr.size)⟩
    · obtain rfl : k = xs.length := by omega
      have HG : Hid (getP n xs = none) := getP_none.2 fun x hx => by
        obtain ⟨j, hj, rfl⟩ := List.getElem_of_mem hx
        exact hno.out j hj hj
      go_wp2_with fail
      refine bodyPost_ret (v := .tuple #[.int .i64 0, .bool false]) (by simp [results, Tryz.results43, go_sem]) rfl ⟨by rw [HG.out]; rfl, hbr⟩

set_option maxHeartbeats 4000000 in
set_option maxRecDepth 100000 in
theorem iLen_c {F : Nat → Prop} (p : Nat) (xs : List (Pt Int)) (w : World) (h : IM F w p xs) (hl : xs.length ≤ 1000000000) :
    Calls Tryz.prog 47 #[ptr p] w fun e w' => e = .returned (.int .i64 xs.length) ∧ Below w.heap.size w w' := by
  obtain ⟨A, c, hbk, hrd, _⟩ := h.ex
  have hpx := hbk.bx1
  clear h hbk hrd
  go_enter Tryz.func47, Tryz.ntmps47
  go_wp2_with fail
  go_ret
  exact ⟨rfl, Below.refl _ _⟩

set_option maxHeartbeats 4000000 in
set_option maxRecDepth 100000 in
theorem iNew_c (w : World) :
    Calls Tryz.prog 32 #[] w fun e w' => e = .returned (ptr w.heap.size) ∧ (∀ F, IM F w' w.heap.size []) ∧ Below w.heap.size w w' := by
  go_enter Tryz.func32, Tryz.ntmps32
  go_wp2_with fail
  go_ret
  exact ⟨rfl, fun F => ⟨none, 0, Bk.new w _ _ rfl, .inl rfl, fun b o h => absurd rfl h⟩, below_alloc _ _⟩
end Go.Proofs.YtiokkoeciijkoaaGreat
