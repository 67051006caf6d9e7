/- The walk of TableSound: the law's own 'fits'. -/
import Derived.Test.YtiokkoeciijkoaaGreatTabP
namespace Go.Proofs.YtiokkoeciijkoaaGreat
set_option linter.unusedVariables false
set_option linter.unusedSimpArgs false
open Go.RowKit

/-- what one node holds fits what another one is told to hold, block by block -/
theorem snd_fit {T : Tb} (hG : Good T) {k j : Nat} (hk : k < T.n) (hj : j < T.n) (hne : k ≠ j) {l : Pt Int} (hl : l ∈ T.held (k + 1)) {x : Int} (hx : l.1 ≤ x ∧ x < l.2.1) : fitB l.2.2 (T.mode ((j : Int) + 1) x) = true := by
  have hp := (hG.ok.held (k + 1)).part l hl
  have hlx : getP x (T.held (k + 1)) = some l.2.2 := (getP_at (hG.ok.can _).dis).2 ⟨l, hl, by rw [hasS_iff]; omega, rfl⟩
  unfold Tb.mode
  rw [if_pos (isB_iff.2 (by omega)), show ((j : Int) + 1).toNat = j + 1 by omega]
  cases hg : getP x (T.held (j + 1)) with
  | none =>
    show fitB l.2.2 0 = true
    rcases hp.2.2.2 with h | h <;> rw [h] <;> rfl
  | some u => exact hG.snd k j hk hj hne x _ _ hlx hg

set_option maxHeartbeats 8000000 in
set_option maxRecDepth 100000 in
theorem fits18_c {F : Nat → Prop} (t : Nat) (T : Tb) (w : World) (h : Tab F w t T) (hG : Good T) : Calls Tryz.prog 68 #[ptr t, .int .i64 T.n] w fun e w' => e = .returned (.bool true) ∧ Below w.heap.size w w' := by
  have HT := hidd h
  have HG := hidd hG
  have hn := hG.ok.n.2
  have HHO : Hid (∀ k, k < T.n → T.holds ((k : Int) + 1) = T.held (k + 1)) := fun k hk => by
    unfold Tb.holds; rw [if_pos (isB_iff.2 (by omega))]; rfl
  have HSF : Hid (∀ k, k < T.n → ∀ j, j < T.n → k ≠ j → ∀ l ∈ T.held (k + 1), fitB l.2.2 (T.mode ((j : Int) + 1) l.1) = true ∧ fitB l.2.2 (T.mode ((j : Int) + 1) (l.2.1 - 1)) = true) := fun k hk j hj hne l hl => by
    have hv := (hG.ok.can (k + 1)).val l hl
    exact ⟨snd_fit hG hk hj hne hl ⟨by omega, by omega⟩, snd_fit hG hk hj hne hl ⟨by omega, by omega⟩⟩
  clear h hG
  go_enter Tryz.func68, Tryz.ntmps68
  go_wp2_with fail
  go_loopw [5] (fun o wr => ∃ k : Nat, k ≤ T.n ∧ o = .int .i64 ((k : Int) + 1) ∧ Below w.heap.size w wr) (fun o _ => (T.n + 1 - (intOf o)).toNat)
  case atStart => exact ⟨0, by omega, rfl, Below.refl _ _⟩
  case round =>
    obtain ⟨k, hk, rfl, hbr⟩ := hrel
    by_cases hlt : k < T.n
    · have hkn : (k : Int) + 1 ≤ T.n := by omega
      have HL := hidd (tHolds_c t T ((k : Int) + 1) wr (HT.out.next hbr (Nat.le_refl _)))
      rw [HHO.out k hlt] at HL
      have HSK := hidd (HSF.out k hlt)
      have hll := (HG.out.ok.held (k + 1)).len
      have HPT := hidd ((HG.out.ok.held (k + 1)).part)
      generalize T.held (k + 1) = L at *
      go_wp2_with fail
      refine HL.out.mono ?_; rintro e w5 ⟨⟨v5, rfl, ho5⟩, hb5⟩
      obtain ⟨A5, c5, rfl⟩ := own_shape ho5
      have HR5 := hidd (Own.rd ho5 rfl)
      have hB5 := hbr.trans (hb5.mono hbr.size)
      clear ho5 HL
      obtain ⟨wq, rfl⟩ : ∃ wq : World, wq = wr := ⟨_, rfl⟩
      go_wp2_with fail
      go_loopw [7] (fun o wr => ∃ i : Nat, i ≤ L.length ∧ o = .int .i64 i ∧ Below w5.heap.size w5 wr) (fun o _ => L.length - (intOf o).toNat)
      case atStart => exact ⟨0, by omega, rfl, Below.refl _ _⟩
      case round =>
        obtain ⟨i, hi, rfl, hbi⟩ := hrel
        by_cases hil : i < L.length
        · have hne : L ≠ [] := by intro e; rw [e] at hil; simp at hil
          obtain ⟨b, o, rfl, hblt, hc⟩ := (HR5.out.below hbi (Nat.le_refl _)).cells3 hne
          obtain ⟨g0, g1, g2⟩ := hc i hil
          have HSL := hidd (fun j hj hne => HSK.out j hj hne L[i] (List.getElem_mem hil))
          have hpl := HPT.out L[i] (List.getElem_mem hil)
          clear hc
          generalize L[i] = l at *
          obtain ⟨l0, l1, lv⟩ := l
          simp only [] at g0 g1 g2 hpl
          have hl0 : 0 ≤ l0 := hpl.1
          have hl1 : l1 ≤ 4096 := hpl.2.2.1
          have hl01 : l0 < l1 := hpl.2.1
          clear hpl
          obtain ⟨wz, rfl⟩ : ∃ wz : World, wz = wr := ⟨_, rfl⟩
          go_wp2_with fail
          go_loopw [8] (fun o wr => ∃ j : Nat, k + 1 + j ≤ T.n ∧ o = .int .i64 ((k : Int) + 2 + j) ∧ Below wz.heap.size wz wr) (fun o _ => (T.n + 2 - (intOf o)).toNat)
          case atStart => exact ⟨0, by omega, by go_num, Below.refl _ _⟩
          case round =>
            obtain ⟨j, hj, rfl, hbj⟩ := hrel
            have hBj := (hB5.trans (hbi.mono hB5.size)).trans (hbj.mono (Nat.le_trans hB5.size hbi.size))
            by_cases hjn : k + 1 + j < T.n
            · have hd : decide ((k : Int) + 2 + j ≤ (T.n : Int)) = true := decide_eq_true (by omega)
              obtain ⟨f1, f2⟩ := HSL.out (k + 1 + j) hjn (by omega)
              have q0 := (hbj.cell (p := ⟨_, _, none⟩) hblt).trans g0
              have q1 := (hbj.cell (p := ⟨_, _, none⟩) hblt).trans g1
              have q2 := (hbj.cell (p := ⟨_, _, none⟩) hblt).trans g2
              have hbw : b < wr.heap.size := Nat.lt_of_lt_of_le hblt hbj.size
              have HMD : Hid (∀ (z : Int) x, Calls Tryz.prog 165 #[ptr t, .int .i64 ((k : Int) + 2 + j), .int .i64 z] (regrow wr x) fun e w' => e = .returned (.int .i64 (T.mode (((k + 1 + j : Nat) : Int) + 1) z)) ∧ ∃ x', w' = regrow wr x') := fun z x => by
                have := tMode_c t T ((k : Int) + 2 + j) z (regrow wr x) ((HT.out.next hBj (Nat.le_refl _)).next (below_regrow wr x) (Nat.le_refl _))
                rw [show (((k + 1 + j : Nat) : Int) + 1) = (k : Int) + 2 + j by omega]
                exact this.mono fun e w' ⟨h1, h2⟩ => ⟨h1, regrow_call h2⟩
              change fitB lv (T.mode (((k + 1 + j : Nat) : Int) + 1) l0) = true at f1
              change fitB lv (T.mode (((k + 1 + j : Nat) : Int) + 1) (l1 - 1)) = true at f2
              generalize hm1 : T.mode (((k + 1 + j : Nat) : Int) + 1) l0 = m1 at *
              generalize hm2 : T.mode (((k + 1 + j : Nat) : Int) + 1) (l1 - 1) = m2 at *
              have HM1 : Hid (∀ x, Calls Tryz.prog 165 #[ptr t, .int .i64 ((k : Int) + 2 + j), .int .i64 l0] (regrow wr x) fun e w' => e = .returned (.int .i64 m1) ∧ ∃ x', w' = regrow wr x') := fun x => by have := HMD.out l0 x; rw [hm1] at this; exact this
              have HM2 : Hid (∀ x, Calls Tryz.prog 165 #[ptr t, .int .i64 ((k : Int) + 2 + j), .int .i64 (l1 - 1)] (regrow wr x) fun e w' => e = .returned (.int .i64 m2) ∧ ∃ x', w' = regrow wr x') := fun x => by have := HMD.out (l1 - 1) x; rw [hm2] at this; exact this
              have HF1 : Hid (∀ x, Calls Tryz.prog 164 #[.int .i64 lv, .int .i64 m1] (regrow wr x) fun e w' => e = .returned (.bool true) ∧ ∃ x', w' = regrow wr x') := fun x => (qFit_c lv m1 _).mono fun e w' ⟨h1, h2⟩ => ⟨by rw [h1, f1], ⟨x, h2⟩⟩
              have HF2 : Hid (∀ x, Calls Tryz.prog 164 #[.int .i64 lv, .int .i64 m2] (regrow wr x) fun e w' => e = .returned (.bool true) ∧ ∃ x', w' = regrow wr x') := fun x => (qFit_c lv m2 _).mono fun e w' ⟨h1, h2⟩ => ⟨by rw [h1, f2], ⟨x, h2⟩⟩
              have hwr : IntKind.i64.wrap (l1 - 1) = l1 - 1 := IntWalk.i64_in _ (by omega)
              clear f1 f2 hm1 hm2 HMD
              go_wp2_with fail
              refine wp_calm (by kernel_rfl) ?_
              iterate 13 (go_big_quiet_step (fail))
              go_big_quiet_step ((refine (HM1.out _).mono ?_; rintro e w' ⟨rfl, hb⟩; exact ⟨rfl, hb⟩))
              go_big_quiet_step ((refine (HF1.out _).mono ?_; rintro e w' ⟨rfl, hb⟩; exact ⟨rfl, hb⟩))
              iterate 16 (go_big_quiet_step (fail))
              go_big_quiet_step ((refine (HM2.out _).mono ?_; rintro e w' ⟨rfl, hb⟩; exact ⟨rfl, hb⟩))
              go_big_quiet_step ((refine (HF2.out _).mono ?_; rintro e w' ⟨rfl, hb⟩; exact ⟨rfl, hb⟩))
              iterate 2 (go_big_quiet_step (fail))
              refine wpQuiet_nil ?_
              intro W hW
              clear hwr q0 q1 q2
              go_wp2_with fail
              go_roundw
              case rel => exact ⟨j + 1, by omega, by go_num, hbj.trans (hW.mono hbj.size)⟩
              case measure => simp [intOf]; omega
            · have hd : decide ((k : Int) + 2 + j ≤ (T.n : Int)) = false := decide_eq_false (by omega)
              go_wp2_with fail
              go_roundw
              case rel => exact ⟨i + 1, by omega, by go_num, hbi.trans (hbj.mono hbi.size)⟩
              case measure => simp [intOf]; omega
        · obtain rfl : i = L.length := by omega
          go_wp2_with fail
          go_roundw
          case rel => exact ⟨k + 1, by omega, by go_num, hB5.trans (hbi.mono hB5.size)⟩
          case measure => simp [intOf]; omega
    · obtain rfl : k = T.n := by omega
      have hd : decide ((T.n : Int) + 1 ≤ (T.n : Int)) = false := decide_eq_false (by omega)
      go_wp2_with fail
      go_ret
      exact ⟨rfl, hbr⟩

abbrev Op18 := Int × Int × Int × Int × Int × Int
def encT (x : Op18) : List Value := [.int .i64 x.1, .int .i64 x.2.1, .int .i64 x.2.2.1, .int .i64 x.2.2.2.1, .int .i64 x.2.2.2.2.1, .int .i64 x.2.2.2.2.2]
def okT (x : Op18) : Prop := I64 x.1 ∧ I64 x.2.1 ∧ I64 x.2.2.1 ∧ I64 x.2.2.2.1 ∧ I64 x.2.2.2.2.1 ∧ I64 x.2.2.2.2.2
theorem encT_len (x : Op18) : (encT x).length = 6 := rfl
theorem Rd.cellsT {w : World} {A : Option Addr} {xs : List Op18} (h : Rd 6 encT w A xs) (hx : xs ≠ []) : ∃ b o, A = some ⟨b, o, none⟩ ∧ b < w.heap.size ∧
    ∀ (i : Nat) (hi : i < xs.length), w.cell? ⟨b, o + i * 6, none⟩ = some (.int .i64 xs[i].1) ∧ w.cell? ⟨b, o + i * 6 + 1, none⟩ = some (.int .i64 xs[i].2.1) ∧ w.cell? ⟨b, o + i * 6 + 2, none⟩ = some (.int .i64 xs[i].2.2.1) ∧ w.cell? ⟨b, o + i * 6 + 3, none⟩ = some (.int .i64 xs[i].2.2.2.1) ∧ w.cell? ⟨b, o + i * 6 + 4, none⟩ = some (.int .i64 xs[i].2.2.2.2.1) ∧ w.cell? ⟨b, o + i * 6 + 5, none⟩ = some (.int .i64 xs[i].2.2.2.2.2) := by
  rcases h with h | ⟨b, o, hA, hb, hc⟩
  · exact absurd h hx
  · refine ⟨b, o, hA, hb, fun i hi => ?_⟩
    have hf := flat_at encT 6 encT_len xs i xs[i] (List.getElem?_eq_getElem hi)
    have h0 := hc _ _ (hf 0 (by decide))
    have h1 := hc _ _ (hf 1 (by decide))
    have h2 := hc _ _ (hf 2 (by decide))
    have h3 := hc _ _ (hf 3 (by decide))
    have h4 := hc _ _ (hf 4 (by decide))
    have h5 := hc _ _ (hf 5 (by decide))
    refine ⟨by simpa using h0, ?_, ?_, ?_, ?_, ?_⟩
    · rw [Nat.add_assoc]; exact h1
    · rw [Nat.add_assoc]; exact h2
    · rw [Nat.add_assoc]; exact h3
    · rw [Nat.add_assoc]; exact h4
    · rw [Nat.add_assoc]; exact h5
abbrev Bx6 (W : World) (p : Nat) (a b c d e f : Value) : Prop := W.cell? ⟨p, 0, none⟩ = some a ∧ W.cell? ⟨p, 1, none⟩ = some b ∧ W.cell? ⟨p, 2, none⟩ = some c ∧ W.cell? ⟨p, 3, none⟩ = some d ∧ W.cell? ⟨p, 4, none⟩ = some e ∧ W.cell? ⟨p, 5, none⟩ = some f ∧ p < W.heap.size
theorem Bk.bx6 {W : World} {p : Nat} {a b c d e f : Value} {t : TypeId} (h : Bk W p #[a, b, c, d, e, f] t) : Bx6 W p a b c d e f :=
  ⟨(cell_of_row _ _ 0 _ t (0, 0) h).trans rfl, (cell_of_row _ _ 1 _ t (0, 0) h).trans rfl, (cell_of_row _ _ 2 _ t (0, 0) h).trans rfl, (cell_of_row _ _ 3 _ t (0, 0) h).trans rfl, (cell_of_row _ _ 4 _ t (0, 0) h).trans rfl, (cell_of_row _ _ 5 _ t (0, 0) h).trans rfl, h.lt⟩

/-! what each call does to the numbers -/
structure Nums (T T' : Tb) : Prop where
  n : T'.n = T.n
  last : T'.last ≤ T.last + 1
  waits : T'.waits.length ≤ T.waits.length + 1
theorem nums_ask (T : Tb) (node a b m : Int) : Nums T (T.ask node a b m).tb := by
  unfold Tb.ask
  repeat' split
  all_goals first
    | exact ⟨rfl, Int.le_of_lt (Int.lt_succ T.last), Nat.le_succ _⟩
    | exact ⟨rfl, Int.le_refl (T.last + 1), by show (T.waits ++ [_]).length ≤ _; rw [List.length_append]; exact Nat.le_refl _⟩
theorem nums_grant {T : Tb} (h : TOk T) : Nums T T.grant :=
  ⟨rfl, Int.le_of_lt (Int.lt_succ T.last), by have := (grantF_ok h.held T.waits h.waits).len; show (grantF T.n T.held T.waits).left.length ≤ _; omega⟩
theorem nums_release {T : Tb} (h : TOk T) (a b c d : Int) : Nums T (T.release a b c d) :=
  ⟨release_n T a b c d, by unfold Tb.release; split <;> exact Int.le_of_lt (Int.lt_succ T.last), Nat.le_succ_of_le (release_len h a b c d)⟩
theorem nums_cancel {T : Tb} (h : TOk T) (id : Int) : Nums T (T.cancel id) := by
  have hc : (T.cancelled id).waits.length ≤ T.waits.length := List.length_filter_le _ _
  unfold Tb.cancel
  split
  · exact ⟨rfl, Int.le_of_lt (Int.lt_succ T.last), Nat.le_succ_of_le hc⟩
  · have := nums_grant (h.cancelled id)
    refine ⟨rfl, this.last, ?_⟩
    have h2 := (grantF_ok (h.cancelled id).held (T.cancelled id).waits (h.cancelled id).waits).len
    show (grantF T.n T.held (T.cancelled id).waits).left.length ≤ _
    have h3 : (grantF T.n T.held (T.cancelled id).waits).left.length + (grantF T.n T.held (T.cancelled id).waits).out.length = (T.cancelled id).waits.length := h2
    omega
theorem nums_drop {T : Tb} (h : TOk T) (node : Int) : Nums T (T.drop node) := by
  have hc : (T.dropped node).waits.length ≤ T.waits.length := List.length_filter_le _ _
  unfold Tb.drop
  split
  · refine ⟨rfl, (nums_grant (h.dropped node)).last, ?_⟩
    have h2 := (grantF_ok (h.dropped node).held (T.dropped node).waits (h.dropped node).waits).len
    have h3 : (T.dropped node).grant.waits.length + (grantF (T.dropped node).n (T.dropped node).held (T.dropped node).waits).out.length = (T.dropped node).waits.length := h2
    omega
  · exact ⟨rfl, Int.le_of_lt (Int.lt_succ T.last), Nat.le_succ _⟩
theorem nums_force (T : Tb) (node a b m : Int) : Nums T (T.force node a b m).2 := by
  unfold Tb.force
  repeat' split
  all_goals exact ⟨rfl, Int.le_of_lt (Int.lt_succ T.last), Nat.le_succ _⟩
theorem so_ways (n : Int) (l : Nat) : (decide (n < 1) = true) ∨ (decide (n < 1) = false ∧ decide (16 < n) = true) ∨ (decide (n < 1) = false ∧ decide (16 < n) = false ∧ decide ((50 : Int) < l) = true) ∨ (decide (n < 1) = false ∧ decide (16 < n) = false ∧ decide ((50 : Int) < l) = false ∧ (1 ≤ n ∧ n ≤ 16) ∧ l ≤ 50) := by
  simp only [decide_eq_true_eq, decide_eq_false_iff_not]
  omega
theorem kind_ways (k : Int) : (k == 1) = true ∨ ((k == 1) = false ∧ (k == 2) = true) ∨ ((k == 1) = false ∧ (k == 2) = false ∧ (k == 3) = true) ∨ ((k == 1) = false ∧ (k == 2) = false ∧ (k == 3) = false ∧ (k == 4) = true) ∨ ((k == 1) = false ∧ (k == 2) = false ∧ (k == 3) = false ∧ (k == 4) = false) := by
  cases (k == 1) <;> cases (k == 2) <;> cases (k == 3) <;> cases (k == 4) <;> simp

set_option maxHeartbeats 8000000 in
set_option maxRecDepth 100000 in
theorem TableSound_c (nn : Int) (A : Option Addr) (n c : Nat) (xs : List Op18) (w : World) (hnn : I64 nn) (hr : Rd 6 encT w A xs) (hn : n = xs.length) (_ : ∀ x ∈ xs, okT x) : Calls Tryz.prog 6 #[.int .i64 nn, .slice A n c] w fun e w' => e = .returned (.bool true) ∧ Below w.heap.size w w' := by
  subst hn
  have HR := hidd hr
  clear hnn hr
  rcases so_ways nn xs.length with d1 | ⟨d1, d2⟩ | ⟨d1, d2, d3⟩ | ⟨d1, d2, d3, hN, hl⟩
  case inr.inr.inr =>
    obtain ⟨N, rfl⟩ : ∃ N : Nat, nn = N := ⟨nn.toNat, by omega⟩
    have hN1 : 1 ≤ N := by omega
    have hN2 : N ≤ 16 := by omega
    obtain ⟨F, hF⟩ : ∃ F : Nat → Prop, F = fun k => w.heap.size ≤ k := ⟨_, rfl⟩
    have HF3 : Hid (∀ k, F k → w.heap.size ≤ k) := by rw [hF]; exact fun k h => h
    have HNEW := hidd (tNew_c N hN1 hN2 w)
    rw [← hF] at HNEW
    clear hF hN
    go_enter Tryz.func6, Tryz.ntmps6
    go_wp2_with fail
    refine HNEW.out.mono ?_; rintro e w1 ⟨rfl, hT1, hb1⟩
    have HT1 := hidd hT1
    have HG1 := hidd (Good.new hN1 hN2)
    clear hT1
    go_wp2_with fail
    go_loopw [6] (fun o wr => ∃ (k : Nat) (T : Tb), k ≤ xs.length ∧ o = .int .i64 k ∧ Hid (Good T) ∧ T.n = N ∧ T.last ≤ k ∧ T.waits.length ≤ k ∧ Hid (Tab F wr w.heap.size T) ∧ Below w.heap.size w wr) (fun o _ => xs.length - (intOf o).toNat)
    case atStart => exact ⟨0, _, by omega, rfl, HG1.out, rfl, Int.le_refl _, Nat.le_refl _, HT1.out, hb1⟩
    case round =>
      obtain ⟨k, T, hk, rfl, hG, hTn, hla, hwl, hT, hbr⟩ := hrel
      subst hTn
      by_cases hlt : k < xs.length
      · have hne : xs ≠ [] := by intro e; rw [e] at hlt; simp at hlt
        obtain ⟨b, o, rfl, hblt, hc⟩ := (HR.out.below hbr (Nat.le_refl _)).cellsT hne
        obtain ⟨g0, g1, g2, g3, g4, g5⟩ := hc k hlt
        clear hc
        generalize xs[k] = y at *
        obtain ⟨y0, y1, y2, y3, y4, y5⟩ := y
        simp only [] at g0 g1 g2 g3 g4 g5
        have HBA := hidd (below_alloc wr (.cells #[.int .i64 y0, .int .i64 y1, .int .i64 y2, .int .i64 y3, .int .i64 y4, .int .i64 y5] 103))
        have hyb := (Bk.new wr #[.int .i64 y0, .int .i64 y1, .int .i64 y2, .int .i64 y3, .int .i64 y4, .int .i64 y5] 103 rfl).bx6
        have HTa := hidd (hT.out.next HBA.out (Nat.le_refl _))
        have hBa := hbr.trans (HBA.out.mono hbr.size)
        have HS : Hid (∀ W T', Good T' → Tab F W w.heap.size T' → Calls Tryz.prog 67 #[ptr w.heap.size] W fun e w' => e = .returned (.bool true) ∧ Below W.heap.size W w') := fun W T' hg h => by
          have := tSound_c w.heap.size T' W h
          rw [hg.snd.sound hg.ok] at this; exact this
        have HFI : Hid (∀ W T', Good T' → T'.n = T.n → Tab F W w.heap.size T' → Calls Tryz.prog 68 #[ptr w.heap.size, .int .i64 T.n] W fun e w' => e = .returned (.bool true) ∧ Below W.heap.size W w') := fun W T' hg hn h => by
          have := fits18_c w.heap.size T' W h hg
          rw [hn] at this; exact this
        rcases kind_ways y0 with k1 | ⟨k1, k2⟩ | ⟨k1, k2, k3⟩ | ⟨k1, k2, k3, k4⟩ | ⟨k1, k2, k3, k4⟩
        case' inl =>
          have HNU := hidd (nums_ask T y1 y3 y4 y5)
          have HGO := hidd (hG.out.ask y1 y3 y4 y5)
          have HC : Hid (Calls Tryz.prog 62 #[ptr w.heap.size, .int .i64 y1, lkV y3 y4 y5] (wr.alloc (.cells #[.int .i64 y0, .int .i64 y1, .int .i64 y2, .int .i64 y3, .int .i64 y4, .int .i64 y5] 103)) fun e w' => (∃ u, e = .returned u) ∧ Tab F w' w.heap.size (T.ask y1 y3 y4 y5).tb ∧ BelF F (wr.alloc (.cells #[.int .i64 y0, .int .i64 y1, .int .i64 y2, .int .i64 y3, .int .i64 y4, .int .i64 y5] 103)).heap.size (wr.alloc (.cells #[.int .i64 y0, .int .i64 y1, .int .i64 y2, .int .i64 y3, .int .i64 y4, .int .i64 y5] 103)) w') := (tAsk_c w.heap.size T y1 y3 y4 y5 _ HTa.out (by omega)).mono fun e w' ⟨h1, h2, h3⟩ => ⟨⟨_, h1⟩, h2, h3⟩
          generalize (T.ask y1 y3 y4 y5).tb = T' at *
        case' inr.inl =>
          have HNU := hidd (nums_release hG.out.ok y1 y3 y4 y2)
          have HGO := hidd (hG.out.release y1 y3 y4 y2)
          have HC : Hid (Calls Tryz.prog 63 #[ptr w.heap.size, .int .i64 y1, spV y3 y4, .int .i64 y2] (wr.alloc (.cells #[.int .i64 y0, .int .i64 y1, .int .i64 y2, .int .i64 y3, .int .i64 y4, .int .i64 y5] 103)) fun e w' => (∃ u, e = .returned u) ∧ Tab F w' w.heap.size (T.release y1 y3 y4 y2) ∧ BelF F (wr.alloc (.cells #[.int .i64 y0, .int .i64 y1, .int .i64 y2, .int .i64 y3, .int .i64 y4, .int .i64 y5] 103)).heap.size (wr.alloc (.cells #[.int .i64 y0, .int .i64 y1, .int .i64 y2, .int .i64 y3, .int .i64 y4, .int .i64 y5] 103)) w') := (tRelease_c w.heap.size T y1 y3 y4 y2 _ HTa.out).mono fun e w' ⟨⟨u, h1, _⟩, h2, h3⟩ => ⟨⟨_, h1⟩, h2, h3⟩
          generalize T.release y1 y3 y4 y2 = T' at *
        case' inr.inr.inl =>
          have HNU := hidd (nums_cancel hG.out.ok y2)
          have HGO := hidd (hG.out.cancel y2)
          have HC := hidd (tCancel_c w.heap.size T y2 _ HTa.out)
          generalize T.cancel y2 = T' at *
        case' inr.inr.inr.inl =>
          have HNU := hidd (nums_drop hG.out.ok y1)
          have HGO := hidd (hG.out.drop y1)
          have HC := hidd (tDrop_c w.heap.size T y1 _ HTa.out)
          generalize T.drop y1 = T' at *
        case' inr.inr.inr.inr =>
          have HNU := hidd (nums_force T y1 y3 y4 y5)
          have HGO := hidd (hG.out.force y1 y3 y4 y5)
          have HC := hidd (tForce_c w.heap.size T y1 y3 y4 y5 _ HTa.out)
          generalize (T.force y1 y3 y4 y5).2 = T' at *
        all_goals
          go_wp2_with fail
          refine HC.out.mono ?_; rintro e w3 ⟨⟨u3, rfl⟩, hT3, hb3⟩
          have HT3 := hidd hT3
          have hB3 := hBa.trans (hb3.lo hBa.size HF3.out)
          clear hT3 hb3
          go_wp2_with fail
          refine (HS.out _ _ HGO.out HT3.out).mono ?_; rintro e w4 ⟨rfl, hb4⟩
          have HT4 := hidd (HT3.out.next hb4 (Nat.le_refl _))
          have hB4 := hB3.trans (hb4.mono hB3.size)
          go_wp2_with fail
          refine (HFI.out _ _ HGO.out HNU.out.n HT4.out).mono ?_; rintro e w5 ⟨rfl, hb5⟩
          have HT5 := hidd (HT4.out.next hb5 (Nat.le_refl _))
          have hB5 := hB4.trans (hb5.mono hB4.size)
          go_wp2_with fail
          go_roundw
          case rel => exact ⟨k + 1, T', by omega, by go_num, HGO.out, HNU.out.n, by have := HNU.out.last; omega, by have := HNU.out.waits; omega, HT5.out, hB5⟩
          case measure => simp [intOf]; omega
      · obtain rfl : k = xs.length := by omega
        have hN2 : T.n ≤ 16 := hG.out.ok.n.2
        have HFI : Hid (∀ W T', Good T' → T'.n = T.n → Tab F W w.heap.size T' → Calls Tryz.prog 68 #[ptr w.heap.size, .int .i64 T.n] W fun e w' => e = .returned (.bool true) ∧ Below W.heap.size W w') := fun W T' hg hn h => by
          have := fits18_c w.heap.size T' W h hg
          rw [hn] at this; exact this
        obtain ⟨w2, rfl⟩ : ∃ w2 : World, w2 = wr := ⟨_, rfl⟩
        obtain ⟨NN, hNN⟩ : ∃ NN : Nat, NN = T.n := ⟨_, rfl⟩
        rw [← hNN] at HFI
        simp only [← hNN]
        have hTn2 : T.n = NN := hNN.symm
        clear hNN HT1 HG1 HNEW hN2 hla
        go_wp2_with fail
        go_loopw [8] (fun o wr => ∃ (k : Nat) (T : Tb), o = .int .i64 k ∧ k + T.waits.length ≤ 50 ∧ Hid (Good T) ∧ Hid (T.n = NN) ∧ Hid (Tab F wr w.heap.size T) ∧ Below w.heap.size w wr) (fun o _ => 100 - (intOf o).toNat)
        case atStart => exact ⟨0, T, rfl, by omega, hG.out, hTn2, hT.out, hbr⟩
        case round =>
          obtain ⟨k, T, rfl, hkw, hG, hTn, hT, hbr⟩ := hrel
          have hk1000 : (k : Int) < 1000 := by omega
          have HW := hidd (tWaits_c w.heap.size T wr hT.out)
          by_cases hw : T.waits = []
          · rw [hw] at HW
            have HWS := hidd hw
            clear hw hkw
            go_wp2_with fail
            refine HW.out.mono ?_; rintro e w3 ⟨⟨u3, rfl, ho3⟩, hb3⟩
            obtain ⟨A3, c3, rfl⟩ := own_shape ho3
            have hB3 := hbr.trans (hb3.mono hbr.size)
            have HT3 := hidd (hT.out.next hb3 (Nat.le_refl _))
            clear ho3
            simp only [List.length_nil] at *
            go_wp2_with fail
            refine (alive18_c _).mono ?_; rintro e w4 ⟨rfl, hb4⟩
            have hB4 := hB3.trans (hb4.mono hB3.size)
            have HT4 := hidd (HT3.out.next hb4 (Nat.le_refl _))
            have HW4 := hidd (tWaits_c w.heap.size T w4 HT4.out)
            rw [HWS.out] at HW4
            go_wp2_with fail
            refine HW4.out.mono ?_; rintro e w5 ⟨⟨u5, rfl, ho5⟩, hb5⟩
            obtain ⟨A5, c5, rfl⟩ := own_shape ho5
            have hB5 := hB4.trans (hb5.mono hB4.size)
            have HF5 := hidd (HFI.out _ T hG.out hTn.out (HT4.out.next hb5 (Nat.le_refl _)))
            clear ho5
            simp only [List.length_nil] at *
            go_wp2_with fail
            refine HF5.out.mono ?_; rintro e w6 ⟨rfl, hb6⟩
            go_wp2_with fail
            go_ret
            exact ⟨rfl, hB5.trans (hb6.mono hB5.size)⟩
          · have hwp : 0 < T.waits.length := List.length_pos_iff.2 hw
            have hwd : decide ((0 : Int) < (T.waits.length : Int)) = true := decide_eq_true (by omega)
            have HLESS := hidd (round_less hG.out hw)
            have HRO := hidd (revokes_ok hG.out.ok)
            have hrs := revokes_some hG.out hw
            have HGA := hidd (relAll_good T.revokes hG.out)
            have HNA := hidd ((relAll_n T.revokes T).trans hTn.out)
            have HRL : Hid (∀ (i : Nat) (h : i < T.revokes.length), relAll T (T.revokes.take (i + 1)) = (relAll T (T.revokes.take i)).release T.revokes[i].1 T.revokes[i].2.1 T.revokes[i].2.2.1 T.revokes[i].2.2.2) := fun i h => foldl_take _ _ _ h
            have HRN : Hid (∀ i, (relAll T (T.revokes.take i)).n = T.n) := fun i => relAll_n _ _
            have HRV := hidd (tRevokes_c w.heap.size T · (F := F))
            generalize T.revokes = R at *
            have hrl : ((R.length : Int) == 0) = false := by rw [beq_eq_false_iff_ne]; have := List.length_pos_iff.2 hrs; omega
            clear hw hrs
            go_wp2_with fail
            refine HW.out.mono ?_; rintro e w3 ⟨⟨u3, rfl, ho3⟩, hb3⟩
            obtain ⟨A3, c3, rfl⟩ := own_shape ho3
            have hB3 := hbr.trans (hb3.mono hbr.size)
            have HT3 := hidd (hT.out.next hb3 (Nat.le_refl _))
            clear ho3
            go_wp2_with fail
            refine (HRV.out _ HT3.out).mono ?_; rintro e w4 ⟨⟨u4, rfl, ho4⟩, hb4⟩
            obtain ⟨A4, c4, rfl⟩ := own_shape ho4
            have HT4 := hidd (HT3.out.avoid hb4 ho4)
            have HR4 := hidd (Own.rd ho4 rfl)
            have hB4 := hB3.trans (hb4.mono hB3.size)
            have hRl : R.length ≤ maxLen := by
              rcases ho4.2 with ⟨_, h0⟩ | ⟨_, _, _, _, _, _, h1, h2, _⟩
              · rw [h0]; exact Nat.zero_le _
              · exact Nat.le_trans h1 h2
            have hRm : (R.length : Int) ≤ 9223372036854775807 := by unfold maxLen at hRl; omega
            have HFX : Hid (∀ k, (F k ∧ (Value.slice A4 R.length c4).ownBlock ≠ some k) → F k) := fun k h => h.1
            have HAV : Hid (∀ b o, A4 = some ⟨b, o, none⟩ → ¬ (F b ∧ (Value.slice A4 R.length c4).ownBlock ≠ some b)) := fun b o e h => h.2 (by rw [e]; rfl)
            generalize hF4 : (fun k => F k ∧ (Value.slice A4 R.length c4).ownBlock ≠ some k) = F4 at *
            have HFX' : Hid (∀ k, F4 k → F k) := by rw [← hF4]; exact HFX.out
            have HAV' : Hid (∀ b o, A4 = some ⟨b, o, none⟩ → ¬ F4 b) := by rw [← hF4]; exact HAV.out
            clear ho4 HFX HAV hF4 HRV HT3 hRl
            go_wp2_with fail
            go_loopw [10] (fun o wr => ∃ i : Nat, i ≤ R.length ∧ o = .int .i64 i ∧ Hid (Tab F4 wr w.heap.size (relAll T (R.take i))) ∧ Hid (Rd 4 encR wr A4 R) ∧ Below w.heap.size w wr) (fun o _ => R.length - (intOf o).toNat)
            case atStart => exact ⟨0, by omega, rfl, HT4.out, HR4.out, hB4⟩
            case round =>
              obtain ⟨i, hi, rfl, hTi, hri, hbi⟩ := hrel
              by_cases hil : i < R.length
              · have hneR : R ≠ [] := by intro e; rw [e] at hil; simp at hil
                obtain ⟨b, o, hAe, hblt, hc⟩ := hri.out.cellsR hneR
                subst hAe
                obtain ⟨g0, g1, g2, g3⟩ := hc i hil
                have HRI := hidd (HRL.out i hil)
                have hro := HRO.out R[i] (List.getElem_mem hil)
                rw [← HRN.out i] at hro
                clear hc
                generalize hTq : relAll T (R.take i) = Ti at *
                generalize R[i] = rr at *
                obtain ⟨r0, r1, r2, r3⟩ := rr
                simp only [] at g0 g1 g2 g3 hro
                have HRE := hidd (tRelease_c (F := F4) w.heap.size Ti r0 r1 r2 r3)
                rw [show relE Ti.n r0 r1 r2 r3 = 0 from if_pos hro] at HRE
                clear hro
                go_wp2_with fail
                go_cut [12] (fun v2 wx => v2 = .int .i64 0 ∧ Hid (Tab F4 wx w.heap.size (Ti.release r0 r1 r2 r3)) ∧ Hid (Rd 4 encR wx (some ⟨b, o, none⟩) R) ∧ Hid (Below w.heap.size w wx))
                case first =>
                  have HKQ : Hid (∀ W, Below wr.heap.size wr W → Calls Tryz.prog 63 #[ptr w.heap.size, .int .i64 r0, spV r1 r2, .int .i64 r3] W fun e w' => (∃ u, e = .returned (.tuple #[u, .int .i64 0])) ∧ Hid (Tab F4 w' w.heap.size (Ti.release r0 r1 r2 r3)) ∧ Hid (Rd 4 encR w' (some ⟨b, o, none⟩) R) ∧ Hid (Below w.heap.size w w')) := fun W hW =>
                    (HRE.out W (hTi.out.next hW (Nat.le_refl _))).mono fun e w' ⟨⟨u, h1, _⟩, h2, h3⟩ => ⟨⟨u, h1⟩, h2, h3.rd (hri.out.below hW (Nat.le_refl _)) (Nat.le_refl _) HAV'.out, (hbi.trans (hW.mono hbi.size)).trans (h3.lo (Nat.le_trans hbi.size hW.size) fun k hk => HF3.out k (HFX'.out k hk))⟩
                  clear HRE hTi hri HRI HRN HRL HRO HLESS HGA HNA HW HFI HR4 HT4 hG hT HAV' HFX'
                  go_region_law (first
                    | (go_simp; go_at_call 63; refine (HKQ.out _ (below_drewN (Below.refl _ _) 1)).mono ?_; rintro e w5 ⟨⟨u5, rfl⟩, hT5, hr5, hB5⟩; clear HKQ)
                    | fail)
                  all_goals
                    go_wp2_with fail
                    go_meet
                    exact ⟨rfl, hT5, hr5, hB5⟩
                case rest =>
                  obtain ⟨rfl, hT5, hr5, hB5⟩ := hcut
                  have HT6 : Hid (Tab F4 wc w.heap.size (relAll T (R.take (i + 1)))) := by show Tab _ _ _ _; rw [HRI.out]; exact hT5.out
                  clear HRE
                  go_wp2_with fail
                  go_roundw
                  case rel => exact ⟨i + 1, by omega, by go_num, HT6.out, hr5.out, hB5.out⟩
                  case measure => simp [intOf]; omega
              · obtain rfl : i = R.length := by omega
                rw [List.take_length] at hTi
                have HTN := hidd (hTi.out.weak HFX'.out)
                have hls := HLESS.out
                generalize relAll T R = T' at *
                go_wp2_with fail
                go_roundw
                case rel => exact ⟨k + 1, T', by go_num, by omega, HGA.out, HNA.out, HTN.out, hbi⟩
                case measure => simp [intOf]; omega
  all_goals
    go_enter Tryz.func6, Tryz.ntmps6
    go_wp2_with fail
    refine (alive18_c _).mono ?_; rintro e w1 ⟨rfl, hb1⟩
    go_wp2_with fail
    go_ret
    exact ⟨rfl, hb1⟩
end Go.Proofs.YtiokkoeciijkoaaGreat
