/- ltab: a nil table and a zero one; the walk of TableNone. -/
import Derived.Test.YtiokkoeciijkoaaTabL
namespace Go.Proofs.Ytiokkoeciijkoaa
set_option linter.unusedVariables false
set_option linter.unusedSimpArgs false
open Go.RowKit

abbrev nilT : Value := .pointer none
set_option maxHeartbeats 1000000 in
theorem tAskN_c (nd a b m : Int) (w : World) : Calls Try.prog 71 #[nilT, .int .i64 nd, lkV a b m] w fun e w' => e = .returned (.tuple #[.int .i64 0, .bool false, .int .i64 1]) ∧ Below w.heap.size w w' := by
  have HI := hidd (tisN_c nd)
  go_enter Try.func71, Try.ntmps71
  go_wp2_with fail
  refine (HI.out _).mono ?_; rintro e w1 ⟨rfl, hw⟩
  subst hw
  go_wp2_with fail
  exact bodyPost_ret (v := .tuple #[.int .i64 0, .bool false, .int .i64 1]) (by simp [results, Try.results71, go_sem]) rfl ⟨rfl, below_alloc _ _⟩
set_option maxHeartbeats 1000000 in
theorem tReleaseN_c (nd a b k : Int) (w : World) : Calls Try.prog 72 #[nilT, .int .i64 nd, spV a b, .int .i64 k] w fun e w' => e = .returned (.tuple #[.slice none 0 0, .int .i64 1]) ∧ Below w.heap.size w w' := by
  have HI := hidd (tisN_c nd)
  go_enter Try.func72, Try.ntmps72
  go_wp2_with fail
  refine (HI.out _).mono ?_; rintro e w1 ⟨rfl, hw⟩
  subst hw
  go_wp2_with fail
  exact bodyPost_ret (v := .tuple #[.slice none 0 0, .int .i64 1]) (by simp [results, Try.results72, go_sem]) rfl ⟨rfl, below_alloc _ _⟩
set_option maxHeartbeats 1000000 in
theorem tCancelN_c (id : Int) (w : World) : Calls Try.prog 76 #[nilT, .int .i64 id] w fun e w' => e = .returned (.tuple #[.slice none 0 0, .bool false]) ∧ Below w.heap.size w w' := by
  go_enter Try.func76, Try.ntmps76
  go_wp2_with fail
  exact bodyPost_ret (v := .tuple #[.slice none 0 0, .bool false]) (by simp [results, Try.results76, go_sem]) rfl ⟨rfl, below_alloc _ _⟩
set_option maxHeartbeats 1000000 in
theorem tDropN_c (nd : Int) (w : World) : Calls Try.prog 78 #[nilT, .int .i64 nd] w fun e w' => e = .returned (.slice none 0 0) ∧ Below w.heap.size w w' := by
  have HI := hidd (tisN_c nd)
  go_enter Try.func78, Try.ntmps78
  go_wp2_with fail
  refine (HI.out _).mono ?_; rintro e w1 ⟨rfl, hw⟩
  subst hw
  go_wp2_with fail
  go_ret
  exact ⟨rfl, below_alloc _ _⟩
set_option maxHeartbeats 1000000 in
theorem tForceN_c (nd a b m : Int) (w : World) : Calls Try.prog 77 #[nilT, .int .i64 nd, lkV a b m] w fun e w' => e = .returned (.int .i64 1) ∧ Below w.heap.size w w' := by
  have HI := hidd (tisN_c nd)
  go_enter Try.func77, Try.ntmps77
  go_wp2_with fail
  refine (HI.out _).mono ?_; rintro e w1 ⟨rfl, hw⟩
  subst hw
  go_wp2_with fail
  go_ret
  exact ⟨rfl, below_alloc _ _⟩
set_option maxHeartbeats 1000000 in
theorem tHoldsN_c (nd : Int) (w : World) : Calls Try.prog 75 #[nilT, .int .i64 nd] w fun e w' => e = .returned (.slice none 0 0) ∧ Below w.heap.size w w' := by
  have HI := hidd (tisN_c nd)
  go_enter Try.func75, Try.ntmps75
  go_wp2_with fail
  refine (HI.out _).mono ?_; rintro e w1 ⟨rfl, hw⟩
  subst hw
  go_wp2_with fail
  go_ret
  exact ⟨rfl, Below.refl _ _⟩
set_option maxHeartbeats 1000000 in
theorem tModeN_c (nd b : Int) (w : World) : Calls Try.prog 73 #[nilT, .int .i64 nd, .int .i64 b] w fun e w' => e = .returned (.int .i64 0) ∧ Below w.heap.size w w' := by
  have HI := hidd (tisN_c nd)
  go_enter Try.func73, Try.ntmps73
  go_wp2_with fail
  refine (HI.out _).mono ?_; rintro e w1 ⟨rfl, hw⟩
  subst hw
  go_wp2_with fail
  go_ret
  exact ⟨rfl, Below.refl _ _⟩
set_option maxHeartbeats 1000000 in
theorem tWaitsN_c (w : World) : Calls Try.prog 74 #[nilT] w fun e w' => e = .returned (.slice none 0 0) ∧ Below w.heap.size w w' := by
  go_enter Try.func74, Try.ntmps74
  go_wp2_with fail
  go_ret
  exact ⟨rfl, Below.refl _ _⟩
set_option maxHeartbeats 1000000 in
theorem tRevokesN_c (w : World) : Calls Try.prog 79 #[nilT] w fun e w' => e = .returned (.slice none 0 0) ∧ Below w.heap.size w w' := by
  go_enter Try.func79, Try.ntmps79
  go_wp2_with fail
  go_ret
  exact ⟨rfl, Below.refl _ _⟩
set_option maxHeartbeats 1000000 in
theorem tSoundN_c (w : World) : Calls Try.prog 80 #[nilT] w fun e w' => e = .returned (.bool true) ∧ Below w.heap.size w w' := by
  go_enter Try.func80, Try.ntmps80
  go_wp2_with fail
  go_ret
  exact ⟨rfl, Below.refl _ _⟩

/-- a zero table: no node, none waits -/
structure ZT (W : World) (t : Nat) : Prop where
  c0 : W.cell? ⟨t, 0, none⟩ = some (.int .i64 0)
  cw : W.cell? ⟨t, 18, none⟩ = some (.slice none 0 0)
  lt : t < W.heap.size
theorem ZT.next {W W' : World} {t B : Nat} (h : ZT W t) (hb : Below B W W') (hB : W.heap.size ≤ B) : ZT W' t :=
  ⟨(hb.cell (p := ⟨t, 0, none⟩) (Nat.lt_of_lt_of_le h.lt hB)).trans h.c0, (hb.cell (p := ⟨t, 18, none⟩) (Nat.lt_of_lt_of_le h.lt hB)).trans h.cw, Nat.lt_of_lt_of_le h.lt hb.size⟩
set_option maxHeartbeats 1000000 in
theorem tisZ_c (t : Nat) (nd : Int) (w : World) (h : ZT w t) : Calls Try.prog 98 #[ptr t, .int .i64 nd] w fun e w' => e = .returned (.bool false) ∧ w' = w := by
  have h0 := h.c0
  have hl := h.lt
  clear h
  by_cases h1 : 1 ≤ nd
  · have h2 : decide (nd ≤ 0) = false := by simp; omega
    go_enter Try.func98, Try.ntmps98
    go_wp2_with fail
    go_ret
    exact ⟨rfl, rfl⟩
  · have h2 : decide (1 ≤ nd) = false := by simp; omega
    go_enter Try.func98, Try.ntmps98
    go_wp2_with fail
    go_ret
    exact ⟨rfl, rfl⟩
set_option maxHeartbeats 1000000 in
theorem tAskZ_c (t : Nat) (nd a b m : Int) (w : World) (h : ZT w t) : Calls Try.prog 71 #[ptr t, .int .i64 nd, lkV a b m] w fun e w' => e = .returned (.tuple #[.int .i64 0, .bool false, .int .i64 1]) ∧ Below w.heap.size w w' := by
  have HI := hidd (tisZ_c t nd _ (h.next (below_alloc w (.cells #[.int .i64 a, .int .i64 b, .int .i64 m] 72)) (Nat.le_refl _)))
  clear h
  go_enter Try.func71, Try.ntmps71
  go_wp2_with fail
  refine HI.out.mono ?_; rintro e w1 ⟨rfl, hw⟩
  subst hw
  go_wp2_with fail
  exact bodyPost_ret (v := .tuple #[.int .i64 0, .bool false, .int .i64 1]) (by simp [results, Try.results71, go_sem]) rfl ⟨rfl, below_alloc _ _⟩
set_option maxHeartbeats 1000000 in
theorem tWaitsZ_c (t : Nat) (w : World) (h : ZT w t) : Calls Try.prog 74 #[ptr t] w fun e w' => (∃ u, e = .returned u ∧ Own 5 encW 104 w' w.heap.size u ([] : List Wt)) ∧ Below w.heap.size w w' := by
  have hw := h.cw
  have hl := h.lt
  have HC := hidd (cloneWait_c none 0 0 [] w (.inl rfl) rfl (by simp))
  clear h
  go_enter Try.func74, Try.ntmps74
  go_wp2_with fail
  refine HC.out.mono ?_; rintro e w1 ⟨⟨v1, rfl, ho1⟩, hb1⟩
  go_wp2_with fail
  go_ret
  exact ⟨⟨_, rfl, ho1⟩, hb1⟩
set_option maxHeartbeats 1000000 in
theorem tSoundZ_c (t : Nat) (w : World) (h : ZT w t) : Calls Try.prog 80 #[ptr t] w fun e w' => e = .returned (.bool true) ∧ Below w.heap.size w w' := by
  have h0 := h.c0
  have hl := h.lt
  clear h
  go_enter Try.func80, Try.ntmps80
  go_wp2_with fail
  refine wp_loop_rounds 1 ?_
  rw [rounds_succ]
  go_wp2_with fail
  go_ret
  exact ⟨rfl, Below.refl _ _⟩

set_option maxHeartbeats 8000000 in
set_option maxRecDepth 100000 in
theorem TableNone_c (n : Int) (y : Pt Int) (w : World) (hn : I64 n) (hy : I64 y.1 ∧ I64 y.2.1 ∧ I64 y.2.2) : Calls Try.prog 21 #[.int .i64 n, .agg (encP y).toArray] w fun e w' => e = .returned (.bool true) ∧ Below w.heap.size w w' := by
  obtain ⟨a, b, m⟩ := y
  show Calls Try.prog 21 #[.int .i64 n, lkV a b m] w _
  have HB0 := hidd (below_alloc w (.cells #[.int .i64 a, .int .i64 b, .int .i64 m] 72))
  have HXB := hidd (Bk.new w #[.int .i64 a, .int .i64 b, .int .i64 m] 72 rfl)
  have K1 := hidd (tAskN_c n a b m)
  have K2 := hidd (tAskZ_c · n a b m)
  have K3 := hidd (tReleaseN_c n a b 0)
  have K4 := hidd (tCancelN_c n)
  have K5 := hidd (tForceN_c n a b m)
  have K6 := hidd (tDropN_c n)
  have K7 := hidd (tHoldsN_c n)
  have K8 := hidd (tModeN_c n 0)
  have K9 := hidd tWaitsN_c
  have K10 := hidd tRevokesN_c
  have K11 := hidd tWaitsZ_c
  have K12 := hidd tSoundN_c
  have K13 := hidd tSoundZ_c
  clear hn hy
  go_enter Try.func21, Try.ntmps21
  go_wp2_with fail
  have HZ : Hid (ZT ((w.alloc (.cells #[.int .i64 a, .int .i64 b, .int .i64 m] 72)).alloc (.cells #[.int .i64 0, .pointer none, .pointer none, .pointer none, .pointer none, .pointer none, .pointer none, .pointer none, .pointer none, .pointer none, .pointer none, .pointer none, .pointer none, .pointer none, .pointer none, .pointer none, .pointer none, .pointer none, .slice none 0 0, .int .i64 0] 111)) (w.heap.size + 1)) := by
    have hs : (w.alloc (.cells #[.int .i64 a, .int .i64 b, .int .i64 m] 72)).heap.size = w.heap.size + 1 := by simp
    rw [← hs]
    exact ⟨(cell_of_row _ _ 0 _ 111 (0, 0) (heap_alloc_new _ _)).trans rfl, (cell_of_row _ _ 18 _ 111 (0, 0) (heap_alloc_new _ _)).trans rfl, by simp⟩
  have HX1 := hidd (HXB.out.next (below_alloc (w.alloc (.cells #[.int .i64 a, .int .i64 b, .int .i64 m] 72)) (.cells #[.int .i64 0, .pointer none, .pointer none, .pointer none, .pointer none, .pointer none, .pointer none, .pointer none, .pointer none, .pointer none, .pointer none, .pointer none, .pointer none, .pointer none, .pointer none, .pointer none, .pointer none, .pointer none, .slice none 0 0, .int .i64 0] 111)) (Nat.le_refl _))
  have HB1 := hidd (HB0.out.trans ((below_alloc (w.alloc (.cells #[.int .i64 a, .int .i64 b, .int .i64 m] 72)) (.cells #[.int .i64 0, .pointer none, .pointer none, .pointer none, .pointer none, .pointer none, .pointer none, .pointer none, .pointer none, .pointer none, .pointer none, .pointer none, .pointer none, .pointer none, .pointer none, .pointer none, .pointer none, .pointer none, .slice none 0 0, .int .i64 0] 111)).mono (by simp)))
  generalize (w.alloc (.cells #[.int .i64 a, .int .i64 b, .int .i64 m] 72)).alloc (.cells #[.int .i64 0, .pointer none, .pointer none, .pointer none, .pointer none, .pointer none, .pointer none, .pointer none, .pointer none, .pointer none, .pointer none, .pointer none, .pointer none, .pointer none, .pointer none, .pointer none, .pointer none, .pointer none, .slice none 0 0, .int .i64 0] 111) = w1 at *
  generalize w.heap.size + 1 = z at *
  have hx1 := HX1.out.bx3
  refine (K1.out _).mono ?_; rintro e w2 ⟨rfl, hb2⟩
  have hB2 := HB1.out.trans (hb2.mono HB1.out.size)
  have HZ2 := hidd (HZ.out.next hb2 (Nat.le_refl _))
  have HX2 := hidd (HX1.out.next hb2 (Nat.le_refl _))
  have hx2 := HX2.out.bx3
  clear hx1 hb2
  go_wp2_with fail
  refine (K2.out _ _ HZ2.out).mono ?_; rintro e w3 ⟨rfl, hb3⟩
  have hB3 := hB2.trans (hb3.mono hB2.size)
  have HZ3 := hidd (HZ2.out.next hb3 (Nat.le_refl _))
  have HX3 := hidd (HX2.out.next hb3 (Nat.le_refl _))
  have hx3 := HX3.out.bx3
  clear hx2 hb3
  go_wp2_with fail
  refine (K3.out _).mono ?_; rintro e w4 ⟨rfl, hb4⟩
  have hB4 := hB3.trans (hb4.mono hB3.size)
  have HZ4 := hidd (HZ3.out.next hb4 (Nat.le_refl _))
  have HX4 := hidd (HX3.out.next hb4 (Nat.le_refl _))
  clear hx3 hb4
  go_wp2_with fail
  refine (K4.out _).mono ?_; rintro e w5 ⟨rfl, hb5⟩
  have hB5 := hB4.trans (hb5.mono hB4.size)
  have HZ5 := hidd (HZ4.out.next hb5 (Nat.le_refl _))
  have HX5 := hidd (HX4.out.next hb5 (Nat.le_refl _))
  clear hb5
  go_wp2_with fail
  refine (alive18_c _).mono ?_; rintro e w6 ⟨rfl, hb6⟩
  have hB6 := hB5.trans (hb6.mono hB5.size)
  have HZ6 := hidd (HZ5.out.next hb6 (Nat.le_refl _))
  have HX6 := hidd (HX5.out.next hb6 (Nat.le_refl _))
  have hx6 := HX6.out.bx3
  clear hb6
  go_wp2_with fail
  refine (K5.out _).mono ?_; rintro e w7 ⟨rfl, hb7⟩
  have hB7 := hB6.trans (hb7.mono hB6.size)
  have HZ7 := hidd (HZ6.out.next hb7 (Nat.le_refl _))
  clear hb7
  go_wp2_with fail
  refine (K6.out _).mono ?_; rintro e w8 ⟨rfl, hb8⟩
  have hB8 := hB7.trans (hb8.mono hB7.size)
  have HZ8 := hidd (HZ7.out.next hb8 (Nat.le_refl _))
  clear hb8
  go_wp2_with fail
  refine (K7.out _).mono ?_; rintro e w9 ⟨rfl, hb9⟩
  have hB9 := hB8.trans (hb9.mono hB8.size)
  have HZ9 := hidd (HZ8.out.next hb9 (Nat.le_refl _))
  clear hb9
  go_wp2_with fail
  refine (K8.out _).mono ?_; rintro e w10 ⟨rfl, hb10⟩
  have hB10 := hB9.trans (hb10.mono hB9.size)
  have HZ10 := hidd (HZ9.out.next hb10 (Nat.le_refl _))
  clear hb10
  go_wp2_with fail
  refine (K9.out _).mono ?_; rintro e w11 ⟨rfl, hb11⟩
  have hB11 := hB10.trans (hb11.mono hB10.size)
  have HZ11 := hidd (HZ10.out.next hb11 (Nat.le_refl _))
  clear hb11
  go_wp2_with fail
  refine (K10.out _).mono ?_; rintro e w12 ⟨rfl, hb12⟩
  have hB12 := hB11.trans (hb12.mono hB11.size)
  have HZ12 := hidd (HZ11.out.next hb12 (Nat.le_refl _))
  clear hb12
  go_wp2_with fail
  refine (K11.out _ _ HZ12.out).mono ?_; rintro e w13 ⟨⟨u13, rfl, ho13⟩, hb13⟩
  have hB13 := hB12.trans (hb13.mono hB12.size)
  have HZ13 := hidd (HZ12.out.next hb13 (Nat.le_refl _))
  obtain ⟨A13, c13, rfl⟩ := own_shape ho13
  clear hb13 ho13
  simp only [List.length_nil] at *
  go_wp2_with fail
  refine (K12.out _).mono ?_; rintro e w14 ⟨rfl, hb14⟩
  have hB14 := hB13.trans (hb14.mono hB13.size)
  have HZ14 := hidd (HZ13.out.next hb14 (Nat.le_refl _))
  clear hb14
  go_wp2_with fail
  refine (K13.out _ _ HZ14.out).mono ?_; rintro e w15 ⟨rfl, hb15⟩
  go_wp2_with fail
  go_ret
  exact ⟨rfl, hB14.trans (hb15.mono hB14.size)⟩
end Go.Proofs.Ytiokkoeciijkoaa
