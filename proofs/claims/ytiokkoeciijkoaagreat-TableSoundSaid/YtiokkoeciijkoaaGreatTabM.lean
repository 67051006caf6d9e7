/- A table of locks in memory. -/
import Derived.Test.YtiokkoeciijkoaaGreatPartT
import Derived.Test.YtiokkoeciijkoaaGreatModeC
namespace Go.Proofs.YtiokkoeciijkoaaGreat
set_option linter.unusedVariables false
set_option linter.unusedSimpArgs false
open Go.RowKit

/-- w' is w but for the blocks of F and what lies at B and above -/
structure BelF (F : Nat → Prop) (B : Nat) (w w' : World) : Prop where
  os : w'.os = w.os
  tape : w'.tape = w.tape
  output : w'.output = w.output
  size : w.heap.size ≤ w'.heap.size
  block : ∀ k, k < B → ¬ F k → w'.heap[k]? = w.heap[k]?
theorem BelF.refl (F : Nat → Prop) (B : Nat) (w : World) : BelF F B w w := ⟨rfl, rfl, rfl, Nat.le_refl _, fun _ _ _ => rfl⟩
theorem BelF.trans {F : Nat → Prop} {B : Nat} {a b c : World} (h : BelF F B a b) (h2 : BelF F B b c) : BelF F B a c :=
  ⟨h2.os.trans h.os, h2.tape.trans h.tape, h2.output.trans h.output, Nat.le_trans h.size h2.size, fun k hk hn => (h2.block k hk hn).trans (h.block k hk hn)⟩
theorem BelF.of {F : Nat → Prop} {B : Nat} {a b : World} (h : Below B a b) : BelF F B a b := ⟨h.os, h.tape, h.output, h.size, fun k hk _ => h.block k hk⟩
theorem BelF.ofX {F : Nat → Prop} {p B : Nat} {a b : World} (h : BelX p B a b) (hp : F p) : BelF F B a b := ⟨h.os, h.tape, h.output, h.size, fun k hk hn => h.block k hk (fun e => hn (e ▸ hp))⟩
theorem BelF.mono {F : Nat → Prop} {B B' : Nat} {a b : World} (h : BelF F B a b) (hB : B' ≤ B) : BelF F B' a b := ⟨h.os, h.tape, h.output, h.size, fun k hk hn => h.block k (by omega) hn⟩
theorem BelF.sub {F F' : Nat → Prop} {B : Nat} {a b : World} (h : BelF F B a b) (hF : ∀ k, k < B → F k → F' k) : BelF F' B a b := ⟨h.os, h.tape, h.output, h.size, fun k hk hn => h.block k hk (fun hf => hn (hF k hk hf))⟩
theorem BelF.below {F : Nat → Prop} {B B' : Nat} {a b : World} (h : BelF F B a b) (h1 : B' ≤ B) (h2 : ∀ k, F k → B' ≤ k) : Below B' a b :=
  ⟨h.os, h.tape, h.output, h.size, fun k hk => h.block k (by omega) (fun hf => by have := h2 k hf; omega)⟩
theorem BelF.rd {F : Nat → Prop} {B : Nat} {α : Type} {k : Nat} {enc : α → List Value} {w w' : World} {A : Option Addr} {xs : List α} (h : BelF F B w w') (hr : Rd k enc w A xs) (hB : w.heap.size ≤ B) (hF : ∀ b o, A = some ⟨b, o, none⟩ → ¬ F b) : Rd k enc w' A xs := by
  rcases hr with hr | ⟨b, o, hA, hlt, hc⟩
  · exact .inl hr
  · refine .inr ⟨b, o, hA, Nat.lt_of_lt_of_le hlt h.size, fun j u hu => ?_⟩
    have hb := h.block b (by omega) (hF b o hA)
    have : w'.cell? ⟨b, o + j, none⟩ = w.cell? ⟨b, o + j, none⟩ := by unfold World.cell?; rw [hb]
    rw [this]; exact hc j u hu

/-- the cells of a table's box -/
structure TC (W : World) (t n : Nat) (ps : Nat → Nat) (v : Value) (last : Int) : Prop where
  c0 : W.cell? ⟨t, 0, none⟩ = some (.int .i64 n)
  cm : ∀ i, i ≤ 16 → W.cell? ⟨t, 1 + i, none⟩ = some (ptr (ps i))
  cw : W.cell? ⟨t, 18, none⟩ = some v
  cl : W.cell? ⟨t, 19, none⟩ = some (.int .i64 last)
  fz : ∀ i, W.frozen? ⟨t, i, none⟩ = false
  lt : t < W.heap.size
theorem TC.keep {W W' : World} {t n : Nat} {ps : Nat → Nat} {v : Value} {last : Int} (h : TC W t n ps v last) (hb : W'.heap[t]? = W.heap[t]?) (hs : W.heap.size ≤ W'.heap.size) : TC W' t n ps v last := by
  have hc : ∀ i, W'.cell? ⟨t, i, none⟩ = W.cell? ⟨t, i, none⟩ := fun i => by unfold World.cell?; rw [hb]
  have hf : ∀ i, W'.frozen? ⟨t, i, none⟩ = W.frozen? ⟨t, i, none⟩ := fun i => by unfold World.frozen?; rw [hb]
  exact ⟨(hc _).trans h.c0, fun i hi => (hc _).trans (h.cm i hi), (hc _).trans h.cw, (hc _).trans h.cl, fun i => (hf i).trans (h.fz i), Nat.lt_of_lt_of_le h.lt hs⟩
theorem TC.next {W W' : World} {t n B : Nat} {ps : Nat → Nat} {v : Value} {last : Int} (h : TC W t n ps v last) (hb : Below B W W') (hB : W.heap.size ≤ B) : TC W' t n ps v last := h.keep (hb.block t (Nat.lt_of_lt_of_le h.lt hB)) hb.size

/-- the blocks that are the table's own and may be written -/
def fpS (t : Nat) (ps : Nat → Nat) (v : Value) (k : Nat) : Prop := k = t ∨ (∃ i, i ≤ 16 ∧ k = ps i) ∨ v.ownBlock = some k
/-- the table at t -/
structure TAt (W : World) (t : Nat) (T : Tb) (ps : Nat → Nat) (v : Value) : Prop where
  tc : TC W t T.n ps v T.last
  own : W.ownsRow 0 168 5 v T.waits.length (T.waits.flatMap encW)
  maps : ∀ i, i ≤ 16 → IM (fpS t ps v) W (ps i) (T.held i)
  inj : ∀ i j, i ≤ 16 → j ≤ 16 → ps i = ps j → i = j
  net : ∀ i, i ≤ 16 → ps i ≠ t
  vt : v.ownBlock ≠ some t
  vp : ∀ i, i ≤ 16 → v.ownBlock ≠ some (ps i)
section
variable {W W' : World} {t : Nat} {T : Tb} {ps : Nat → Nat} {v : Value}
theorem TAt.next {B : Nat} (h : TAt W t T ps v) (hb : Below B W W') (hB : W.heap.size ≤ B) : TAt W' t T ps v :=
  ⟨h.tc.next hb hB, own_below h.own (hb.mono hB), fun i hi => (h.maps i hi).next hb hB, h.inj, h.net, h.vt, h.vp⟩
theorem TAt.fp_lt (h : TAt W t T ps v) : ∀ k, fpS t ps v k → k < W.heap.size := by
  rintro k (rfl | ⟨i, hi, rfl⟩ | hk)
  · exact h.tc.lt
  · exact (h.maps i hi).lt
  · exact (h.own.lt k hk).2
theorem TAt.rd {A : Option Addr} {n c : Nat} (h : TAt W t T ps (.slice A n c)) (hn : n = T.waits.length) : Rd 5 encW W A T.waits := by
  subst hn; exact Own.rd h.own rfl
/-- one of its maps was written -/
theorem TAt.map {i : Nat} {ys : List (Pt Int)} (h : TAt W t T ps v) (hi : i ≤ 16) (hb : BelX (ps i) W.heap.size W W') (hm : IM (fpS t ps v) W' (ps i) ys) : TAt W' t { T with held := upd T.held i ys } ps v := by
  refine ⟨h.tc.keep (hb.block t h.tc.lt (fun e => h.net i hi e.symm)) hb.size, ?_, fun j hj => ?_, h.inj, h.net, h.vt, h.vp⟩
  · refine h.own.kept (row := some (ps i)) ⟨hb.os, hb.tape, hb.output, hb.size, fun k hk hn => hb.block k hk (fun e => hn (by rw [e]))⟩ ?_
    exact .inr fun e => h.vp i hi e
  · by_cases e : j = i
    · subst e; show IM _ _ _ (upd T.held j ys j); rw [upd_at]; exact hm
    · show IM _ _ _ (upd T.held i ys j)
      rw [upd_ne _ _ e]
      exact (h.maps j hj).far hb (Nat.le_refl _) (.inr (.inl ⟨i, hi, rfl⟩)) (fun hp => e (h.inj j i hj hi hp))
end
theorem encW_len (x : Wt) : (encW x).length = 5 := rfl
theorem encW_one (x : Wt) : ∀ v ∈ encW x, v.oneCell' = true := by
  intro v hv; simp [encW] at hv; rcases hv with rfl | rfl | rfl | rfl | rfl <;> rfl
theorem infoWait : (Tryz.prog.info? 168).map (fun i => (i.zero, i.size, i.bytes)) = some (some (.agg #[.int .i64 0, .int .i64 0, .int .i64 0, .int .i64 0, .int .i64 0]), 5, 40) := by kernel_rfl
theorem Rd.cellsW {w : World} {A : Option Addr} {xs : List Wt} (h : Rd 5 encW w A xs) (hx : xs ≠ []) : ∃ b o, A = some ⟨b, o, none⟩ ∧ b < w.heap.size ∧
    ∀ (i : Nat) (hi : i < xs.length), w.cell? ⟨b, o + i * 5, none⟩ = some (.int .i64 xs[i].1) ∧ w.cell? ⟨b, o + i * 5 + 1, none⟩ = some (.int .i64 xs[i].2.1) ∧ w.cell? ⟨b, o + i * 5 + 2, none⟩ = some (.int .i64 xs[i].2.2.1) ∧ w.cell? ⟨b, o + i * 5 + 3, none⟩ = some (.int .i64 xs[i].2.2.2.1) ∧ w.cell? ⟨b, o + i * 5 + 4, none⟩ = some (.int .i64 xs[i].2.2.2.2) := by
  rcases h with h | ⟨b, o, hA, hb, hc⟩
  · exact absurd h hx
  · refine ⟨b, o, hA, hb, fun i hi => ?_⟩
    have hf := flat_at encW 5 encW_len xs i xs[i] (List.getElem?_eq_getElem hi)
    have h0 := hc _ _ (hf 0 (by decide))
    have h1 := hc _ _ (hf 1 (by decide))
    have h2 := hc _ _ (hf 2 (by decide))
    have h3 := hc _ _ (hf 3 (by decide))
    have h4 := hc _ _ (hf 4 (by decide))
    refine ⟨by simpa using h0, ?_, ?_, ?_, ?_⟩
    · rw [Nat.add_assoc]; exact h1
    · rw [Nat.add_assoc]; exact h2
    · rw [Nat.add_assoc]; exact h3
    · rw [Nat.add_assoc]; exact h4
abbrev wtV (w : Wt) : Value := .agg #[.int .i64 w.1, .int .i64 w.2.1, .int .i64 w.2.2.1, .int .i64 w.2.2.2.1, .int .i64 w.2.2.2.2]
abbrev Bx5 (W : World) (p : Nat) (a b c d e : Value) : Prop := W.cell? ⟨p, 0, none⟩ = some a ∧ W.cell? ⟨p, 1, none⟩ = some b ∧ W.cell? ⟨p, 2, none⟩ = some c ∧ W.cell? ⟨p, 3, none⟩ = some d ∧ W.cell? ⟨p, 4, none⟩ = some e ∧ W.frozen? ⟨p, 0, none⟩ = false ∧ W.frozen? ⟨p, 1, none⟩ = false ∧ W.frozen? ⟨p, 2, none⟩ = false ∧ W.frozen? ⟨p, 3, none⟩ = false ∧ W.frozen? ⟨p, 4, none⟩ = false ∧ p < W.heap.size
theorem Bk.bx5 {W : World} {p : Nat} {a b c d e : Value} {t : TypeId} (h : Bk W p #[a, b, c, d, e] t) : Bx5 W p a b c d e :=
  ⟨(cell_of_row _ _ 0 _ t (0, 0) h).trans rfl, (cell_of_row _ _ 1 _ t (0, 0) h).trans rfl, (cell_of_row _ _ 2 _ t (0, 0) h).trans rfl, (cell_of_row _ _ 3 _ t (0, 0) h).trans rfl, (cell_of_row _ _ 4 _ t (0, 0) h).trans rfl,
   frozen_of_row _ _ 0 _ t h, frozen_of_row _ _ 1 _ t h, frozen_of_row _ _ 2 _ t h, frozen_of_row _ _ 3 _ t h, frozen_of_row _ _ 4 _ t h, h.lt⟩

/-! the small ones -/
set_option maxHeartbeats 1000000 in
theorem tis_c (t n : Nat) (ps : Nat → Nat) (v : Value) (last node : Int) (w : World) (h : TC w t n ps v last) : Calls Tryz.prog 153 #[ptr t, .int .i64 node] w fun e w' => e = .returned (.bool (isB n node)) ∧ w' = w := by
  have HS : Hid (isB n node = (decide (1 ≤ node) && decide (node ≤ n))) := rfl
  generalize isB n node = r at *
  have h0 := h.c0
  have hf := h.fz 0
  have hl := h.lt
  clear h
  by_cases h1 : 1 ≤ node
  all_goals
    go_enter Tryz.func153, Tryz.ntmps153
    go_wp2
    go_ret
    refine ⟨?_, rfl⟩
    rw [HS.out]
    simp [h1] <;> omega
set_option maxHeartbeats 1000000 in
theorem tisN_c (node : Int) (w : World) : Calls Tryz.prog 153 #[.pointer none, .int .i64 node] w fun e w' => e = .returned (.bool false) ∧ w' = w := by
  go_enter Tryz.func153, Tryz.ntmps153
  go_wp2
  go_ret
  exact ⟨rfl, rfl⟩
theorem right_ways (a b m : Int) : (vld a b = false ∧ rightB a b m = false) ∨ (vld a b = true ∧ decide (b ≤ 4096) = false ∧ rightB a b m = false) ∨ (vld a b = true ∧ decide (b ≤ 4096) = true ∧ (m == 1) = true ∧ rightB a b m = true) ∨ (vld a b = true ∧ decide (b ≤ 4096) = true ∧ (m == 1) = false ∧ (m == 2) = true ∧ rightB a b m = true) ∨ (vld a b = true ∧ decide (b ≤ 4096) = true ∧ (m == 1) = false ∧ (m == 2) = false ∧ rightB a b m = false) := by
  unfold rightB asks
  cases vld a b <;> cases decide (b ≤ 4096) <;> cases (m == 1) <;> cases (m == 2) <;> simp
set_option maxHeartbeats 1000000 in
theorem tright_c (a b m : Int) (w : World) : Calls Tryz.prog 154 #[lkV a b m] w fun e w' => e = .returned (.bool (rightB a b m)) ∧ Below w.heap.size w w' := by
  have HXB := hidd (Bk.new w #[.int .i64 a, .int .i64 b, .int .i64 m] 101 rfl)
  have K := hidd (sValid_c a b)
  rcases right_ways a b m with ⟨h1, hr⟩ | ⟨h1, h2, hr⟩ | ⟨h1, h2, h3, hr⟩ | ⟨h1, h2, h3, h4, hr⟩ | ⟨h1, h2, h3, h4, hr⟩
  all_goals
    have H1 := hidd h1
    have HRR := hidd hr
    clear h1 hr
    go_enter Tryz.func154, Tryz.ntmps154
    go_wp2_with fail
    refine (K.out _).mono ?_; rintro e w1 ⟨rfl, hb1⟩
    rw [H1.out]
    have hx := (HXB.out.next hb1 (Nat.le_refl _)).bx3
    go_wp2_with fail
    go_ret
    exact ⟨by rw [HRR.out]; first | rfl | simp, below_alloc1 hb1⟩
end Go.Proofs.YtiokkoeciijkoaaGreat
