/- Locks that are the same; what a loop over rising parts finds at a block. -/
import Derived.Test.YtiokkoeciijkoaaModeD
namespace Go.Proofs.Ytiokkoeciijkoaa
set_option linter.unusedVariables false
set_option linter.unusedSimpArgs false
open Go.RowKit

set_option maxHeartbeats 2000000 in
set_option maxRecDepth 100000 in
theorem sameLocks_c (A B : Option Addr) (ca cb : Nat) (xs : List (Pt Int)) (w : World) (hx : Rd 3 encP w A xs) (hy : Rd 3 encP w B xs) (hbig : xs.length ≤ 2000000000) :
    Calls Try.prog 62 #[.slice A xs.length ca, .slice B xs.length cb] w fun e w' => e = .returned (.bool true) ∧ Below w.heap.size w w' := by
  have HX := hidd hx
  have HY := hidd hy
  clear hx hy
  go_enter Try.func62, Try.ntmps62
  go_wp2_with fail
  go_loopw [5] (fun i wr => ∃ k : Nat, k ≤ xs.length ∧ i = .int .i64 k ∧ Below w.heap.size w wr) (fun i _ => xs.length - (intOf i).toNat)
  case atStart => exact ⟨0, by omega, rfl, Below.refl _ _⟩
  case round =>
    obtain ⟨k, hk, rfl, hbr⟩ := hrel
    by_cases hlt : k < xs.length
    · have hne : xs ≠ [] := by intro e; rw [e] at hlt; simp at hlt
      obtain ⟨b, o, rfl, hblt, hc⟩ := HX.out.cells3 hne
      obtain ⟨b2, o2, rfl, hblt2, hc2⟩ := HY.out.cells3 hne
      obtain ⟨g0, g1, g2⟩ := hc k hlt
      obtain ⟨j0, j1, j2⟩ := hc2 k hlt
      rw [← hbr.cell (p := ⟨_, _, none⟩) hblt] at g0 g1 g2
      rw [← hbr.cell (p := ⟨_, _, none⟩) hblt2] at j0 j1 j2
      have hbw : b < wr.heap.size := Nat.lt_of_lt_of_le hblt hbr.size
      have hbw2 : b2 < wr.heap.size := Nat.lt_of_lt_of_le hblt2 hbr.size
      clear hc hc2
      generalize xs[k] = y at *
      obtain ⟨y0, y1, y2⟩ := y
      simp only [] at g0 g1 g2 j0 j1 j2
      go_wp2_with fail
      go_quiet (fail)
      go_wp2_with fail
      go_roundw
      case rel => exact ⟨k + 1, by omega, by go_num, hbr.trans (below_drewN (Below.refl _ _) _)⟩
      case measure => simp [intOf]; omega
    · obtain rfl : k = xs.length := by omega
      go_wp2_with fail
      go_ret
      exact ⟨rfl, hbr⟩

def gotF (n : Int) (l : List (Pt Int)) : Int := l.foldl (fun g x => if hasS x.1 x.2.1 n = true then x.2.2 else g) 0
theorem gotF_snoc (n : Int) (l : List (Pt Int)) (x : Pt Int) : gotF n (l ++ [x]) = if hasS x.1 x.2.1 n = true then x.2.2 else gotF n l := by unfold gotF; rw [List.foldl_append]; rfl
theorem gotF_take {n : Int} {l : List (Pt Int)} {k : Nat} (h : k < l.length) : gotF n (l.take (k + 1)) = if hasS l[k].1 l[k].2.1 n = true then l[k].2.2 else gotF n (l.take k) := by
  rw [List.take_succ_eq_append_getElem h, gotF_snoc]
theorem getP_snoc {α : Type} {n : Int} {l : List (Pt α)} {x : Pt α} : getP n (l ++ [x]) = match getP n l with | some u => some u | none => if hasS x.1 x.2.1 n = true then some x.2.2 else none := by
  unfold getP
  rw [List.find?_append]
  cases l.find? (fun x => hasS x.1 x.2.1 n) with
  | some y => rfl
  | none =>
    simp only [Option.none_or, Option.map_none, List.find?_cons]
    cases hasS x.1 x.2.1 n <;> simp
theorem gotF_get (n : Int) (l : List (Pt Int)) (h : Dis l) : gotF n l = (getP n l).getD 0 := by
  revert h
  refine snoc_ind (P := fun l => Dis l → gotF n l = (getP n l).getD 0) (fun _ => rfl) (fun l x ih h => ?_) l
  have hl : Dis l := ⟨fun y hy => h.val y (List.mem_append_left _ hy), (List.pairwise_append.1 h.sep).1⟩
  rw [gotF_snoc, getP_snoc, ih hl]
  by_cases hx : hasS x.1 x.2.1 n = true
  · have : getP n l = none := by
      rw [getP_none]
      intro y hy
      have := (List.pairwise_append.1 h.sep).2.2 y hy x (List.mem_singleton_self _)
      rw [Bool.eq_false_iff]
      intro h2
      rw [hasS_iff] at hx h2
      omega
    rw [this, if_pos hx]
    show x.2.2 = (if hasS x.1 x.2.1 n = true then some x.2.2 else none).getD 0
    rw [if_pos hx]; rfl
  · rw [if_neg hx]
    cases getP n l with
    | some u => rfl
    | none =>
      show _ = (if hasS x.1 x.2.1 n = true then some x.2.2 else none).getD 0
      rw [if_neg hx]
theorem gotF_asked (n : Int) (l : List (Pt Int)) : gotF n (askedF l) = askW n l := by
  rw [gotF_get _ _ (askedF_can l).dis, getP_asked]
  split
  · rename_i h; rw [h]; rfl
  · rfl

set_option maxHeartbeats 4000000 in
set_option maxRecDepth 100000 in
theorem ModeNone_c (A : Option Addr) (n c : Nat) (l : List (Pt Int)) (w : World) (h : Rd 3 encP w A l) (hn : n = l.length) (_ : ∀ x ∈ l, I64 x.1 ∧ I64 x.2.1 ∧ I64 x.2.2) :
    Calls Try.prog 15 #[.slice A n c] w fun e w' => e = .returned (.bool true) ∧ Below w.heap.size w w' := by
  subst hn
  have HR := hidd h
  clear h
  by_cases hl : 40 < l.length
  · go_enter Try.func15, Try.ntmps15
    go_wp2_with fail
    refine (alive17_c _).mono ?_; rintro e w1 ⟨rfl, hb⟩
    go_wp2_with fail
    go_ret
    exact ⟨rfl, hb⟩
  · have HN := hidd (mNorm_c A _ c l w HR.out rfl (by omega))
    have HEL : Hid ((endsL l).length ≤ 10000000) := by show _ ≤ _; rw [endsL_len]; omega
    have HEI : Hid (InL (endsL l) l) := fun x hx => endsL_mem hx
    have HNN := hidd (needsF_nil l)
    have hal := askedF_len l
    go_enter Try.func15, Try.ntmps15
    go_wp2_with fail
    refine HN.out.mono ?_; rintro e w1 ⟨⟨u, rfl, ho1⟩, hb1⟩
    obtain ⟨A1, c1, rfl⟩ := own_shape ho1
    have HR1 := hidd (Own.rd ho1 rfl)
    clear ho1 HN
    go_wp2_with fail
    refine (alive17_c _).mono ?_; rintro e w2 ⟨rfl, hb2⟩
    have hB2 := hb1.trans (hb2.mono hb1.size)
    have HNe := hidd (mNeeds_c (.pointer none) [] (endsL l) A _ c l w2 HeldAt.none CanP.nil InL.nil HEI.out HEL.out (HR.out.below hB2 (Nat.le_refl _)) rfl (by omega))
    go_wp2_with fail
    refine HNe.out.mono ?_; rintro e w3 ⟨⟨u3, rfl, ho3⟩, hb3⟩
    rw [HNN.out] at ho3
    obtain ⟨A3, c3, rfl⟩ := own_shape ho3
    have hB3 := hB2.trans (hb3.mono hB2.size)
    have HS := hidd (sameLocks_c A3 A1 c3 c1 (askedF l) w3 (Own.rd ho3 rfl) ((HR1.out.below hb2 (Nat.le_refl _)).below hb3 (Nat.le_refl _)) (by omega))
    clear ho3 HNe
    go_wp2_with fail
    refine HS.out.mono ?_; rintro e w4 ⟨rfl, hb4⟩
    have hB4 := hB3.trans (hb4.mono hB3.size)
    have HHa := hidd (mHas_c (.pointer none) [] (endsL l) A _ c l w4 HeldAt.none CanP.nil InL.nil HEI.out HEL.out (HR.out.below hB4 (Nat.le_refl _)) rfl (by omega))
    rw [HNN.out] at HHa
    generalize askedF l = N at *
    have hd : Hid ((((N.length : Int)) == 0) = decide (N.length = 0)) := by show _ = _; rw [Bool.eq_iff_iff, beq_iff_eq, decide_eq_true_iff]; omega
    rw [← hd.out] at HHa
    go_wp2_with fail
    refine HHa.out.mono ?_; rintro e w5 ⟨rfl, hb5⟩
    go_wp2_with fail
    go_ret
    exact ⟨by first | rfl | simp, hB4.trans (hb5.mono hB4.size)⟩
end Go.Proofs.Ytiokkoeciijkoaa
