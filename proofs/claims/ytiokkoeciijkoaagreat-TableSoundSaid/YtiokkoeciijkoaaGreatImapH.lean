/- chapter 7's first call; a nil map. -/
import Derived.Test.YtiokkoeciijkoaaGreatImapG
namespace Go.Proofs.YtiokkoeciijkoaaGreat
set_option linter.unusedVariables false
set_option linter.unusedSimpArgs false
open Go.RowKit

theorem BelX.below {p B B' : Nat} {a b : World} (h : BelX p B a b) (h1 : B' ≤ B) (h2 : B' ≤ p) : Below B' a b := ⟨h.os, h.tape, h.output, h.size, fun k hk => h.block k (by omega) (by omega)⟩
theorem LayOf.eq {zs ys t : List (Pt Int)} (h : LayOf zs ys) (ht : CanP t) (hp : t.Perm zs) : ys = t :=
  CanP.uniq h.can ht fun n v => (h.at_ n v).trans (atP_perm hp).symm
theorem can_a : CanP [((0, 9, 1) : Pt Int)] := ⟨by simp, by simp⟩
theorem can_b : CanP [((0, 3, 1) : Pt Int), (3, 5, 2), (5, 9, 1)] := ⟨by simp, by simp⟩

set_option maxHeartbeats 4000000 in
set_option maxRecDepth 100000 in
theorem alive7_c (w : World) : Calls Tryz.prog 31 #[] w fun e w' => e = .returned (.bool true) ∧ Below w.heap.size w w' := by
  go_enter Tryz.func31, Tryz.ntmps31
  go_wp2_with fail
  refine (iNew_c w).mono ?_; rintro e w1 ⟨rfl, hn1, hb1⟩
  have hm1 := hn1 (fun k => k = w.heap.size)
  clear hn1
  have HS1 := hidd (iSet_c w.heap.size [] 0 9 1 w1 hm1 (fun k hk => by rw [hk]; exact hm1.lt) CanP.nil.dis (by simp))
  go_wp2_with fail
  refine HS1.out.mono ?_; rintro e w2 ⟨rfl, ⟨ys, hm2, hs2⟩, hb2⟩
  have hB2 := hb1.trans (hb2.below hb1.size (Nat.le_refl _))
  obtain rfl : ys = [(0, 9, 1)] := (hs2.yes rfl).eq can_a (List.Perm.refl _)
  rw [show vld 0 9 = true from rfl]
  clear hs2 hb2 HS1
  have HS2 := hidd (iSet_c w.heap.size [(0, 9, 1)] 3 5 2 w2 hm2 (fun k hk => by rw [hk]; exact hm2.lt) can_a.dis (by simp))
  go_wp2_with fail
  refine HS2.out.mono ?_; rintro e w3 ⟨rfl, ⟨ys, hm3, hs3⟩, hb3⟩
  have hB3 := hB2.trans (hb3.below hB2.size (Nat.le_refl _))
  obtain rfl : ys = [(0, 3, 1), (3, 5, 2), (5, 9, 1)] := (hs3.yes rfl).eq can_b (by
    show List.Perm _ ([(0, 3, 1), (5, 9, 1)] ++ [(3, 5, 2)])
    exact (List.Perm.refl [(0, 3, 1)]).append (List.Perm.swap _ _ _))
  rw [show vld 3 5 = true from rfl]
  clear hs3 hb3 HS2
  have HG := hidd (iGet_c w.heap.size _ 4 w3 hm3 (by simp))
  go_wp2_with fail
  refine HG.out.mono ?_; rintro e w4 ⟨rfl, hb4⟩
  rw [show getP 4 [((0, 3, 1) : Pt Int), (3, 5, 2), (5, 9, 1)] = some 2 from rfl]
  have hm4 := hm3.next hb4 (Nat.le_refl _)
  have hB4 := hB3.trans (hb4.mono hB3.size)
  have HA := hidd (iAll_c w.heap.size _ w4 hm4 (by simp))
  go_wp2_with fail
  refine HA.out.mono ?_; rintro e w5 ⟨⟨v5, rfl, ho5⟩, hb5⟩
  have hm5 := hm4.next hb5 (Nat.le_refl _)
  have hB5 := hB4.trans (hb5.mono hB4.size)
  have HL := hidd (iLen_c w.heap.size _ w5 hm5 (by simp))
  obtain ⟨g, cap, rfl, hgb, hgl, hgc, _⟩ := own_at ho5 (by simp)
  have c0 : w5.cell? ⟨g, 3, none⟩ = some (.int .i64 3) := hgc 3 _ rfl
  have c1 : w5.cell? ⟨g, 4, none⟩ = some (.int .i64 5) := hgc 4 _ rfl
  clear ho5 hgc
  go_wp2_with fail
  refine HL.out.mono ?_; rintro e w6 ⟨rfl, hb6⟩
  go_wp2_with fail
  go_ret
  exact ⟨rfl, hB5.trans (hb6.mono hB5.size)⟩

set_option maxHeartbeats 1000000 in
theorem iGetN_c (n : Int) (w : World) : Calls Tryz.prog 43 #[.pointer none, .int .i64 n] w fun e w' => e = .returned (.tuple #[.int .i64 0, .bool false]) ∧ Below w.heap.size w w' := by
  go_enter Tryz.func43, Tryz.ntmps43
  go_wp2_with fail
  exact bodyPost_ret (v := .tuple #[.int .i64 0, .bool false]) (by simp [results, Tryz.results43, go_sem]) rfl ⟨rfl, Below.refl _ _⟩
set_option maxHeartbeats 1000000 in
theorem iSetN_c (a b v : Int) (w : World) : Calls Tryz.prog 33 #[.pointer none, spV a b, .int .i64 v] w fun e w' => e = .returned (.bool false) ∧ Below w.heap.size w w' := by
  go_enter Tryz.func33, Tryz.ntmps33
  go_wp2_with fail
  go_ret
  exact ⟨rfl, below_alloc _ _⟩
set_option maxHeartbeats 1000000 in
theorem iClearN_c (a b : Int) (w : World) : Calls Tryz.prog 35 #[.pointer none, spV a b] w fun e w' => e = .returned (.bool false) ∧ Below w.heap.size w w' := by
  go_enter Tryz.func35, Tryz.ntmps35
  go_wp2_with fail
  go_ret
  exact ⟨rfl, below_alloc _ _⟩
set_option maxHeartbeats 1000000 in
theorem iPartsN_c (a b : Int) (w : World) : Calls Tryz.prog 40 #[.pointer none, spV a b] w fun e w' => e = .returned (.slice none 0 0) ∧ Below w.heap.size w w' := by
  go_enter Tryz.func40, Tryz.ntmps40
  go_wp2_with fail
  go_ret
  exact ⟨rfl, below_alloc _ _⟩
set_option maxHeartbeats 1000000 in
theorem iAllN_c (w : World) : Calls Tryz.prog 39 #[.pointer none] w fun e w' => e = .returned (.slice none 0 0) ∧ Below w.heap.size w w' := by
  go_enter Tryz.func39, Tryz.ntmps39
  go_wp2_with fail
  go_ret
  exact ⟨rfl, Below.refl _ _⟩
set_option maxHeartbeats 1000000 in
theorem iLenN_c (w : World) : Calls Tryz.prog 47 #[.pointer none] w fun e w' => e = .returned (.int .i64 0) ∧ Below w.heap.size w w' := by
  go_enter Tryz.func47, Tryz.ntmps47
  go_wp2_with fail
  go_ret
  exact ⟨rfl, Below.refl _ _⟩
end Go.Proofs.YtiokkoeciijkoaaGreat
