/- The laws of chapter 6 that go by Norm alone, walked. -/
import Derived.Test.YtiokkoeciijkoaaGreatSpanN
namespace Go.Proofs.YtiokkoeciijkoaaGreat
set_option linter.unusedVariables false
set_option linter.unusedSimpArgs false
open Go.RowKit

theorem alive6_norm {out : List Sp} (h : NormOf [(3, 5), (1, 3), (9, 9)] out) : out = [(1, 5)] := by
  refine Can.uniq h.can ⟨by simp, by simp⟩ fun n => ?_
  rw [h.blocks n]
  simp only [memS_cons, hasS_iff]
  simp [memS_nil]
  omega

set_option maxHeartbeats 1000000 in
set_option maxRecDepth 100000 in
theorem alive6_c (w : World) : Calls Tryz.prog 7 #[] w fun e w' => e = .returned (.bool true) ∧ Below w.heap.size w w' := by
  go_enter Tryz.func7, Tryz.ntmps7
  go_wp2_with fail
  refine (sNorm_c _ _ _ [(3, 5), (1, 3), (9, 9)] _ (.inr ⟨w.heap.size, 0, rfl, by simp, ?_⟩) rfl (by decide)).mono ?_
  · intro j u hu
    rw [Nat.zero_add, cell_of_row _ _ j _ 43 (0, 0) (heap_alloc_new w _)]
    simpa [encS] using hu
  rintro e w1 ⟨⟨v1, out, rfl, hO, hN⟩, hb⟩
  obtain rfl := alive6_norm hN
  obtain ⟨g, cap, rfl, hgb, hgl, hgc, _⟩ := own_at hO (by simp)
  have c0 : w1.cell? ⟨g, 0, none⟩ = some (.int .i64 1) := hgc 0 _ rfl
  have c1 : w1.cell? ⟨g, 1, none⟩ = some (.int .i64 5) := hgc 1 _ rfl
  clear hO hN hgc
  go_wp2_with fail
  refine (sMeet_c _ _ _ _ _).mono ?_; rintro e w2 ⟨rfl, hb2⟩
  have d0 : w2.cell? ⟨g, 0, none⟩ = some (.int .i64 1) := (hb2.cell (p := ⟨g, 0, none⟩) hgl).trans c0
  have d1 : w2.cell? ⟨g, 1, none⟩ = some (.int .i64 5) := (hb2.cell (p := ⟨g, 1, none⟩) hgl).trans c1
  have hgl2 : g < w2.heap.size := Nat.lt_of_lt_of_le hgl hb2.size
  go_wp2_with fail
  refine (sHas_c _ _ _ _).mono ?_; rintro e w3 ⟨rfl, hb3⟩
  rw [show hasS 4 5 4 = true from rfl]
  obtain ⟨hc, hf⟩ := bcell hb3
  go_wp2_with fail
  refine (sLen_c _ _ _ (by unfold I64; omega) (by unfold I64; omega)).mono ?_; rintro e w4 ⟨rfl, hb4⟩
  rw [show lenS 4 5 = 1 from rfl]
  go_wp2_with fail
  go_ret
  refine ⟨rfl, ?_⟩
  have z1 := hb.size
  have z2 := hb2.size
  have z3 := hb3.size
  simp at z1 z3
  exact (((((Below.refl _ _).alloc (Nat.le_refl _) _).trans (hb.mono (by simp))).trans (hb2.mono (by omega))).alloc (by omega) _).trans ((hb3.mono (by simp; omega)).trans (hb4.mono (by omega)))

def anyS (block : Int) (l : List Sp) : Bool := l.any fun x => hasS x.1 x.2 block
theorem anyS_iff {block : Int} {l : List Sp} : anyS block l = true ↔ memS block l := by simp [anyS, memS]
theorem anyS_take {block : Int} {l : List Sp} {k : Nat} (h : k < l.length) : anyS block (l.take (k + 1)) = (anyS block (l.take k) || hasS l[k].1 l[k].2 block) := by
  unfold anyS; rw [List.take_succ_eq_append_getElem h, List.any_append]; simp
theorem anyS_eq {block : Int} {a b : List Sp} (h : memS block a ↔ memS block b) : anyS block a = anyS block b := by
  rw [Bool.eq_iff_iff, anyS_iff, anyS_iff]; exact h

end Go.Proofs.YtiokkoeciijkoaaGreat
