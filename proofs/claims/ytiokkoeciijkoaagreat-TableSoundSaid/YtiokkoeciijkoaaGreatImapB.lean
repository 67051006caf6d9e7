/- imap: sorting parts; what a store to the map's box leaves. -/
import Derived.Test.YtiokkoeciijkoaaGreatImapA
import Derived.Test.YtiokkoeciijkoaaGreatLibSp
import Derived.Deep.RegionLaw
namespace Go.Proofs.YtiokkoeciijkoaaGreat
set_option linter.unusedVariables false
set_option linter.unusedSimpArgs false
open Go.RowKit Go.Sort Go.Lib

/-- w' is w but for block p and what lies at B and above -/
structure BelX (p B : Nat) (w w' : World) : Prop where
  os : w'.os = w.os
  tape : w'.tape = w.tape
  output : w'.output = w.output
  size : w.heap.size ≤ w'.heap.size
  block : ∀ k, k < B → k ≠ p → w'.heap[k]? = w.heap[k]?
theorem BelX.refl (p B : Nat) (w : World) : BelX p B w w := ⟨rfl, rfl, rfl, Nat.le_refl _, fun _ _ _ => rfl⟩
theorem BelX.trans {p B : Nat} {a b c : World} (h : BelX p B a b) (h2 : BelX p B b c) : BelX p B a c :=
  ⟨h2.os.trans h.os, h2.tape.trans h.tape, h2.output.trans h.output, Nat.le_trans h.size h2.size, fun k hk hn => (h2.block k hk hn).trans (h.block k hk hn)⟩
theorem BelX.of {p B : Nat} {a b : World} (h : RowKit.Below B a b) : BelX p B a b := ⟨h.os, h.tape, h.output, h.size, fun k hk _ => h.block k hk⟩
theorem BelX.mono {p B B' : Nat} {a b : World} (h : BelX p B a b) (hB : B' ≤ B) : BelX p B' a b := ⟨h.os, h.tape, h.output, h.size, fun k hk hn => h.block k (by omega) hn⟩
theorem BelX.setp {p B : Nat} {a b : World} (h : BelX p B a b) (i : Nat) (v : Value) : BelX p B a (b.setCell ⟨p, i, none⟩ v) :=
  ⟨h.os, h.tape, h.output, by have := h.size; simpa using this, fun k hk hn => (RowKit.Below.heap_setCell _ _ _ _ (fun e => hn e)).trans (h.block k hk hn)⟩
theorem BelX.bk {p B k : Nat} {a b : World} {cs : Array Value} {t : TypeId} (h : BelX p B a b) (hk : Bk a k cs t) (hB : k < B) (hn : k ≠ p) : Bk b k cs t := (h.block k hB hn).trans hk
theorem BelX.cell {p B k i : Nat} {a b : World} (h : BelX p B a b) (hB : k < B) (hn : k ≠ p) : b.cell? ⟨k, i, none⟩ = a.cell? ⟨k, i, none⟩ := by
  unfold World.cell?; rw [h.block k hB hn]
theorem BelX.frozen {p B k i : Nat} {a b : World} (h : BelX p B a b) (hB : k < B) (hn : k ≠ p) : b.frozen? ⟨k, i, none⟩ = a.frozen? ⟨k, i, none⟩ := by
  unfold World.frozen?; rw [h.block k hB hn]
theorem Bk.setp {W : World} {p : Nat} {old v : Value} {t : TypeId} (h : Bk W p #[old] t) : Bk (W.setCell ⟨p, 0, none⟩ v) p #[v] t := by
  show (W.setCell ⟨p, 0, none⟩ v).heap[p]? = _
  simp only [World.setCell]
  rw [Array.getElem?_modify, if_pos rfl, h]
  rfl
theorem Bk.other {W : World} {p q i : Nat} {cs : Array Value} {v : Value} {t : TypeId} (h : Bk W q cs t) (hn : q ≠ p) : Bk (W.setCell ⟨p, i, none⟩ v) q cs t :=
  (RowKit.Below.heap_setCell _ _ _ _ (fun e => hn e)).trans h

def cmpP (x y : Int × Int × Int) : Int := Lib.compareInt x.1 y.1
theorem cmpP_lt (x y : Int × Int × Int) : ltOf cmpP x y = decide (x.1 < y.1) := by
  unfold ltOf cmpP Lib.compareInt
  by_cases h1 : x.1 < y.1
  · simp [h1]
  · by_cases h2 : y.1 < x.1 <;> simp [h1, h2]
theorem swoP : SWO (ltOf cmpP) where
  irrefl x := by rw [cmpP_lt]; simp
  trans x y z h1 h2 := by rw [cmpP_lt] at *; simp at *; omega
  ntrans x y z h1 h2 := by rw [cmpP_lt] at *; simp at *; omega

set_option maxHeartbeats 1000000 in
set_option maxRecDepth 100000 in
theorem ilayC_c (x y : Int × Int × Int) (w : World) :
    Calls Tryz.prog 202 #[.agg (encP x).toArray, .agg (encP y).toArray] w fun e w' => e = .returned (.int .i64 (cmpP x y)) ∧ ∃ q os', w' = grow (w.drewN q) os' := by
  have hcmp0 := fun x y W => AnyG.cmp_Compare_int Tryz.layCmp x y W
  change ∀ x y W, Calls Tryz.prog 77 _ _ _ at hcmp0
  have hcmp := hidd hcmp0
  clear hcmp0
  obtain ⟨a, b, c⟩ := x
  obtain ⟨d, e, f⟩ := y
  show Calls Tryz.prog 202 #[.agg #[.int .i64 a, .int .i64 b, .int .i64 c], .agg #[.int .i64 d, .int .i64 e, .int .i64 f]] w _
  go_enter Tryz.func202, Tryz.ntmps202
  go_wp2_with fail
  refine (hcmp.out _ _ _).mono ?_; rintro e w1 ⟨rfl, rfl⟩
  go_wp2_with fail
  go_ret
  exact ⟨rfl, grow_of_below (((RowKit.Below.refl _ _).alloc (Nat.le_refl _) _).alloc (by simp) _) (Nat.le_refl _)⟩

theorem sortPi_c (v : Value) (xs : List (Int × Int × Int)) (w : World) (base : Nat) (h : Own 3 encP 159 w base v xs) (hbig : xs.length ≤ 1000000000) :
    Calls Tryz.prog 201 #[v, .func (.func 202) #[] #[]] w fun e w' => e = .returned (.tuple #[]) ∧ (∃ ys : List (Int × Int × Int), ys.Perm xs ∧ ys.Pairwise (fun x y => x.1 ≤ y.1) ∧ Own 3 encP 159 w' base v ys) ∧ w.grownBy w' v.ownBlock := by
  have eg : ∀ args w, (callFunc 202 args).run Tryz.prog w = .ok (.enter 202 args) w := Proofs.enters_of Tryz.func202 (by kernel_rfl) rfl
  have hc := sort_generic (P := Tryz.prog) Tryz.laySortPi Tryz.isAgg159 Tryz.sizeOf159 encP_len encP_one cmpP swoP 202 eg (fun x y W => ilayC_c x y W) h (by omega)
  change Calls Tryz.prog 201 _ _ _ at hc
  refine hc.mono fun e w' ⟨he, ys, hp, hs, ho, hg⟩ => ⟨he, ⟨ys, hp, ?_, ?_⟩, hg⟩
  · refine hs.imp fun {x y} hxy => ?_
    rw [cmpP_lt] at hxy
    simp at hxy
    omega
  · unfold Own; rw [hp.length_eq]; exact ho
end Go.Proofs.YtiokkoeciijkoaaGreat
