/- mode: Parse; chapter 17's first call. -/
import Derived.Test.YtiokkoeciijkoaaModeC
namespace Go.Proofs.Ytiokkoeciijkoaa
set_option linter.unusedVariables false
set_option linter.unusedSimpArgs false
open Go.RowKit

theorem bs_no {a b : ByteArray} (h : ¬ a = b) : (a.toList == b.toList) = false := by
  rw [ByteArray.toList_eq, ByteArray.toList_eq, beq_eq_false_iff_ne]
  intro e
  refine h ?_; cases a; cases b; congr 1; exact Array.toList_inj.1 e
theorem bs_yes {a b : ByteArray} (h : a = b) : (a.toList == b.toList) = true := by rw [h]; simp

def parseN (s : ByteArray) : Int := if s = nameS 0 then 0 else if s = nameS 1 then 1 else if s = nameS 2 then 2 else 0
def parseB (s : ByteArray) : Bool := decide (s = nameS 0) || (decide (s = nameS 1) || decide (s = nameS 2))
theorem parse_name {m : Int} (h : modeB m = true) : parseN (nameS m) = m ∧ parseB (nameS m) = true := by
  rw [modeB_iff] at h
  rcases (by omega : m = 0 ∨ m = 1 ∨ m = 2) with rfl | rfl | rfl <;> exact ⟨by decide, by decide⟩
theorem parse_ways (s : ByteArray) : ((nameS 0).toList == s.toList) = true ∧ parseN s = 0 ∧ parseB s = true ∨ ((nameS 0).toList == s.toList) = false ∧ ((nameS 1).toList == s.toList) = true ∧ parseN s = 1 ∧ parseB s = true ∨
    ((nameS 0).toList == s.toList) = false ∧ ((nameS 1).toList == s.toList) = false ∧ ((nameS 2).toList == s.toList) = true ∧ parseN s = 2 ∧ parseB s = true ∨
    ((nameS 0).toList == s.toList) = false ∧ ((nameS 1).toList == s.toList) = false ∧ ((nameS 2).toList == s.toList) = false ∧ parseN s = 0 ∧ parseB s = false := by
  by_cases h0 : s = nameS 0
  · exact .inl ⟨bs_yes h0.symm, by unfold parseN; rw [if_pos h0], by simp [parseB, h0]⟩
  · by_cases h1 : s = nameS 1
    · exact .inr (.inl ⟨bs_no (fun e => h0 e.symm), bs_yes h1.symm, by unfold parseN; rw [if_neg h0, if_pos h1], by simp [parseB, h1]⟩)
    · by_cases h2 : s = nameS 2
      · exact .inr (.inr (.inl ⟨bs_no (fun e => h0 e.symm), bs_no (fun e => h1 e.symm), bs_yes h2.symm, by unfold parseN; rw [if_neg h0, if_neg h1, if_pos h2], by simp [parseB, h2]⟩))
      · exact .inr (.inr (.inr ⟨bs_no (fun e => h0 e.symm), bs_no (fun e => h1 e.symm), bs_no (fun e => h2 e.symm), by unfold parseN; rw [if_neg h0, if_neg h1, if_neg h2], by simp [parseB, h0, h1, h2]⟩))

def parseP (s : ByteArray) : Nat → Prop
  | 0 => True
  | 1 => ((nameS 0).toList == s.toList) = false
  | 2 => ((nameS 0).toList == s.toList) = false ∧ ((nameS 1).toList == s.toList) = false
  | _ => ((nameS 0).toList == s.toList) = false ∧ ((nameS 1).toList == s.toList) = false ∧ ((nameS 2).toList == s.toList) = false
theorem parse_at0 {s : ByteArray} (h : ((nameS 0).toList == s.toList) = true) : parseN s = 0 ∧ parseB s = true := by
  rcases parse_ways s with ⟨_, h1⟩ | ⟨h0, _⟩ | ⟨h0, _⟩ | ⟨h0, _⟩
  · exact h1
  all_goals rw [h] at h0; cases h0
theorem parse_at1 {s : ByteArray} (h0 : ((nameS 0).toList == s.toList) = false) (h : ((nameS 1).toList == s.toList) = true) : parseN s = 1 ∧ parseB s = true := by
  rcases parse_ways s with ⟨h1, _⟩ | ⟨_, _, h1⟩ | ⟨_, h1, _⟩ | ⟨_, h1, _⟩
  · rw [h0] at h1; cases h1
  · exact h1
  all_goals rw [h] at h1; cases h1
theorem parse_at2 {s : ByteArray} (h0 : ((nameS 0).toList == s.toList) = false) (h : ((nameS 1).toList == s.toList) = false) (h2 : ((nameS 2).toList == s.toList) = true) : parseN s = 2 ∧ parseB s = true := by
  rcases parse_ways s with ⟨h1, _⟩ | ⟨_, h1, _⟩ | ⟨_, _, _, h1⟩ | ⟨_, _, h1, _⟩
  · rw [h0] at h1; cases h1
  · rw [h] at h1; cases h1
  · exact h1
  · rw [h2] at h1; cases h1
theorem parse_at3 {s : ByteArray} (h0 : ((nameS 0).toList == s.toList) = false) (h : ((nameS 1).toList == s.toList) = false) (h2 : ((nameS 2).toList == s.toList) = false) : parseN s = 0 ∧ parseB s = false := by
  rcases parse_ways s with ⟨h1, _⟩ | ⟨_, h1, _⟩ | ⟨_, _, h1, _⟩ | ⟨_, _, _, h1⟩
  · rw [h0] at h1; cases h1
  · rw [h] at h1; cases h1
  · rw [h2] at h1; cases h1
  · exact h1
set_option maxHeartbeats 1000000 in
set_option maxRecDepth 100000 in
theorem mParse_c (s : ByteArray) (w : World) : Calls Try.prog 55 #[.string s] w fun e w' => e = .returned (.tuple #[.int .i64 (parseN s), .bool (parseB s)]) ∧ w' = w := by
  have K := hidd mName_c
  have H0 := hidd (@parse_at0 s)
  have H1 := hidd (@parse_at1 s)
  have H2 := hidd (@parse_at2 s)
  have H3 := hidd (@parse_at3 s)
  generalize parseN s = pn at *
  generalize parseB s = pb at *
  go_enter Try.func55, Try.ntmps55
  go_wp2_with fail
  go_loopw [4] (fun i wr => ∃ k : Nat, k ≤ 3 ∧ i = .int .i64 k ∧ wr = w ∧ Hid (parseP s k)) (fun i _ => 3 - (intOf i).toNat)
  case atStart => exact ⟨0, by omega, rfl, rfl, trivial⟩
  case round =>
    obtain ⟨k, hk, rfl, rfl, hp⟩ := hrel
    rcases (by omega : k = 0 ∨ k = 1 ∨ k = 2 ∨ k = 3) with rfl | rfl | rfl | rfl
    · rw [show ((0 : Nat) : Int) = 0 from rfl]
      cases hx : ((nameS 0).toList == s.toList) with
      | true =>
        have h := hidd (H0.out hx)
        go_wp2_with fail
        refine (K.out _ _).mono ?_; rintro e w1 ⟨rfl, rfl⟩
        go_wp2_with fail
        refine bodyPost_ret (v := .tuple #[.int .i64 0, .bool true]) (by simp [results, Try.results55, go_sem]) rfl ⟨by rw [h.out.1, h.out.2], rfl⟩
      | false =>
        have HXX := hidd hx
        go_wp2_with fail
        refine (K.out _ _).mono ?_; rintro e w1 ⟨rfl, rfl⟩
        go_wp2_with fail
        go_roundw
        case rel => exact ⟨1, by omega, rfl, trivial, HXX.out⟩
        case measure => simp [intOf]
    · rw [show ((1 : Nat) : Int) = 1 from rfl]
      cases hx : ((nameS 1).toList == s.toList) with
      | true =>
        have h := hidd (H1.out hp.out hx)
        go_wp2_with fail
        refine (K.out _ _).mono ?_; rintro e w1 ⟨rfl, rfl⟩
        go_wp2_with fail
        refine bodyPost_ret (v := .tuple #[.int .i64 1, .bool true]) (by simp [results, Try.results55, go_sem]) rfl ⟨by rw [h.out.1, h.out.2], rfl⟩
      | false =>
        have HXX := hidd hx
        go_wp2_with fail
        refine (K.out _ _).mono ?_; rintro e w1 ⟨rfl, rfl⟩
        go_wp2_with fail
        go_roundw
        case rel => exact ⟨2, by omega, rfl, trivial, hp.out, HXX.out⟩
        case measure => simp [intOf]
    · rw [show ((2 : Nat) : Int) = 2 from rfl]
      cases hx : ((nameS 2).toList == s.toList) with
      | true =>
        have h := hidd (H2.out hp.out.1 hp.out.2 hx)
        go_wp2_with fail
        refine (K.out _ _).mono ?_; rintro e w1 ⟨rfl, rfl⟩
        go_wp2_with fail
        refine bodyPost_ret (v := .tuple #[.int .i64 2, .bool true]) (by simp [results, Try.results55, go_sem]) rfl ⟨by rw [h.out.1, h.out.2], rfl⟩
      | false =>
        have HXX := hidd hx
        go_wp2_with fail
        refine (K.out _ _).mono ?_; rintro e w1 ⟨rfl, rfl⟩
        go_wp2_with fail
        go_roundw
        case rel => exact ⟨3, by omega, rfl, trivial, hp.out.1, hp.out.2, HXX.out⟩
        case measure => simp [intOf]
    · rw [show ((3 : Nat) : Int) = 3 from rfl]
      have h := hidd (H3.out hp.out.1 hp.out.2.1 hp.out.2.2)
      go_wp2_with fail
      refine bodyPost_ret (v := .tuple #[.int .i64 0, .bool false]) (by simp [results, Try.results55, go_sem]) rfl ⟨by rw [h.out.1, h.out.2], rfl⟩

/-- a row that was laid just now -/
theorem rd_new {α : Type} {k : Nat} {enc : α → List Value} (W : World) {W' : World} {cs : Array Value} {t : TypeId} {p B : Nat} {xs : List α} (hp : p = W.heap.size) (hcs : cs.toList = xs.flatMap enc) (hb : Below B (W.alloc (.cells cs t)) W') (hB : W.heap.size < B) : Rd k enc W' (some ⟨p, 0, none⟩) xs := by
  subst hp
  refine .inr ⟨W.heap.size, 0, rfl, ?_, fun j u hu => ?_⟩
  · have := hb.size; simp at this; omega
  · rw [Nat.zero_add]
    refine (hb.cell (p := ⟨W.heap.size, j, none⟩) hB).trans ?_
    rw [cell_of_row _ _ j _ t (0, 0) (heap_alloc_new W _), ← Array.getElem?_toList, hcs]
    exact hu
theorem asked_alive : askedF [((0, 5, 1) : Pt Int), (3, 9, 2)] = [(0, 3, 1), (3, 9, 2)] := by decide
set_option maxHeartbeats 1000000 in
set_option maxRecDepth 100000 in
theorem alive17_c (w : World) : Calls Try.prog 52 #[] w fun e w' => e = .returned (.bool true) ∧ Below w.heap.size w w' := by
  have KF := hidd mFit_c
  have KN := hidd mName_c
  have KP := hidd mParse_c
  have h1 := hidd (rd_new (k := 3) (enc := encP) w (cs := #[.int .i64 0, .int .i64 5, .int .i64 1, .int .i64 3, .int .i64 9, .int .i64 2]) (t := 72) (xs := [(0, 5, 1), (3, 9, 2)]) rfl rfl (Below.refl (w.heap.size + 1) _) (by omega))
  have KNo := hidd (mNorm_c (some ⟨w.heap.size, 0, none⟩) 2 2 [(0, 5, 1), (3, 9, 2)] _ h1.out rfl (by simp))
  go_enter Try.func52, Try.ntmps52
  go_wp2_with fail
  refine KNo.out.mono ?_; rintro e w1 ⟨⟨u, rfl, ho⟩, hb1⟩
  rw [asked_alive] at ho
  obtain ⟨g, cap, rfl, hgb, hgl, hgc, _⟩ := own_at ho (by simp)
  have c0 : w1.cell? ⟨g, 3, none⟩ = some (.int .i64 3) := hgc 3 _ rfl
  have c1 : w1.cell? ⟨g, 4, none⟩ = some (.int .i64 9) := hgc 4 _ rfl
  have c2 : w1.cell? ⟨g, 5, none⟩ = some (.int .i64 2) := hgc 5 _ rfl
  have hB1 := below_alloc1 hb1
  clear ho hgc hb1
  go_wp2_with fail
  refine (KP.out _ _).mono ?_; rintro e w2 ⟨rfl, rfl⟩
  rw [show parseN ⟨#[115, 104, 97, 114, 101, 100]⟩ = 1 by decide, show parseB ⟨#[115, 104, 97, 114, 101, 100]⟩ = true by decide]
  go_wp2_with fail
  refine (KF.out _ _ _).mono ?_; rintro e w3 ⟨rfl, rfl⟩
  rw [show fitB 1 1 = true from rfl]
  go_wp2_with fail
  refine (KF.out _ _ _).mono ?_; rintro e w4 ⟨rfl, rfl⟩
  rw [show fitB 1 2 = false from rfl]
  go_wp2_with fail
  refine (KN.out _ _).mono ?_; rintro e w5 ⟨rfl, rfl⟩
  rw [show nameS 2 = ⟨#[101, 120, 99, 108, 117, 115, 105, 118, 101]⟩ from rfl]
  go_wp2_with fail
  go_ret
  exact ⟨by first | rfl | simp, hB1⟩
end Go.Proofs.Ytiokkoeciijkoaa
