/- imap: Clear, Get, Len, New. -/
import Derived.Test.YtiokkoeciijkoaaGreatImapD
namespace Go.Proofs.YtiokkoeciijkoaaGreat
set_option linter.unusedVariables false
set_option linter.unusedSimpArgs false
open Go.RowKit

structure ClearTo (s0 s1 : Int) (xs ys : List (Pt Int)) : Prop where
  yes : vld s0 s1 = true → LayOf (withoutP (s0, s1) xs) ys
  no : vld s0 s1 = false → ys = xs

set_option maxHeartbeats 8000000 in
set_option maxRecDepth 100000 in
theorem iClear_c {F : Nat → Prop} (p : Nat) (xs : List (Pt Int)) (s0 s1 : Int) (w : World) (h : IM F w p xs) (hF : ∀ k, F k → k < w.heap.size) (hd : Dis xs) (hl : xs.length ≤ 50000000) :
    Calls Tryz.prog 35 #[ptr p, spV s0 s1] w fun e w' => e = .returned (.bool (vld s0 s1)) ∧ (∃ ys, IM F w' p ys ∧ ClearTo s0 s1 xs ys) ∧ BelX p w.heap.size w w' := by
  have HD := hidd hd
  have HB0 := hidd (below_alloc w (.cells #[.int .i64 s0, .int .i64 s1] 43))
  have HXB := hidd (Bk.new w #[.int .i64 s0, .int .i64 s1] 43 rfl)
  have HM := hidd h
  have HF := hidd hF
  have hpw := h.lt
  clear h hd hF
  cases hv : vld s0 s1 with
  | false =>
    have HV := hidd hv
    clear hv
    go_enter Tryz.func35, Tryz.ntmps35
    go_wp2_with fail
    refine (sValid_c _ _ _).mono ?_; rintro e w1 ⟨rfl, hb1⟩
    rw [HV.out]
    have hb01 := HB0.out.trans (hb1.mono (by simp))
    go_wp2_with fail
    go_ret
    exact ⟨rfl, ⟨xs, HM.out.next hb01 (Nat.le_refl _), fun h => (by rw [HV.out] at h; cases h), fun _ => rfl⟩, BelX.of hb01⟩
  | true =>
    have HV := hidd hv
    clear hv
    go_enter Tryz.func35, Tryz.ntmps35
    go_wp2_with fail
    refine (sValid_c _ _ _).mono ?_; rintro e w1 ⟨rfl, hb1⟩
    rw [HV.out]
    have hb01 := HB0.out.trans (hb1.mono (by simp))
    have hs := hidd (vld_iff.1 HV.out)
    obtain ⟨A, c, hbk0, hrd0, hfar0⟩ := HM.out.ex
    have hbk1 := hbk0.next hb01 (Nat.le_refl _)
    have hrd1 := hrd0.below hb01 (Nat.le_refl _)
    have hpw1 : p < w1.heap.size := Nat.lt_of_lt_of_le hpw hb01.size
    have hw0 : Bx2 w1 w.heap.size (.int .i64 s0) (.int .i64 s1) := (HXB.out.next hb1 (Nat.le_refl _)).bx2
    have HWO := hidd (iwithout_c p A c xs s0 s1 w1 hbk1 hrd1 hs.out HD.out (by omega))
    have HAP := hidd ((withoutP_dis (s := (s0, s1)) hs.out HD.out).apart)
    have HLZ : Hid ((withoutP (s0, s1) xs).length ≤ 100000000) := by show _ ≤ _; have := withoutP_len (s0, s1) xs; omega
    have HBK := hidd hbk1
    clear hbk0 hrd0 hbk1 hrd1
    go_wp2_with fail
    refine HWO.out.mono ?_; rintro e w5 ⟨⟨v5, rfl, ho5⟩, hb5⟩
    have HL := hidd (ilay_c p _ v5 (withoutP (s0, s1) xs) w5 w1.heap.size (HBK.out.next hb5 (Nat.le_refl _)) ho5 hpw1 hb5.size HAP.out (by have := HLZ.out; omega))
    clear ho5
    go_wp2_with fail
    refine HL.out.mono ?_; rintro e w7 ⟨rfl, ⟨A7, c7, ys, hlay, hbk7, ho7⟩, hb7⟩
    go_wp2_with fail
    go_ret
    refine ⟨rfl, ⟨ys, ⟨A7, c7, hbk7, Own.rd ho7 rfl, fun b o hne hA hFb => ?_⟩, fun _ => hlay, fun h => (by rw [HV.out] at h; cases h)⟩, ?_⟩
    · subst hA
      have := ho7.lt b rfl
      have := hb5.size
      have := HF.out b hFb
      have := hb01.size
      omega
    · exact (BelX.of hb01).trans ((BelX.of hb5).trans hb7 |>.mono hb01.size)

/-- what a block has, if it has something -/
def getP {α : Type} (n : Int) (l : List (Pt α)) : Option α := (l.find? fun x => hasS x.1 x.2.1 n).map fun x => x.2.2
theorem getP_none {α : Type} {n : Int} {l : List (Pt α)} : getP n l = none ↔ ∀ x ∈ l, hasS x.1 x.2.1 n = false := by
  unfold getP; simp
theorem getP_at {α : Type} {n : Int} {l : List (Pt α)} (h : Dis l) {v : α} : getP n l = some v ↔ atP n v l := by
  unfold getP
  constructor
  · intro h1
    obtain ⟨x, hx, rfl⟩ := Option.map_eq_some_iff.1 h1
    exact ⟨x, List.mem_of_find?_eq_some hx, by simpa using List.find?_some hx, rfl⟩
  · intro h1
    cases hg : l.find? (fun x => hasS x.1 x.2.1 n) with
    | none =>
      obtain ⟨x, hx, h2, _⟩ := h1
      have := List.find?_eq_none.1 hg x hx
      exact absurd h2 this
    | some x =>
      have h2 : atP n x.2.2 l := ⟨x, List.mem_of_find?_eq_some hg, by simpa using List.find?_some hg, rfl⟩
      rw [h.func h1 h2]; rfl
theorem getP_hit {α : Type} {n : Int} {l : List (Pt α)} {k : Nat} (hk : k < l.length) (hb : ∀ j (hj : j < k), hasS (l[j]'(by omega)).1 (l[j]'(by omega)).2.1 n = false) (h : hasS l[k].1 l[k].2.1 n = true) : getP n l = some l[k].2.2 := by
  unfold getP
  have : l.find? (fun x => hasS x.1 x.2.1 n) = some l[k] := by
    rw [List.find?_eq_some_iff_getElem]
    exact ⟨h, k, hk, rfl, fun j hj => by simp [hb j hj]⟩
  rw [this]; rfl
end Go.Proofs.YtiokkoeciijkoaaGreat
