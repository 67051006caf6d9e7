/- imap: Swap. -/
import Derived.Test.YtiokkoeciijkoaaGreatImapM
namespace Go.Proofs.YtiokkoeciijkoaaGreat
set_option linter.unusedVariables false
set_option linter.unusedSimpArgs false
open Go.RowKit

theorem BelX.bel {p B : Nat} {a b c : World} (h : BelX p B a b) (h2 : Below b.heap.size b c) (hB : B ≤ b.heap.size) : BelX p B a c := h.trans (BelX.of (h2.mono hB))
theorem IM.far {F : Nat → Prop} {W : World} {p q B : Nat} {xs : List (Pt Int)} {W' : World} (h : IM F W p xs) (hb : BelX q B W W') (hB : W.heap.size ≤ B) (hq : F q) (hn : p ≠ q) : IM F W' p xs := by
  obtain ⟨A, c, h1, h2, h3⟩ := h.ex
  refine ⟨A, c, hb.bk h1 (Nat.lt_of_lt_of_le h1.lt hB) hn, ?_, h3⟩
  rcases h2 with h2 | ⟨b, o, hA, hlt, hc⟩
  · exact .inl h2
  · by_cases hx : xs = []
    · exact .inl hx
    · have hbq : b ≠ q := fun e => h3 b o hx hA (by rw [e]; exact hq)
      exact .inr ⟨b, o, hA, Nat.lt_of_lt_of_le hlt hb.size, fun j u hu => (hb.cell (Nat.lt_of_lt_of_le hlt hB) hbq).trans (hc j u hu)⟩
theorem Rd.belX {α : Type} {k : Nat} {enc : α → List Value} {w w' : World} {A : Option Addr} {xs : List α} {q B : Nat} (h : Rd k enc w A xs) (hb : BelX q B w w') (hB : w.heap.size ≤ B) (hq : ∀ b o, xs ≠ [] → A = some ⟨b, o, none⟩ → b ≠ q) : Rd k enc w' A xs := by
  rcases h with h | ⟨b, o, hA, hlt, hc⟩
  · exact .inl h
  · by_cases hx : xs = []
    · exact .inl hx
    · exact .inr ⟨b, o, hA, Nat.lt_of_lt_of_le hlt hb.size, fun j u hu => (hb.cell (Nat.lt_of_lt_of_le hlt hB) (hq b o hx hA)).trans (hc j u hu)⟩

def swapN (s0 s1 f : Int) (xs : List (Pt Int)) : Int := tot (withP f (partsP s0 s1 xs))

set_option maxHeartbeats 4000000 in
set_option maxRecDepth 100000 in
theorem iSwap_c {F : Nat → Prop} {B : Nat} (p : Nat) (xs : List (Pt Int)) (s0 s1 f t : Int) (w : World) (h : IM F w p xs) (hF : ∀ k, F k → k < w.heap.size) (hg : GoodP I64 B xs) (hB : B ≤ 10000000) (hs : I64 s0 ∧ I64 s1) (ht : I64 t) :
    Calls Tryz.prog 38 #[ptr p, spV s0 s1, .int .i64 f, .int .i64 t] w fun e w' => e = .returned (.int .i64 (swapN s0 s1 f xs)) ∧ IM F w' p (swapF f t (partsP s0 s1 xs) xs) ∧ BelX p w.heap.size w w' := by
  have HM := hidd h
  have HF := hidd hF
  have HG := hidd hg
  have HT := hidd ht
  have hpw := h.lt
  have HN : Hid (tot (withP f (partsP s0 s1 xs)) = swapN s0 s1 f xs) := rfl
  generalize swapN s0 s1 f xs = N at *
  have hGP := hg.parts (s0 := s0) (s1 := s1) hs.1 hs.2
  have HP := hidd (iParts_c p xs s0 s1 (w.alloc (.cells #[.int .i64 s0, .int .i64 s1] 43)) (h.next (below_alloc _ _) (Nat.le_refl _)) (by have := hg.len; omega))
  generalize partsP s0 s1 xs = P at *
  have HGP := hidd hGP
  have hpl : P.length ≤ 10000000 := by have := hGP.len; omega
  clear h hF hg hs ht hGP
  go_enter Tryz.func38, Tryz.ntmps38
  go_wp2_with fail
  refine HP.out.mono ?_; rintro e w1 ⟨⟨v1, rfl, ho1⟩, hb1⟩
  obtain ⟨A, c, rfl⟩ := own_shape ho1
  have HR := hidd (Own.rd ho1 rfl)
  have HFar : Hid (∀ b o, A = some ⟨b, o, none⟩ → b ≠ p) := fun b o hA he => by
    subst hA; subst he
    rcases ho1.2 with ⟨h1, _⟩ | ⟨g, cap, cur, h1, h2, _⟩
    · cases h1
    · injection h1 with h1 _ _; cases h1; simp at h2; omega
  clear ho1
  have hB1 : Below w.heap.size w w1 := below_alloc1 hb1
  have hm1 := HM.out.next hB1 (Nat.le_refl _)
  clear hb1
  go_wp2_with fail
  go_loopw [9, 16] (fun n i wr => ∃ k : Nat, k ≤ P.length ∧ i = .int .i64 k ∧ n = .int .i64 (tot (withP f (P.take k))) ∧ Hid (IM F wr p (swapF f t (P.take k) xs)) ∧ BelX p w1.heap.size w1 wr) (fun _ i _ => P.length - (intOf i).toNat)
  case atStart => exact ⟨0, by omega, rfl, rfl, hm1, BelX.refl _ _ _⟩
  case round =>
    obtain ⟨k, hk, rfl, rfl, hm, hbr⟩ := hrel
    by_cases hlt : k < P.length
    · have hne : P ≠ [] := by intro e; rw [e] at hlt; simp at hlt
      obtain ⟨b, o, rfl, hblt, hc⟩ := HR.out.cells3 hne
      have hbp : b ≠ p := HFar.out b o rfl
      obtain ⟨g0, g1, g2⟩ := hc k hlt
      rw [← hbr.cell (p := p) hblt hbp] at g0 g1 g2
      have hbw : b < wr.heap.size := Nat.lt_of_lt_of_le hblt hbr.size
      clear hc
      have HSW := hidd (swapF_take (f := f) (t := t) (xs := xs) hlt)
      have HTK := hidd (withP_take (v := f) hlt)
      have hT0 := withP_tot (HGP.out.take k) f
      have hT1 := withP_tot (HGP.out.take (k + 1)) f
      have HG2 := hidd ((swapF_good (f := f) (t := t) HG.out (HGP.out.take k).ok HT.out).mono (show B + 2 * (P.take k).length ≤ 50000000 by rw [List.length_take]; omega))
      have HOK := hidd (HGP.out.ok P[k] (List.getElem_mem hlt))
      have HV := hidd (HGP.out.can.val P[k] (List.getElem_mem hlt))
      generalize P[k] = y at *
      obtain ⟨x0, x1, xv⟩ := y
      simp only [] at g0 g1 g2
      by_cases he : xv = f
      · have hTT : tot (withP f (P.take (k + 1))) = tot (withP f (P.take k)) + lenS x0 x1 := by
          rw [HTK.out, if_pos he, tot_append]; simp [tot]
        rw [hTT] at hT1
        have HTT := hidd hTT
        have HLE := hidd (sLen_c x0 x1)
        generalize lenS x0 x1 = d at *
        generalize tot (withP f (P.take k)) = T at *
        obtain ⟨hT0a, hT0b⟩ := hT0
        obtain ⟨hT1a, hT1b⟩ := hT1
        have hmw : p < wr.heap.size := hm.out.lt
        have HX := hidd (Bk.new wr #[.int .i64 x0, .int .i64 x1, .int .i64 xv] 159 rfl)
        clear hTT
        subst he
        go_wp2_with fail
        refine (HLE.out _ HOK.out.1 HOK.out.2.1).mono ?_; rintro e w3 ⟨rfl, hb3⟩
        have xp := (HX.out.next hb3 (Nat.le_refl _)).bx3
        have hbr3 : BelX p w1.heap.size w1 w3 := hbr.bel (below_alloc1 hb3) hbr.size
        have HS := hidd (fSet_c p _ x0 x1 t w3 (hm.out.next (below_alloc1 hb3) (Nat.le_refl _)) (fun k hk => Nat.lt_of_lt_of_le (HF.out k hk) (Nat.le_trans hB1.size hbr3.size)) HG2.out.can HG2.out.len)
        clear hb3
        go_wp2_with fail
        refine HS.out.mono ?_; rintro e w4 ⟨rfl, hm4, hb4⟩
        go_wp2_with fail
        go_roundw
        case rel => exact ⟨k + 1, by omega, by go_num, by rw [HTT.out], by show IM _ _ _ _; rw [HSW.out]; simp only [if_true]; exact hm4, hbr3.trans (hb4.mono hbr3.size)⟩
        case measure => simp [intOf]; omega
      · go_wp2_with fail
        go_roundw
        case rel => exact ⟨k + 1, by omega, by go_num, by rw [HTK.out, if_neg he, List.append_nil], by show IM _ _ _ _; rw [HSW.out, if_neg he]; exact hm.out.next (below_alloc _ _) (Nat.le_refl _), hbr.bel (below_alloc _ _) hbr.size⟩
        case measure => simp [intOf]; omega
    · obtain rfl : k = P.length := by omega
      rw [List.take_length] at hm
      rw [List.take_length, HN.out]
      go_wp2_with fail
      go_ret
      exact ⟨rfl, hm.out, (BelX.of hB1).trans (hbr.mono hB1.size)⟩
end Go.Proofs.YtiokkoeciijkoaaGreat
