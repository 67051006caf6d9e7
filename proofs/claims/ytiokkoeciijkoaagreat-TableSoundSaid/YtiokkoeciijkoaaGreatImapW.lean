/- imap: With. -/
import Derived.Test.YtiokkoeciijkoaaGreatImapP
namespace Go.Proofs.YtiokkoeciijkoaaGreat
set_option linter.unusedVariables false
set_option linter.unusedSimpArgs false
open Go.RowKit

def withP (v : Int) (l : List (Pt Int)) : List Sp := l.flatMap fun x => if x.2.2 = v then [(x.1, x.2.1)] else []
theorem withP_take {v : Int} {l : List (Pt Int)} {k : Nat} (h : k < l.length) : withP v (l.take (k + 1)) = withP v (l.take k) ++ (if l[k].2.2 = v then [(l[k].1, l[k].2.1)] else []) := by
  unfold withP; rw [List.take_succ_eq_append_getElem h, List.flatMap_append]; simp
theorem withP_len (v : Int) (l : List (Pt Int)) : (withP v l).length ≤ l.length := by
  unfold withP
  induction l with
  | nil => simp
  | cons p l ih =>
    have : (if p.2.2 = v then [((p.1, p.2.1) : Sp)] else []).length ≤ 1 := by split <;> simp
    rw [List.flatMap_cons, List.length_append, List.length_cons]
    omega

set_option maxHeartbeats 4000000 in
set_option maxRecDepth 100000 in
theorem iWith_c {F : Nat → Prop} (p : Nat) (xs : List (Pt Int)) (v : Int) (w : World) (h : IM F w p xs) (hl : xs.length ≤ 100000000) :
    Calls Tryz.prog 41 #[ptr p, .int .i64 v] w fun e w' => (∃ u, e = .returned u ∧ Own 2 encS 43 w' w.heap.size u (withP v xs)) ∧ Below w.heap.size w w' := by
  have HA := hidd (iAll_c p xs w h (by omega))
  clear h
  go_enter Tryz.func41, Tryz.ntmps41
  go_wp2_with fail
  refine HA.out.mono ?_; rintro e w1 ⟨⟨v1, rfl, ho1⟩, hb1⟩
  obtain ⟨A, c, rfl⟩ := own_shape ho1
  have HR := hidd (Own.rd ho1 rfl)
  clear ho1
  go_wp2_with fail
  go_loopw [5, 11] (fun u i wr => ∃ k : Nat, k ≤ xs.length ∧ i = .int .i64 k ∧ Hid (Own 2 encS 43 wr w1.heap.size u (withP v (xs.take k))) ∧ Below w1.heap.size w1 wr) (fun _ i _ => xs.length - (intOf i).toNat)
  case atStart => exact ⟨0, by omega, rfl, World.ownsRow_nil _ _ _ _, Below.refl _ _⟩
  case round =>
    obtain ⟨k, hk, rfl, hown, hbr⟩ := hrel
    by_cases hlt : k < xs.length
    · have hne : xs ≠ [] := by intro e; rw [e] at hlt; simp at hlt
      obtain ⟨b, o, rfl, hblt, hc⟩ := HR.out.cells3 hne
      obtain ⟨g0, g1, g2⟩ := hc k hlt
      rw [← hbr.cell (p := ⟨_, _, none⟩) hblt] at g0 g1 g2
      have hbw : b < wr.heap.size := Nat.lt_of_lt_of_le hblt hbr.size
      clear hc
      have HT := hidd (withP_take (v := v) hlt)
      have hpl : (withP v (xs.take k)).length ≤ 100000000 := by have := withP_len v (xs.take k); rw [List.length_take] at this; omega
      generalize xs[k] = y at *
      obtain ⟨x0, x1, xv⟩ := y
      simp only [] at g0 g1 g2
      by_cases he : xv = v
      · have HE := hidd he
        subst he
        go_wp2_with (at_builtin; refine wpList_app_new Tryz.underlying22 infoSpan rfl (by decide) hown.out hbr.size ?c1 rfl rfl rfl rfl ?c2 ?c3 ?c4 ?c5 ?c6 (fun v' w' hown' hb' => ?_))
        case c1 => exact below_alloc _ _
        try (case c2 => simp)
        try (case c3 => rfl)
        case c4 => simp [Value.oneCell']
        case c5 => unfold maxLen; omega
        case c6 => omega
        go_roundw
        case rel => exact ⟨k + 1, by omega, by go_num, by show Own _ _ _ _ _ _ _; rw [HT.out, if_pos rfl]; unfold Own; rw [List.flatMap_append, List.length_append]; exact hown', hbr.trans hb'⟩
        case measure => simp [intOf]; omega
      · go_wp2_with fail
        go_roundw
        case rel => exact ⟨k + 1, by omega, by go_num, by show Own _ _ _ _ _ _ _; rw [HT.out, if_neg he, List.append_nil]; exact own_below hown.out (below_alloc wr _), hbr.trans ((below_alloc wr _).mono hbr.size)⟩
        case measure => simp [intOf]; omega
    · obtain rfl : k = xs.length := by omega
      rw [List.take_length] at hown
      go_wp2_with fail
      go_ret
      exact ⟨⟨_, rfl, own_base hown.out hb1.size⟩, hb1.trans (hbr.mono hb1.size)⟩
end Go.Proofs.YtiokkoeciijkoaaGreat
