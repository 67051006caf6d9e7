/- imap: All; the parts cloned. -/
import Derived.Test.YtiokkoeciijkoaaGreatImapF
import Derived.Test.YtiokkoeciijkoaaGreatLibSp
import Derived.Lib.SliceRun
namespace Go.Proofs.YtiokkoeciijkoaaGreat
set_option linter.unusedVariables false
set_option linter.unusedSimpArgs false
open Go.RowKit Go.Sort Go.Lib

set_option maxHeartbeats 400000 in
theorem clonePi_c (A : Option Addr) (n c : Nat) (xs : List (Pt Int)) (w : World) (h : Rd 3 encP w A xs) (hn : n = xs.length) (hbig : xs.length ≤ 1000000000) :
    Calls Tryz.prog 143 #[.slice A n c] w fun e w' => (∃ v', e = .returned v' ∧ Own 3 encP 159 w' w.heap.size v' xs) ∧ Below w.heap.size w w' := by
  have q := fun (w : World) (a : Option Addr) (n c n' c' : Nat) => Lib.run_eql_slice_nil (P := Tryz.prog) w 66 159 a n c n' c' Tryz.underlying66
  have hl := flat_length encP 3 encP_len xs
  cases A with
  | none =>
    have hx : xs = [] := by rcases h with h | ⟨b, o, h, _⟩; · exact h
                            · cases h
    subst hx
    simp at hn
    subst hn
    go_enter Tryz.func143, Tryz.ntmps143
    go_wp2
    go_ret
    exact ⟨⟨_, rfl, World.ownsRow_nil _ _ _ _⟩, Below.refl _ _⟩
  | some a =>
    have H : Hid (∀ j u, (xs.flatMap encP)[j]? = some u → w.cell? (a.add j) = some u) := by
      intro j u hu
      rcases h with h | ⟨b, o, ha, _, hc⟩
      · subst h; simp at hu
      · injection ha with ha; subst ha; rw [add_lit']; exact hc j u hu
    have h1 : Hid (∀ u ∈ xs.flatMap encP, u.oneCell' = true) := by
      intro u hu; obtain ⟨x, _, hx⟩ := List.mem_flatMap.1 hu; exact encP_one x u hx
    have HL := hidd hl
    have HN := hidd hn
    clear hl hn h
    obtain ⟨i, hi, hz, h3, h4⟩ := info_parts infoPartI
    go_enter Tryz.func143, Tryz.ntmps143
    go_wp2_with (at_builtin; refine wpList_append_own _ rfl _ _ 66 rfl w.heap.size 159 i _ 3 24 Tryz.underlying66 hi hz h3 h4 rfl (by decide) _ 0 [] rfl (World.ownsRow_made w #[] 0 (Nat.le_refl _) (Nat.zero_le _) (by simp)) a n c (xs.flatMap encP) rfl (by rw [HL.out, HN.out]) (fun j u hu => Lib.cell?_alloc_some _ (H.out j u hu)) h1.out (by rw [HN.out]; unfold maxLen; omega) (by rw [HN.out]; omega) (by simp) (fun v' w' ho hg hnil => ?_))
    go_ret
    exact ⟨⟨v', rfl, by simpa [HN.out] using ho⟩, (((Below.refl _ w).alloc (Nat.le_refl _) _).grown hg (by simp) (fun k hk => by cases hk; exact Nat.le_refl _))⟩


set_option maxHeartbeats 4000000 in
set_option maxRecDepth 100000 in
theorem iAll_c {F : Nat → Prop} (p : Nat) (xs : List (Pt Int)) (w : World) (h : IM F w p xs) (hl : xs.length ≤ 1000000000) :
    Calls Tryz.prog 39 #[ptr p] w fun e w' => (∃ v', e = .returned v' ∧ Own 3 encP 159 w' w.heap.size v' xs) ∧ RowKit.Below w.heap.size w w' := by
  obtain ⟨A, c, hbk, hrd, _⟩ := h.ex
  have hpx := hbk.bx1
  have hC := hidd (clonePi_c A _ c xs w hrd rfl hl)
  clear h hbk hrd
  go_enter Tryz.func39, Tryz.ntmps39
  go_wp2_with fail
  refine hC.out.mono ?_; rintro e w1 ⟨⟨v1, rfl, ho1⟩, hb1⟩
  go_wp2_with fail
  go_ret
  exact ⟨⟨_, rfl, ho1⟩, hb1⟩
end Go.Proofs.YtiokkoeciijkoaaGreat
