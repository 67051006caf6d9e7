/- imap: the parts outside of a range. -/
import Derived.Test.YtiokkoeciijkoaaGreatBase3
import Derived.Test.YtiokkoeciijkoaaGreatPartM
namespace Go.Proofs.YtiokkoeciijkoaaGreat
set_option linter.unusedVariables false
set_option linter.unusedSimpArgs false
open Go.RowKit

def tagP (v : Int) (y : Sp) : Int × Int × Int := (y.1, y.2, v)
abbrev ptr (p : Nat) : Value := .pointer (some ⟨p, 0, none⟩)

set_option maxHeartbeats 8000000 in
set_option maxRecDepth 100000 in
theorem iwithout_c (p : Nat) (A : Option Addr) (c : Nat) (xs : List (Pt Int)) (s0 s1 : Int) (w : World) (hp : Bk w p #[.slice A xs.length c] 68) (hr : Rd 3 encP w A xs) (hs : 0 ≤ s0 ∧ s0 < s1) (hd : Dis xs) (hl : xs.length ≤ 100000000) :
    Calls Tryz.prog 142 #[ptr p, spV s0 s1] w fun e w' => (∃ v, e = .returned v ∧ Own 3 encP 159 w' w.heap.size v (withoutP (s0, s1) xs)) ∧ Below w.heap.size w w' := by
  have hpx := hp.bx1
  have HR := hidd hr
  have HD := hidd hd
  have HS := hidd hs
  have HB0 := hidd (below_alloc w (.cells #[.int .i64 s0, .int .i64 s1] 43))
  have HXB := hidd (Bx2.new w (.int .i64 s0) (.int .i64 s1) 43 rfl)
  clear hp hr hd hs
  go_enter Tryz.func142, Tryz.ntmps142
  go_wp2_with fail
  go_loopw [5, 15] (fun v i wr => ∃ k : Nat, k ≤ xs.length ∧ i = .int .i64 k ∧ Hid (Own 3 encP 159 wr (w.heap.size + 1) v (withoutP (s0, s1) (xs.take k))) ∧ Below (w.heap.size + 1) (w.alloc (.cells #[.int .i64 s0, .int .i64 s1] 43)) wr) (fun _ i _ => xs.length - (intOf i).toNat)
  case atStart => exact ⟨0, by omega, rfl, World.ownsRow_nil _ _ _ _, Below.refl _ _⟩
  case round =>
    obtain ⟨k, hk, rfl, hown, hbr⟩ := hrel
    obtain ⟨wq, rfl⟩ : ∃ wq : World, wq = wr := ⟨_, rfl⟩
    have hsz0 : w.heap.size + 1 ≤ wq.heap.size := by have := hbr.size; simpa using this
    have hBw : Below w.heap.size w wq := HB0.out.trans (hbr.mono (by omega))
    by_cases hlt : k < xs.length
    · have hne : xs ≠ [] := by intro e; rw [e] at hlt; simp at hlt
      obtain ⟨b, o, rfl, hblt, hc⟩ := HR.out.cells3 hne
      obtain ⟨g0, g1, g2⟩ := hc k hlt
      rw [← hBw.cell (p := ⟨_, _, none⟩) hblt] at g0 g1 g2
      have hbw : b < wq.heap.size := Nat.lt_of_lt_of_le hblt hBw.size
      clear hc
      have HT := hidd (withoutP_take (s := (s0, s1)) hlt)
      have HV := hidd (HD.out.val xs[k] (List.getElem_mem hlt))
      have HLW : Hid ((withoutP (s0, s1) (xs.take k)).length ≤ 200000000) := by show _ ≤ _; have := withoutP_len (s0, s1) (xs.take k); rw [List.length_take] at this; omega
      generalize xs[k] = y at *
      obtain ⟨x0, x1, xv⟩ := y
      simp only [] at g0 g1 g2
      have xb := HXB.out.next hbr (by simp)
      go_wp2_with fail
      refine (sMinus_c _ _ 1 1 1 1 [(x0, x1)] [(s0, s1)] _ (rd_one (wq.alloc (.cells #[.int .i64 x0, .int .i64 x1, .int .i64 xv] 159)) (x0, x1) (by simp) (below_alloc _ _) (by simp)) (rd_one _ (s0, s1) (by simp) (Below.refl ((wq.alloc (.cells #[.int .i64 x0, .int .i64 x1, .int .i64 xv] 159)).alloc (.cells #[.int .i64 x0, .int .i64 x1] 43)).heap.size.succ _) (Nat.lt_succ_self _)) rfl rfl (by simp)).mono ?_
      rintro e w5 ⟨⟨v5, out, rfl, ho5, hm5⟩, hb5⟩
      have hsz5 : wq.heap.size + 3 ≤ w5.heap.size := by have := hb5.size; simp at this; omega
      have hBq5 : Below wq.heap.size wq w5 := (((below_alloc wq _).alloc (by simp) _).alloc (by simp; omega) _).trans (hb5.mono (by simp; omega))
      have hB5 : Below (w.heap.size + 1) (w.alloc (.cells #[.int .i64 s0, .int .i64 s1] 43)) w5 := hbr.trans (hBq5.mono (by omega))
      have hbox5 : Bk w5 wq.heap.size #[.int .i64 x0, .int .i64 x1, .int .i64 xv] 159 := (((Bk.new wq _ 159 rfl).alloc _).alloc _).next hb5 (Nat.le_refl _)
      have HCUT := hidd (cut1_minus (p := (x0, x1, xv)) HS.out HV.out hm5)
      have hown5 := hidd (own_below hown.out hBq5)
      have hfar5 : Hid (∀ k, wq.heap.size ≤ k → u5.ownBlock ≠ some k) := fun k hk => own_far hown.out hk
      obtain ⟨A5, c5, rfl⟩ := own_shape ho5
      have HO5 := hidd (own_base ho5 (show wq.heap.size ≤ _ by simp; omega))
      have hol : out.length ≤ 2 := by have := hm5.len; simpa using this
      clear ho5 hm5 hb5
      go_wp2_with fail
      go_loopw [5, 26] (fun v i wr => ∃ j : Nat, j ≤ out.length ∧ i = .int .i64 j ∧ Hid (Own 3 encP 159 wr (w.heap.size + 1) v (withoutP (s0, s1) (xs.take k) ++ (out.take j).map (tagP xv))) ∧ Hid (∀ k, wq.heap.size ≤ k → k < w5.heap.size → v.ownBlock ≠ some k) ∧ Hid (∀ k cp tp, wq.heap.size ≤ k → k < w5.heap.size → Bk w5 k cp tp → Bk wr k cp tp) ∧ Hid (w5.heap.size ≤ wr.heap.size) ∧ Below (w.heap.size + 1) (w.alloc (.cells #[.int .i64 s0, .int .i64 s1] 43)) wr) (fun _ i _ => out.length - (intOf i).toNat)
      case atStart => exact ⟨0, by omega, rfl, by show Own _ _ _ _ _ _ _; rw [List.take_zero, List.map_nil, List.append_nil]; exact hown5.out, fun k h1 _ => hfar5.out k h1, fun k cp tp _ _ h => h, Nat.le_refl _, hB5⟩
      case round =>
        obtain ⟨j, hj, rfl, hown2, hfar, hkeep, hsz, hbt⟩ := hrel
        by_cases hlj : j < out.length
        · have hne5 : out ≠ [] := by intro e; rw [e] at hlj; simp at hlj
          have HO := own_keepB HO5.out hkeep.out
          obtain ⟨b5, o5, rfl, hb5t, hc5⟩ := (Own.rd HO rfl).cells2 hne5
          obtain ⟨k0, k1⟩ := hc5 j hlj
          clear hc5 HO
          have HMT := hidd (show (out.take (j + 1)).map (tagP xv) = (out.take j).map (tagP xv) ++ [tagP xv out[j]] by rw [List.take_succ_eq_append_getElem hlj, List.map_append]; rfl)
          generalize out[j] = z at *
          obtain ⟨z0, z1⟩ := z
          simp only [] at k0 k1
          have xp := (hkeep.out _ _ _ (Nat.le_refl _) (by omega) hbox5).bx3
          have hcl : (withoutP (s0, s1) (xs.take k) ++ (out.take j).map (tagP xv)).length ≤ 200000002 := by have := HLW.out; rw [List.length_append, List.length_map, List.length_take]; omega
          have hbs : w.heap.size + 1 ≤ wr.heap.size := by have := hsz.out; omega
          go_wp2_with (at_builtin; refine wpList_app_new3 Tryz.underlying66 infoPartI rfl (by decide) hown2.out hbs ?c1 rfl rfl rfl rfl ?c2 (by decide) ?c3 ?c4 ?c5 ?c6 (fun v' w' hown' hb' hk' => ?_))
          case c1 => exact below_alloc _ _
          case c2 => simp
          case c3 => rfl
          case c4 => simp [Value.oneCell']
          case c5 => unfold maxLen; omega
          case c6 => omega
          go_roundw
          case rel =>
            refine ⟨j + 1, by omega, by go_num, ?_, fun q h1 h2 => (hk' q (hfar.out q h1 h2) (Nat.lt_of_lt_of_le h2 hsz.out)).1, fun q cp tp h1 h2 h3 => (hk' q (hfar.out q h1 h2) (Nat.lt_of_lt_of_le h2 hsz.out)).2 cp tp (hkeep.out q cp tp h1 h2 h3), ?_, hbt.trans hb'⟩
            · show Own _ _ _ _ _ _ _
              rw [HMT.out, ← List.append_assoc]
              unfold Own
              rw [List.flatMap_append, List.length_append]
              exact hown'
            · exact Nat.le_trans hsz.out hb'.size
          case measure => simp [intOf]; omega
        · obtain rfl : j = out.length := by omega
          rw [List.take_length] at hown2
          go_wp2_with fail
          go_roundw
          case rel => exact ⟨k + 1, by omega, by go_num, by show Own _ _ _ _ _ _ _; rw [HT.out, ← HCUT.out]; exact hown2.out, hbt⟩
          case measure => simp [intOf]; omega
    · obtain rfl : k = xs.length := by omega
      rw [List.take_length] at hown
      go_wp2_with fail
      go_ret
      exact ⟨⟨_, rfl, own_base hown.out (by omega)⟩, hBw⟩
end Go.Proofs.YtiokkoeciijkoaaGreat
