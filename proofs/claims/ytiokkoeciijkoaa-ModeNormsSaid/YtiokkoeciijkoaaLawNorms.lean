/- ModeNorms, walked. -/
import Derived.Test.YtiokkoeciijkoaaModeE
namespace Go.Proofs.Ytiokkoeciijkoaa
set_option linter.unusedVariables false
set_option linter.unusedSimpArgs false
open Go.RowKit

theorem norm_ways (a b v n : Int) : (hasS a b n = true ∧ decide (0 ≤ a) = true ∧ decide (a ≤ n) = true ∧ decide (n < b) = true) ∨ (hasS a b n = false ∧ decide (0 ≤ a) = false) ∨ (hasS a b n = false ∧ decide (0 ≤ a) = true ∧ decide (a ≤ n) = false) ∨ (hasS a b n = false ∧ decide (0 ≤ a) = true ∧ decide (a ≤ n) = true ∧ decide (n < b) = false) := by
  have h : hasS a b n = (decide (0 ≤ a) && (decide (a ≤ n) && decide (n < b))) := by
    rw [Bool.eq_iff_iff, hasS_iff]; simp
  rw [h]
  cases decide (0 ≤ a) <;> cases decide (a ≤ n) <;> cases decide (n < b) <;> simp
theorem got_ways (a b n : Int) (h : 0 ≤ a) : (hasS a b n = true ∧ decide (a ≤ n) = true ∧ decide (n < b) = true) ∨ (hasS a b n = false ∧ decide (a ≤ n) = false) ∨ (hasS a b n = false ∧ decide (a ≤ n) = true ∧ decide (n < b) = false) := by
  rcases norm_ways a b 0 n with ⟨h1, _, h2⟩ | ⟨_, h1⟩ | ⟨h1, _, h2⟩ | ⟨h1, _, h2⟩
  · exact .inl ⟨h1, h2⟩
  · simp at h1; omega
  · exact .inr (.inl ⟨h1, h2⟩)
  · exact .inr (.inr ⟨h1, h2⟩)
theorem ask_ways (v : Int) : ((v == 1) = true ∧ asks v = true) ∨ ((v == 1) = false ∧ (v == 2) = true ∧ asks v = true) ∨ ((v == 1) = false ∧ (v == 2) = false ∧ asks v = false) := by
  unfold asks; cases (v == 1) <;> cases (v == 2) <;> simp

set_option maxHeartbeats 8000000 in
set_option maxRecDepth 100000 in
theorem ModeNorms_c (A : Option Addr) (n c : Nat) (l : List (Pt Int)) (block : Int) (w : World) (h : Rd 3 encP w A l) (hn : n = l.length) (_ : ∀ x ∈ l, I64 x.1 ∧ I64 x.2.1 ∧ I64 x.2.2) (_ : I64 block) :
    Calls Try.prog 12 #[.slice A n c, .int .i64 block] w fun e w' => e = .returned (.bool true) ∧ Below w.heap.size w w' := by
  subst hn
  have HR := hidd h
  clear h
  by_cases hl : 40 < l.length
  · go_enter Try.func12, Try.ntmps12
    go_wp2_with fail
    refine (alive17_c _).mono ?_; rintro e w1 ⟨rfl, hb⟩
    go_wp2_with fail
    go_ret
    exact ⟨rfl, hb⟩
  · go_enter Try.func12, Try.ntmps12
    go_wp2_with fail
    go_loopw [5, 6, 7] (fun u wa i wr => ∃ j : Nat, j ≤ l.length ∧ i = .int .i64 ((j : Int) - 1) ∧ wa = .int .i64 (askW block (l.drop j)) ∧ Hid (Own 3 encP 72 wr w.heap.size u (l.drop j).reverse) ∧ Below w.heap.size w wr) (fun _ _ i _ => (intOf i + 1).toNat)
    case atStart => exact ⟨l.length, by omega, rfl, by rw [List.drop_length]; rfl, by rw [List.drop_length]; exact World.ownsRow_nil _ _ _ _, Below.refl _ _⟩
    case round =>
      obtain ⟨j, hj, rfl, rfl, hown, hbr⟩ := hrel
      rcases j with _ | j
      · rw [show ((0 : Nat) : Int) - 1 = -1 from rfl]
        rw [List.drop_zero] at hown ⊢
        obtain ⟨A1, c1, h1⟩ := own_shape hown.out
        subst h1
        have hb0 : Hid (Rd 3 encP wr A1 l.reverse) := Own.rd hown.out rfl
        have HRA := hidd (HR.out.below hbr (Nat.le_refl _))
        have HNA := hidd (mNorm_c A _ c l wr HRA.out rfl (by omega))
        have HUQ := hidd (asked_uniq (a := l.reverse) (b := l) fun n => askW_reverse n l)
        have HGA := hidd (gotF_asked block l)
        have HCA := hidd (askedF_can l)
        have hal := askedF_len l
        have hrl : l.reverse.length = l.length := by simp
        have HRL := hidd hrl
        clear hown hrl
        generalize askW block l = W at *
        go_wp2_with fail
        refine HNA.out.mono ?_; rintro e w2 ⟨⟨v2, rfl, ho2⟩, hb2⟩
        obtain ⟨A2, c2, rfl⟩ := own_shape ho2
        have HX2 := hidd (Own.rd ho2 rfl)
        have HNB := hidd (mNorm_c A1 _ c1 l.reverse w2 (hb0.out.below hb2 (Nat.le_refl _)) rfl (by have := HRL.out; omega))
        rw [HUQ.out] at HNB
        have HRL2 := HRL.out
        rw [HRL2] at HNB
        clear ho2 HNA HRL2
        go_wp2_with fail
        refine HNB.out.mono ?_; rintro e w3 ⟨⟨v3, rfl, ho3⟩, hb3⟩
        obtain ⟨A3, c3, rfl⟩ := own_shape ho3
        have HX3 := hidd (Own.rd ho3 rfl)
        have HX23 := hidd (HX2.out.below hb3 (Nat.le_refl _))
        have hB3 := hbr.trans ((hb2.trans (hb3.mono hb2.size)).mono hbr.size)
        clear ho3 HNB HX2 HUQ HRL
        generalize askedF l = N at *
        go_wp2_with fail
        go_loopw [11, 12] (fun g i wr => ∃ k : Nat, k ≤ N.length ∧ i = .int .i64 k ∧ g = .int .i64 (gotF block (N.take k)) ∧ Below w3.heap.size w3 wr) (fun _ i _ => N.length - (intOf i).toNat)
        case atStart => exact ⟨0, by omega, rfl, rfl, Below.refl _ _⟩
        case round =>
          obtain ⟨k, hk, rfl, rfl, hbs⟩ := hrel
          by_cases hlt : k < N.length
          · have hne : N ≠ [] := by intro e; rw [e] at hlt; simp at hlt
            obtain ⟨b, o, rfl, hblt, hc⟩ := HX23.out.cells3 hne
            obtain ⟨g0, g1, g2⟩ := hc k hlt
            rw [← hbs.cell (p := ⟨_, _, none⟩) hblt] at g0 g1 g2
            have hbw : b < wr.heap.size := Nat.lt_of_lt_of_le hblt hbs.size
            obtain ⟨b', o', rfl, hblt', hc'⟩ := HX3.out.cells3 hne
            obtain ⟨d0, d1, d2⟩ := hc' k hlt
            rw [← hbs.cell (p := ⟨_, _, none⟩) hblt'] at d0 d1 d2
            have hbw' : b' < wr.heap.size := Nat.lt_of_lt_of_le hblt' hbs.size
            clear hc'
            have HGT := hidd (gotF_take (n := block) hlt)
            have hv := hidd (HCA.out.val N[k] (List.getElem_mem hlt))
            rcases k with _ | k
            · clear hc
              simp only [Nat.zero_mul, Nat.add_zero] at g0 g1 g2 d0 d1 d2
              rw [show ((0 : Nat) : Int) = 0 from rfl]
              generalize gotF block (N.take 0) = G at *
              generalize N[0] = y at *
              obtain ⟨y0, y1, y2⟩ := y
              simp only [] at g0 g1 g2 d0 d1 d2
              have hv0 := hv.out.1
              simp only [] at hv0
              rcases got_ways y0 y1 block hv0 with ⟨hh, q1, q2⟩ | ⟨hh, q1⟩ | ⟨hh, q1, q2⟩
              all_goals
                have HH := hidd hh
                clear hh
                go_wp2_with fail
                go_quiet (fail)
                go_wp2_with fail
                go_roundw
                case rel => exact ⟨1, by omega, rfl, by rw [HGT.out]; simp [HH.out], hbs.trans (below_drewN (Below.refl _ _) _)⟩
                case measure => simp [intOf]; omega
            · obtain ⟨e0, e1, e2⟩ := hc k (by omega)
              rw [← hbs.cell (p := ⟨_, _, none⟩) hblt] at e0 e1 e2
              clear hc
              have hsep := List.pairwise_iff_getElem.1 HCA.out.sep k (k + 1) (by omega) hlt (by omega)
              rw [show ((k + 1 : Nat) : Int) = (k : Int) + 1 from rfl]
              generalize gotF block (N.take (k + 1)) = G at *
              generalize N[k + 1] = y at *
              generalize N[k] = z at *
              obtain ⟨y0, y1, y2⟩ := y
              obtain ⟨z0, z1, z2⟩ := z
              simp only [] at g0 g1 g2 d0 d1 d2 e0 e1 e2 hsep
              have hv0 := hv.out.1
              simp only [] at hv0
              obtain ⟨hs1, hs2⟩ := hsep
              have hd1 : decide (y0 < z1) = false := by simp; omega
              have hcs : (z1 = y0 ∧ (z2 == y2) = false) ∨ (z1 == y0) = false := by
                by_cases he : z1 = y0
                · exact .inl ⟨he, by simpa using hs2 he⟩
                · exact .inr (by simp [he])
              clear hs2
              rcases got_ways y0 y1 block hv0 with ⟨hh, q1, q2⟩ | ⟨hh, q1⟩ | ⟨hh, q1, q2⟩
              all_goals
                have HH := hidd hh
                clear hh
                rcases hcs with ⟨rfl, q3⟩ | q3
                all_goals
                  go_wp2_with fail
                  go_quiet (fail)
                  go_wp2_with fail
                  go_roundw
                  case rel => exact ⟨k + 1 + 1, by omega, by go_num, by rw [HGT.out]; simp [HH.out], hbs.trans (below_drewN (Below.refl _ _) _)⟩
                  case measure => simp [intOf]; omega
          · obtain rfl : k = N.length := by omega
            rw [List.take_length, HGA.out]
            go_wp2_with fail
            refine (alive17_c _).mono ?_; rintro e w5 ⟨rfl, hb5⟩
            go_wp2_with fail
            go_ret
            exact ⟨by simp, hB3.trans ((hbs.trans (hb5.mono hbs.size)).mono hB3.size)⟩
      · rw [show ((j + 1 : Nat) : Int) - 1 = (j : Int) by omega]
        have hlt : j < l.length := by omega
        have hne : l ≠ [] := by intro e; rw [e] at hlt; simp at hlt
        obtain ⟨b, o, rfl, hblt, hc⟩ := HR.out.cells3 hne
        obtain ⟨g0, g1, g2⟩ := hc j hlt
        rw [← hbr.cell (p := ⟨_, _, none⟩) hblt] at g0 g1 g2
        have hbw : b < wr.heap.size := Nat.lt_of_lt_of_le hblt hbr.size
        clear hc
        have HD := hidd (List.drop_eq_getElem_cons hlt)
        have hrl : (l.drop (j + 1)).reverse.length ≤ 40 := by simp; omega
        generalize hDD : l.drop (j + 1) = D at *
        have HDD := hidd hDD
        clear hDD
        generalize l[j] = y at *
        obtain ⟨x0, x1, xv⟩ := y
        simp only [] at g0 g1 g2
        have HAW : Hid (askW block ((x0, x1, xv) :: D) = max (if asks xv = true ∧ hasS x0 x1 block = true then xv else 0) (askW block D)) := rfl
        have HN0 := hidd (askW_nonneg block D)
        generalize askW block D = W at *
        rcases norm_ways x0 x1 xv block with ⟨hh, d0, d1, d2⟩ | ⟨hh, d0⟩ | ⟨hh, d0, d1⟩ | ⟨hh, d0, d1, d2⟩
        case inl =>
          have HH := hidd hh
          clear hh
          rcases ask_ways xv with ⟨v1, hv⟩ | ⟨v1, v2, hv⟩ | ⟨v1, v2, hv⟩
          all_goals
            have HV := hidd hv
            clear hv
            go_wp2_with (at_builtin; refine wpList_app_new3 (P := Try.prog) Try.underlying70 infoLock rfl (by decide) hown.out hbr.size (Below.refl _ _) rfl rfl rfl rfl (by simp) (by decide) rfl (by simp [Value.oneCell']) (by unfold maxLen; omega) (by omega) (fun v' w' hown' hb' hk' => ?_)
                         rw [List.length_reverse] at hown'
                         obtain ⟨A', c', rfl⟩ := own_shape hown'
                         have e0 := (hb'.cell (p := ⟨b, o + j * 3, none⟩) hblt).trans g0
                         have e1 := (hb'.cell (p := ⟨b, o + j * 3 + 1, none⟩) hblt).trans g1
                         have e2 := (hb'.cell (p := ⟨b, o + j * 3 + 2, none⟩) hblt).trans g2
                         have hbw' : b < w'.heap.size := Nat.lt_of_lt_of_le hbw (by have := hb'.size; exact this)
                         have hown2 := hidd hown'
                         clear hown' hk')
            go_roundw
            case rel => exact ⟨j, by omega, by simp, by rw [HD.out, HAW.out]; have hq := And.intro HV.out HH.out; first | (rw [if_pos hq, Int.max_comm]) | (rw [if_neg (by rw [HV.out]; simp)]; congr 1; have := HN0.out; omega), by show Own _ _ _ _ _ _ _; rw [HD.out, List.reverse_cons]; unfold Own; rw [List.flatMap_append, List.length_append, List.length_reverse]; exact own_below hown2.out (below_alloc _ _), (hbr.trans hb').trans ((below_alloc w' _).mono (by have := hbr.size; have := hb'.size; omega))⟩
            case measure => first | (simp [intOf]; done) | (simp [intOf]; omega)
        all_goals
            have HH := hidd hh
            clear hh
            go_wp2_with (at_builtin; refine wpList_app_new3 (P := Try.prog) Try.underlying70 infoLock rfl (by decide) hown.out hbr.size (Below.refl _ _) rfl rfl rfl rfl (by simp) (by decide) rfl (by simp [Value.oneCell']) (by unfold maxLen; omega) (by omega) (fun v' w' hown' hb' hk' => ?_)
                         rw [List.length_reverse] at hown'
                         obtain ⟨A', c', rfl⟩ := own_shape hown'
                         have e0 := (hb'.cell (p := ⟨b, o + j * 3, none⟩) hblt).trans g0
                         have e1 := (hb'.cell (p := ⟨b, o + j * 3 + 1, none⟩) hblt).trans g1
                         have e2 := (hb'.cell (p := ⟨b, o + j * 3 + 2, none⟩) hblt).trans g2
                         have hbw' : b < w'.heap.size := Nat.lt_of_lt_of_le hbw (by have := hb'.size; exact this)
                         have hown2 := hidd hown'
                         clear hown' hk')
            go_roundw
            case rel => exact ⟨j, by omega, by simp, by rw [HD.out, HAW.out]; rw [if_neg (by rw [HH.out]; simp)]; congr 1; have := HN0.out; omega, by show Own _ _ _ _ _ _ _; rw [HD.out, List.reverse_cons]; unfold Own; rw [List.flatMap_append, List.length_append, List.length_reverse]; exact own_below hown2.out (below_alloc _ _), (hbr.trans hb').trans ((below_alloc w' _).mono (by have := hbr.size; have := hb'.size; omega))⟩
            case measure => first | (simp [intOf]; done) | (simp [intOf]; omega)
end Go.Proofs.Ytiokkoeciijkoaa
