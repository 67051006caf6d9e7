/- The reference's Norm and chapter 17's Held, walked. -/
import Derived.Test.YtiokkoeciijkoaaRefD
import Derived.Test.YtiokkoeciijkoaaModeE
namespace Go.Proofs.Ytiokkoeciijkoaa
set_option linter.unusedVariables false
set_option linter.unusedSimpArgs false
open Go.RowKit

def normStep (k : Int) (m : List (Pt Int)) (x : Pt Int) : List (Pt Int) := if x.2.2 = k then setF x.1 x.2.1 k m else m
def normPass (k : Int) (l m : List (Pt Int)) : List (Pt Int) := l.foldl (normStep k) m
theorem normPass_take {k : Int} {l m : List (Pt Int)} {j : Nat} (h : j < l.length) : normPass k (l.take (j + 1)) m = normStep k (normPass k (l.take j) m) l[j] := by
  unfold normPass; rw [List.take_succ_eq_append_getElem h, List.foldl_append]; rfl
theorem normStep_can {k : Int} {m : List (Pt Int)} {x : Pt Int} (h : CanP m) : CanP (normStep k m x) := by
  unfold normStep; split
  · exact setF_can h
  · exact h
theorem normPass_can {k : Int} : ∀ {l m : List (Pt Int)}, CanP m → CanP (normPass k l m)
  | [], _, h => h
  | x :: l, m, h => normPass_can (l := l) (normStep_can h)
theorem normPass_inL {k : Int} {L : List Int} : ∀ {l m : List (Pt Int)}, CanP m → InL L m → InL L l → InL L (normPass k l m)
  | [], _, _, h, _ => h
  | x :: l, m, hc, h, hl => by
    have hx := hl x (List.mem_cons_self ..)
    show InL L (normPass k l (normStep k m x))
    refine normPass_inL (normStep_can hc) ?_ fun y hy => hl y (List.mem_cons_of_mem _ hy)
    unfold normStep; split
    · exact setF_inL hc h hx.1 hx.2
    · exact h
def hasK (k n : Int) (l : List (Pt Int)) : Bool := l.any fun x => x.2.2 == k && hasS x.1 x.2.1 n
theorem getP_pass {k n : Int} : ∀ {l m : List (Pt Int)}, CanP m → getP n (normPass k l m) = if hasK k n l = true then some k else getP n m
  | [], m, _ => rfl
  | x :: l, m, h => by
    show getP n (normPass k l (normStep k m x)) = _
    rw [getP_pass (normStep_can h)]
    have e : hasK k n (x :: l) = ((x.2.2 == k && hasS x.1 x.2.1 n) || hasK k n l) := rfl
    rw [e]
    unfold normStep
    by_cases hl : hasK k n l = true
    · rw [if_pos hl, hl]; simp
    · rw [if_neg hl]
      have hl' : hasK k n l = false := by simpa using hl
      rw [hl']
      by_cases hx : x.2.2 = k
      · rw [if_pos hx, getP_set h, hx]
        cases hasS x.1 x.2.1 n <;> simp
      · rw [if_neg hx]
        have : (x.2.2 == k) = false := by simp [hx]
        rw [this]; simp
theorem askW_has (n : Int) : ∀ l : List (Pt Int), askW n l = if hasK 2 n l = true then 2 else if hasK 1 n l = true then 1 else 0
  | [] => rfl
  | x :: l => by
    have e : ∀ k, hasK k n (x :: l) = ((x.2.2 == k && hasS x.1 x.2.1 n) || hasK k n l) := fun _ => rfl
    rw [e, e]
    show max _ (askW n l) = _
    rw [askW_has n l]
    have ha : asks x.2.2 = (x.2.2 == 1 || x.2.2 == 2) := rfl
    rw [ha]
    have h1 : (x.2.2 == 1) = true → x.2.2 = 1 := by simp
    have h2 : (x.2.2 == 2) = true → x.2.2 = 2 := by simp
    cases q1 : (x.2.2 == 1) <;> cases q2 : (x.2.2 == 2)
    · cases hasK 2 n l <;> cases hasK 1 n l <;> simp <;> decide
    · rw [h2 q2]; cases hasS x.1 x.2.1 n <;> cases hasK 2 n l <;> cases hasK 1 n l <;> simp <;> decide
    · rw [h1 q1]; cases hasS x.1 x.2.1 n <;> cases hasK 2 n l <;> cases hasK 1 n l <;> simp <;> decide
    · have := h1 q1; have := h2 q2; omega
def passes (l : List (Pt Int)) : Nat → List (Pt Int)
  | 0 => []
  | k + 1 => normPass ((k : Int) + 1) l (passes l k)
theorem passes_can (l : List (Pt Int)) : ∀ k, CanP (passes l k)
  | 0 => CanP.nil
  | k + 1 => normPass_can (passes_can l k)
theorem passes_inL (l : List (Pt Int)) : ∀ k, InL (endsL l) (passes l k)
  | 0 => InL.nil
  | k + 1 => normPass_inL (passes_can l k) (passes_inL l k) fun x hx => endsL_mem hx
theorem passes_asked (l : List (Pt Int)) : passes l 2 = askedF l := by
  refine CanP.uniqG (passes_can l 2) (askedF_can l) fun n => ?_
  rw [getP_asked, askW_has]
  show getP n (normPass ((1 : Nat) + 1 : Int) l (normPass (((0 : Nat) : Int) + 1) l [])) = _
  rw [getP_pass (normPass_can CanP.nil), getP_pass CanP.nil]
  rw [show (((1 : Nat) : Int) + 1) = 2 from rfl, show (((0 : Nat) : Int) + 1) = 1 from rfl]
  by_cases h2 : hasK 2 n l = true
  · rw [if_pos h2, if_pos h2]; simp
  · rw [if_neg h2, if_neg h2]
    by_cases h1 : hasK 1 n l = true
    · rw [if_pos h1, if_pos h1]; simp
    · rw [if_neg h1, if_neg h1]; rfl

set_option maxHeartbeats 4000000 in
set_option maxRecDepth 100000 in
theorem qNorm_c (A : Option Addr) (n c : Nat) (l : List (Pt Int)) (w : World) (hr : Rd 3 encP w A l) (hn : n = l.length) (hl : l.length ≤ 1000000) :
    Calls Try.prog 67 #[.slice A n c] w fun e w' => (∃ A' c', e = .returned (.slice A' (askedF l).length c') ∧ Rd 3 encP w' A' (askedF l)) ∧ Below w.heap.size w w' := by
  subst hn
  have HR := hidd hr
  have HPA := hidd (passes_asked l)
  have HEL : Hid ((endsL l).length ≤ 2000000) := by show _ ≤ _; rw [endsL_len]; omega
  clear hr
  go_enter Try.func67, Try.ntmps67
  go_wp2_with fail
  go_loopw [3, 4] (fun u mo wr => ∃ (k : Nat) (A : Option Addr) (c : Nat), k ≤ 2 ∧ mo = .int .i64 ((k : Int) + 1) ∧ u = .slice A (passes l k).length c ∧ Hid (Rd 3 encP wr A (passes l k)) ∧ Below w.heap.size w wr) (fun _ mo _ => (3 - intOf mo).toNat)
  case atStart => exact ⟨0, none, 0, by omega, rfl, rfl, .inl rfl, Below.refl _ _⟩
  case round =>
    obtain ⟨k, Ak, ck, hk, rfl, rfl, hrk, hbr⟩ := hrel
    obtain ⟨wq, rfl⟩ : ∃ wq : World, wq = wr := ⟨_, rfl⟩
    by_cases hk2 : k < 2
    · have HPN : Hid (normPass ((k : Int) + 1) l (passes l k) = passes l (k + 1)) := rfl
      have HPC := hidd (passes_can l k)
      have HPI := hidd (passes_inL l k)
      generalize passes l k = M at *
      have hkk : (k : Int) + 1 ≤ 2 := by omega
      go_wp2_with fail
      go_loopw [3, 5] (fun u i ws => ∃ (j : Nat) (A : Option Addr) (c : Nat), j ≤ l.length ∧ i = .int .i64 j ∧ u = .slice A (normPass ((k : Int) + 1) (l.take j) M).length c ∧ Hid (Rd 3 encP ws A (normPass ((k : Int) + 1) (l.take j) M)) ∧ Below w.heap.size w ws) (fun _ i _ => l.length - (intOf i).toNat)
      case atStart => exact ⟨0, Ak, ck, by omega, rfl, rfl, hrk.out, hbr⟩
      case round =>
        obtain ⟨j, Aj, cj, hj, rfl, rfl, hrj, hbj⟩ := hrel
        by_cases hlt : j < l.length
        · have hne : l ≠ [] := by intro e; rw [e] at hlt; simp at hlt
          obtain ⟨b, o, rfl, hblt, hc⟩ := HR.out.cells3 hne
          obtain ⟨g0, g1, g2⟩ := hc j hlt
          rw [← hbj.cell (p := ⟨_, _, none⟩) hblt] at g0 g1 g2
          have hbw : b < wr.heap.size := Nat.lt_of_lt_of_le hblt hbj.size
          clear hc
          have HT := hidd (normPass_take (k := (k : Int) + 1) (m := M) hlt)
          have HC := hidd (normPass_can (k := (k : Int) + 1) (l := l.take j) HPC.out)
          have HLN : Hid ((normPass ((k : Int) + 1) (l.take j) M).length ≤ 2000000) := Nat.le_trans ((normPass_inL HPC.out HPI.out (fun x hx => endsL_mem (List.mem_of_mem_take hx))).len HC.out) HEL.out
          generalize normPass ((k : Int) + 1) (l.take j) M = mj at *
          generalize l[j] = y at *
          obtain ⟨x0, x1, xv⟩ := y
          simp only [] at g0 g1 g2
          by_cases he : xv = (k : Int) + 1
          · have HS := hidd (rmSet_c Aj _ cj mj x0 x1 ((k : Int) + 1) wr hrj.out rfl HC.out (by have := HLN.out; omega))
            have H1 : Hid (normStep ((k : Int) + 1) mj (x0, x1, xv) = setF x0 x1 ((k : Int) + 1) mj) := by show _ = _; unfold normStep; rw [if_pos he]
            subst he
            go_wp2_with fail
            refine HS.out.mono ?_; rintro e w5 ⟨⟨A5, c5, rfl, hr5, _⟩, hb5⟩
            go_wp2_with fail
            go_roundw
            case rel => exact ⟨j + 1, A5, c5, by omega, by go_num, by rw [HT.out, H1.out], by show Rd _ _ _ _ _; rw [HT.out, H1.out]; exact hr5, hbj.trans (hb5.mono hbj.size)⟩
            case measure => simp [intOf]; omega
          · have H1 : Hid (normStep ((k : Int) + 1) mj (x0, x1, xv) = mj) := by show _ = _; unfold normStep; rw [if_neg he]
            have hb : (xv == (k : Int) + 1) = false := by simp [he]
            clear he
            go_wp2_with fail
            go_roundw
            case rel => exact ⟨j + 1, Aj, cj, by omega, by go_num, by rw [HT.out, H1.out], by show Rd _ _ _ _ _; rw [HT.out, H1.out]; exact hrj.out, hbj⟩
            case measure => simp [intOf]; omega
        · obtain rfl : j = l.length := by omega
          rw [List.take_length, HPN.out] at hrj
          rw [List.take_length, HPN.out]
          go_wp2_with fail
          go_roundw
          case rel => exact ⟨k + 1, Aj, cj, by omega, by go_num, rfl, hrj.out, hbj⟩
          case measure => simp [intOf]; omega
    · obtain rfl : k = 2 := by omega
      rw [HPA.out] at hrk ⊢
      rw [show (((2 : Nat) : Int) + 1) = 3 from rfl]
      go_wp2_with fail
      go_ret
      exact ⟨⟨Ak, ck, rfl, hrk.out⟩, hbr⟩

def heldStep (m : List (Pt Int)) (x : Pt Int) : List (Pt Int) := if modeB x.2.2 = true then setF x.1 x.2.1 x.2.2 m else m
def heldF (l : List (Pt Int)) : List (Pt Int) := l.foldl heldStep []
theorem heldF_take {l : List (Pt Int)} {k : Nat} (h : k < l.length) : heldF (l.take (k + 1)) = heldStep (heldF (l.take k)) l[k] := by
  unfold heldF; rw [List.take_succ_eq_append_getElem h, List.foldl_append]; rfl
theorem heldF_snoc (l : List (Pt Int)) (x : Pt Int) : heldF (l ++ [x]) = heldStep (heldF l) x := by unfold heldF; rw [List.foldl_append]; rfl
theorem heldF_can (l : List (Pt Int)) : CanP (heldF l) := by
  refine snoc_ind (P := fun l => CanP (heldF l)) CanP.nil (fun l x h => ?_) l
  rw [heldF_snoc]; unfold heldStep; split
  · exact setF_can h
  · exact h
theorem heldF_inL {L : List Int} {l : List (Pt Int)} (h : InL L l) : InL L (heldF l) := by
  revert h
  refine snoc_ind (P := fun l => InL L l → InL L (heldF l)) (fun _ => InL.nil) (fun l x ih h => ?_) l
  rw [heldF_snoc]
  have h1 := ih fun y hy => h y (List.mem_append_left _ hy)
  have hx := h x (List.mem_append_right _ (List.mem_singleton_self _))
  unfold heldStep; split
  · exact setF_inL (heldF_can l) h1 hx.1 hx.2
  · exact h1
set_option maxHeartbeats 8000000 in
set_option maxRecDepth 100000 in
theorem Held_c (A : Option Addr) (n c : Nat) (l : List (Pt Int)) (w : World) (hr : Rd 3 encP w A l) (hn : n = l.length) (hl : l.length ≤ 1000000) :
    Calls Try.prog 65 #[.slice A n c] w fun e w' => (∃ A' c', e = .returned (.tuple #[ptr w.heap.size, .slice A' (heldF l).length c']) ∧ RX 3 encP w' A' (heldF l) w.heap.size) ∧ IM (fun k => k = w.heap.size) w' w.heap.size (heldF l) ∧ Below w.heap.size w w' := by
  subst hn
  have HR := hidd hr
  have HEL : Hid ((endsL l).length ≤ 2000000) := by show _ ≤ _; rw [endsL_len]; omega
  clear hr
  go_enter Try.func65, Try.ntmps65
  go_wp2_with fail
  refine (iNew_c w).mono ?_; rintro e w1 ⟨rfl, hn1, hb1⟩
  have hm1 := hn1 (fun k => k = w.heap.size)
  clear hn1
  go_wp2_with fail
  go_loopw [5, 6] (fun u i wr => ∃ (k : Nat) (A : Option Addr) (c : Nat), k ≤ l.length ∧ i = .int .i64 k ∧ u = .slice A (heldF (l.take k)).length c ∧ Hid (RX 3 encP wr A (heldF (l.take k)) w.heap.size) ∧ Hid (IM (fun k => k = w.heap.size) wr w.heap.size (heldF (l.take k))) ∧ Below w.heap.size w wr) (fun _ i _ => l.length - (intOf i).toNat)
  case atStart => exact ⟨0, none, 0, by omega, rfl, rfl, ⟨.inl rfl, fun b o h => by cases h⟩, hm1, hb1⟩
  case round =>
    obtain ⟨k, Ak, ck, hk, rfl, rfl, hrx, hm, hbr⟩ := hrel
    by_cases hlt : k < l.length
    · have hne : l ≠ [] := by intro e; rw [e] at hlt; simp at hlt
      obtain ⟨b, o, rfl, hblt, hc⟩ := HR.out.cells3 hne
      have HCC := hidd hc
      obtain ⟨g0, g1, g2⟩ := hc k hlt
      rw [← hbr.cell (p := ⟨_, _, none⟩) hblt] at g0 g1 g2
      have hbw : b < wr.heap.size := Nat.lt_of_lt_of_le hblt hbr.size
      clear hc
      have HT := hidd (heldF_take hlt)
      have HC := hidd (heldF_can (l.take k))
      have HLN : Hid ((heldF (l.take k)).length ≤ 2000000) := Nat.le_trans ((heldF_inL (fun x hx => endsL_mem (List.mem_of_mem_take hx))).len HC.out) HEL.out
      have HCK := hidd (HCC.out k hlt)
      clear HCC
      generalize heldF (l.take k) = m at *
      generalize l[k] = y at *
      obtain ⟨x0, x1, xv⟩ := y
      simp only [] at g0 g1 g2
      have KQ := hidd (qMode_c xv)
      have HSt : Hid (heldStep m (x0, x1, xv) = if modeB xv = true then setF x0 x1 xv m else m) := rfl
      cases hmb : modeB xv with
      | false =>
        have HMB := hidd hmb
        clear hmb
        go_wp2_with fail
        refine (KQ.out _).mono ?_; rintro e w5 ⟨rfl, rfl⟩
        rw [HMB.out]
        go_wp2_with fail
        go_roundw
        case rel => exact ⟨k + 1, Ak, ck, by omega, by go_num, by rw [HT.out, HSt.out, if_neg (by rw [HMB.out]; simp)], by show RX _ _ _ _ _ _; rw [HT.out, HSt.out, if_neg (by rw [HMB.out]; simp)]; exact hrx.out, by show IM _ _ _ _; rw [HT.out, HSt.out, if_neg (by rw [HMB.out]; simp)]; exact hm.out, hbr⟩
        case measure => simp [intOf]; omega
      | true =>
        have HMB := hidd hmb
        clear hmb
        have hw5 := hidd (show IM (fun k => k = w.heap.size) wr.drew w.heap.size m from hm.out.next (below_drewN (Below.refl _ _) 1) (Nat.le_refl _))
        have HS1 := hidd (fSet_c w.heap.size m x0 x1 xv wr.drew hw5.out (fun k hk => by rw [hk]; exact hm.out.lt) HC.out (by have := HLN.out; omega))
        go_wp2_with fail
        refine (KQ.out _).mono ?_; rintro e w5 ⟨rfl, hwe⟩; obtain rfl : wr = w5 := hwe.symm
        rw [HMB.out]
        go_wp2_with fail
        refine wp_tail 11 (by kernel_rfl) ?_
        simp only [List.take_succ_cons, List.take_zero, List.drop_succ_cons, List.drop_zero]
        repeat still_step
        refine wpStill_nil ?_
        go_wp2_with fail
        refine HS1.out.mono ?_; rintro e w6 ⟨rfl, hm6, hb6⟩
        have hB6 : Below w.heap.size w w6 := hbr.trans ((below_drewN (Below.refl w.heap.size wr) 1).trans (hb6.below hbr.size (Nat.le_refl _)))
        have hrx6 : Hid (RX 3 encP w6 Ak m w.heap.size) := (show RX 3 encP wr.drew Ak m w.heap.size from hrx.out.next (below_drewN (Below.refl _ _) 1) (Nat.le_refl _)).nextX hb6 (Nat.le_refl _)
        have q0 := (hB6.cell (p := ⟨b, _, none⟩) hblt).trans HCK.out.1
        have q1 := (hB6.cell (p := ⟨b, _, none⟩) hblt).trans HCK.out.2.1
        have q2 := (hB6.cell (p := ⟨b, _, none⟩) hblt).trans HCK.out.2.2
        have hbw6 : b < w6.heap.size := Nat.lt_of_lt_of_le hblt hB6.size
        have hm6' := hidd hm6
        have HS2 := hidd (rmSet_c Ak _ ck m x0 x1 xv w6.drew (show Rd 3 encP w6.drew Ak m from hrx6.out.rd) rfl HC.out (by have := HLN.out; omega))
        have hp6 : w.heap.size < w6.heap.size := hm6.lt
        clear g0 g1 g2 hm6
        go_wp2_with fail
        refine wp_tail 11 (by kernel_rfl) ?_
        simp only [List.take_succ_cons, List.take_zero, List.drop_succ_cons, List.drop_zero]
        repeat still_step
        refine wpStill_nil ?_
        go_wp2_with fail
        refine HS2.out.mono ?_; rintro e w7 ⟨⟨A7, c7, rfl, hr7, hfar⟩, hb7⟩
        have hb67 : Below w6.heap.size w6 w7 := (below_drewN (Below.refl w6.heap.size w6) 1).trans hb7
        have HX7 : Hid (RX 3 encP w7 A7 (setF x0 x1 xv m) w.heap.size) := ⟨hr7, fun b o hA he => by
          rcases hfar with h | h
          · exact hrx6.out.far b o (h ▸ hA) he
          · have := h b o hA
            have : w6.heap.size ≤ b := this
            omega⟩
        clear hfar hr7
        go_wp2_with fail
        go_roundw
        case rel => exact ⟨k + 1, A7, c7, by omega, by go_num, by rw [HT.out, HSt.out, if_pos HMB.out], by show RX _ _ _ _ _ _; rw [HT.out, HSt.out, if_pos HMB.out]; exact HX7.out, by show IM _ _ _ _; rw [HT.out, HSt.out, if_pos HMB.out]; exact hm6'.out.next hb67 (Nat.le_refl _), hB6.trans (hb67.mono hB6.size)⟩
        case measure => simp [intOf]; omega
    · obtain rfl : k = l.length := by omega
      rw [List.take_length] at hrx hm
      rw [List.take_length]
      go_wp2_with fail
      refine bodyPost_ret (v := .tuple #[ptr w.heap.size, .slice Ak (heldF l).length ck]) (by simp [results, Try.results65, go_sem]) rfl ?_
      exact ⟨⟨Ak, ck, rfl, hrx.out⟩, hm.out, hbr⟩
end Go.Proofs.Ytiokkoeciijkoaa
