/- The walk of TableFair. -/
import Derived.Test.YtiokkoeciijkoaaLawUp
import Derived.Test.YtiokkoeciijkoaaLawCl
namespace Go.Proofs.Ytiokkoeciijkoaa
set_option linter.unusedVariables false
set_option linter.unusedSimpArgs false
open Go.RowKit

def andB (x : Int) : Int := bits BinOp.and IntKind.i64 x 1
theorem andB_is (x : Int) : andB x = 0 ∨ andB x = 1 := by
  have h : (BitVec.ofInt 64 x &&& BitVec.ofInt 64 1).toNat = (BitVec.ofInt 64 x).toNat % 2 := by rw [BitVec.toNat_and]; exact Nat.and_one_is_mod _
  have e : andB x = IntKind.i64.wrap ((BitVec.ofInt 64 x &&& BitVec.ofInt 64 1).toNat : Int) := rfl
  rw [e, h]
  rcases Nat.mod_two_eq_zero_or_one (BitVec.ofInt 64 x).toNat with h | h <;> rw [h]
  · left; rfl
  · right; rfl
def modesF (xs : List Int) : List Int := xs.map fun x => 1 + andB x
theorem modesF_len (xs : List Int) : (modesF xs).length = xs.length := List.length_map ..
theorem modesF_at {xs : List Int} {k : Nat} (h : k < xs.length) (h2 : k < (modesF xs).length) : (modesF xs)[k] = 1 + andB xs[k] := List.getElem_map (f := fun x => 1 + andB x) ..
theorem modesF_ok (xs : List Int) : ∀ m ∈ modesF xs, m = 1 ∨ m = 2 := fun m hm => by
  obtain ⟨x, _, rfl⟩ := List.mem_map.1 hm
  rcases andB_is x with h | h <;> rw [h]
  · left; rfl
  · right; rfl
theorem Rd.cellsI {w : World} {A : Option Addr} {xs : List Int} (h : Rd 1 encI w A xs) (hx : xs ≠ []) : ∃ b o, A = some ⟨b, o, none⟩ ∧ b < w.heap.size ∧ ∀ (i : Nat) (hi : i < xs.length), w.cell? ⟨b, o + i, none⟩ = some (.int .i64 xs[i]) := by
  rcases h with h | ⟨b, o, hA, hb, hc⟩
  · exact absurd h hx
  · refine ⟨b, o, hA, hb, fun i hi => ?_⟩
    have hf := flat_at encI 1 (fun _ => rfl) xs i xs[i] (List.getElem?_eq_getElem hi)
    have h0 := hc _ _ (hf 0 (by decide))
    simpa using h0
theorem fa_ways (b : Int) (l : Nat) : (decide (b < 0) = true) ∨ (decide (b < 0) = false ∧ decide (4000 < b) = true) ∨ (decide (b < 0) = false ∧ decide (4000 < b) = false ∧ decide ((15 : Int) < l) = true) ∨ (decide (b < 0) = false ∧ decide (4000 < b) = false ∧ decide ((15 : Int) < l) = false ∧ decide ((l : Int) < 2) = true) ∨ (decide (b < 0) = false ∧ decide (4000 < b) = false ∧ decide ((15 : Int) < l) = false ∧ decide ((l : Int) < 2) = false ∧ (0 ≤ b ∧ b ≤ 4000) ∧ 2 ≤ l ∧ l ≤ 15) := by
  simp only [decide_eq_true_eq, decide_eq_false_iff_not]
  omega

set_option maxHeartbeats 8000000 in
set_option maxRecDepth 100000 in
theorem TableFair_c (x : Int) (A : Option Addr) (n c : Nat) (xs : List Int) (w : World) (hx : I64 x) (hr : Rd 1 encI w A xs) (hn : n = xs.length) (hI : ∀ x ∈ xs, I64 x) :
    Calls Try.prog 19 #[.int .i64 x, .slice A n c] w fun e w' => e = .returned (.bool true) ∧ Below w.heap.size w w' := by
  subst hn
  have HR := hidd hr
  clear hx hI hr
  rcases fa_ways x xs.length with d1 | ⟨d1, d2⟩ | ⟨d1, d2, d3⟩ | ⟨d1, d2, d3, d4⟩ | ⟨d1, d2, d3, d4, hxx, hl2, hl15⟩
  case inr.inr.inr.inr =>
    have HX := hidd hxx
    have HMO := hidd (modesF_ok xs)
    have HML := hidd (modesF_len xs)
    have HM15 : Hid ((modesF xs).length ≤ 15) := by show _ ≤ _; rw [HML.out]; exact hl15
    obtain ⟨T1, e1, h1⟩ := fair_first hxx (modesF xs)
    have HAS1 := hidd h1
    have HK1 : Hid (∀ W t F, Tab F W t ⟨16, fun _ => [], [], 0⟩ → Calls Try.prog 71 #[ptr t, .int .i64 16, lkV x (x + 1) 2] W fun e w' => e = .returned (.tuple #[.int .i64 0, .bool true, .int .i64 0]) ∧ Tab F w' t T1 ∧ BelF F W.heap.size W w') := fun W t F h => by
      have := tAsk_c t ⟨16, fun _ => [], [], 0⟩ 16 x (x + 1) 2 W h (by decide)
      rw [e1] at this; exact this
    have hx0 : 0 ≤ x := HX.out.1
    have hx1 : x ≤ 4000 := HX.out.2
    clear e1 h1 hxx
    go_enter Try.func19, Try.ntmps19
    go_wp2_with fail
    refine (tNew_c 16 (by decide) (by decide) _).mono ?_; rintro e w1 ⟨rfl, hT1, hb1⟩
    have HA1 := hidd (below_alloc w1 (.cells #[.int .i64 x, .int .i64 (x + 1)] 27))
    have HSB := hidd (Bk.new w1 #[.int .i64 x, .int .i64 (x + 1)] 27 rfl)
    have HTA := hidd (hT1.avoidB HA1.out (Nat.le_refl _) (by simp))
    have HBA := hidd (hb1.trans (HA1.out.mono hb1.size))
    have hw1 : w.heap.size ≤ w1.heap.size := hb1.size
    clear hT1
    obtain ⟨F, hF⟩ : ∃ F : Nat → Prop, F = fun k => w.heap.size ≤ k ∧ k ≠ w1.heap.size := ⟨_, rfl⟩
    have HF2 : Hid (¬ F w1.heap.size) := by rw [hF]; rintro ⟨_, h⟩; exact h rfl
    have HF3 : Hid (∀ k, F k → w.heap.size ≤ k) := by rw [hF]; rintro k ⟨h, _⟩; exact h
    rw [← hF] at HTA
    clear hF
    go_wp2_with fail
    refine (HK1.out _ _ _ HTA.out).mono ?_; rintro e w2 ⟨rfl, hT2, hb2⟩
    have HT2 := hidd hT2
    have HSB2 := hidd (hb2.bk HSB.out HSB.out.lt HF2.out)
    have hB2 := HBA.out.trans (hb2.lo HBA.out.size HF3.out)
    clear hT2 hb2
    go_wp2_with fail
    go_loopw [10] (fun o wr => ∃ (k : Nat) (T : Tb), k ≤ xs.length ∧ o = .int .i64 k ∧ Hid (Asked x (modesF xs) T k) ∧ Hid (Tab F wr w.heap.size T) ∧ Hid (Bk wr w1.heap.size #[.int .i64 x, .int .i64 (x + 1)] 27) ∧ Below w.heap.size w wr) (fun o _ => xs.length - (intOf o).toNat)
    case atStart => exact ⟨0, T1, by omega, rfl, HAS1.out, HT2.out, HSB2.out, hB2⟩
    case round =>
      obtain ⟨k, T, hk, rfl, has, hT, hsb, hbr⟩ := hrel
      by_cases hlt : k < xs.length
      · have hne : xs ≠ [] := by intro e; rw [e] at hlt; simp at hlt
        obtain ⟨b2, o2, rfl, hblt, hc⟩ := (HR.out.below hbr (Nat.le_refl _)).cellsI hne
        have g0 := hc k hlt
        clear hc
        have hkm : k < (modesF xs).length := by rw [HML.out]; exact hlt
        obtain ⟨T', e', h'⟩ := fair_ask HX.out HMO.out HM15.out has.out hkm
        rw [modesF_at hlt hkm] at e'
        have hla : T.last = k := has.out.is_.last
        have HAS := hidd h'
        have HK : Hid (∀ W, Tab F W w.heap.size T → Calls Try.prog 71 #[ptr w.heap.size, .int .i64 ((k : Int) + 1), lkV x (x + 1) (1 + andB xs[k])] W fun e w' => e = .returned (.tuple #[.int .i64 ((k : Int) + 1), .bool false, .int .i64 0]) ∧ Tab F w' w.heap.size T' ∧ BelF F W.heap.size W w') := fun W h => by
          have := tAsk_c w.heap.size T ((k : Int) + 1) x (x + 1) (1 + andB xs[k]) W h (by rw [hla]; omega)
          rw [e'] at this; exact this
        clear e' h' hla
        have hand := andB_is xs[k]
        have HAND : IntKind.i64.wrap (1 + bits BinOp.and IntKind.i64 xs[k] 1) = 1 + andB xs[k] := IntWalk.i64_in _ (by show _ ≤ 1 + andB xs[k] ∧ 1 + andB xs[k] ≤ _; omega)
        have hwk : IntKind.i64.wrap ((k : Int) + 1) = (k : Int) + 1 := IntWalk.i64_in _ (by omega)
        generalize andB xs[k] = z at *
        generalize xs[k] = y at *
        have hsb2 := hsb.out.bx2
        go_wp2_with fail
        go_upto_region 13 with (fail)
        go_cut [11, 12, 13] (fun v1 v2 v3 wx => v1 = .int .i64 ((k : Int) + 1) ∧ v2 = .bool false ∧ v3 = .int .i64 0 ∧ Hid (Tab F wx w.heap.size T') ∧ Hid (Bk wx w1.heap.size #[.int .i64 x, .int .i64 (x + 1)] 27) ∧ Below w.heap.size w wx)
        case first =>
          go_region_law (first
            | (go_simp; go_at_call 71; refine (HK.out _ (hT.out.next (below_drewN (Below.refl _ _) 1) (Nat.le_refl _))).mono ?_; rintro e w5 ⟨rfl, hT5, hb5⟩
               have HQ5 : Hid (Tab F w5 w.heap.size T' ∧ Bk w5 w1.heap.size #[.int .i64 x, .int .i64 (x + 1)] 27 ∧ Below w.heap.size w w5) := ⟨hT5, hb5.bk (hsb.out.next (below_drewN (Below.refl _ _) 1) (Nat.le_refl _)) hsb.out.lt HF2.out, (below_drewN hbr 1).trans (hb5.lo hbr.size HF3.out)⟩
               clear hT5 hb5 HAND hand hwk hsb2 HK HR HAS hB2 HT2 HSB2 HBA HTA HSB HA1)
            | fail)
          all_goals
            go_wp2_with fail
            go_meet
            exact ⟨rfl, rfl, rfl, HQ5.out.1, HQ5.out.2.1, HQ5.out.2.2⟩
        case rest =>
          obtain ⟨rfl, rfl, rfl, hT5, hsb5, hB5⟩ := hcut
          clear HAND hand hwk
          go_wp2_with fail
          go_roundw
          case rel => exact ⟨k + 1, T', by omega, by go_num, HAS.out, hT5.out, hsb5.out, hB5⟩
          case measure => simp [intOf]; omega
      · obtain rfl : k = xs.length := by omega
        have HFA : Hid (Fair x (modesF xs) T 0 0 [16]) := by
          have h := has.out
          rw [← HML.out] at h
          exact h.fair
        clear has
        obtain ⟨w3, rfl⟩ : ∃ w3 : World, w3 = wr := ⟨_, rfl⟩
        go_wp2_with fail
        go_loopw [14, 15, 16] (fun a b d wr => ∃ (j i k : Nat) (T : Tb) (hl : List Nat), a = .int .i64 j ∧ b = .int .i64 i ∧ d = .int .i64 k ∧ j ≤ xs.length ∧ k ≤ j + 1 ∧ Hid (Fair x (modesF xs) T j k hl) ∧ Hid (i ∈ hl) ∧ Hid (Tab F wr w.heap.size T) ∧ Hid (Bk wr w1.heap.size #[.int .i64 x, .int .i64 (x + 1)] 27) ∧ Below w.heap.size w wr) (fun _ _ d _ => 100 - (intOf d).toNat)
        case atStart => exact ⟨0, 16, 0, T, [16], rfl, rfl, rfl, by omega, by omega, HFA.out, List.mem_singleton.2 rfl, hT.out, hsb.out, hbr⟩
        case round =>
          obtain ⟨j, i, k, T, hl, rfl, rfl, rfl, hjl, hkj, hfa, hih, hT, hsb, hbr⟩ := hrel
          by_cases hlt : j < xs.length
          · have hk40 : (k : Int) < 40 := by omega
            have hcnt : k ≤ j := by have := hfa.out.cnt; have := List.length_pos_of_mem hih.out; omega
            obtain ⟨hrel1, p, hl', hp, hgv, hfa', hex, hpos⟩ := hfa.out.step HX.out HMO.out HM15.out hih.out
            have hjp : j + p ≤ xs.length := by have := hp; rw [List.length_drop, HML.out] at this; omega
            have HGL : Hid ((T.given i x (x + 1) 0).length = p) := by show _ = _; rw [hgv, reqs_len, List.length_take]; omega
            have HGI : Hid (∀ (q : Nat) (h : q < (T.given i x (x + 1) 0).length), (T.given i x (x + 1) 0)[q].1 = ((j + q : Nat) : Int) + 1 ∧ (T.given i x (x + 1) 0)[q].2.1 = ((j + q : Nat) : Int) + 1) := by
              rw [hgv]; exact fun q h => reqs_get x _ j q h
            have HKR := hidd (tRelease_c (F := F) w.heap.size T i x (x + 1) 0)
            rw [show relE T.n i x (x + 1) 0 = 0 from if_pos hrel1] at HKR
            have HFA' := hidd hfa'
            have HEX : Hid (j + p < xs.length → ∃ q, q ∈ hl') := by rw [← HML.out]; exact hex
            have HPO := hidd hpos
            generalize T.given i x (x + 1) 0 = G at *
            generalize T.release i x (x + 1) 0 = T' at *
            have hsb2 := hsb.out.bx2
            clear hrel1 hp hgv hfa' hex hpos
            obtain ⟨w4, rfl⟩ : ∃ w4 : World, w4 = wr := ⟨_, rfl⟩
            go_wp2_with fail
            refine (HKR.out _ hT.out).mono ?_; rintro e w5 ⟨⟨u5, rfl, ho5⟩, hT5, hb5⟩
            obtain ⟨A5, c5, rfl⟩ := own_shape ho5
            have HR5 := hidd (Own.rd ho5 rfl)
            have HT5 := hidd hT5
            have HSB5 := hidd (hb5.bk hsb.out hsb.out.lt HF2.out)
            have hB5 := hbr.trans (hb5.lo hbr.size HF3.out)
            clear ho5 hT5 hb5 hsb2
            go_wp2_with fail
            go_loopw [14, 15, 19] (fun a b d wr => ∃ (q : Nat) (z y : Int), a = .int .i64 z ∧ b = .int .i64 y ∧ d = .int .i64 q ∧ q ≤ G.length ∧ z = (j : Int) + q ∧ y = (if q = 0 then (i : Int) else (j : Int) + q) ∧ Below w5.heap.size w5 wr) (fun _ _ d _ => G.length - (intOf d).toNat)
            case atStart => exact ⟨0, _, _, rfl, rfl, rfl, by omega, by simp, by simp, Below.refl _ _⟩
            case round =>
              obtain ⟨q, z, y, rfl, rfl, rfl, hq, hz, hy, hbz⟩ := hrel
              obtain ⟨w6, rfl⟩ : ∃ w6 : World, w6 = wr := ⟨_, rfl⟩
              have HBZ := hidd hbz
              by_cases hql : q < G.length
              · have hneG : G ≠ [] := by intro e; rw [e] at hql; simp at hql
                obtain ⟨b2, o2, rfl, hblt, hcc⟩ := (HR5.out.below hbz (Nat.le_refl _)).cellsW hneG
                obtain ⟨g0, g1, _⟩ := hcc q hql
                obtain ⟨i0, i1⟩ := HGI.out q hql
                rw [i0] at g0
                rw [i1] at g1
                clear hcc i0 i1
                rw [show ((j + q : Nat) : Int) = (j : Int) + (q : Int) by omega] at g0 g1
                subst hz
                have hgl : G.length ≤ 15 := by rw [HGL.out]; omega
                clear hy
                go_wp2_with fail
                go_roundw
                case rel => exact ⟨q + 1, (j : Int) + (q : Int) + 1, (j : Int) + (q : Int) + 1, rfl, rfl, by go_num, by omega, by omega, by rw [if_neg (by omega)]; omega, HBZ.out⟩
                case measure => simp [intOf]; omega
              · obtain rfl : q = G.length := by omega
                have hgl := HGL.out
                have HT6 := hidd (HT5.out.next hbz (Nat.le_refl _))
                have HSB6 := hidd (HSB5.out.next hbz (Nat.le_refl _))
                have hB6 := hB5.trans (hbz.mono hB5.size)
                by_cases hp0 : p = 0
                · subst hp0
                  have hG : G = [] := List.eq_nil_of_length_eq_zero hgl
                  subst hG
                  have hz2 : z = j := by simpa using hz
                  subst hz2
                  obtain ⟨qz, hqz⟩ := HEX.out (by omega)
                  have HQZ := hidd hqz
                  have hmem : 1 ≤ qz ∧ qz ≤ j := by
                    rcases HFA'.out.mem with ⟨h, _⟩ | h
                    · omega
                    · have := h qz hqz; simpa using this
                  have HMD : Hid (∀ z : Nat, 1 ≤ z → z ≤ 16 → (T'.mode z x ≠ 0 ↔ z ∈ hl')) := fun z h1 h2 => HFA'.out.mode ⟨h1, h2⟩
                  clear hz hy hgl hqz HGI
                  go_wp2_with fail
                  simp only [List.length_nil, show (((0 : Nat)) : Int) = 0 from rfl]
                  go_loopw [15, 20] (fun a b wr => ∃ (q h : Nat), a = .int .i64 h ∧ b = .int .i64 ((q : Int) + 1) ∧ q ≤ xs.length ∧ Hid ((h = 0 ∧ ∀ z, 1 ≤ z → z ≤ q → ¬ z ∈ hl') ∨ (h ∈ hl' ∧ 1 ≤ h)) ∧ Below w6.heap.size w6 wr) (fun _ b _ => (xs.length + 1 - (intOf b)).toNat)
                  case atStart => exact ⟨0, 0, rfl, rfl, by omega, .inl ⟨rfl, fun z h1 h2 => by omega⟩, Below.refl _ _⟩
                  case round =>
                    obtain ⟨q, h, rfl, rfl, hq, hh, hb7⟩ := hrel
                    by_cases hqx : q < xs.length
                    · have hd : decide ((q : Int) + 1 ≤ (xs.length : Int)) = true := decide_eq_true (by omega)
                      have HMO2 := hidd (tMode_c w.heap.size T' ((q : Int) + 1) x wr (HT6.out.next hb7 (Nat.le_refl _)))
                      have HM2 : Hid (T'.mode ((q : Int) + 1) x ≠ 0 ↔ q + 1 ∈ hl') := by have := HMD.out (q + 1) (by omega) (by omega); exact this
                      generalize T'.mode ((q : Int) + 1) x = mo at *
                      by_cases hmo : mo = 0
                      · have hnot : Hid (¬ q + 1 ∈ hl') := fun e => (HM2.out.2 e) hmo
                        subst hmo
                        go_wp2_with fail
                        refine HMO2.out.mono ?_; rintro e w8 ⟨rfl, hb8⟩
                        go_wp2_with fail
                        go_roundw
                        case rel => exact ⟨q + 1, h, rfl, by go_num, by omega, hh.out.elim (fun e => .inl ⟨e.1, fun z h1 h2 => by
                          by_cases e2 : z = q + 1
                          · rw [e2]; exact hnot.out
                          · exact e.2 z h1 (by omega)⟩) .inr, hb7.trans (hb8.mono hb7.size)⟩
                        case measure => simp [intOf]; omega
                      · have hin : Hid (q + 1 ∈ hl') := HM2.out.1 hmo
                        have hmb : (mo != 0) = true := by simp [hmo]
                        clear hmo
                        go_wp2_with fail
                        refine HMO2.out.mono ?_; rintro e w8 ⟨rfl, hb8⟩
                        go_wp2_with fail
                        go_roundw
                        case rel => exact ⟨q + 1, q + 1, by go_num, by go_num, by omega, .inr ⟨hin.out, by omega⟩, hb7.trans (hb8.mono hb7.size)⟩
                        case measure => simp [intOf]; omega
                    · obtain rfl : q = xs.length := by omega
                      have hd : decide ((xs.length : Int) + 1 ≤ (xs.length : Int)) = false := decide_eq_false (by omega)
                      have hgood : h ∈ hl' ∧ 1 ≤ h := hh.out.resolve_left fun e => e.2 qz hmem.1 (by omega) HQZ.out
                      have HGO := hidd hgood.1
                      have hh0 : ((h : Int) == 0) = false := by rw [beq_eq_false_iff_ne]; omega
                      have HS7 := hidd (HSB6.out.next hb7 (Nat.le_refl _))
                      have HT7 := hidd (HT6.out.next hb7 (Nat.le_refl _))
                      have hB7 := hB6.trans (hb7.mono hB6.size)
                      clear hgood hh
                      go_wp2_with fail
                      go_roundw
                      case rel => exact ⟨j, h, k + 1, T', hl', rfl, rfl, by go_num, by omega, by omega, HFA'.out, HGO.out, HT7.out, HS7.out, hB7⟩
                      case measure => simp [intOf]; omega
                · have hpz : ((G.length : Int) == 0) = false := by rw [hgl, beq_eq_false_iff_ne]; omega
                  have HPP := hidd (HPO.out (by omega))
                  have hyy : y = ((j + p : Nat) : Int) := by rw [hy, if_neg (by omega), hgl]; omega
                  have hzz : z = ((j + p : Nat) : Int) := by rw [hz, hgl]; omega
                  subst hyy
                  subst hzz
                  clear hy hz hgl
                  go_wp2_with fail
                  go_roundw
                  case rel => exact ⟨j + p, j + p, k + 1, T', hl', rfl, rfl, by go_num, hjp, by omega, HFA'.out, HPP.out, HT6.out, HSB6.out, hB6⟩
                  case measure => simp [intOf]; omega
          · obtain rfl : j = xs.length := by omega
            have hk40 : (k : Int) < 40 := by omega
            have hws : Hid (T.waits = []) := by show _ = _; rw [hfa.out.ws, ← HML.out, List.drop_length]; rfl
            go_wp2_with fail
            refine (alive18_c _).mono ?_; rintro e w5 ⟨rfl, hb5⟩
            have HW := hidd (tWaits_c w.heap.size T w5 (hT.out.next hb5 (Nat.le_refl _)))
            rw [hws.out] at HW
            have hB5 := hbr.trans (hb5.mono hbr.size)
            go_wp2_with fail
            refine HW.out.mono ?_; rintro e w6 ⟨⟨u6, rfl, ho6⟩, hb6⟩
            obtain ⟨A6, c6, rfl⟩ := own_shape ho6
            clear ho6
            simp only [List.length_nil] at *
            go_wp2_with fail
            go_ret
            exact ⟨rfl, hB5.trans (hb6.mono hB5.size)⟩
  all_goals
    go_enter Try.func19, Try.ntmps19
    go_wp2_with fail
    refine (alive18_c _).mono ?_; rintro e w1 ⟨rfl, hb1⟩
    go_wp2_with fail
    go_ret
    exact ⟨rfl, hb1⟩
end Go.Proofs.Ytiokkoeciijkoaa
