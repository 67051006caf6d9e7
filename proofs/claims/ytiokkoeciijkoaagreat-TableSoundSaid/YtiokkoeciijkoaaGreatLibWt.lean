/- slices of requests: IndexFunc, DeleteFunc. -/
import Derived.Test.YtiokkoeciijkoaaGreatTabL
namespace Go.Proofs.YtiokkoeciijkoaaGreat
set_option linter.unusedVariables false
set_option linter.unusedSimpArgs false
open Go.RowKit Go.Sort Go.Lib

theorem own_cellsW {w : World} {base g n c : Nat} {e : TypeId} {ys : List Wt} (h : w.ownsRow base e 5 (.slice (some ⟨g, 0, none⟩) n c) n (ys.flatMap encW)) {i : Nat} (hi : i < ys.length) :
    w.cell? ⟨g, i * 5, none⟩ = some (.int .i64 ys[i].1) ∧ w.cell? ⟨g, i * 5 + 1, none⟩ = some (.int .i64 ys[i].2.1) ∧ w.cell? ⟨g, i * 5 + 2, none⟩ = some (.int .i64 ys[i].2.2.1) ∧ w.cell? ⟨g, i * 5 + 3, none⟩ = some (.int .i64 ys[i].2.2.2.1) ∧ w.cell? ⟨g, i * 5 + 4, none⟩ = some (.int .i64 ys[i].2.2.2.2) ∧
    w.frozen? ⟨g, i * 5, none⟩ = false ∧ w.frozen? ⟨g, i * 5 + 1, none⟩ = false ∧ w.frozen? ⟨g, i * 5 + 2, none⟩ = false ∧ w.frozen? ⟨g, i * 5 + 3, none⟩ = false ∧ w.frozen? ⟨g, i * 5 + 4, none⟩ = false := by
  have e : ys[i]? = some ys[i] := List.getElem?_eq_getElem hi
  have h0 := flat_at encW 5 encW_len ys i _ e 0 (by omega)
  have h1 := flat_at encW 5 encW_len ys i _ e 1 (by omega)
  have h2 := flat_at encW 5 encW_len ys i _ e 2 (by omega)
  have h3 := flat_at encW 5 encW_len ys i _ e 3 (by omega)
  have h4 := flat_at encW 5 encW_len ys i _ e 4 (by omega)
  have c0 := h.cells (g := g) rfl _ _ (h0.trans rfl)
  have c1 := h.cells (g := g) rfl _ _ (h1.trans rfl)
  have c2 := h.cells (g := g) rfl _ _ (h2.trans rfl)
  have c3 := h.cells (g := g) rfl _ _ (h3.trans rfl)
  have c4 := h.cells (g := g) rfl _ _ (h4.trans rfl)
  rw [add_lit', Nat.zero_add] at c0 c1 c2 c3 c4
  exact ⟨c0, c1, c2, c3, c4, h.frozenAt _, h.frozenAt _, h.frozenAt _, h.frozenAt _, h.frozenAt _⟩
theorem zeroWait : ∀ w, (zeroValue 168).run Tryz.prog w = .ok (.agg #[.int .i64 0, .int .i64 0, .int .i64 0, .int .i64 0, .int .i64 0]) w := Tryz.zeroValue168

set_option maxHeartbeats 400000 in
theorem idxWait_c (A : Option Addr) (n c : Nat) (xs : List Wt) (w : World) (h : Rd 5 encW w A xs) (hn : n = xs.length) (hbig : xs.length ≤ 1000000000) (p : Wt → Bool) (g : Nat) (lb : Array Value)
    (eg : ∀ args w, (callFunc g args).run Tryz.prog w = .ok (.enter g args) w)
    (hp : ∀ y W, Below w.heap.size w W → Calls Tryz.prog g (#[wtV y] ++ lb) W fun e w' => e = .returned (.bool (p y)) ∧ Below W.heap.size W w') :
    Calls Tryz.prog 210 #[.slice A n c, .func (.func g) #[] lb] w fun e w' => e = .returned (.int .i64 (idxI p xs)) ∧ Below w.heap.size w w' := by
  subst hn
  have HP := hidd hp
  clear hp
  by_cases hx : xs = []
  · subst hx
    go_enter Tryz.func210, Tryz.ntmps210
    go_wp2_with fail
    refine wp_loop_rounds 1 ?_
    rw [rounds_succ]
    go_wp2_with fail
    go_ret
    exact ⟨by simp [idxI], Below.refl _ _⟩
  · obtain ⟨b, o, rfl, hlt, hc⟩ := h.cellsW hx
    have HC := hidd hc
    clear hc h hx
    go_enter Tryz.func210, Tryz.ntmps210
    go_wp2_with fail
    go_loopw [8] (fun i wr => ∃ k : Nat, k ≤ xs.length ∧ i = .int .i64 k ∧ Below w.heap.size w wr ∧ Hid (∀ j (hj : j < xs.length), j < k → p xs[j] = false)) (fun i _ => xs.length - (intOf i).toNat)
    case atStart => exact ⟨0, by omega, rfl, Below.refl _ _, fun j hj h => by omega⟩
    case round =>
      obtain ⟨k, hk, rfl, hb, hno⟩ := hrel
      by_cases hkl : k < xs.length
      · obtain ⟨g0, g1, g2, g3, g4⟩ := HC.out k hkl
        rw [← hb.cell (p := ⟨_, _, none⟩) hlt] at g0 g1 g2 g3 g4
        have hcall := hidd (HP.out xs[k] wr hb)
        go_wp2_with fail
        refine hcall.out.mono ?_; rintro e w1 ⟨rfl, hb1⟩
        cases hpx : p xs[k] with
        | true =>
          have HPX := hidd hpx; clear hpx
          go_wp2_with fail
          go_ret
          exact ⟨by rw [idxI_hit p xs k hkl HPX.out (fun j hj => hno.out j (by omega) hj)]; rfl, hb.trans (hb1.mono hb.size)⟩
        | false =>
          have HPX := hidd hpx; clear hpx
          go_wp2_with fail
          go_roundw
          case rel => exact ⟨k + 1, by omega, by go_num, hb.trans (hb1.mono hb.size), fun j hj h => by
            rcases Nat.lt_or_ge j k with h' | h'
            · exact hno.out j hj h'
            · have : j = k := by omega
              subst this; exact HPX.out⟩
          case measure => simp [intOf]; omega
      · go_wp2_with fail
        go_ret
        exact ⟨by rw [idxI_none p xs (fun j hj => hno.out j hj (by omega))]; rfl, hb⟩


set_option maxHeartbeats 1000000 in
set_option maxRecDepth 100000 in
theorem delWait_c (v : Value) (xs : List Wt) (w : World) (base : Nat) (h : Own 5 encW 168 w base v xs) (hbig : xs.length ≤ 1000000000) (p : Wt → Bool) (g : Nat) (lb : Array Value)
    (eg : ∀ args w, (callFunc g args).run Tryz.prog w = .ok (.enter g args) w)
    (hp : ∀ y W, w.grownBy W v.ownBlock → Calls Tryz.prog g (#[wtV y] ++ lb) W fun e w' => e = .returned (.bool (p y)) ∧ RowKit.Below W.heap.size W w') :
    Calls Tryz.prog 159 #[v, .func (.func g) #[] lb] w fun e w' => (∃ v', e = .returned v' ∧ Own 5 encW 168 w' base v' (keepL p xs) ∧ (v'.ownBlock = v.ownBlock)) ∧ w.grownBy w' v.ownBlock := by
  have HP := hidd hp
  clear hp
  obtain ⟨A, c, rfl⟩ := own_shape h
  have hrd := Own.rd h rfl
  have hidx := idxWait_c A xs.length c xs w hrd rfl hbig p g lb eg (fun y W hW => HP.out y W (grown_below hW))
  have HI := hidd hidx
  clear hidx
  by_cases hno : ∀ j (hj : j < xs.length), p xs[j] = false
  · have hk : keepL p xs = xs := by
      unfold keepL
      rw [List.filter_eq_self]
      intro x hx
      obtain ⟨j, hj, rfl⟩ := List.getElem_of_mem hx
      simp [hno j hj]
    rw [idxI_none p xs hno] at HI
    rw [hk]
    have HH := hidd h
    clear h hrd hk hno
    go_enter Tryz.func159, Tryz.ntmps159
    go_wp2_with fail
    refine HI.out.mono ?_; rintro e w1 ⟨rfl, hb1⟩
    go_wp2_with fail
    go_ret
    exact ⟨⟨_, rfl, own_below HH.out hb1, rfl⟩, grown_below hb1⟩
  · obtain ⟨i0, hi0, hpi, hbe⟩ : ∃ i, ∃ hi : i < xs.length, p xs[i] = true ∧ ∀ j (hj : j < xs.length), j < i → p xs[j] = false := by
      have hex : ∃ x ∈ xs, p x = true := by
        apply Classical.byContradiction
        intro hc
        apply hno
        intro j hj
        cases hq : p xs[j] with
        | false => rfl
        | true => exact absurd ⟨xs[j], List.getElem_mem hj, hq⟩ hc
      have hlt := List.findIdx_lt_length_of_exists hex
      refine ⟨xs.findIdx p, hlt, List.findIdx_getElem, fun j hj hji => by simpa using List.not_of_lt_findIdx hji⟩
    rw [idxI_hit p xs i0 hi0 hpi (fun j hj => hbe j (by omega) hj)] at HI
    have hst := DelAt.start hi0 hpi hbe
    have hn : 0 < xs.length := by omega
    obtain ⟨g0, cap, hv, hb0, hg0, _, _⟩ := own_at h hn
    injection hv with hv _ hcap
    subst hv; subst hcap
    have hle : xs.length ≤ c := by
      rcases h.2 with ⟨h', _⟩ | ⟨_, _, _, h', _, _, h3, _⟩
      · cases h'
      · injection h' with _ _ h'; omega
    have HH := hidd h
    have HS := hidd hst
    clear hpi hbe hno h hrd hst
    have hne : (((i0 : Nat) : Int) == -1) = false := by rw [beq_eq_false_iff_ne]; omega
    go_enter Tryz.func159, Tryz.ntmps159
    go_wp2_with fail
    refine HI.out.mono ?_; rintro e w1 ⟨rfl, hb1⟩
    go_wp2_with fail
    go_loopw [5, 6] (fun s5 s6 wr => ∃ (ii jj : Nat) (ys : List Wt), s5 = .int .i64 ii ∧ s6 = .int .i64 jj ∧ ii < jj ∧ jj ≤ xs.length ∧ Hid (DelAt p xs ii jj ys) ∧ Hid (wr.ownsRow base 168 5 (.slice (some ⟨g0, 0, none⟩) xs.length c) xs.length (ys.flatMap encW)) ∧ Hid (w.grownBy wr (some g0))) (fun _ s6 _ => xs.length - (intOf s6).toNat)
    case atStart => exact ⟨i0, i0 + 1, xs, rfl, by go_num, by omega, by omega, HS.out, own_below HH.out hb1, grown_below hb1⟩
    case round =>
      obtain ⟨ii, jj, ys, rfl, rfl, hij, hjn, HD, hown, hgr⟩ := hrel
      have hlen := HD.out.len
      have HLEN := hidd hlen
      clear hlen
      by_cases hlt : jj < xs.length
      · obtain ⟨hjy, hyx⟩ := HD.out.at_ hlt
        obtain ⟨q0, q1, q2, q3, q4, _⟩ := own_cellsW hown.out hjy
        rw [hyx] at q0 q1 q2 q3 q4
        clear hyx
        have hcall := hidd (fun o => HP.out xs[jj] _ (grown_trans hgr.out (World.grownBy_alloc wr o (some g0))))
        go_wp2_with fail
        refine (hcall.out _).mono ?_; rintro e w2 ⟨rfl, hb2⟩
        have hown2 := hidd (own_below (hown.out.alloc _) hb2)
        have hgr2 := hidd (grown_trans (grown_trans hgr.out (World.grownBy_alloc wr _ (some g0))) (grown_below hb2))
        cases hpx : p xs[jj] with
        | true =>
          have HPX := hidd hpx; clear hpx
          go_wp2_with fail
          go_roundw
          case rel => exact ⟨ii, jj + 1, ys, rfl, by go_num, by omega, by omega, HD.out.drop_ hlt HPX.out, hown2.out, hgr2.out⟩
          case measure => simp [intOf]; omega
        | false =>
          have HPX := hidd hpx; clear hpx
          obtain ⟨r0, r1, r2, r3, r4, s0, s1, s2, s3, s4⟩ := own_cellsW hown2.out (i := ii) (by have := HLEN.out; omega)
          obtain ⟨hc, hf⟩ := bcell hb2
          clear hcall q0 q1 q2 q3 q4
          go_wp2_with fail
          go_roundw
          case rel =>
            have hs := own_setElem encW_len hown2.out ii (by have := HLEN.out; omega) xs[jj]
            exact ⟨ii + 1, jj + 1, ys.set ii xs[jj], by go_num, by go_num, by omega, by omega, HD.out.keep hlt HPX.out, hs.1, grown_trans hgr2.out hs.2⟩
          case measure => simp [intOf]; omega
      · obtain rfl : jj = xs.length := by omega
        obtain ⟨w2, l2, hcl, hown2, htk, hgr2⟩ := own_clear (P := Tryz.prog) (size := 5) Tryz.underlying107 zeroWait rfl (by decide) hown.out (i := ii) hij
        have HO := hidd hown2
        have HT := hidd htk
        have HG := hidd hgr2
        clear hown2 htk hgr2 HS
        go_wp2_with fail
        go_ret
        refine ⟨⟨_, rfl, ?_, rfl⟩, grown_trans hgr.out HG.out⟩
        have hk := own_take HO.out (m := ii) (by omega)
        rw [HT.out] at hk
        have e1 : (ys.flatMap encW).take (ii * 5) = (keepL p xs).flatMap encW := by
          rw [← HD.out.done, ← List.take_append_drop ii ys, List.flatMap_append]
          have hll : ((ys.take ii).flatMap encW).length = ii * 5 := by rw [flat_length encW 5 encW_len, List.length_take, HLEN.out]; omega
          rw [← hll, List.take_left, List.take_append_drop]
        have e2 : (keepL p xs).length = ii := by rw [← HD.out.done, List.length_take, HLEN.out]; omega
        rw [e1] at hk
        unfold Own
        rw [e2]
        exact hk
end Go.Proofs.YtiokkoeciijkoaaGreat
