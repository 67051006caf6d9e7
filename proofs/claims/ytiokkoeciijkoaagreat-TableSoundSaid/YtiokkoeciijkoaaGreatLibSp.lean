/- slices.Clone, IndexFunc, DeleteFunc, SortFunc at ranges, as Norm uses them. -/
import Derived.Test.YtiokkoeciijkoaaGreatLibA
import Derived.Test.YtiokkoeciijkoaaGreatLibG
import Derived.Lib.SliceRun
namespace Go.Proofs.YtiokkoeciijkoaaGreat
set_option linter.unusedVariables false
set_option linter.unusedSimpArgs false
open Go.RowKit Go.Sort Go.Lib

set_option maxHeartbeats 400000 in
theorem cloneSp_c (A : Option Addr) (n c : Nat) (xs : List Sp) (w : World) (h : Rd 2 encS w A xs) (hn : n = xs.length) (hbig : xs.length ≤ 1000000000) :
    Calls Tryz.prog 72 #[.slice A n c] w fun e w' => (∃ v', e = .returned v' ∧ Own 2 encS 43 w' w.heap.size v' xs) ∧ Below w.heap.size w w' := by
  have q := fun (w : World) (a : Option Addr) (n c n' c' : Nat) => Lib.run_eql_slice_nil (P := Tryz.prog) w 22 43 a n c n' c' Tryz.underlying22
  have hl := flat_length encS 2 encS_len xs
  cases A with
  | none =>
    have hx : xs = [] := by rcases h with h | ⟨b, o, h, _⟩; · exact h
                            · cases h
    subst hx
    simp at hn
    subst hn
    go_enter Tryz.func72, Tryz.ntmps72
    go_wp2
    go_ret
    exact ⟨⟨_, rfl, World.ownsRow_nil _ _ _ _⟩, Below.refl _ _⟩
  | some a =>
    have H : Hid (∀ j u, (xs.flatMap encS)[j]? = some u → w.cell? (a.add j) = some u) := by
      intro j u hu
      rcases h with h | ⟨b, o, ha, _, hc⟩
      · subst h; simp at hu
      · injection ha with ha; subst ha; rw [add_lit']; exact hc j u hu
    have h1 : Hid (∀ u ∈ xs.flatMap encS, u.oneCell' = true) := by
      intro u hu; obtain ⟨x, _, hx⟩ := List.mem_flatMap.1 hu; exact encS_one x u hx
    have HL := hidd hl
    have HN := hidd hn
    clear hl hn h
    obtain ⟨i, hi, hz, h3, h4⟩ := info_parts infoSpan
    go_enter Tryz.func72, Tryz.ntmps72
    go_wp2_with (at_builtin; refine wpList_append_own _ rfl _ _ 22 rfl w.heap.size 43 i _ 2 16 Tryz.underlying22 hi hz h3 h4 rfl (by decide) _ 0 [] rfl (World.ownsRow_made w #[] 0 (Nat.le_refl _) (Nat.zero_le _) (by simp)) a n c (xs.flatMap encS) rfl (by rw [HL.out, HN.out]) (fun j u hu => Lib.cell?_alloc_some _ (H.out j u hu)) h1.out (by rw [HN.out]; unfold maxLen; omega) (by rw [HN.out]; omega) (by simp) (fun v' w' ho hg hnil => ?_))
    go_ret
    exact ⟨⟨v', rfl, by simpa [HN.out] using ho⟩, (((Below.refl _ w).alloc (Nat.le_refl _) _).grown hg (by simp) (fun k hk => by cases hk; exact Nat.le_refl _))⟩

/-- the first place at which p holds, or -1 -/
def idxI {α : Type} (p : α → Bool) (xs : List α) : Int := match xs.findIdx? p with | some i => (i : Int) | none => -1

theorem idxI_hit {α : Type} (p : α → Bool) (xs : List α) (k : Nat) (hk : k < xs.length) (h : p xs[k] = true) (hb : ∀ j (hj : j < k), p (xs[j]'(by omega)) = false) : idxI p xs = k := by
  unfold idxI
  have : xs.findIdx? p = some k := by
    rw [List.findIdx?_eq_some_iff_getElem]
    exact ⟨hk, h, fun j hj => by simp [hb j hj]⟩
  rw [this]
theorem idxI_none {α : Type} (p : α → Bool) (xs : List α) (hb : ∀ j (hj : j < xs.length), p xs[j] = false) : idxI p xs = -1 := by
  unfold idxI
  have : xs.findIdx? p = none := by
    rw [List.findIdx?_eq_none_iff]
    intro x hx
    obtain ⟨j, hj, rfl⟩ := List.getElem_of_mem hx
    simp [hb j hj]
  rw [this]

theorem Rd.cells2 {w : World} {A : Option Addr} {xs : List Sp} (h : Rd 2 encS w A xs) (hx : xs ≠ []) : ∃ b o, A = some ⟨b, o, none⟩ ∧ b < w.heap.size ∧
    ∀ (i : Nat) (hi : i < xs.length), w.cell? ⟨b, o + i * 2, none⟩ = some (.int .i64 xs[i].1) ∧ w.cell? ⟨b, o + i * 2 + 1, none⟩ = some (.int .i64 xs[i].2) := by
  rcases h with h | ⟨b, o, hA, hlt, hc⟩
  · exact absurd h hx
  · refine ⟨b, o, hA, hlt, fun i hi => ?_⟩
    have e : xs[i]? = some xs[i] := List.getElem?_eq_getElem hi
    have h0 := flat_at encS 2 encS_len xs i _ e 0 (by omega)
    have h1 := flat_at encS 2 encS_len xs i _ e 1 (by omega)
    exact ⟨hc _ _ (h0.trans rfl), (hc _ _ (h1.trans rfl))⟩

set_option maxHeartbeats 400000 in
theorem idxSp_c (A : Option Addr) (n c : Nat) (xs : List Sp) (w : World) (h : Rd 2 encS w A xs) (hn : n = xs.length) (hbig : xs.length ≤ 1000000000) (p : Sp → Bool) (g : Nat) (lb : Array Value)
    (eg : ∀ args w, (callFunc g args).run Tryz.prog w = .ok (.enter g args) w)
    (hp : ∀ a b W, Below w.heap.size w W → Calls Tryz.prog g (#[spV a b] ++ lb) W fun e w' => e = .returned (.bool (p (a, b))) ∧ Below W.heap.size W w') :
    Calls Tryz.prog 168 #[.slice A n c, .func (.func g) #[] lb] w fun e w' => e = .returned (.int .i64 (idxI p xs)) ∧ Below w.heap.size w w' := by
  subst hn
  have HP := hidd hp
  clear hp
  by_cases hx : xs = []
  · subst hx
    go_enter Tryz.func168, Tryz.ntmps168
    go_wp2_with fail
    refine wp_loop_rounds 1 ?_
    rw [rounds_succ]
    go_wp2_with fail
    go_ret
    exact ⟨by simp [idxI], Below.refl _ _⟩
  · obtain ⟨b, o, rfl, hlt, hc⟩ := h.cells2 hx
    have HC := hidd hc
    clear hc h hx
    go_enter Tryz.func168, Tryz.ntmps168
    go_wp2_with fail
    go_loopw [8] (fun i wr => ∃ k : Nat, k ≤ xs.length ∧ i = .int .i64 k ∧ Below w.heap.size w wr ∧ Hid (∀ j (hj : j < xs.length), j < k → p xs[j] = false)) (fun i _ => xs.length - (intOf i).toNat)
    case atStart => exact ⟨0, by omega, rfl, Below.refl _ _, fun j hj h => by omega⟩
    case round =>
      obtain ⟨k, hk, rfl, hb, hno⟩ := hrel
      by_cases hkl : k < xs.length
      · obtain ⟨g0, g1⟩ := HC.out k hkl
        rw [← hb.cell (p := ⟨_, _, none⟩) hlt] at g0 g1
        have hcall := hidd (HP.out xs[k].1 xs[k].2 wr hb)
        go_wp2_with fail
        refine hcall.out.mono ?_; rintro e w1 ⟨rfl, hb1⟩
        cases hpx : p (xs[k].1, xs[k].2) with
        | true =>
          have HPX := hidd hpx; clear hpx
          go_wp2_with fail
          go_ret
          exact ⟨by rw [idxI_hit p xs k hkl HPX.out (fun j hj => hno.out j (by omega) hj)]; rfl, hb.trans (hb1.mono hb.size)⟩
        | false =>
          have HPX := hidd hpx; clear hpx
          go_wp2_with fail
          go_roundw
          case rel => exact ⟨k + 1, by omega, by go_num, hb.trans (hb1.mono hb.size), fun j hj h => by
            rcases Nat.lt_or_ge j k with h' | h'
            · exact hno.out j hj h'
            · have : j = k := by omega
              subst this; exact HPX.out⟩
          case measure => simp [intOf]; omega
      · go_wp2_with fail
        go_ret
        exact ⟨by rw [idxI_none p xs (fun j hj => hno.out j hj (by omega))]; rfl, hb⟩

theorem own_cells2 {w : World} {base g n c : Nat} {e : TypeId} {ys : List Sp} (h : w.ownsRow base e 2 (.slice (some ⟨g, 0, none⟩) n c) n (ys.flatMap encS)) {i : Nat} (hi : i < ys.length) :
    w.cell? ⟨g, i * 2, none⟩ = some (.int .i64 ys[i].1) ∧ w.cell? ⟨g, i * 2 + 1, none⟩ = some (.int .i64 ys[i].2) ∧ w.frozen? ⟨g, i * 2, none⟩ = false ∧ w.frozen? ⟨g, i * 2 + 1, none⟩ = false := by
  have e : ys[i]? = some ys[i] := List.getElem?_eq_getElem hi
  have h0 := flat_at encS 2 encS_len ys i _ e 0 (by omega)
  have h1 := flat_at encS 2 encS_len ys i _ e 1 (by omega)
  have c0 := h.cells (g := g) rfl _ _ (h0.trans rfl)
  have c1 := h.cells (g := g) rfl _ _ (h1.trans rfl)
  rw [add_lit', Nat.zero_add] at c0 c1
  exact ⟨c0, c1, h.frozenAt _, h.frozenAt _⟩

theorem zeroSpan : ∀ w, (zeroValue 43).run Tryz.prog w = .ok (.agg #[.int .i64 0, .int .i64 0]) w := Tryz.zeroValue43

/-- keeps what p does not hold of -/
abbrev keepL {α : Type} (p : α → Bool) (xs : List α) : List α := xs.filter fun x => !p x

/-- where DeleteFunc's loop stands: ii kept, jj looked at -/
structure DelAt {α : Type} (p : α → Bool) (xs : List α) (ii jj : Nat) (ys : List α) : Prop where
  lt : ii < jj
  le : jj ≤ xs.length
  len : ys.length = xs.length
  kept : ys.take ii = keepL p (xs.take jj)
  rest : ys.drop jj = xs.drop jj
section
variable {α : Type} {p : α → Bool} {xs ys : List α} {ii jj : Nat}
theorem DelAt.start (hj : ii < xs.length) (h : p xs[ii] = true) (hb : ∀ j (hj : j < xs.length), j < ii → p xs[j] = false) : DelAt p xs ii (ii + 1) xs := by
  refine ⟨by omega, by omega, rfl, ?_, rfl⟩
  rw [List.take_succ_eq_append_getElem hj, keepL, List.filter_append]
  simp [h]
  symm
  rw [List.filter_eq_self]
  intro x hx
  obtain ⟨j, hj', rfl⟩ := List.getElem_of_mem hx
  simp at hj' ⊢
  exact hb j (by omega) (by omega)
theorem DelAt.at_ (h : DelAt p xs ii jj ys) (hj : jj < xs.length) : ∃ hj' : jj < ys.length, ys[jj] = xs[jj] := by
  have h1 := h.rest
  have hl := h.len
  refine ⟨by omega, ?_⟩
  have := congrArg (fun l => l[0]?) h1
  simp only [List.getElem?_drop, Nat.add_zero] at this
  rw [List.getElem?_eq_getElem (by omega), List.getElem?_eq_getElem hj] at this
  exact Option.some.inj this
theorem DelAt.drop_ (h : DelAt p xs ii jj ys) (hj : jj < xs.length) (hp : p xs[jj] = true) : DelAt p xs ii (jj + 1) ys := by
  refine ⟨by have := h.lt; omega, by omega, h.len, ?_, ?_⟩
  · rw [List.take_succ_eq_append_getElem hj, keepL, List.filter_append, h.kept]; simp [hp]
  · rw [← List.drop_drop, ← List.drop_drop, h.rest]
theorem DelAt.keep (h : DelAt p xs ii jj ys) (hj : jj < xs.length) (hp : p xs[jj] = false) : DelAt p xs (ii + 1) (jj + 1) (ys.set ii xs[jj]) := by
  have hlt := h.lt
  have hlen := h.len
  refine ⟨by omega, by omega, by simpa using h.len, ?_, ?_⟩
  · rw [List.take_succ_eq_append_getElem hj, keepL, List.filter_append, List.take_succ_eq_append_getElem (by simp; omega), List.take_set_of_le (by omega), h.kept]
    simp [hp]
  · rw [List.drop_set_of_lt (by omega), ← List.drop_drop, ← List.drop_drop, h.rest]
theorem DelAt.done (h : DelAt p xs ii xs.length ys) : ys.take ii = keepL p xs := by
  rw [h.kept, List.take_length]
end

set_option maxHeartbeats 1000000 in
set_option maxRecDepth 100000 in
theorem delSp_c (v : Value) (xs : List Sp) (w : World) (base : Nat) (h : Own 2 encS 43 w base v xs) (hbig : xs.length ≤ 1000000000) (p : Sp → Bool) (g : Nat) (lb : Array Value)
    (eg : ∀ args w, (callFunc g args).run Tryz.prog w = .ok (.enter g args) w)
    (hp : ∀ a b W, w.grownBy W v.ownBlock → Calls Tryz.prog g (#[spV a b] ++ lb) W fun e w' => e = .returned (.bool (p (a, b))) ∧ RowKit.Below W.heap.size W w') :
    Calls Tryz.prog 71 #[v, .func (.func g) #[] lb] w fun e w' => (∃ v', e = .returned v' ∧ Own 2 encS 43 w' base v' (keepL p xs) ∧ (v'.ownBlock = v.ownBlock)) ∧ w.grownBy w' v.ownBlock := by
  have HP := hidd hp
  clear hp
  obtain ⟨A, c, rfl⟩ := own_shape h
  have hrd := Own.rd h rfl
  have hidx := idxSp_c A xs.length c xs w hrd rfl hbig p g lb eg (fun a b W hW => HP.out a b W (grown_below hW))
  have HI := hidd hidx
  clear hidx
  by_cases hno : ∀ j (hj : j < xs.length), p xs[j] = false
  · have hk : keepL p xs = xs := by
      unfold keepL
      rw [List.filter_eq_self]
      intro x hx
      obtain ⟨j, hj, rfl⟩ := List.getElem_of_mem hx
      simp [hno j hj]
    rw [idxI_none p xs hno] at HI
    rw [hk]
    have HH := hidd h
    clear h hrd hk hno
    go_enter Tryz.func71, Tryz.ntmps71
    go_wp2_with fail
    refine HI.out.mono ?_; rintro e w1 ⟨rfl, hb1⟩
    go_wp2_with fail
    go_ret
    exact ⟨⟨_, rfl, own_below HH.out hb1, rfl⟩, grown_below hb1⟩
  · obtain ⟨i0, hi0, hpi, hbe⟩ : ∃ i, ∃ hi : i < xs.length, p xs[i] = true ∧ ∀ j (hj : j < xs.length), j < i → p xs[j] = false := by
      have hex : ∃ x ∈ xs, p x = true := by
        apply Classical.byContradiction
        intro hc
        apply hno
        intro j hj
        cases hq : p xs[j] with
        | false => rfl
        | true => exact absurd ⟨xs[j], List.getElem_mem hj, hq⟩ hc
      have hlt := List.findIdx_lt_length_of_exists hex
      refine ⟨xs.findIdx p, hlt, List.findIdx_getElem, fun j hj hji => by simpa using List.not_of_lt_findIdx hji⟩
    rw [idxI_hit p xs i0 hi0 hpi (fun j hj => hbe j (by omega) hj)] at HI
    have hst := DelAt.start hi0 hpi hbe
    have hn : 0 < xs.length := by omega
    obtain ⟨g0, cap, hv, hb0, hg0, _, _⟩ := own_at h hn
    injection hv with hv _ hcap
    subst hv; subst hcap
    have hle : xs.length ≤ c := by
      rcases h.2 with ⟨h', _⟩ | ⟨_, _, _, h', _, _, h3, _⟩
      · cases h'
      · injection h' with _ _ h'; omega
    have HH := hidd h
    have HS := hidd hst
    clear hpi hbe hno h hrd hst
    have hne : (((i0 : Nat) : Int) == -1) = false := by rw [beq_eq_false_iff_ne]; omega
    go_enter Tryz.func71, Tryz.ntmps71
    go_wp2_with fail
    refine HI.out.mono ?_; rintro e w1 ⟨rfl, hb1⟩
    go_wp2_with fail
    go_loopw [5, 6] (fun s5 s6 wr => ∃ (ii jj : Nat) (ys : List Sp), s5 = .int .i64 ii ∧ s6 = .int .i64 jj ∧ ii < jj ∧ jj ≤ xs.length ∧ Hid (DelAt p xs ii jj ys) ∧ Hid (wr.ownsRow base 43 2 (.slice (some ⟨g0, 0, none⟩) xs.length c) xs.length (ys.flatMap encS)) ∧ Hid (w.grownBy wr (some g0))) (fun _ s6 _ => xs.length - (intOf s6).toNat)
    case atStart => exact ⟨i0, i0 + 1, xs, rfl, by go_num, by omega, by omega, HS.out, own_below HH.out hb1, grown_below hb1⟩
    case round =>
      obtain ⟨ii, jj, ys, rfl, rfl, hij, hjn, HD, hown, hgr⟩ := hrel
      have hlen := HD.out.len
      have HLEN := hidd hlen
      clear hlen
      by_cases hlt : jj < xs.length
      · obtain ⟨hjy, hyx⟩ := HD.out.at_ hlt
        obtain ⟨q0, q1, _, _⟩ := own_cells2 hown.out hjy
        rw [hyx] at q0 q1
        clear hyx
        have hcall := hidd (fun o => HP.out xs[jj].1 xs[jj].2 _ (grown_trans hgr.out (World.grownBy_alloc wr o (some g0))))
        go_wp2_with fail
        refine (hcall.out _).mono ?_; rintro e w2 ⟨rfl, hb2⟩
        have hown2 := hidd (own_below (hown.out.alloc _) hb2)
        have hgr2 := hidd (grown_trans (grown_trans hgr.out (World.grownBy_alloc wr _ (some g0))) (grown_below hb2))
        cases hpx : p (xs[jj].1, xs[jj].2) with
        | true =>
          have HPX := hidd hpx; clear hpx
          go_wp2_with fail
          go_roundw
          case rel => exact ⟨ii, jj + 1, ys, rfl, by go_num, by omega, by omega, HD.out.drop_ hlt HPX.out, hown2.out, hgr2.out⟩
          case measure => simp [intOf]; omega
        | false =>
          have HPX := hidd hpx; clear hpx
          obtain ⟨r0, r1, r2, r3⟩ := own_cells2 hown2.out (i := ii) (by have := HLEN.out; omega)
          obtain ⟨hc, hf⟩ := bcell hb2
          clear hcall q0 q1
          go_wp2_with fail
          go_roundw
          case rel =>
            have hs := own_setElem encS_len hown2.out ii (by have := HLEN.out; omega) xs[jj]
            exact ⟨ii + 1, jj + 1, ys.set ii xs[jj], by go_num, by go_num, by omega, by omega, HD.out.keep hlt HPX.out, hs.1, grown_trans hgr2.out hs.2⟩
          case measure => simp [intOf]; omega
      · obtain rfl : jj = xs.length := by omega
        obtain ⟨w2, l2, hcl, hown2, htk, hgr2⟩ := own_clear (P := Tryz.prog) (size := 2) Tryz.underlying22 zeroSpan rfl (by decide) hown.out (i := ii) hij
        have HO := hidd hown2
        have HT := hidd htk
        have HG := hidd hgr2
        clear hown2 htk hgr2 HS
        go_wp2_with fail
        go_ret
        refine ⟨⟨_, rfl, ?_, rfl⟩, grown_trans hgr.out HG.out⟩
        have hk := own_take HO.out (m := ii) (by omega)
        rw [HT.out] at hk
        have e1 : (ys.flatMap encS).take (ii * 2) = (keepL p xs).flatMap encS := by
          rw [← HD.out.done, ← List.take_append_drop ii ys, List.flatMap_append]
          have hll : ((ys.take ii).flatMap encS).length = ii * 2 := by rw [flat_length encS 2 encS_len, List.length_take, HLEN.out]; omega
          rw [← hll, List.take_left, List.take_append_drop]
        have e2 : (keepL p xs).length = ii := by rw [← HD.out.done, List.length_take, HLEN.out]; omega
        rw [e1] at hk
        unfold Own
        rw [e2]
        exact hk

theorem cmpS_lt (x y : Sp) : ltOf cmpS x y = decide (x.1 < y.1 ∨ x.1 = y.1 ∧ x.2 < y.2) := by
  unfold ltOf cmpS orI Lib.compareInt
  by_cases h1 : x.1 < y.1
  · simp [h1]
  · by_cases h2 : y.1 < x.1
    · have : x.1 ≠ y.1 := by omega
      simp [h1, h2, this]
    · have e : x.1 = y.1 := by omega
      simp [e]
      by_cases h3 : x.2 < y.2
      · simp [h3]
      · by_cases h4 : y.2 < x.2 <;> simp [h3, h4]
theorem swoS : SWO (ltOf cmpS) where
  irrefl x := by rw [cmpS_lt]; simp
  trans x y z h1 h2 := by rw [cmpS_lt] at *; simp at *; omega
  ntrans x y z h1 h2 := by rw [cmpS_lt] at *; simp at *; omega

theorem sortSp_c (v : Value) (xs : List Sp) (w : World) (base : Nat) (h : Own 2 encS 43 w base v xs) (hbig : xs.length ≤ 1000000000) :
    Calls Tryz.prog 74 #[v, .func (.func 75) #[] #[]] w fun e w' => e = .returned (.tuple #[]) ∧ (∃ ys : List Sp, ys.Perm xs ∧ ys.Pairwise (fun x y => x.1 ≤ y.1) ∧ Own 2 encS 43 w' base v ys) ∧ w.grownBy w' v.ownBlock := by
  have eg : ∀ args w, (callFunc 75 args).run Tryz.prog w = .ok (.enter 75 args) w := Proofs.enters_of Tryz.func75 (by kernel_rfl) rfl
  have hc := sort_generic (P := Tryz.prog) Tryz.laySortSp Tryz.isAgg43 Tryz.sizeOf43 encS_len encS_one cmpS swoS 75 eg (fun x y W => sNormC2_c x.1 x.2 y.1 y.2 W) h (by omega)
  change Calls Tryz.prog 74 _ _ _ at hc
  refine hc.mono fun e w' ⟨he, ys, hp, hs, ho, hg⟩ => ⟨he, ⟨ys, hp, ?_, ?_⟩, hg⟩
  · refine hs.imp fun {x y} hxy => ?_
    rw [cmpS_lt] at hxy
    simp at hxy
    omega
  · unfold Own; rw [hp.length_eq]; exact ho

end Go.Proofs.YtiokkoeciijkoaaGreat
