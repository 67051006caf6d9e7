/- slices.Concat of two, slices.Grow of nil; Join, Minus, Both, Covers, SameSpans, has: what they compute. -/
import Derived.Test.YtiokkoeciijkoaaGreatSpanN
import Derived.Test.YtiokkoeciijkoaaGreatSpanB
import Derived.Lib.AppendZerosOnto
namespace Go.Proofs.YtiokkoeciijkoaaGreat
set_option linter.unusedVariables false
set_option linter.unusedSimpArgs false
open Go.RowKit

theorem run_append_nil {P : Program} {w : World} (base : Nat) (t ty e : TypeId) (i : TypeInfo) (size : Nat) (ht : P.underlying t = some (.slice e)) (hi : P.info? e = some i)
    (v : Value) (n c : Nat) (xs : List Value) (hown : w.ownsRow base e size v n xs) :
    (Builtin.append_ #[t, t] ty #[v, .slice none 0 c]).run P w = .ok v w := by
  rcases hown.2 with ⟨rfl, rfl⟩ | ⟨g, cap, cur, rfl, _, _, hnc, _⟩
  · simp [Builtin.append_, run_underlying ht, sizeOf, typeInfo, hi, Builtin.lenOf, Builtin.firstCells]
  · simp [Builtin.append_, run_underlying ht, sizeOf, typeInfo, hi, Builtin.lenOf, Builtin.firstCells, hnc, storeCells]

/-- append of a readable row onto a row of the call's own -/
theorem wpList_app_rd {α : Type} {enc : α → List Value} {k : Nat} {P : Program} {wr : World} {ops : Array Oper} {rest : List Oper} {o : Oper} {a : Act} {Q : Exit → Act → World → Prop} {s x : Operand} {t e : TypeId} {z : Value} {base bytes m c : Nat} {v : Value} {ys xs : List α} {A : Option Addr}
    (ht : P.underlying t = some (.slice e)) (hinfo : (P.info? e).map (fun i => (i.zero, i.size, i.bytes)) = some (some z, k, bytes)) (hzs : z.cells.size = k) (hsz : 0 < k)
    (hlen : ∀ x, (enc x).length = k) (hone : ∀ x, ∀ u ∈ enc x, u.oneCell' = true)
    (hown : Own k enc e wr base v ys) (hbase : base ≤ wr.heap.size)
    (hgd : o.guard = none) (ho : o.op = .call { callee := .builtin .append, args := #[s, x], argTypes := #[t, t] })
    (hs : a.eval s = v) (hx : a.eval x = .slice A m c) (hR : Rd k enc wr A xs) (hm : m = xs.length)
    (h63 : ys.length + xs.length ≤ maxLen) (hbytes : (ys.length + xs.length) * bytes ≤ 140737488355328)
    (h : ∀ v' w', Own k enc e w' base v' (ys ++ xs) → Below base wr w' → wpList P ops Q rest (a.put o.dst v') w') :
    wpList P ops Q (o :: rest) a wr := by
  subst hm
  obtain ⟨i, hi, hz, h3, h4⟩ := info_parts hinfo
  cases A with
  | none =>
    have hxs : xs = [] := by rcases hR with h | ⟨_, _, h, _⟩; · exact h
                             · cases h
    subst hxs
    refine wpList_plain hgd fun K hK => ?_
    have hrun := run_append_nil (P := P) (w := wr) base t o.type e i k ht hi v _ c _ hown
    unfold Oper.wp
    simp [execOp, ho, resolve, invoke, builtin, hs, hx, hrun, Result.andThen]
    exact hK _ _ (h v wr (by simpa using hown) (Below.refl _ _))
  | some ad =>
    have H : ∀ j u, (xs.flatMap enc)[j]? = some u → wr.cell? (ad.add j) = some u := by
      intro j u hu
      rcases hR with h | ⟨b, o, ha, _, hc⟩
      · subst h; simp at hu
      · injection ha with ha; subst ha; rw [add_lit']; exact hc j u hu
    refine wpList_append_own _ hgd s x t ho base e i z k bytes ht hi hz h3 h4 hzs hsz v ys.length _ hs hown ad xs.length c (xs.flatMap enc) hx (flat_length enc k hlen xs) H ?_ h63 hbytes hbase ?_
    · intro u hu; obtain ⟨y, _, hy⟩ := List.mem_flatMap.1 hu; exact hone y u hy
    · intro v' w' ho' hg _
      refine h v' w' ?_ ((Below.refl _ _).grown hg hbase (fun k hk => (hown.lt k hk).1))
      show World.ownsRow _ _ _ _ _ _ _
      rw [List.flatMap_append, List.length_append]; exact ho'

/-! plain facts on what one has and the other one has not -/
theorem rise_len : ∀ (l L : List Int), l.Pairwise (· < ·) → (∀ x ∈ l, x ∈ L) → l.length ≤ L.length
  | [], _, _, _ => Nat.zero_le _
  | x :: l, L, hp, hs => by
    have hx := hs x (List.mem_cons_self ..)
    obtain ⟨h1, h2⟩ := List.pairwise_cons.1 hp
    have h3 := rise_len l (L.erase x) h2 fun y hy => (List.mem_erase_of_ne (by have := h1 y hy; omega)).2 (hs y (List.mem_cons_of_mem _ hy))
    rw [List.length_erase_of_mem hx] at h3
    have : 0 < L.length := List.length_pos_of_mem hx
    simp only [List.length_cons]
    omega
structure MinusOf (a b out : List Sp) : Prop where
  can : Can out
  blocks : ∀ n, memS n out ↔ memS n a ∧ ¬ memS n b
  froms : ∀ x ∈ out, (∃ d ∈ a, d.1 = x.1) ∨ (∃ d ∈ b, d.2 = x.1)
  tos : ∀ x ∈ out, (∃ d ∈ a, d.2 = x.2) ∨ (∃ d ∈ b, d.1 = x.2)
theorem Can.rise {l : List Sp} (h : Can l) : (l.map fun x => x.1).Pairwise (· < ·) := by
  rw [List.pairwise_map]
  refine List.Pairwise.imp_of_mem (fun {a b} ha hb hab => ?_) h.sep
  have := h.val a ha
  omega
theorem MinusOf.len {a b out : List Sp} (h : MinusOf a b out) : out.length ≤ a.length + b.length := by
  have := rise_len (out.map fun x => x.1) (a.map (fun x => x.1) ++ b.map fun x => x.2) h.can.rise (by
    intro x hx
    obtain ⟨y, hy, rfl⟩ := List.mem_map.1 hx
    rcases h.froms y hy with ⟨d, hd, e⟩ | ⟨d, hd, e⟩
    · exact List.mem_append_left _ (List.mem_map.2 ⟨d, hd, e⟩)
    · exact List.mem_append_right _ (List.mem_map.2 ⟨d, hd, e⟩))
  simpa using this
theorem MinusOf.i64 {a b out : List Sp} (h : MinusOf a b out) (ha : ∀ x ∈ a, I64 x.1 ∧ I64 x.2) (hb : ∀ x ∈ b, I64 x.1 ∧ I64 x.2) : ∀ x ∈ out, I64 x.1 ∧ I64 x.2 := by
  intro x hx
  constructor
  · rcases h.froms x hx with ⟨d, hd, e⟩ | ⟨d, hd, e⟩
    · rw [← e]; exact (ha d hd).1
    · rw [← e]; exact (hb d hd).2
  · rcases h.tos x hx with ⟨d, hd, e⟩ | ⟨d, hd, e⟩
    · rw [← e]; exact (ha d hd).2
    · rw [← e]; exact (hb d hd).1
/-- a range without another one -/
def cutS (x s : Sp) : List Sp := if meetB s.1 s.2 x.1 x.2 then [(s.1, x.1), (x.2, s.2)] else [s]
theorem meetB_iff {a b c d : Int} : meetB a b c d = true ↔ (0 ≤ a ∧ a < b) ∧ (0 ≤ c ∧ c < d) ∧ max a c < min b d := by
  unfold meetB
  simp only [Bool.and_eq_true, vld_iff]
  constructor
  · rintro ⟨h1, h2, h3⟩; exact ⟨h1, h2, h3.2⟩
  · rintro ⟨h1, h2, h3⟩; exact ⟨h1, h2, by omega, h3⟩
theorem cutS_blocks {x s : Sp} {n : Int} (hx : 0 ≤ x.1 ∧ x.1 < x.2) (hs : 0 ≤ s.1 ∧ s.1 < s.2) : memS n (cutS x s) ↔ hasS s.1 s.2 n = true ∧ ¬ hasS x.1 x.2 n = true := by
  unfold cutS
  by_cases h : meetB s.1 s.2 x.1 x.2 = true
  · rw [if_pos h]
    rw [meetB_iff] at h
    simp only [memS_cons, hasS_iff, memS_nil, or_false]
    omega
  · rw [if_neg h]
    rw [meetB_iff] at h
    simp only [memS_cons, hasS_iff, memS_nil, or_false]
    omega
theorem cutS_from {x s y : Sp} (h : y ∈ cutS x s) : y.1 = s.1 ∨ y.1 = x.2 := by
  unfold cutS at h; split at h
  · simp at h; rcases h with rfl | rfl <;> simp
  · simp at h; subst h; exact .inl rfl
theorem cutS_to {x s y : Sp} (h : y ∈ cutS x s) : y.2 = s.2 ∨ y.2 = x.1 := by
  unfold cutS at h; split at h
  · simp at h; rcases h with rfl | rfl <;> simp
  · simp at h; subst h; exact .inl rfl
def cutAll (x : Sp) (l : List Sp) : List Sp := l.flatMap (cutS x)
theorem cutAll_take {x : Sp} {l : List Sp} {k : Nat} (h : k < l.length) : cutAll x (l.take (k + 1)) = cutAll x (l.take k) ++ cutS x l[k] := by
  unfold cutAll; rw [List.take_succ_eq_append_getElem h, List.flatMap_append]; simp
theorem cutAll_len (x : Sp) (l : List Sp) : (cutAll x l).length ≤ 2 * l.length := by
  unfold cutAll
  induction l with
  | nil => simp
  | cons s l ih =>
    have h1 : (cutS x s).length ≤ 2 := by unfold cutS; split <;> simp
    rw [List.flatMap_cons, List.length_append, List.length_cons]; omega
theorem cutAll_blocks {x : Sp} {l : List Sp} {n : Int} (hx : 0 ≤ x.1 ∧ x.1 < x.2) (hl : Can l) : memS n (cutAll x l) ↔ memS n l ∧ ¬ hasS x.1 x.2 n = true := by
  unfold cutAll
  constructor
  · rintro ⟨y, hy, h⟩
    obtain ⟨s, hs, h2⟩ := List.mem_flatMap.1 hy
    have := (cutS_blocks hx (hl.val s hs)).1 ⟨y, h2, h⟩
    exact ⟨⟨s, hs, this.1⟩, this.2⟩
  · rintro ⟨⟨s, hs, h⟩, h2⟩
    obtain ⟨y, hy, h3⟩ := (cutS_blocks hx (hl.val s hs)).2 ⟨h, h2⟩
    exact ⟨y, List.mem_flatMap.2 ⟨s, hs, hy⟩, h3⟩
theorem MinusOf.start {a out : List Sp} (h : NormOf a out) : MinusOf a [] out :=
  ⟨h.can, fun n => (h.blocks n).trans (by simp [memS_nil]), fun x hx => .inl (h.froms x hx), fun x hx => .inl (h.tos x hx)⟩
theorem MinusOf.step {a b l out : List Sp} {k : Nat} (hk : k < b.length) (hb : Can b) (h : MinusOf a (b.take k) l) (hn : NormOf (cutAll b[k] l) out) : MinusOf a (b.take (k + 1)) out := by
  have e := List.take_succ_eq_append_getElem hk
  have hm : b[k] ∈ b.take (k + 1) := by rw [e]; exact List.mem_append_right _ (List.mem_singleton_self _)
  have hl : ∀ d ∈ b.take k, d ∈ b.take (k + 1) := fun d hd => by rw [e]; exact List.mem_append_left _ hd
  refine ⟨hn.can, fun n => ?_, fun x hx => ?_, fun x hx => ?_⟩
  · rw [hn.blocks, cutAll_blocks (hb.val _ (List.getElem_mem hk)) h.can, h.blocks, e, memS_append, memS_one, and_assoc, not_or]
  · obtain ⟨y, hy, e1⟩ := hn.froms x hx
    obtain ⟨s, hs, hy⟩ := List.mem_flatMap.1 hy
    rw [← e1]
    rcases cutS_from hy with e2 | e2
    · rw [e2]
      rcases h.froms s hs with h1 | ⟨d, hd, h1⟩
      · exact .inl h1
      · exact .inr ⟨d, hl d hd, h1⟩
    · exact .inr ⟨b[k], hm, e2.symm⟩
  · obtain ⟨y, hy, e1⟩ := hn.tos x hx
    obtain ⟨s, hs, hy⟩ := List.mem_flatMap.1 hy
    rw [← e1]
    rcases cutS_to hy with e2 | e2
    · rw [e2]
      rcases h.tos s hs with h1 | ⟨d, hd, h1⟩
      · exact .inl h1
      · exact .inr ⟨d, hl d hd, h1⟩
    · exact .inr ⟨b[k], hm, e2.symm⟩
theorem MinusOf.fin {a b l out : List Sp} (hb : NormOf b l) (h : MinusOf a l out) : MinusOf a b out := by
  refine ⟨h.can, fun n => ?_, fun x hx => ?_, fun x hx => ?_⟩
  · rw [h.blocks, hb.blocks]
  · rcases h.froms x hx with h1 | ⟨d, hd, h1⟩
    · exact .inl h1
    · obtain ⟨d2, hd2, e2⟩ := hb.tos d hd
      exact .inr ⟨d2, hd2, e2.trans h1⟩
  · rcases h.tos x hx with h1 | ⟨d, hd, h1⟩
    · exact .inl h1
    · obtain ⟨d2, hd2, e2⟩ := hb.froms d hd
      exact .inr ⟨d2, hd2, e2.trans h1⟩

set_option maxHeartbeats 2000000 in
set_option maxRecDepth 100000 in
theorem growSp_c (n : Nat) (hn : n ≤ 2000000000) (w : World) :
    Calls Tryz.prog 172 #[.slice none 0 0, .int .i64 n] w fun e w' => (∃ v', e = .returned v' ∧ Own 2 encS 43 w' w.heap.size v' []) ∧ Below w.heap.size w w' := by
  obtain ⟨i, hi, hz, h3, h4⟩ := info_parts infoSpan
  rcases Nat.eq_zero_or_pos n with rfl | hp
  · go_enter Tryz.func172, Tryz.ntmps172
    go_wp2
    go_ret
    exact ⟨⟨_, rfl, World.ownsRow_nil _ _ _ _⟩, Below.refl _ _⟩
  · have hold : (Builtin.firstCells i.size 0 (.slice none 0 0)).run Tryz.prog w.drew = .ok (([] : List Value).toArray) w.drew := by simp [Builtin.firstCells]
    have hrz : ∀ ty, (Builtin.append_ #[22, 3] ty #[.slice none 0 0, .int .i64 (n : Int)]).run Tryz.prog w = _ := fun ty =>
      Lib.run_append_grow_zeros w 22 3 ty 43 i _ .i64 .i64 Tryz.underlying22 Tryz.underlying3 hi hz none 0 0 [] hold n hp (by rw [h3]; decide) (by omega) (by omega) (by rw [h4]; omega)
        (growslice_fits (by omega) (by rw [h4]; omega))
    have hG1 := grownCap_ge w (0 + n) 0 43
    have hG2 := grownCap_le_maxLen w (0 + n) 0 43 (by unfold maxLen; omega)
    generalize grownCap w (0 + n) 0 43 = G at *
    have hGi : (G : Int) ≤ 9223372036854775807 := by unfold maxLen at hG2; omega
    simp only [Nat.zero_add] at hrz hG1
    go_enter Tryz.func172, Tryz.ntmps172
    go_wp2_with (at_builtin; refine Lib.wpList_append_run _ rfl _ _ _ _ rfl _ _ rfl rfl _ _ (hrz _) ?_)
    go_ret
    refine ⟨⟨_, rfl, rfl, .inr ⟨w.heap.size, G, _, rfl, Nat.le_refl _, heap_alloc_new _ _, Nat.zero_le _, hG2, ?_, rfl⟩⟩, (below_drewN (Below.refl _ _) 1).alloc (Nat.le_refl _) _⟩
    simp [size_zeroCells]
    omega

def pick3 {α : Type} (a b c : α) : Nat → α
  | 0 => a
  | 1 => b
  | _ => c
theorem le2 {k : Nat} (h : k ≤ 2) : k = 0 ∨ k = 1 ∨ k = 2 := by omega

set_option maxHeartbeats 2000000 in
set_option maxRecDepth 100000 in
theorem concatSp_c (g c : Nat) (A B : Option Addr) (na nb ca cb : Nat) (xs ys : List Sp) (w : World) (hx : Rd 2 encS w A xs) (hy : Rd 2 encS w B ys) (hna : na = xs.length) (hnb : nb = ys.length)
    (h0 : w.cell? ⟨g, 0, none⟩ = some (.slice A na ca)) (h1 : w.cell? ⟨g, 1, none⟩ = some (.slice B nb cb)) (hg : g < w.heap.size) (hbig : xs.length + ys.length ≤ 1000000000) :
    Calls Tryz.prog 78 #[.slice (some ⟨g, 0, none⟩) 2 c] w fun e w' => (∃ v', e = .returned v' ∧ Own 2 encS 43 w' w.heap.size v' (xs ++ ys)) ∧ Below w.heap.size w w' := by
  have HX := hidd hx
  have HY := hidd hy
  have HA := hidd hna
  have HB := hidd hnb
  clear hx hy
  have hnab : na + nb ≤ 1000000000 := by omega
  clear hna hnb
  go_enter Tryz.func78, Tryz.ntmps78
  go_wp2_with fail
  go_loopw [3, 11] (fun v i wr => ∃ k : Nat, k ≤ 2 ∧ i = .int .i64 k ∧ v = .int .i64 (pick3 0 (na : Int) ((na : Int) + nb) k) ∧ Below w.heap.size w wr) (fun _ i _ => 2 - (intOf i).toNat)
  case atStart => exact ⟨0, by omega, rfl, rfl, Below.refl _ _⟩
  case round =>
    obtain ⟨k, hk, rfl, rfl, hbr⟩ := hrel
    have g0 := (hbr.cell (p := ⟨g, 0, none⟩) hg).trans h0
    have g1 := (hbr.cell (p := ⟨g, 1, none⟩) hg).trans h1
    have hgw := Nat.lt_of_lt_of_le hg hbr.size
    rcases le2 hk with rfl | rfl | rfl
    · simp only [pick3]
      rw [show ((0 : Nat) : Int) = 0 from rfl]
      go_wp2_with fail
      go_roundw
      case rel => exact ⟨1, by omega, rfl, by simp [pick3], hbr⟩
      case measure => simp [intOf]
    · simp only [pick3]
      rw [show ((1 : Nat) : Int) = 1 from rfl]
      go_wp2_with fail
      go_roundw
      case rel => exact ⟨2, by omega, rfl, by simp [pick3], hbr⟩
      case measure => simp [intOf]
    · simp only [pick3]
      rw [show ((2 : Nat) : Int) = 2 from rfl]
      rw [show (na : Int) + (nb : Int) = ((na + nb : Nat) : Int) by omega]
      go_wp2_with fail
      refine (growSp_c _ (by omega) _).mono ?_; rintro e w1 ⟨⟨v1, rfl, ho1⟩, hb1⟩
      have HO := hidd ho1
      clear ho1
      go_wp2_with fail
      obtain ⟨wo, rfl⟩ : ∃ wo : World, wo = wr := ⟨_, rfl⟩
      go_loopw [6, 27] (fun v i ws => ∃ k : Nat, k ≤ 2 ∧ i = .int .i64 k ∧ Hid (Own 2 encS 43 ws wo.heap.size v (pick3 [] xs (xs ++ ys) k)) ∧ Below wo.heap.size wo ws) (fun _ i _ => 2 - (intOf i).toNat)
      case atStart => exact ⟨0, by omega, rfl, HO.out, hb1⟩
      case round =>
        obtain ⟨k, hk, rfl, hown, hbs⟩ := hrel
        have hB2 := hbr.trans (hbs.mono hbr.size)
        clear g0 g1
        have g0 := (hB2.cell (p := ⟨g, 0, none⟩) hg).trans h0
        have g1 := (hB2.cell (p := ⟨g, 1, none⟩) hg).trans h1
        have hgs := Nat.lt_of_lt_of_le hg hB2.size
        have HXs := hidd (HX.out.below hB2 (Nat.le_refl _))
        have HYs := hidd (HY.out.below hB2 (Nat.le_refl _))
        rcases le2 hk with rfl | rfl | rfl
        · simp only [pick3] at hown
          rw [show ((0 : Nat) : Int) = 0 from rfl]
          go_wp2_with (at_builtin; refine wpList_app_rd Tryz.underlying22 infoSpan rfl (by decide) encS_len encS_one hown.out hbs.size rfl rfl rfl rfl HXs.out HA.out ?c5 ?c6 (fun v' w' hown' hb' => ?_))
          case c5 => unfold maxLen; simp; omega
          case c6 => simp; omega
          go_roundw
          case rel => exact ⟨1, by omega, rfl, by simpa [pick3] using hidd hown', hbs.trans hb'⟩
          case measure => simp [intOf]
        · simp only [pick3] at hown
          rw [show ((1 : Nat) : Int) = 1 from rfl]
          go_wp2_with (at_builtin; refine wpList_app_rd Tryz.underlying22 infoSpan rfl (by decide) encS_len encS_one hown.out hbs.size rfl rfl rfl rfl HYs.out HB.out ?c5 ?c6 (fun v' w' hown' hb' => ?_))
          case c5 => unfold maxLen; omega
          case c6 => omega
          go_roundw
          case rel => exact ⟨2, by omega, rfl, by simpa [pick3] using hidd hown', hbs.trans hb'⟩
          case measure => simp [intOf]
        · simp only [pick3] at hown
          rw [show ((2 : Nat) : Int) = 2 from rfl]
          go_wp2_with fail
          go_ret
          exact ⟨⟨_, rfl, own_base hown.out hbr.size⟩, hB2⟩

set_option maxHeartbeats 2000000 in
set_option maxRecDepth 100000 in
theorem sJoin_c (A B : Option Addr) (na nb ca cb : Nat) (xs ys : List Sp) (w : World) (hx : Rd 2 encS w A xs) (hy : Rd 2 encS w B ys) (hna : na = xs.length) (hnb : nb = ys.length) (hbig : xs.length + ys.length ≤ 1000000000) :
    Calls Tryz.prog 18 #[.slice A na ca, .slice B nb cb] w fun e w' => (∃ v' out, e = .returned v' ∧ Own 2 encS 43 w' w.heap.size v' out ∧ NormOf (xs ++ ys) out) ∧ Below w.heap.size w w' := by
  subst hna hnb
  have hl := below_alloc w (.cells #[.slice A xs.length ca, .slice B ys.length cb] 22)
  have hC := hidd (concatSp_c w.heap.size 2 A B xs.length ys.length ca cb xs ys _ (hx.below hl (Nat.le_refl _)) (hy.below hl (Nat.le_refl _)) rfl rfl (by simp) (by simp) (by simp) hbig)
  have HL := hidd hl
  clear hx hy hl
  go_enter Tryz.func18, Tryz.ntmps18
  go_wp2_with fail
  refine hC.out.mono ?_; rintro e w1 ⟨⟨v1, rfl, ho1⟩, hb1⟩
  obtain ⟨A1, c1, rfl⟩ := own_shape ho1
  have hN := hidd (sNorm_c A1 (xs.length + ys.length) c1 (xs ++ ys) w1 (Own.rd ho1 rfl) (by simp) (by simpa using hbig))
  clear ho1
  replace hb1 := HL.out.trans (hb1.mono (by simp))
  go_wp2_with fail
  refine hN.out.mono ?_; rintro e w2 ⟨⟨v2, out, rfl, ho2, hn2⟩, hb2⟩
  go_wp2_with fail
  go_ret
  exact ⟨⟨_, out, rfl, own_base ho2 hb1.size, hn2⟩, hb1.trans (hb2.mono hb1.size)⟩

set_option maxHeartbeats 4000000 in
set_option maxRecDepth 100000 in
theorem sMinus_c (A B : Option Addr) (na nb ca cb : Nat) (xs ys : List Sp) (w : World) (hx : Rd 2 encS w A xs) (hy : Rd 2 encS w B ys) (hna : na = xs.length) (hnb : nb = ys.length) (hbig : xs.length + ys.length ≤ 400000000) :
    Calls Tryz.prog 19 #[.slice A na ca, .slice B nb cb] w fun e w' => (∃ v' out, e = .returned v' ∧ Own 2 encS 43 w' w.heap.size v' out ∧ MinusOf xs ys out) ∧ Below w.heap.size w w' := by
  have hN := hidd (sNorm_c A na ca xs w hx hna (by omega))
  have HY := hidd hy
  have HB := hidd hnb
  clear hx hy hna hnb
  go_enter Tryz.func19, Tryz.ntmps19
  go_wp2_with fail
  refine hN.out.mono ?_; rintro e w1 ⟨⟨v1, o1, rfl, ho1, hn1⟩, hb1⟩
  have HO1 := hidd ho1
  have HN1 := hidd hn1
  have hN2 := hidd (sNorm_c B nb cb ys w1 (HY.out.below hb1 (Nat.le_refl _)) HB.out (by omega))
  clear ho1 hn1 hN
  go_wp2_with fail
  refine hN2.out.mono ?_; rintro e w2 ⟨⟨v2, l, rfl, ho2, hn2⟩, hb2⟩
  obtain ⟨A2, c2, rfl⟩ := own_shape ho2
  have HR2 := hidd (Own.rd ho2 rfl)
  have HN2 := hidd hn2
  have HO12 := hidd (own_below HO1.out hb2)
  have hll : l.length ≤ ys.length := hn2.len
  clear ho2 hn2 hN2
  have hB2 := hb1.trans (hb2.mono hb1.size)
  go_wp2_with fail
  go_loopw [5, 16] (fun v i wr => ∃ (k : Nat) (out : List Sp), k ≤ l.length ∧ i = .int .i64 k ∧ Hid (Own 2 encS 43 wr w.heap.size v out) ∧ Hid (MinusOf xs (l.take k) out) ∧ Below w2.heap.size w2 wr) (fun _ i _ => l.length - (intOf i).toNat)
  case atStart => exact ⟨0, o1, by omega, rfl, HO12.out, MinusOf.start HN1.out, Below.refl _ _⟩
  case round =>
    obtain ⟨k, out, hk, rfl, hown, hout, hbr⟩ := hrel
    obtain ⟨wq, rfl⟩ : ∃ wq : World, wq = wr := ⟨_, rfl⟩
    obtain ⟨A3, c3, rfl⟩ := own_shape hown.out
    by_cases hlt : k < l.length
    · have hne : l ≠ [] := by intro e; rw [e] at hlt; simp at hlt
      obtain ⟨b, o, rfl, hblt, hc⟩ := HR2.out.cells2 hne
      obtain ⟨g0, g1⟩ := hc k hlt
      rw [← hbr.cell (p := ⟨_, _, none⟩) hblt] at g0 g1
      have hbw : b < wq.heap.size := Nat.lt_of_lt_of_le hblt hbr.size
      clear hc
      have HST := hidd (fun o2 => @MinusOf.step xs l out o2 k hlt HN2.out.can hout.out)
      have HLN : out.length ≤ 400000000 := by have := hout.out.len; rw [List.length_take] at this; omega
      generalize hlk : l[k] = y at *
      obtain ⟨y0, y1⟩ := y
      simp only [] at g0 g1
      clear hlk
      have HR3 := hidd (Own.rd hown.out rfl)
      have hal := below_alloc wq (.cells #[.int .i64 y0, .int .i64 y1] 43)
      have HXB := hidd (Bx2.new wq (.int .i64 y0) (.int .i64 y1) 43 rfl)
      have hsz : (wq.alloc (.cells #[.int .i64 y0, .int .i64 y1] 43)).heap.size = wq.heap.size + 1 := by simp
      go_wp2_with fail
      go_loopw [8, 22] (fun v i ws => ∃ j : Nat, j ≤ out.length ∧ i = .int .i64 j ∧ Hid (Own 2 encS 43 ws (wq.heap.size + 1) v (cutAll (y0, y1) (out.take j))) ∧ Below (wq.heap.size + 1) (wq.alloc (.cells #[.int .i64 y0, .int .i64 y1] 43)) ws) (fun _ i _ => out.length - (intOf i).toNat)
      case atStart => exact ⟨0, by omega, rfl, World.ownsRow_nil _ _ _ _, Below.refl _ _⟩
      case round =>
        obtain ⟨j, hj, rfl, hown2, hbt⟩ := hrel
        have hsz2 : wq.heap.size + 1 ≤ wr.heap.size := by have := hbt.size; omega
        have hBw : Below wq.heap.size wq wr := hal.trans (hbt.mono (by omega))
        by_cases hlj : j < out.length
        · have hne3 : out ≠ [] := by intro e; rw [e] at hlj; simp at hlj
          obtain ⟨b3, o3, rfl, hb3t, hc3⟩ := HR3.out.cells2 hne3
          obtain ⟨k0, k1⟩ := hc3 j hlj
          rw [← hBw.cell (p := ⟨_, _, none⟩) hb3t] at k0 k1
          have hb3w : b3 < wr.heap.size := Nat.lt_of_lt_of_le hb3t hBw.size
          clear hc3
          have HCT := hidd (cutAll_take (x := (y0, y1)) hlj)
          generalize out[j] = s at *
          obtain ⟨s0, s1⟩ := s
          simp only [] at k0 k1
          have xb := HXB.out.next hbt (by omega)
          have hcl : (cutAll (y0, y1) (out.take j)).length ≤ 800000000 := by have := cutAll_len (y0, y1) (out.take j); rw [List.length_take] at this; omega
          generalize hmb : meetB s0 s1 y0 y1 = r
          have HMB := hidd hmb
          clear hmb
          go_wp2_with fail
          refine (sMeets_c _ _ _ _ _).mono ?_; rintro e w4 ⟨rfl, hb4⟩
          rw [HMB.out]
          have xs4 := (Bx2.new wr (.int .i64 s0) (.int .i64 s1) 43 rfl).next hb4 (Nat.le_refl _)
          replace hb4 := below_alloc1 hb4
          replace xb := xb.next hb4 (Nat.le_refl _)
          cases r
          · go_wp2_with (at_builtin; refine wpList_app_new Tryz.underlying22 infoSpan rfl (by decide) hown2.out hsz2 ?c1 rfl rfl rfl rfl ?c2 ?c3 ?c4 ?c5 ?c6 (fun v' w' hown' hb' => ?_))
            case c1 => exact hb4
            case c2 => simp
            case c3 => rfl
            case c4 => simp [Value.oneCell']
            case c5 => unfold maxLen; omega
            case c6 => omega
            go_roundw
            case rel => exact ⟨j + 1, by omega, by go_num, by show Own _ _ _ _ _ _ _; rw [HCT.out, show cutS (y0, y1) (s0, s1) = [(s0, s1)] by unfold cutS; rw [if_neg (by simp [HMB.out])]]; unfold Own; rw [List.flatMap_append, List.length_append]; exact hown', hbt.trans hb'⟩
            case measure => simp [intOf]; omega
          · go_wp2_with (at_builtin; refine wpList_app_new Tryz.underlying22 infoSpan rfl (by decide) hown2.out hsz2 ?c1 rfl rfl rfl rfl ?c2 ?c3 ?c4 ?c5 ?c6 (fun v' w' hown' hb' => ?_))
            case c1 => exact hb4
            case c2 => simp
            case c3 => rfl
            case c4 => simp [Value.oneCell']
            case c5 => unfold maxLen; omega
            case c6 => omega
            go_roundw
            case rel => exact ⟨j + 1, by omega, by go_num, by show Own _ _ _ _ _ _ _; rw [HCT.out, show cutS (y0, y1) (s0, s1) = [(s0, y0), (y1, s1)] by unfold cutS; rw [if_pos HMB.out]]; unfold Own; rw [List.flatMap_append, List.length_append]; exact hown', hbt.trans hb'⟩
            case measure => simp [intOf]; omega
        · obtain rfl : j = out.length := by omega
          rw [List.take_length] at hown2
          obtain ⟨A5, c5, rfl⟩ := own_shape hown2.out
          have hN5 := hidd (sNorm_c A5 _ c5 _ wr (Own.rd hown2.out rfl) rfl (by have := cutAll_len (y0, y1) out; omega))
          clear hown2
          go_wp2_with fail
          refine hN5.out.mono ?_; rintro e w6 ⟨⟨v6, o6, rfl, ho6, hn6⟩, hb6⟩
          have HO6 := hidd ho6
          have HN6 := hidd hn6
          clear ho6 hn6
          have hB6 : Below wq.heap.size wq w6 := hBw.trans (hb6.mono hBw.size)
          go_wp2_with fail
          go_roundw
          case rel => exact ⟨k + 1, o6, by omega, by go_num, own_base HO6.out (Nat.le_trans (Nat.le_trans hB2.size hbr.size) hBw.size), HST.out _ HN6.out, hbr.trans (hB6.mono hbr.size)⟩
          case measure => simp [intOf]; omega
    · obtain rfl : k = l.length := by omega
      go_wp2_with fail
      go_ret
      refine ⟨⟨_, out, rfl, hown.out, ?_⟩, hB2.trans (hbr.mono hB2.size)⟩
      have := hout.out
      rw [List.take_length] at this
      exact MinusOf.fin HN2.out this
end Go.Proofs.YtiokkoeciijkoaaGreat
