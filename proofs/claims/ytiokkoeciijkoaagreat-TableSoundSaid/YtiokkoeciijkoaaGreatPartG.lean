/- Lists of ranges that have values, told by what each block has: Set, Clear, Parts, and sets of many in turn. -/
import Derived.Test.YtiokkoeciijkoaaGreatImapM
namespace Go.Proofs.YtiokkoeciijkoaaGreat
set_option linter.unusedVariables false
set_option linter.unusedSimpArgs false

theorem getP_set {α : Type} [DecidableEq α] {m : List (Pt α)} (hm : CanP m) {s0 s1 n : Int} {v : α} : getP n (setF s0 s1 v m) = if hasS s0 s1 n = true then some v else getP n m := by
  split
  · rename_i h; rw [getP_at (setF_can hm).dis, setF_at hm]; exact .inl ⟨h, rfl⟩
  · rename_i h
    cases hg : getP n m with
    | some u => rw [getP_at hm.dis] at hg; rw [getP_at (setF_can hm).dis, setF_at hm]; exact .inr ⟨h, hg⟩
    | none =>
      cases hs : getP n (setF s0 s1 v m) with
      | none => rfl
      | some u =>
        rw [getP_at (setF_can hm).dis, setF_at hm] at hs
        rcases hs with ⟨h1, _⟩ | ⟨_, h1⟩
        · exact absurd h1 h
        · rw [← getP_at hm.dis, hg] at h1; cases h1
theorem getP_clear {α : Type} [DecidableEq α] {m : List (Pt α)} (hm : CanP m) {s0 s1 n : Int} : getP n (clearF s0 s1 m) = if hasS s0 s1 n = true then none else getP n m := by
  split
  · rename_i h
    cases hs : getP n (clearF s0 s1 m) with
    | none => rfl
    | some u => rw [getP_at (clearF_can hm).dis, clearF_at hm] at hs; exact absurd h hs.1
  · rename_i h
    cases hg : getP n m with
    | some u => rw [getP_at hm.dis] at hg; rw [getP_at (clearF_can hm).dis, clearF_at hm]; exact ⟨h, hg⟩
    | none =>
      cases hs : getP n (clearF s0 s1 m) with
      | none => rfl
      | some u =>
        rw [getP_at (clearF_can hm).dis, clearF_at hm] at hs
        rw [← getP_at hm.dis, hg] at hs; cases hs.2

theorem getP_nil {α : Type} {n : Int} : getP n ([] : List (Pt α)) = none := rfl
theorem getP_cons {α : Type} {n : Int} {x : Pt α} {l : List (Pt α)} : getP n (x :: l) = if hasS x.1 x.2.1 n = true then some x.2.2 else getP n l := by
  unfold getP; rw [List.find?_cons]
  cases hasS x.1 x.2.1 n <;> simp
theorem CanP.uniqG {α : Type} {a b : List (Pt α)} (ha : CanP a) (hb : CanP b) (h : ∀ n, getP n a = getP n b) : a = b :=
  CanP.uniq ha hb fun n v => by rw [← getP_at ha.dis, ← getP_at hb.dis, h n]
theorem getP_parts {m : List (Pt Int)} (hm : CanP m) {s0 s1 n : Int} : getP n (partsP s0 s1 m) = if hasS s0 s1 n = true then getP n m else none := by
  have hp := partsP_can (s0 := s0) (s1 := s1) hm
  cases hg : getP n (partsP s0 s1 m) with
  | some u =>
    rw [getP_at hp.dis, partsP_at hm.dis] at hg
    rw [if_pos hg.2, (getP_at hm.dis).2 hg.1]
  | none =>
    split
    · rename_i h
      cases hq : getP n m with
      | none => rfl
      | some u =>
        rw [getP_at hm.dis] at hq
        have := (getP_at hp.dis).2 ((partsP_at hm.dis).2 ⟨hq, h⟩)
        rw [hg] at this; cases this
    · rfl
theorem Dis.tail {α : Type} {q : Pt α} {l : List (Pt α)} (h : Dis (q :: l)) : Dis l := ⟨fun x hx => h.val x (List.mem_cons_of_mem _ hx), h.sep.of_cons⟩
theorem Dis.only {α : Type} {q : Pt α} {l : List (Pt α)} (h : Dis (q :: l)) {n : Int} (hn : hasS q.1 q.2.1 n = true) : getP n l = none := by
  rw [getP_none]
  intro y hy
  have := (List.pairwise_cons.1 h.sep).1 y hy
  rw [Bool.eq_false_iff]
  intro h2
  rw [hasS_iff] at hn h2
  omega
/-- sets of many in turn -/
def setsF {α : Type} [DecidableEq α] (g : α → α) (P m : List (Pt α)) : List (Pt α) := P.foldl (fun m q => setF q.1 q.2.1 (g q.2.2) m) m
theorem setsF_can {α : Type} [DecidableEq α] {g : α → α} : ∀ {P m : List (Pt α)}, CanP m → CanP (setsF g P m)
  | [], _, h => h
  | q :: P, m, h => setsF_can (P := P) (setF_can h)
theorem setsF_take {α : Type} [DecidableEq α] {g : α → α} {P m : List (Pt α)} {k : Nat} (h : k < P.length) : setsF g (P.take (k + 1)) m = setF P[k].1 P[k].2.1 (g P[k].2.2) (setsF g (P.take k) m) := by
  unfold setsF; rw [List.take_succ_eq_append_getElem h, List.foldl_append]; rfl
theorem getP_sets {α : Type} [DecidableEq α] {g : α → α} {n : Int} : ∀ {P m : List (Pt α)}, Dis P → CanP m → getP n (setsF g P m) = match getP n P with | some u => some (g u) | none => getP n m
  | [], m, _, _ => rfl
  | q :: P, m, hd, hm => by
    show getP n (setsF g P (setF q.1 q.2.1 (g q.2.2) m)) = _
    rw [getP_sets hd.tail (setF_can hm), getP_cons, getP_set hm]
    by_cases h : hasS q.1 q.2.1 n = true
    · rw [if_pos h, if_pos h, hd.only h]
    · rw [if_neg h, if_neg h]
/-- ends in a list of numbers -/
def InL {α : Type} (L : List Int) (xs : List (Pt α)) : Prop := ∀ x ∈ xs, x.1 ∈ L ∧ x.2.1 ∈ L
theorem InL.nil {α : Type} {L : List Int} : InL L ([] : List (Pt α)) := fun x hx => by cases hx
theorem InL.mono {α : Type} {L L' : List Int} {xs : List (Pt α)} (h : InL L xs) (hL : ∀ z ∈ L, z ∈ L') : InL L' xs := fun x hx => ⟨hL _ (h x hx).1, hL _ (h x hx).2⟩
theorem InL.len {α : Type} {L : List Int} {xs : List (Pt α)} (h : InL L xs) (hc : CanP xs) : xs.length ≤ L.length := by
  have := rise_len (xs.map fun x => x.1) L hc.rise (by
    intro x hx
    obtain ⟨y, hy, rfl⟩ := List.mem_map.1 hx
    exact (h y hy).1)
  simpa using this
section
variable {α : Type} [DecidableEq α] {L : List Int} {s0 s1 : Int} {v : α} {xs : List (Pt α)}
omit [DecidableEq α] in
theorem LayOf.inL {zs ys : List (Pt α)} (h : LayOf zs ys) (hz : InL L zs) : InL L ys := by
  intro x hx
  obtain ⟨d, hd, e1, _⟩ := h.froms x hx
  obtain ⟨d', hd', e3⟩ := h.tos x hx
  exact ⟨by rw [← e1]; exact (hz d hd).1, by rw [← e3]; exact (hz d' hd').2⟩
omit [DecidableEq α] in
theorem withoutP_inL (hs : 0 ≤ s0 ∧ s0 < s1) (hd : Dis xs) (h : InL L xs) (h0 : s0 ∈ L) (h1 : s1 ∈ L) : InL L (withoutP (s0, s1) xs) := by
  intro x hx
  obtain ⟨p, hp, hx⟩ := List.mem_flatMap.1 hx
  obtain ⟨_, _, _, _, _, h6, h7⟩ := cut1_mem (s := (s0, s1)) hs (hd.val p hp) hx
  have hk := h p hp
  refine ⟨?_, ?_⟩
  · rcases h6 with e | e
    · rw [e]; exact hk.1
    · rw [e]; exact h1
  · rcases h7 with e | e
    · rw [e]; exact hk.2
    · rw [e]; exact h0
theorem setF_inL (hx : CanP xs) (h : InL L xs) (h0 : s0 ∈ L) (h1 : s1 ∈ L) : InL L (setF s0 s1 v xs) := by
  cases hv : vld s0 s1 with
  | true =>
    refine (setF_lay hv hx.dis).inL fun x hx1 => ?_
    rcases List.mem_append.1 hx1 with hx1 | hx1
    · exact withoutP_inL (vld_iff.1 hv) hx.dis h h0 h1 x hx1
    · rw [List.mem_singleton.1 hx1]; exact ⟨h0, h1⟩
  | false => rw [setF_no hv]; exact h
theorem clearF_inL (hx : CanP xs) (h : InL L xs) (h0 : s0 ∈ L) (h1 : s1 ∈ L) : InL L (clearF s0 s1 xs) := by
  cases hv : vld s0 s1 with
  | true => exact (clearF_lay hv hx.dis).inL (withoutP_inL (vld_iff.1 hv) hx.dis h h0 h1)
  | false => rw [clearF_no hv]; exact h
theorem setsF_inL {g : α → α} : ∀ {P m : List (Pt α)}, CanP m → InL L m → InL L P → InL L (setsF g P m)
  | [], _, _, h, _ => h
  | q :: P, m, hm, h, hP => setsF_inL (P := P) (setF_can hm) (setF_inL hm h (hP q (List.mem_cons_self ..)).1 (hP q (List.mem_cons_self ..)).2) fun x hx => hP x (List.mem_cons_of_mem _ hx)
end
theorem partsP_inL {L : List Int} {s0 s1 : Int} {xs : List (Pt Int)} (h : InL L xs) (h0 : s0 ∈ L) (h1 : s1 ∈ L) : InL L (partsP s0 s1 xs) := by
  intro x hx
  obtain ⟨y, hy, hx⟩ := List.mem_flatMap.1 hx
  obtain ⟨_, _, _, _, _, _, e1, e2⟩ := meetP_mem hx
  have := h y hy
  refine ⟨?_, ?_⟩
  · rcases e1 with e | e <;> rw [e]
    · exact this.1
    · exact h0
  · rcases e2 with e | e <;> rw [e]
    · exact this.2
    · exact h1
/-- the values are as Q says: told by the blocks -/
theorem val_of_get {Q : Int → Prop} {xs : List (Pt Int)} (hx : CanP xs) (h : ∀ n u, getP n xs = some u → Q u) : ∀ x ∈ xs, Q x.2.2 := by
  intro x hxm
  have hv := hx.val x hxm
  exact h x.1 x.2.2 ((getP_at hx.dis).2 ⟨x, hxm, by rw [hasS_iff]; omega, rfl⟩)
theorem get_of_val {Q : Int → Prop} {xs : List (Pt Int)} (h : ∀ x ∈ xs, Q x.2.2) {n u : Int} (hg : getP n xs = some u) : Q u := by
  unfold getP at hg
  obtain ⟨x, hx, rfl⟩ := Option.map_eq_some_iff.1 hg
  exact h x (List.mem_of_find?_eq_some hx)
end Go.Proofs.YtiokkoeciijkoaaGreat
