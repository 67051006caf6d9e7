/- Plain facts on what Set, Clear, Parts, With make of parts. -/
import Derived.Test.YtiokkoeciijkoaaGreatImapW
import Derived.Test.YtiokkoeciijkoaaGreatLawMeets
namespace Go.Proofs.YtiokkoeciijkoaaGreat
set_option linter.unusedVariables false
set_option linter.unusedSimpArgs false

theorem LayOf.len {zs ys : List (Pt Int)} (h : LayOf zs ys) {L : List Int} (hL : ∀ z ∈ zs, z.1 ∈ L) : ys.length ≤ L.length := by
  have := rise_len (ys.map fun x => x.1) L h.can.rise (by
    intro x hx
    obtain ⟨y, hy, rfl⟩ := List.mem_map.1 hx
    obtain ⟨d, hd, e, _⟩ := h.froms y hy
    rw [← e]; exact hL d hd)
  simpa using this
def okP (l : List (Pt Int)) : Prop := ∀ x ∈ l, I64 x.1 ∧ I64 x.2.1 ∧ I64 x.2.2
theorem withoutP_ok {s0 s1 : Int} {xs : List (Pt Int)} (hs : 0 ≤ s0 ∧ s0 < s1) (hd : Dis xs) (h : okP xs) (hs1 : I64 s0 ∧ I64 s1) : okP (withoutP (s0, s1) xs) := by
  intro x hx
  obtain ⟨p, hp, hx⟩ := List.mem_flatMap.1 hx
  obtain ⟨_, _, _, h4, _, h6, h7⟩ := cut1_mem (s := (s0, s1)) hs (hd.val p hp) hx
  have hk := h p hp
  refine ⟨?_, ?_, by rw [h4]; exact hk.2.2⟩
  · rcases h6 with e | e
    · rw [e]; exact hk.1
    · rw [e]; exact hs1.2
  · rcases h7 with e | e
    · rw [e]; exact hk.2.1
    · rw [e]; exact hs1.1
theorem LayOf.ok {zs ys : List (Pt Int)} (h : LayOf zs ys) (hz : okP zs) : okP ys := by
  intro x hx
  obtain ⟨d, hd, e1, e2⟩ := h.froms x hx
  obtain ⟨d', hd', e3⟩ := h.tos x hx
  exact ⟨by rw [← e1]; exact (hz d hd).1, by rw [← e3]; exact (hz d' hd').2.1, by rw [← e2]; exact (hz d hd).2.2⟩
theorem withoutP_froms {s0 s1 : Int} {xs : List (Pt Int)} (hs : 0 ≤ s0 ∧ s0 < s1) (hd : Dis xs) : ∀ z ∈ withoutP (s0, s1) xs, z.1 ∈ xs.map (fun x => x.1) ++ [s1] := by
  intro x hx
  obtain ⟨p, hp, hx⟩ := List.mem_flatMap.1 hx
  obtain ⟨_, _, _, _, _, h6, _⟩ := cut1_mem (s := (s0, s1)) hs (hd.val p hp) hx
  rcases h6 with e | e
  · exact List.mem_append_left _ (List.mem_map.2 ⟨p, hp, e.symm⟩)
  · exact List.mem_append_right _ (by rw [e]; exact List.mem_singleton_self _)

section
variable {s0 s1 v : Int} {xs ys : List (Pt Int)}
theorem SetTo.can (h : SetTo s0 s1 v xs ys) (hx : CanP xs) : CanP ys := by
  cases hv : vld s0 s1 with
  | true => exact (h.yes hv).can
  | false => rw [h.no hv]; exact hx
theorem SetTo.at_ (h : SetTo s0 s1 v xs ys) (hx : CanP xs) (n u : Int) : atP n u ys ↔ (hasS s0 s1 n = true ∧ u = v) ∨ (¬ hasS s0 s1 n = true ∧ atP n u xs) := by
  cases hv : vld s0 s1 with
  | true =>
    have hs := vld_iff.1 hv
    rw [(h.yes hv).at_, setZ, atP_append, withoutP_at (s := (s0, s1)) hs hx.dis, atP_one]
    constructor
    · rintro (⟨h1, h2⟩ | ⟨h1, h2⟩)
      · exact .inr ⟨h2, h1⟩
      · exact .inl ⟨h1, h2.symm⟩
    · rintro (⟨h1, h2⟩ | ⟨h1, h2⟩)
      · exact .inr ⟨h1, h2.symm⟩
      · exact .inl ⟨h2, h1⟩
  | false =>
    have hn : ¬ hasS s0 s1 n = true := by intro hh; unfold hasS at hh; rw [hv] at hh; simp at hh
    rw [h.no hv]; simp [hn]
theorem SetTo.len (h : SetTo s0 s1 v xs ys) (hx : CanP xs) : ys.length ≤ xs.length + 2 := by
  cases hv : vld s0 s1 with
  | true =>
    have := (h.yes hv).len (L := (xs.map (fun x => x.1) ++ [s1]) ++ [s0]) (by
      intro z hz
      rcases List.mem_append.1 hz with hz | hz
      · exact List.mem_append_left _ (withoutP_froms (vld_iff.1 hv) hx.dis z hz)
      · rw [List.mem_singleton.1 hz]; exact List.mem_append_right _ (List.mem_singleton_self _))
    simpa using this
  | false => rw [h.no hv]; omega
theorem SetTo.ok (h : SetTo s0 s1 v xs ys) (hx : CanP xs) (hk : okP xs) (h0 : I64 s0) (h1 : I64 s1) (hv1 : I64 v) : okP ys := by
  cases hv : vld s0 s1 with
  | true =>
    refine (h.yes hv).ok fun x hx1 => ?_
    rcases List.mem_append.1 hx1 with hx1 | hx1
    · exact withoutP_ok (vld_iff.1 hv) hx.dis hk ⟨h0, h1⟩ x hx1
    · rw [List.mem_singleton.1 hx1]; exact ⟨h0, h1, hv1⟩
  | false => rw [h.no hv]; exact hk
theorem ClearTo.can (h : ClearTo s0 s1 xs ys) (hx : CanP xs) : CanP ys := by
  cases hv : vld s0 s1 with
  | true => exact (h.yes hv).can
  | false => rw [h.no hv]; exact hx
theorem ClearTo.at_ (h : ClearTo s0 s1 xs ys) (hx : CanP xs) (n u : Int) : atP n u ys ↔ ¬ hasS s0 s1 n = true ∧ atP n u xs := by
  cases hv : vld s0 s1 with
  | true =>
    rw [(h.yes hv).at_, withoutP_at (s := (s0, s1)) (vld_iff.1 hv) hx.dis, and_comm]
  | false =>
    have hn : ¬ hasS s0 s1 n = true := by intro hh; unfold hasS at hh; rw [hv] at hh; simp at hh
    rw [h.no hv]; simp [hn]
theorem ClearTo.len (h : ClearTo s0 s1 xs ys) (hx : CanP xs) : ys.length ≤ xs.length + 2 := by
  cases hv : vld s0 s1 with
  | true =>
    have := (h.yes hv).len (L := xs.map (fun x => x.1) ++ [s1]) (withoutP_froms (vld_iff.1 hv) hx.dis)
    simp at this; omega
  | false => rw [h.no hv]; omega
theorem ClearTo.ok (h : ClearTo s0 s1 xs ys) (hx : CanP xs) (hk : okP xs) (h0 : I64 s0) (h1 : I64 s1) : okP ys := by
  cases hv : vld s0 s1 with
  | true => exact (h.yes hv).ok (withoutP_ok (vld_iff.1 hv) hx.dis hk ⟨h0, h1⟩)
  | false => rw [h.no hv]; exact hk
theorem withP_mem {n : Int} : memS n (withP v xs) ↔ atP n v xs := by
  unfold withP memS atP
  simp only [List.mem_flatMap]
  constructor
  · rintro ⟨x, ⟨y, hy, hx⟩, h⟩
    by_cases he : y.2.2 = v
    · rw [if_pos he, List.mem_singleton] at hx; subst hx; exact ⟨y, hy, h, he⟩
    · rw [if_neg he] at hx; cases hx
  · rintro ⟨y, hy, h, he⟩
    exact ⟨(y.1, y.2.1), ⟨y, hy, by rw [if_pos he]; exact List.mem_singleton_self _⟩, h⟩
theorem withP_can (hx : CanP xs) : Can (withP v xs) := by
  have hm : ∀ y : Pt Int, ∀ x ∈ (if y.2.2 = v then [((y.1, y.2.1) : Sp)] else []), y.2.2 = v ∧ x = (y.1, y.2.1) := by
    intro y x h
    by_cases he : y.2.2 = v
    · rw [if_pos he, List.mem_singleton] at h; exact ⟨he, h⟩
    · rw [if_neg he] at h; cases h
  refine ⟨fun x h => ?_, ?_⟩
  · obtain ⟨y, hy, h⟩ := List.mem_flatMap.1 h
    obtain ⟨_, rfl⟩ := hm y x h
    exact hx.val y hy
  · unfold withP
    rw [List.pairwise_flatMap]
    refine ⟨fun y _ => by split <;> simp, ?_⟩
    refine hx.sep.imp fun {y z} hyz a ha b hb => ?_
    obtain ⟨e1, rfl⟩ := hm y a ha
    obtain ⟨e2, rfl⟩ := hm z b hb
    have h1 := hyz.1
    have h2 : y.2.1 ≠ z.1 := fun e => hyz.2 e (e1.trans e2.symm)
    show y.2.1 < z.1
    omega
theorem partsP_at {n u : Int} (hx : Dis xs) : atP n u (partsP s0 s1 xs) ↔ atP n u xs ∧ hasS s0 s1 n = true := by
  have key : ∀ y ∈ xs, (atP n u (meetP s0 s1 y) ↔ (hasS y.1 y.2.1 n = true ∧ y.2.2 = u) ∧ hasS s0 s1 n = true) := by
    intro y hy
    have hh := has_meet y.1 y.2.1 s0 s1 n
    unfold meetP
    cases hm : meetB y.1 y.2.1 s0 s1 with
    | true =>
      rw [hm] at hh
      simp only [Bool.true_and] at hh
      rw [if_pos rfl, atP_one, ← hh, Bool.and_eq_true]
      constructor
      · rintro ⟨⟨a, b⟩, c⟩; exact ⟨⟨a, c⟩, b⟩
      · rintro ⟨⟨a, c⟩, b⟩; exact ⟨⟨a, b⟩, c⟩
    | false =>
      rw [hm] at hh
      simp only [Bool.false_and] at hh
      constructor
      · intro h; exact absurd h atP_nil
      · rintro ⟨⟨a, _⟩, b⟩; rw [a, b] at hh; cases hh
  unfold partsP
  constructor
  · rintro ⟨x, hx1, h⟩
    obtain ⟨y, hy, hx1⟩ := List.mem_flatMap.1 hx1
    have := (key y hy).1 ⟨x, hx1, h⟩
    exact ⟨⟨y, hy, this.1⟩, this.2⟩
  · rintro ⟨⟨y, hy, h1⟩, h2⟩
    obtain ⟨x, hx1, h⟩ := (key y hy).2 ⟨h1, h2⟩
    exact ⟨x, List.mem_flatMap.2 ⟨y, hy, hx1⟩, h⟩
theorem meetP_mem {y x : Pt Int} (h : x ∈ meetP s0 s1 y) : (0 ≤ x.1 ∧ x.1 < x.2.1) ∧ y.1 ≤ x.1 ∧ x.2.1 ≤ y.2.1 ∧ s0 ≤ x.1 ∧ x.2.1 ≤ s1 ∧ x.2.2 = y.2.2 ∧ (x.1 = y.1 ∨ x.1 = s0) ∧ (x.2.1 = y.2.1 ∨ x.2.1 = s1) := by
  unfold meetP at h
  cases hm : meetB y.1 y.2.1 s0 s1 with
  | true =>
    rw [hm, if_pos rfl, List.mem_singleton] at h
    obtain ⟨_, _, _, e1, e2⟩ := meet_len hm
    rw [e1, e2] at h
    rw [meetB_iff] at hm
    rw [h]
    refine ⟨?_, ?_, ?_, ?_, ?_, rfl, ?_, ?_⟩ <;> dsimp only <;> omega
  | false => rw [hm, if_neg (by simp)] at h; cases h
theorem partsP_can (hx : CanP xs) : CanP (partsP s0 s1 xs) := by
  refine ⟨fun x h => ?_, ?_⟩
  · obtain ⟨y, hy, h⟩ := List.mem_flatMap.1 h
    exact (meetP_mem h).1
  · unfold partsP
    rw [List.pairwise_flatMap]
    refine ⟨fun y _ => by unfold meetP; split <;> simp, ?_⟩
    refine List.Pairwise.imp_of_mem (fun {y z} hy hz hyz a ha b hb => ?_) hx.sep
    have h1 := meetP_mem ha
    have h2 := meetP_mem hb
    refine ⟨by omega, fun e => ?_⟩
    rw [h1.2.2.2.2.2.1, h2.2.2.2.2.2.1]
    exact hyz.2 (by omega)
theorem partsP_ok (hk : okP xs) (h0 : I64 s0) (h1 : I64 s1) : okP (partsP s0 s1 xs) := by
  intro x hx
  obtain ⟨y, hy, hx⟩ := List.mem_flatMap.1 hx
  obtain ⟨_, _, _, _, _, e3, e1, e2⟩ := meetP_mem hx
  have := hk y hy
  refine ⟨?_, ?_, by rw [e3]; exact this.2.2⟩
  · rcases e1 with e | e
    · rw [e]; exact this.1
    · rw [e]; exact h0
  · rcases e2 with e | e
    · rw [e]; exact this.2.1
    · rw [e]; exact h1
end
end Go.Proofs.YtiokkoeciijkoaaGreat
