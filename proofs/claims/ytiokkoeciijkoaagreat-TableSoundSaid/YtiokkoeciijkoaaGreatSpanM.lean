/- Plain facts on lists of ranges: what merging a sorted list gives; a list that rises, whose ranges do not touch, is told by its blocks. -/
import Derived.Test.YtiokkoeciijkoaaGreatSpanA
namespace Go.Proofs.YtiokkoeciijkoaaGreat
set_option linter.unusedVariables false
set_option linter.unusedSimpArgs false

def memS (n : Int) (l : List Sp) : Prop := ∃ x ∈ l, hasS x.1 x.2 n = true
theorem hasS_iff {a b n : Int} : hasS a b n = true ↔ 0 ≤ a ∧ a ≤ n ∧ n < b := by simp [hasS, vld]; omega
theorem memS_nil {n : Int} : ¬ memS n [] := by rintro ⟨x, hx, _⟩; cases hx
theorem memS_append {n : Int} {a b : List Sp} : memS n (a ++ b) ↔ memS n a ∨ memS n b := by
  unfold memS; simp only [List.mem_append]
  constructor
  · rintro ⟨x, h | h, hx⟩
    · exact .inl ⟨x, h, hx⟩
    · exact .inr ⟨x, h, hx⟩
  · rintro (⟨x, h, hx⟩ | ⟨x, h, hx⟩)
    · exact ⟨x, .inl h, hx⟩
    · exact ⟨x, .inr h, hx⟩
theorem memS_one {n : Int} {x : Sp} : memS n [x] ↔ hasS x.1 x.2 n = true := by unfold memS; simp
theorem memS_cons {n : Int} {x : Sp} {l : List Sp} : memS n (x :: l) ↔ hasS x.1 x.2 n = true ∨ memS n l := by
  rw [show x :: l = [x] ++ l from rfl, memS_append, memS_one]
theorem memS_perm {n : Int} {a b : List Sp} (h : a.Perm b) : memS n a ↔ memS n b := by
  unfold memS; constructor
  · rintro ⟨x, hx, h2⟩; exact ⟨x, h.mem_iff.1 hx, h2⟩
  · rintro ⟨x, hx, h2⟩; exact ⟨x, h.mem_iff.2 hx, h2⟩
theorem memS_valid {n : Int} {l : List Sp} : memS n (l.filter fun x => !(!vld x.1 x.2)) ↔ memS n l := by
  unfold memS
  simp only [List.mem_filter, Bool.not_not]
  constructor
  · rintro ⟨x, ⟨hx, _⟩, h⟩; exact ⟨x, hx, h⟩
  · rintro ⟨x, hx, h⟩
    refine ⟨x, ⟨hx, ?_⟩, h⟩
    rw [hasS_iff] at h
    rw [vld_iff]; omega

/-- as few as it takes: each valid, none touches the next one -/
structure Can (l : List Sp) : Prop where
  val : ∀ x ∈ l, 0 ≤ x.1 ∧ x.1 < x.2
  sep : l.Pairwise fun x y => x.2 < y.1

theorem Can.nil : Can [] := ⟨fun x hx => (by cases hx), List.Pairwise.nil⟩
theorem Can.tail {x : Sp} {l : List Sp} (h : Can (x :: l)) : Can l := ⟨fun y hy => h.val y (List.mem_cons_of_mem _ hy), h.sep.of_cons⟩
theorem Can.head {x : Sp} {l : List Sp} (h : Can (x :: l)) : ∀ y ∈ l, x.2 < y.1 := (List.pairwise_cons.1 h.sep).1
theorem Can.mem {l : List Sp} (h : Can l) {x : Sp} (hx : x ∈ l) {n : Int} (h1 : x.1 ≤ n) (h2 : n < x.2) : memS n l := ⟨x, hx, by rw [hasS_iff]; have := h.val x hx; omega⟩

/-- the least block of a list -/
theorem Can.least {x : Sp} {l : List Sp} (h : Can (x :: l)) {n : Int} (hn : memS n (x :: l)) : x.1 ≤ n := by
  rcases memS_cons.1 hn with h1 | ⟨y, hy, h1⟩
  · rw [hasS_iff] at h1; omega
  · rw [hasS_iff] at h1
    have := h.head y hy
    have := h.val x (List.mem_cons_self ..)
    omega
/-- the blocks of the first range: up to its end, and the end is none -/
theorem Can.end_ {x : Sp} {l : List Sp} (h : Can (x :: l)) : ¬ memS x.2 (x :: l) := by
  intro hn
  rcases memS_cons.1 hn with h1 | ⟨y, hy, h1⟩
  · rw [hasS_iff] at h1; omega
  · rw [hasS_iff] at h1
    have := h.head y hy
    omega

theorem Can.uniq : ∀ {a b : List Sp}, Can a → Can b → (∀ n, memS n a ↔ memS n b) → a = b
  | [], [], _, _, _ => rfl
  | [], y :: b, _, hb, h => by
    have hv := hb.val y (List.mem_cons_self ..)
    exact absurd ((h y.1).2 (hb.mem (List.mem_cons_self ..) (Int.le_refl _) hv.2)) memS_nil
  | x :: a, [], ha, _, h => by
    have hv := ha.val x (List.mem_cons_self ..)
    exact absurd ((h x.1).1 (ha.mem (List.mem_cons_self ..) (Int.le_refl _) hv.2)) memS_nil
  | x :: a, y :: b, ha, hb, h => by
    have hx := ha.val x (List.mem_cons_self ..)
    have hy := hb.val y (List.mem_cons_self ..)
    have e1 : x.1 = y.1 := by
      have h1 := hb.least ((h x.1).1 (ha.mem (List.mem_cons_self ..) (Int.le_refl _) hx.2))
      have h2 := ha.least ((h y.1).2 (hb.mem (List.mem_cons_self ..) (Int.le_refl _) hy.2))
      omega
    have e2 : x.2 = y.2 := by
      rcases Int.lt_trichotomy x.2 y.2 with hl | hl | hl
      · exact absurd ((h x.2).2 (hb.mem (List.mem_cons_self ..) (by omega) hl)) ha.end_
      · exact hl
      · exact absurd ((h y.2).1 (ha.mem (List.mem_cons_self ..) (by omega) hl)) hb.end_
    have exy : x = y := Prod.ext e1 e2
    subst exy
    congr 1
    refine Can.uniq ha.tail hb.tail fun n => ?_
    have hn := h n
    rw [memS_cons, memS_cons] at hn
    by_cases hh : hasS x.1 x.2 n = true
    · rw [hasS_iff] at hh
      constructor
      · rintro ⟨z, hz, h3⟩; rw [hasS_iff] at h3; have := ha.head z hz; omega
      · rintro ⟨z, hz, h3⟩; rw [hasS_iff] at h3; have := hb.head z hz; omega
    · constructor
      · intro h3; exact (hn.1 (.inr h3)).elim (fun h4 => absurd h4 hh) id
      · intro h3; exact (hn.2 (.inr h3)).elim (fun h4 => absurd h4 hh) id

theorem Can.snoc {l : List Sp} {s : Sp} (h : Can l) (hs : 0 ≤ s.1 ∧ s.1 < s.2) (hl : ∀ x ∈ l, x.2 < s.1) : Can (l ++ [s]) := by
  refine ⟨fun x hx => ?_, ?_⟩
  · rcases List.mem_append.1 hx with hx | hx
    · exact h.val x hx
    · rw [List.mem_singleton.1 hx]; exact hs
  · rw [List.pairwise_append]
    refine ⟨h.sep, List.pairwise_singleton _ _, fun a ha b hb => ?_⟩
    rw [List.mem_singleton.1 hb]; exact hl a ha
theorem Can.front {l : List Sp} {s : Sp} (h : Can (l ++ [s])) : Can l ∧ (∀ x ∈ l, x.2 < s.1) ∧ 0 ≤ s.1 ∧ s.1 < s.2 := by
  obtain ⟨h1, h2, h3⟩ := List.pairwise_append.1 h.sep
  exact ⟨⟨fun x hx => h.val x (List.mem_append_left _ hx), h1⟩, fun x hx => h3 x hx s (List.mem_singleton_self _), h.val s (List.mem_append_right _ (List.mem_singleton_self _))⟩

/-- one round of Norm's loop -/
def step1 (out : List Sp) (s : Sp) : List Sp := match out.getLast? with
  | some l => if s.1 ≤ l.2 then out.dropLast ++ [(l.1, max l.2 s.2)] else out ++ [s]
  | none => [s]
theorem step1_nil (s : Sp) : step1 [] s = [s] := rfl
theorem step1_in (ys : List Sp) (z s : Sp) (h : s.1 ≤ z.2) : step1 (ys ++ [z]) s = ys ++ [(z.1, max z.2 s.2)] := by simp [step1, h]
theorem step1_out (ys : List Sp) (z s : Sp) (h : z.2 < s.1) : step1 (ys ++ [z]) s = ys ++ [z] ++ [s] := by
  have : ¬ s.1 ≤ z.2 := by omega
  simp [step1, this]

structure MergeAt (done out : List Sp) : Prop where
  can : Can out
  blocks : ∀ n, memS n out ↔ memS n done
  froms : ∀ x ∈ out, ∃ d ∈ done, d.1 = x.1
  tos : ∀ x ∈ out, ∃ d ∈ done, d.2 = x.2
  len : out.length ≤ done.length

theorem MergeAt.step {done out : List Sp} (h : MergeAt done out) (s : Sp) (hs : 0 ≤ s.1 ∧ s.1 < s.2) (hd : ∀ d ∈ done, d.1 ≤ s.1) : MergeAt (done ++ [s]) (step1 out s) := by
  rcases List.eq_nil_or_concat out with rfl | ⟨ys, z, rfl⟩
  · rw [step1_nil]
    refine ⟨Can.nil.snoc hs (fun x hx => by cases hx), fun n => ?_, fun x hx => ⟨s, by simp, by rw [List.mem_singleton.1 hx]⟩, fun x hx => ⟨s, by simp, by rw [List.mem_singleton.1 hx]⟩, by simp⟩
    rw [memS_append, ← h.blocks n]
    exact ⟨.inr, fun h => h.elim (fun h => absurd h memS_nil) id⟩
  · rw [List.concat_eq_append] at h ⊢
    obtain ⟨hc, hsep, hz⟩ := h.can.front
    obtain ⟨d, hdm, hde⟩ := h.froms z (by simp)
    have hzs : z.1 ≤ s.1 := by rw [← hde]; exact hd d hdm
    by_cases hle : s.1 ≤ z.2
    · rw [step1_in _ _ _ hle]
      refine ⟨hc.snoc ⟨hz.1, by show z.1 < max z.2 s.2; omega⟩ hsep, fun n => ?_, fun x hx => ?_, fun x hx => ?_, by simpa using Nat.le_succ_of_le h.len⟩
      · have hb := h.blocks n
        rw [memS_append, memS_one] at hb
        rw [memS_append, memS_one, memS_append, memS_one, ← hb, hasS_iff, hasS_iff, hasS_iff]
        constructor
        · rintro (h1 | h1)
          · exact .inl (.inl h1)
          · by_cases hn : n < z.2
            · exact .inl (.inr ⟨h1.1, h1.2.1, hn⟩)
            · exact .inr ⟨hs.1, by omega, by have := h1.2.2; simp only [] at this; omega⟩
        · rintro ((h1 | h1) | h1)
          · exact .inl h1
          · exact .inr ⟨h1.1, h1.2.1, by simp only []; omega⟩
          · exact .inr ⟨hz.1, by simp only []; omega, by simp only []; omega⟩
      · rcases List.mem_append.1 hx with hx | hx
        · obtain ⟨d, h1, h2⟩ := h.froms x (by simp [hx]); exact ⟨d, by simp [h1], h2⟩
        · rw [List.mem_singleton.1 hx]; exact ⟨d, by simp [hdm], hde⟩
      · rcases List.mem_append.1 hx with hx | hx
        · obtain ⟨d, h1, h2⟩ := h.tos x (by simp [hx]); exact ⟨d, by simp [h1], h2⟩
        · rw [List.mem_singleton.1 hx]
          rcases (by omega : max z.2 s.2 = z.2 ∨ max z.2 s.2 = s.2) with e | e
          · obtain ⟨d, h1, h2⟩ := h.tos z (by simp); exact ⟨d, by simp [h1], by rw [h2]; exact e.symm⟩
          · exact ⟨s, by simp, e.symm⟩
    · have hlt : z.2 < s.1 := by omega
      rw [step1_out _ _ _ hlt]
      refine ⟨h.can.snoc hs fun x hx => ?_, fun n => ?_, fun x hx => ?_, fun x hx => ?_, by simpa using h.len⟩
      · rcases List.mem_append.1 hx with hx | hx
        · have := hsep x hx; omega
        · rw [List.mem_singleton.1 hx]; exact hlt
      · rw [memS_append, memS_append (a := done), h.blocks n]
      · rcases List.mem_append.1 hx with hx | hx
        · obtain ⟨d, h1, h2⟩ := h.froms x hx; exact ⟨d, by simp [h1], h2⟩
        · rw [List.mem_singleton.1 hx]; exact ⟨s, by simp, rfl⟩
      · rcases List.mem_append.1 hx with hx | hx
        · obtain ⟨d, h1, h2⟩ := h.tos x hx; exact ⟨d, by simp [h1], h2⟩
        · rw [List.mem_singleton.1 hx]; exact ⟨s, by simp, rfl⟩

theorem merge_all (ys : List Sp) (hv : ∀ x ∈ ys, 0 ≤ x.1 ∧ x.1 < x.2) (hs : ys.Pairwise fun x y => x.1 ≤ y.1) : MergeAt ys (ys.foldl step1 []) := by
  have key : ∀ k, k ≤ ys.length → MergeAt (ys.take k) ((ys.take k).foldl step1 []) := by
    intro k
    induction k with
    | zero => intro _; exact ⟨Can.nil, fun n => Iff.rfl, fun x hx => by simp at hx, fun x hx => by simp at hx, Nat.le_refl _⟩
    | succ k ih =>
      intro hk
      rw [List.take_succ_eq_append_getElem (by omega), List.foldl_append]
      refine (ih (by omega)).step _ (hv _ (List.getElem_mem _)) fun d hd => ?_
      obtain ⟨j, hj, rfl⟩ := List.getElem_of_mem hd
      simp only [List.length_take] at hj
      rw [List.getElem_take]
      exact List.pairwise_iff_getElem.1 hs j k (by omega) (by omega) (by omega)
  have := key ys.length (Nat.le_refl _)
  rwa [List.take_length] at this

/-- what Norm answers -/
structure NormOf (xs out : List Sp) : Prop where
  can : Can out
  blocks : ∀ n, memS n out ↔ memS n xs
  froms : ∀ x ∈ out, ∃ d ∈ xs, d.1 = x.1
  tos : ∀ x ∈ out, ∃ d ∈ xs, d.2 = x.2
  len : out.length ≤ xs.length

theorem NormOf.mk' {xs ys : List Sp} (hp : ys.Perm (xs.filter fun x => !(!vld x.1 x.2))) (hs : ys.Pairwise fun x y => x.1 ≤ y.1) : NormOf xs (ys.foldl step1 []) := by
  have hm : ∀ x ∈ ys, x ∈ xs ∧ vld x.1 x.2 = true := fun x hx => by
    have := hp.mem_iff.1 hx
    simpa using this
  have h := merge_all ys (fun x hx => vld_iff.1 (hm x hx).2) hs
  refine ⟨h.can, fun n => (h.blocks n).trans ((memS_perm hp).trans memS_valid), fun x hx => ?_, fun x hx => ?_, ?_⟩
  · obtain ⟨d, h1, h2⟩ := h.froms x hx; exact ⟨d, (hm d h1).1, h2⟩
  · obtain ⟨d, h1, h2⟩ := h.tos x hx; exact ⟨d, (hm d h1).1, h2⟩
  · have := h.len; rw [hp.length_eq] at this; exact Nat.le_trans this (List.length_filter_le _ _)
theorem NormOf.uniq {xs a b : List Sp} (ha : NormOf xs a) (hb : NormOf xs b) : a = b := Can.uniq ha.can hb.can fun n => (ha.blocks n).trans (hb.blocks n).symm

theorem step1_len (out : List Sp) (s : Sp) : (step1 out s).length ≤ out.length + 1 := by
  rcases List.eq_nil_or_concat out with rfl | ⟨ys, z, rfl⟩
  · simp [step1]
  · rw [List.concat_eq_append]
    by_cases h : s.1 ≤ z.2
    · rw [step1_in _ _ _ h]; simp
    · rw [step1_out _ _ _ (by omega)]; simp

end Go.Proofs.YtiokkoeciijkoaaGreat
