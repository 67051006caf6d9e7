/- Plain facts on lists of ranges that have values: cut, sorted, joined where neighbours are alike; such a list is told by what its blocks have. -/
import Derived.Test.YtiokkoeciijkoaaGreatSpanJ
namespace Go.Proofs.YtiokkoeciijkoaaGreat
set_option linter.unusedVariables false
set_option linter.unusedSimpArgs false

section
variable {α : Type}
abbrev Pt (α : Type) := Int × Int × α
def atP (n : Int) (v : α) (l : List (Pt α)) : Prop := ∃ x ∈ l, hasS x.1 x.2.1 n = true ∧ x.2.2 = v
theorem atP_nil {n : Int} {v : α} : ¬ atP n v ([] : List (Pt α)) := by rintro ⟨x, hx, _⟩; cases hx
theorem atP_append {n : Int} {v : α} {a b : List (Pt α)} : atP n v (a ++ b) ↔ atP n v a ∨ atP n v b := by
  unfold atP; simp only [List.mem_append]
  constructor
  · rintro ⟨x, h | h, hx⟩
    · exact .inl ⟨x, h, hx⟩
    · exact .inr ⟨x, h, hx⟩
  · rintro (⟨x, h, hx⟩ | ⟨x, h, hx⟩)
    · exact ⟨x, .inl h, hx⟩
    · exact ⟨x, .inr h, hx⟩
theorem atP_one {n : Int} {v : α} {x : Pt α} : atP n v [x] ↔ hasS x.1 x.2.1 n = true ∧ x.2.2 = v := by unfold atP; simp
theorem atP_cons {n : Int} {v : α} {x : Pt α} {l : List (Pt α)} : atP n v (x :: l) ↔ (hasS x.1 x.2.1 n = true ∧ x.2.2 = v) ∨ atP n v l := by
  rw [show x :: l = [x] ++ l from rfl, atP_append, atP_one]
theorem atP_perm {n : Int} {v : α} {a b : List (Pt α)} (h : a.Perm b) : atP n v a ↔ atP n v b := by
  unfold atP; constructor
  · rintro ⟨x, hx, h2⟩; exact ⟨x, h.mem_iff.1 hx, h2⟩
  · rintro ⟨x, hx, h2⟩; exact ⟨x, h.mem_iff.2 hx, h2⟩

/-- valid, rising, disjoint -/
structure Dis (l : List (Pt α)) : Prop where
  val : ∀ x ∈ l, 0 ≤ x.1 ∧ x.1 < x.2.1
  sep : l.Pairwise fun x y => x.2.1 ≤ y.1
/-- and no two neighbours alike -/
structure CanP (l : List (Pt α)) : Prop where
  val : ∀ x ∈ l, 0 ≤ x.1 ∧ x.1 < x.2.1
  sep : l.Pairwise fun x y => x.2.1 ≤ y.1 ∧ (x.2.1 = y.1 → x.2.2 ≠ y.2.2)
theorem CanP.nil : CanP ([] : List (Pt α)) := ⟨fun x hx => (by cases hx), List.Pairwise.nil⟩
theorem CanP.dis {l : List (Pt α)} (h : CanP l) : Dis l := ⟨h.val, h.sep.imp fun h => h.1⟩
theorem CanP.tail {x : Pt α} {l : List (Pt α)} (h : CanP (x :: l)) : CanP l := ⟨fun y hy => h.val y (List.mem_cons_of_mem _ hy), h.sep.of_cons⟩
theorem CanP.head {x : Pt α} {l : List (Pt α)} (h : CanP (x :: l)) : ∀ y ∈ l, x.2.1 ≤ y.1 ∧ (x.2.1 = y.1 → x.2.2 ≠ y.2.2) := (List.pairwise_cons.1 h.sep).1
theorem CanP.at_first {x : Pt α} {l : List (Pt α)} (h : CanP (x :: l)) : atP x.1 x.2.2 (x :: l) := ⟨x, List.mem_cons_self .., by rw [hasS_iff]; have := h.val x (List.mem_cons_self ..); omega, rfl⟩
theorem CanP.least {x : Pt α} {l : List (Pt α)} (h : CanP (x :: l)) {n : Int} {v : α} (hn : atP n v (x :: l)) : x.1 ≤ n := by
  have hv := h.val x (List.mem_cons_self ..)
  rcases atP_cons.1 hn with ⟨h1, _⟩ | ⟨y, hy, h1, _⟩
  · rw [hasS_iff] at h1; omega
  · rw [hasS_iff] at h1; have := (h.head y hy).1; omega
theorem CanP.first {x : Pt α} {l : List (Pt α)} (h : CanP (x :: l)) {n : Int} {v : α} (hn : atP n v (x :: l)) (hlt : n < x.2.1) : x.2.2 = v := by
  rcases atP_cons.1 hn with ⟨_, h2⟩ | ⟨y, hy, h1, _⟩
  · exact h2
  · rw [hasS_iff] at h1; have := (h.head y hy).1; omega
theorem CanP.end_ {x : Pt α} {l : List (Pt α)} (h : CanP (x :: l)) : ¬ atP x.2.1 x.2.2 (x :: l) := by
  intro hn
  rcases atP_cons.1 hn with ⟨h1, _⟩ | ⟨y, hy, h1, h2⟩
  · rw [hasS_iff] at h1; omega
  · rw [hasS_iff] at h1
    have := h.head y hy
    exact this.2 (by omega) h2.symm
theorem CanP.uniq : ∀ {a b : List (Pt α)}, CanP a → CanP b → (∀ n v, atP n v a ↔ atP n v b) → a = b
  | [], [], _, _, _ => rfl
  | [], y :: b, _, hb, h => absurd ((h _ _).2 hb.at_first) atP_nil
  | x :: a, [], ha, _, h => absurd ((h _ _).1 ha.at_first) atP_nil
  | x :: a, y :: b, ha, hb, h => by
    have hx := ha.val x (List.mem_cons_self ..)
    have hy := hb.val y (List.mem_cons_self ..)
    have e1 : x.1 = y.1 := by
      have h1 := hb.least ((h _ _).1 ha.at_first)
      have h2 := ha.least ((h _ _).2 hb.at_first)
      omega
    have e3 : x.2.2 = y.2.2 := ha.first ((h _ _).2 hb.at_first) (by omega)
    have e2 : x.2.1 = y.2.1 := by
      rcases Int.lt_trichotomy x.2.1 y.2.1 with hl | hl | hl
      · exact absurd ((h x.2.1 x.2.2).2 ⟨y, List.mem_cons_self .., by rw [hasS_iff]; omega, e3.symm⟩) ha.end_
      · exact hl
      · exact absurd ((h y.2.1 y.2.2).1 ⟨x, List.mem_cons_self .., by rw [hasS_iff]; omega, e3⟩) hb.end_
    have exy : x = y := Prod.ext e1 (Prod.ext e2 e3)
    subst exy
    congr 1
    refine CanP.uniq ha.tail hb.tail fun n v => ?_
    have hn := h n v
    rw [atP_cons, atP_cons] at hn
    constructor
    · intro h3
      rcases hn.1 (.inr h3) with h4 | h4
      · obtain ⟨z, hz, h5, _⟩ := h3
        rw [hasS_iff] at h5 h4
        have := (ha.head z hz).1
        omega
      · exact h4
    · intro h3
      rcases hn.2 (.inr h3) with h4 | h4
      · obtain ⟨z, hz, h5, _⟩ := h3
        rw [hasS_iff] at h5 h4
        have := (hb.head z hz).1
        omega
      · exact h4

theorem Dis.func {l : List (Pt α)} (h : Dis l) {n : Int} {v u : α} (h1 : atP n v l) (h2 : atP n u l) : v = u := by
  obtain ⟨x, hx, hx1, rfl⟩ := h1
  obtain ⟨y, hy, hy1, rfl⟩ := h2
  rw [hasS_iff] at hx1 hy1
  obtain ⟨i, hi, rfl⟩ := List.getElem_of_mem hx
  obtain ⟨j, hj, rfl⟩ := List.getElem_of_mem hy
  rcases Nat.lt_trichotomy i j with hl | hl | hl
  · have := List.pairwise_iff_getElem.1 h.sep i j hi hj hl; omega
  · subst hl; rfl
  · have := List.pairwise_iff_getElem.1 h.sep j i hj hi hl; omega
theorem CanP.rise {l : List (Pt α)} (h : CanP l) : (l.map fun x => x.1).Pairwise (· < ·) := by
  rw [List.pairwise_map]
  refine List.Pairwise.imp_of_mem (fun {a b} ha hb hab => ?_) h.sep
  have := h.val a ha
  omega
theorem CanP.snoc {l : List (Pt α)} {s : Pt α} (h : CanP l) (hs : 0 ≤ s.1 ∧ s.1 < s.2.1) (hl : ∀ x ∈ l, x.2.1 ≤ s.1 ∧ (x.2.1 = s.1 → x.2.2 ≠ s.2.2)) : CanP (l ++ [s]) := by
  refine ⟨fun x hx => ?_, ?_⟩
  · rcases List.mem_append.1 hx with hx | hx
    · exact h.val x hx
    · rw [List.mem_singleton.1 hx]; exact hs
  · rw [List.pairwise_append]
    refine ⟨h.sep, List.pairwise_singleton _ _, fun a ha b hb => ?_⟩
    rw [List.mem_singleton.1 hb]; exact hl a ha
theorem CanP.front {l : List (Pt α)} {s : Pt α} (h : CanP (l ++ [s])) : CanP l ∧ (∀ x ∈ l, x.2.1 ≤ s.1 ∧ (x.2.1 = s.1 → x.2.2 ≠ s.2.2)) ∧ 0 ≤ s.1 ∧ s.1 < s.2.1 := by
  obtain ⟨h1, h2, h3⟩ := List.pairwise_append.1 h.sep
  exact ⟨⟨fun x hx => h.val x (List.mem_append_left _ hx), h1⟩, fun x hx => h3 x hx s (List.mem_singleton_self _), h.val s (List.mem_append_right _ (List.mem_singleton_self _))⟩

variable [DecidableEq α]
/-- one round of lay's loop -/
def stepP (out : List (Pt α)) (s : Pt α) : List (Pt α) := match out.getLast? with
  | some l => if l.2.1 = s.1 ∧ l.2.2 = s.2.2 then out.dropLast ++ [(l.1, s.2.1, l.2.2)] else out ++ [s]
  | none => [s]
theorem stepP_nil (s : Pt α) : stepP [] s = [s] := rfl
theorem stepP_in (ys : List (Pt α)) (z s : Pt α) (h : z.2.1 = s.1 ∧ z.2.2 = s.2.2) : stepP (ys ++ [z]) s = ys ++ [(z.1, s.2.1, z.2.2)] := by simp [stepP, h]
theorem stepP_out (ys : List (Pt α)) (z s : Pt α) (h : ¬ (z.2.1 = s.1 ∧ z.2.2 = s.2.2)) : stepP (ys ++ [z]) s = ys ++ [z] ++ [s] := by simp only [stepP, List.getLast?_append, List.getLast?_singleton, Option.some_or]; rw [if_neg h]
/-- what laying makes of a list -/
structure LayOf (zs ys : List (Pt α)) : Prop where
  can : CanP ys
  at_ : ∀ n v, atP n v ys ↔ atP n v zs
  froms : ∀ x ∈ ys, ∃ d ∈ zs, d.1 = x.1 ∧ d.2.2 = x.2.2
  tos : ∀ x ∈ ys, ∃ d ∈ zs, d.2.1 = x.2.1
theorem merge_parts : ∀ (rest out : List (Pt α)), CanP out → Dis rest → (∀ x ∈ out, ∀ s ∈ rest, x.2.1 ≤ s.1) →
    CanP (rest.foldl stepP out) ∧ (∀ n v, atP n v (rest.foldl stepP out) ↔ atP n v out ∨ atP n v rest) ∧
    (∀ x ∈ rest.foldl stepP out, (∃ d ∈ out ++ rest, d.1 = x.1 ∧ d.2.2 = x.2.2) ∧ ∃ d ∈ out ++ rest, d.2.1 = x.2.1)
  | [], out, hc, _, _ => ⟨hc, fun n v => by simp [atP_nil], fun x hx => ⟨⟨x, by simpa using hx, rfl, rfl⟩, ⟨x, by simpa using hx, rfl⟩⟩⟩
  | s :: rest, out, hc, hd, hl => by
    have hs := hd.val s (List.mem_cons_self ..)
    have hd' : Dis rest := ⟨fun x hx => hd.val x (List.mem_cons_of_mem _ hx), hd.sep.of_cons⟩
    have hsr := (List.pairwise_cons.1 hd.sep).1
    have hls : ∀ x ∈ out, x.2.1 ≤ s.1 := fun x hx => hl x hx s (List.mem_cons_self ..)
    have key : CanP (stepP out s) ∧ (∀ n v, atP n v (stepP out s) ↔ atP n v out ∨ atP n v [s]) ∧ (∀ x ∈ stepP out s, ∀ y ∈ rest, x.2.1 ≤ y.1) ∧
        (∀ x ∈ stepP out s, (∃ d ∈ out ++ [s], d.1 = x.1 ∧ d.2.2 = x.2.2) ∧ ∃ d ∈ out ++ [s], d.2.1 = x.2.1) := by
      rcases List.eq_nil_or_concat out with h0 | ⟨zs, z, h0⟩
      · subst h0
        rw [stepP_nil]
        refine ⟨CanP.snoc (l := []) hc hs (fun x hx => (by cases hx)), fun n v => by simp [atP_nil], fun x hx y hy => ?_, fun x hx => ?_⟩
        · rw [List.mem_singleton.1 hx]; exact hsr y hy
        · rw [List.mem_singleton.1 hx]; exact ⟨⟨s, by simp, rfl, rfl⟩, ⟨s, by simp, rfl⟩⟩
      · rw [List.concat_eq_append] at h0
        subst h0
        obtain ⟨c1, c2, c3⟩ := hc.front
        have hz := hls z (List.mem_append_right _ (List.mem_singleton_self _))
        by_cases hm : z.2.1 = s.1 ∧ z.2.2 = s.2.2
        · rw [stepP_in _ _ _ hm]
          refine ⟨c1.snoc (s := (z.1, s.2.1, z.2.2)) (by simp only []; omega) c2, fun n v => ?_, fun x hx y hy => ?_, fun x hx => ?_⟩
          · rw [atP_append, atP_append, atP_one, atP_one, atP_one, or_assoc]
            refine or_congr_right ?_
            simp only [hasS_iff]
            rw [← hm.2]
            constructor
            · rintro ⟨h1, h2⟩
              by_cases hn : n < z.2.1
              · exact .inl ⟨by omega, h2⟩
              · exact .inr ⟨by omega, h2⟩
            · rintro (⟨h1, h2⟩ | ⟨h1, h2⟩)
              · exact ⟨by omega, h2⟩
              · exact ⟨by omega, h2⟩
          · rcases List.mem_append.1 hx with hx | hx
            · exact hl x (List.mem_append_left _ hx) y (List.mem_cons_of_mem _ hy)
            · rw [List.mem_singleton.1 hx]; exact hsr y hy
          · rcases List.mem_append.1 hx with hx | hx
            · have hx' : x ∈ zs ++ [z] ++ [s] := List.mem_append_left _ (List.mem_append_left _ hx)
              exact ⟨⟨x, hx', rfl, rfl⟩, ⟨x, hx', rfl⟩⟩
            · rw [List.mem_singleton.1 hx]
              exact ⟨⟨z, by simp, rfl, rfl⟩, ⟨s, by simp, rfl⟩⟩
        · rw [stepP_out _ _ _ hm]
          refine ⟨hc.snoc hs fun x hx => ⟨hls x hx, fun e e2 => ?_⟩, fun n v => by rw [atP_append], fun x hx y hy => ?_, fun x hx => ⟨⟨x, hx, rfl, rfl⟩, ⟨x, hx, rfl⟩⟩⟩
          · rcases List.mem_append.1 hx with hx | hx
            · have h1 := (c2 x hx).1
              omega
            · rw [List.mem_singleton.1 hx] at e e2; exact hm ⟨e, e2⟩
          · rcases List.mem_append.1 hx with hx | hx
            · exact hl x hx y (List.mem_cons_of_mem _ hy)
            · rw [List.mem_singleton.1 hx]; exact hsr y hy
    obtain ⟨k1, k2, k3, k4⟩ := key
    obtain ⟨m1, m2, m3⟩ := merge_parts rest (stepP out s) k1 hd' k3
    rw [List.foldl_cons]
    refine ⟨m1, fun n v => ?_, fun x hx => ?_⟩
    · rw [m2, k2, show s :: rest = [s] ++ rest from rfl, atP_append, or_assoc]
    · have lift : ∀ d, d ∈ stepP out s ++ rest → ((∃ d2 ∈ out ++ s :: rest, d2.1 = d.1 ∧ d2.2.2 = d.2.2) ∧ ∃ d2 ∈ out ++ s :: rest, d2.2.1 = d.2.1) := by
        intro d hd2
        rcases List.mem_append.1 hd2 with hd2 | hd2
        · obtain ⟨⟨e, he, he2⟩, ⟨f, hf, hf2⟩⟩ := k4 d hd2
          have up : ∀ q, q ∈ out ++ [s] → q ∈ out ++ s :: rest := fun q hq => by
            rcases List.mem_append.1 hq with hq | hq
            · exact List.mem_append_left _ hq
            · exact List.mem_append_right _ (by rw [List.mem_singleton.1 hq]; exact List.mem_cons_self ..)
          exact ⟨⟨e, up e he, he2⟩, ⟨f, up f hf, hf2⟩⟩
        · have : d ∈ out ++ s :: rest := List.mem_append_right _ (List.mem_cons_of_mem _ hd2)
          exact ⟨⟨d, this, rfl, rfl⟩, ⟨d, this, rfl⟩⟩
      obtain ⟨⟨d, hd1, e1, e2⟩, ⟨d', hd1', e1'⟩⟩ := m3 x hx
      obtain ⟨q, hq, q1, q2⟩ := (lift d hd1).1
      obtain ⟨q', hq', q1'⟩ := (lift d' hd1').2
      exact ⟨⟨q, hq, q1.trans e1, q2.trans e2⟩, ⟨q', hq', q1'.trans e1'⟩⟩
/-- valid, disjoint, in whatever order -/
structure Apart (l : List (Pt α)) : Prop where
  val : ∀ x ∈ l, 0 ≤ x.1 ∧ x.1 < x.2.1
  sep : l.Pairwise fun x y => x.2.1 ≤ y.1 ∨ y.2.1 ≤ x.1
theorem LayOf.mk' {zs ys : List (Pt α)} (hz : Apart zs) (hp : ys.Perm zs) (hs : ys.Pairwise fun x y => x.1 ≤ y.1) : LayOf zs (ys.foldl stepP []) := by
  have hv : ∀ x ∈ ys, 0 ≤ x.1 ∧ x.1 < x.2.1 := fun x hx => hz.val x (hp.mem_iff.1 hx)
  have hd : Dis ys := by
    refine ⟨hv, ?_⟩
    have h1 : ys.Pairwise fun x y => x.2.1 ≤ y.1 ∨ y.2.1 ≤ x.1 := (List.Perm.pairwise_iff (fun {x y} h => h.symm) hp).2 hz.sep
    refine List.Pairwise.imp_of_mem (fun {a b} ha hb hab => ?_) (h1.and hs)
    have := hv a ha
    have := hv b hb
    omega
  obtain ⟨h1, h2, h3⟩ := merge_parts ys [] CanP.nil hd (fun x hx => by cases hx)
  refine ⟨h1, fun n v => ?_, fun x hx => ?_, fun x hx => ?_⟩
  · rw [h2, atP_perm hp]; simp [atP_nil]
  · obtain ⟨⟨d, hd1, e⟩, _⟩ := h3 x hx
    exact ⟨d, hp.mem_iff.1 (by simpa using hd1), e⟩
  · obtain ⟨_, ⟨d, hd1, e⟩⟩ := h3 x hx
    exact ⟨d, hp.mem_iff.1 (by simpa using hd1), e⟩
omit [DecidableEq α]

/-- a part without a range -/
def cut1 (s : Sp) (p : Pt α) : List (Pt α) := if meetB p.1 p.2.1 s.1 s.2 then (if p.1 < s.1 then [(p.1, s.1, p.2.2)] else []) ++ (if s.2 < p.2.1 then [(s.2, p.2.1, p.2.2)] else []) else [p]
theorem cut1_mem {s : Sp} {p x : Pt α} (hs : 0 ≤ s.1 ∧ s.1 < s.2) (hp : 0 ≤ p.1 ∧ p.1 < p.2.1) (h : x ∈ cut1 s p) : (0 ≤ x.1 ∧ x.1 < x.2.1) ∧ p.1 ≤ x.1 ∧ x.2.1 ≤ p.2.1 ∧ x.2.2 = p.2.2 ∧ (x.2.1 ≤ s.1 ∨ s.2 ≤ x.1) ∧ (x.1 = p.1 ∨ x.1 = s.2) ∧ (x.2.1 = p.2.1 ∨ x.2.1 = s.1) := by
  unfold cut1 at h
  by_cases hm : meetB p.1 p.2.1 s.1 s.2 = true
  · rw [if_pos hm] at h
    rw [meetB_iff] at hm
    rcases List.mem_append.1 h with h | h
    · split at h
      · rw [List.mem_singleton.1 h]; refine ⟨?_, ?_, ?_, rfl, ?_, ?_, ?_⟩ <;> dsimp only <;> omega
      · cases h
    · split at h
      · rw [List.mem_singleton.1 h]; refine ⟨?_, ?_, ?_, rfl, ?_, ?_, ?_⟩ <;> dsimp only <;> omega
      · cases h
  · rw [if_neg hm] at h
    rw [meetB_iff] at hm
    rw [List.mem_singleton.1 h]
    refine ⟨?_, ?_, ?_, rfl, ?_, ?_, ?_⟩ <;> omega
theorem cut1_at {s : Sp} {p : Pt α} {n : Int} {v : α} (hs : 0 ≤ s.1 ∧ s.1 < s.2) (hp : 0 ≤ p.1 ∧ p.1 < p.2.1) : atP n v (cut1 s p) ↔ (hasS p.1 p.2.1 n = true ∧ p.2.2 = v) ∧ ¬ hasS s.1 s.2 n = true := by
  constructor
  · rintro ⟨x, hx, h1, h2⟩
    obtain ⟨k1, k2, k3, k4, k5, _, _⟩ := cut1_mem hs hp hx
    rw [hasS_iff] at h1
    refine ⟨⟨by rw [hasS_iff]; omega, k4.symm.trans h2⟩, by rw [hasS_iff]; omega⟩
  · rintro ⟨⟨h1, h2⟩, h3⟩
    rw [hasS_iff] at h1 h3
    unfold cut1
    by_cases hm : meetB p.1 p.2.1 s.1 s.2 = true
    · rw [if_pos hm]
      rw [meetB_iff] at hm
      rw [atP_append]
      by_cases hn : n < s.1
      · left; rw [if_pos (by omega), atP_one]; exact ⟨by rw [hasS_iff]; dsimp only; omega, h2⟩
      · right; rw [if_pos (by omega), atP_one]; exact ⟨by rw [hasS_iff]; dsimp only; omega, h2⟩
    · rw [if_neg hm, atP_one]; exact ⟨by rw [hasS_iff]; exact h1, h2⟩
theorem cut1_sep {s : Sp} {p : Pt α} (hs : 0 ≤ s.1 ∧ s.1 < s.2) (hp : 0 ≤ p.1 ∧ p.1 < p.2.1) : (cut1 s p).Pairwise fun x y => x.2.1 < y.1 := by
  unfold cut1
  split
  · split <;> split <;> simp
    omega
  · exact List.pairwise_singleton _ _
/-- it is what Minus makes of the part's range -/
theorem cut1_minus {s : Sp} {p : Pt α} {out : List Sp} (hs : 0 ≤ s.1 ∧ s.1 < s.2) (hp : 0 ≤ p.1 ∧ p.1 < p.2.1) (h : MinusOf [(p.1, p.2.1)] [s] out) : out.map (fun y => ((y.1, y.2, p.2.2) : Pt α)) = cut1 s p := by
  have hc : Can ((cut1 s p).map fun x => (x.1, x.2.1)) := by
    refine ⟨fun x hx => ?_, ?_⟩
    · obtain ⟨y, hy, rfl⟩ := List.mem_map.1 hx; exact (cut1_mem hs hp hy).1
    · rw [List.pairwise_map]; exact cut1_sep hs hp
  have e : out = (cut1 s p).map fun x => (x.1, x.2.1) := by
    refine Can.uniq h.can hc fun n => ?_
    rw [h.blocks, memS_one, memS_one]
    have h1 := cut1_at (n := n) (v := p.2.2) hs hp
    constructor
    · rintro ⟨h2, h3⟩
      obtain ⟨x, hx, h4, _⟩ := h1.2 ⟨⟨h2, rfl⟩, h3⟩
      exact ⟨(x.1, x.2.1), List.mem_map.2 ⟨x, hx, rfl⟩, h4⟩
    · rintro ⟨y, hy, h4⟩
      obtain ⟨x, hx, rfl⟩ := List.mem_map.1 hy
      have := h1.1 ⟨x, hx, h4, (cut1_mem hs hp hx).2.2.2.1⟩
      exact ⟨this.1.1, this.2⟩
  rw [e, List.map_map]
  conv => rhs; rw [← List.map_id (cut1 s p)]
  refine List.map_congr_left fun x hx => ?_
  have := (cut1_mem hs hp hx).2.2.2.1
  simp only [Function.comp, id]
  rw [← this]
def withoutP (s : Sp) (l : List (Pt α)) : List (Pt α) := l.flatMap (cut1 s)
theorem withoutP_take {s : Sp} {l : List (Pt α)} {k : Nat} (h : k < l.length) : withoutP s (l.take (k + 1)) = withoutP s (l.take k) ++ cut1 s l[k] := by
  unfold withoutP; rw [List.take_succ_eq_append_getElem h, List.flatMap_append]; simp
theorem cut1_len (s : Sp) (p : Pt α) : (cut1 s p).length ≤ 2 := by
  unfold cut1; split
  · split <;> split <;> simp
  · simp
theorem withoutP_len (s : Sp) (l : List (Pt α)) : (withoutP s l).length ≤ 2 * l.length := by
  unfold withoutP
  induction l with
  | nil => simp
  | cons p l ih => have := cut1_len s p; rw [List.flatMap_cons, List.length_append, List.length_cons]; omega
theorem withoutP_dis {s : Sp} {l : List (Pt α)} (hs : 0 ≤ s.1 ∧ s.1 < s.2) (h : Dis l) : Dis (withoutP s l) := by
  refine ⟨fun x hx => ?_, ?_⟩
  · obtain ⟨p, hp, hx⟩ := List.mem_flatMap.1 hx
    exact (cut1_mem hs (h.val p hp) hx).1
  · unfold withoutP
    rw [List.pairwise_flatMap]
    refine ⟨fun p hp => (cut1_sep hs (h.val p hp)).imp fun h => Int.le_of_lt h, ?_⟩
    refine List.Pairwise.imp_of_mem (fun {p q} hp hq hpq x hx y hy => ?_) h.sep
    have h1 := cut1_mem hs (h.val p hp) hx
    have h2 := cut1_mem hs (h.val q hq) hy
    omega
theorem withoutP_at {s : Sp} {l : List (Pt α)} (hs : 0 ≤ s.1 ∧ s.1 < s.2) (h : Dis l) {n : Int} {v : α} : atP n v (withoutP s l) ↔ atP n v l ∧ ¬ hasS s.1 s.2 n = true := by
  unfold withoutP
  constructor
  · rintro ⟨x, hx, h1⟩
    obtain ⟨p, hp, hx⟩ := List.mem_flatMap.1 hx
    have := (cut1_at hs (h.val p hp)).1 ⟨x, hx, h1⟩
    exact ⟨⟨p, hp, this.1⟩, this.2⟩
  · rintro ⟨⟨p, hp, h1⟩, h2⟩
    obtain ⟨x, hx, h3⟩ := (cut1_at hs (h.val p hp)).2 ⟨h1, h2⟩
    exact ⟨x, List.mem_flatMap.2 ⟨p, hp, hx⟩, h3⟩
theorem withoutP_apart {s : Sp} {l : List (Pt α)} (hs : 0 ≤ s.1 ∧ s.1 < s.2) (h : Dis l) (v : α) : Apart (withoutP s l ++ [(s.1, s.2, v)]) := by
  have hd := withoutP_dis hs h
  refine ⟨fun x hx => ?_, ?_⟩
  · rcases List.mem_append.1 hx with hx | hx
    · exact hd.val x hx
    · rw [List.mem_singleton.1 hx]; exact hs
  · rw [List.pairwise_append]
    refine ⟨hd.sep.imp fun h => .inl h, List.pairwise_singleton _ _, fun x hx y hy => ?_⟩
    rw [List.mem_singleton.1 hy]
    obtain ⟨p, hp, hx⟩ := List.mem_flatMap.1 hx
    exact (cut1_mem hs (h.val p hp) hx).2.2.2.2.1
theorem Dis.apart {l : List (Pt α)} (h : Dis l) : Apart l := ⟨h.val, h.sep.imp fun h => .inl h⟩
end
end Go.Proofs.YtiokkoeciijkoaaGreat
