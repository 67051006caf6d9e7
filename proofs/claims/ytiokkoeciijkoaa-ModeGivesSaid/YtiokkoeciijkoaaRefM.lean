/- The reference's maps as plain functions: they are Set and Clear of the same lists. -/
import Derived.Test.YtiokkoeciijkoaaPartN
namespace Go.Proofs.Ytiokkoeciijkoaa
set_option linter.unusedVariables false
set_option linter.unusedSimpArgs false

section
variable {s0 s1 : Int} {m : List (Pt Int)}
theorem withoutP_can (hs : 0 ≤ s0 ∧ s0 < s1) (hm : CanP m) : CanP (withoutP (s0, s1) m) := by
  refine ⟨(withoutP_dis (s := (s0, s1)) hs hm.dis).val, ?_⟩
  unfold withoutP
  rw [List.pairwise_flatMap]
  refine ⟨fun p hp => (cut1_sep (s := (s0, s1)) hs (hm.val p hp)).imp fun {x y} h => ⟨Int.le_of_lt h, fun e => absurd e (by omega)⟩, ?_⟩
  refine List.Pairwise.imp_of_mem (fun {p q} hp hq hpq x hx y hy => ?_) hm.sep
  have h1 := cut1_mem (s := (s0, s1)) hs (hm.val p hp) hx
  have h2 := cut1_mem (s := (s0, s1)) hs (hm.val q hq) hy
  refine ⟨by omega, fun e => ?_⟩
  rw [h1.2.2.2.1, h2.2.2.2.1]
  exact hpq.2 (by omega)
theorem clearF_without (hs : 0 ≤ s0 ∧ s0 < s1) (hm : CanP m) : clearF s0 s1 m = withoutP (s0, s1) m :=
  CanP.uniq (clearF_can hm) (withoutP_can hs hm) fun n v => by rw [clearF_at hm, withoutP_at (s := (s0, s1)) hs hm.dis, and_comm]
/-- what the reference's Clear makes of one part -/
def clr1 (s0 s1 : Int) (x : Pt Int) : List (Pt Int) := (if x.1 < s0 then [(x.1, min x.2.1 s0, x.2.2)] else []) ++ (if s1 < x.2.1 then [(max x.1 s1, x.2.1, x.2.2)] else [])
theorem clr1_cut (hs : 0 ≤ s0 ∧ s0 < s1) {x : Pt Int} (hx : 0 ≤ x.1 ∧ x.1 < x.2.1) : clr1 s0 s1 x = cut1 (s0, s1) x := by
  obtain ⟨a, b, v⟩ := x
  simp only [] at hx
  unfold clr1 cut1
  simp only []
  by_cases hm : meetB a b s0 s1 = true
  · rw [if_pos hm]
    rw [meetB_iff] at hm
    have e1 : min b s0 = s0 := by omega
    have e2 : max a s1 = s1 := by omega
    rw [e1, e2]
  · rw [if_neg hm]
    rw [meetB_iff] at hm
    rcases (by omega : b ≤ s0 ∨ s1 ≤ a) with h | h
    · rw [if_pos (by omega), if_neg (by omega), show min b s0 = b by omega]; rfl
    · rw [if_neg (by omega), if_pos (by omega), show max a s1 = a by omega]; rfl
def clrF (s0 s1 : Int) (m : List (Pt Int)) : List (Pt Int) := m.flatMap (clr1 s0 s1)
theorem clrF_take {k : Nat} (h : k < m.length) : clrF s0 s1 (m.take (k + 1)) = clrF s0 s1 (m.take k) ++ clr1 s0 s1 m[k] := by
  unfold clrF; rw [List.take_succ_eq_append_getElem h, List.flatMap_append]; simp
theorem clrF_len (s0 s1 : Int) (m : List (Pt Int)) : (clrF s0 s1 m).length ≤ 2 * m.length := by
  unfold clrF
  induction m with
  | nil => simp
  | cons p m ih =>
    have : (clr1 s0 s1 p).length ≤ 2 := by unfold clr1; split <;> split <;> simp
    rw [List.flatMap_cons, List.length_append, List.length_cons]; omega
theorem clrF_clear (hs : 0 ≤ s0 ∧ s0 < s1) (hm : CanP m) : clrF s0 s1 m = clearF s0 s1 m := by
  rw [clearF_without hs hm]
  unfold clrF withoutP
  have : ∀ l : List (Pt Int), (∀ x ∈ l, 0 ≤ x.1 ∧ x.1 < x.2.1) → l.flatMap (clr1 s0 s1) = l.flatMap (cut1 (s0, s1)) := by
    intro l
    induction l with
    | nil => intro _; rfl
    | cons x l ih => intro h; rw [List.flatMap_cons, List.flatMap_cons, clr1_cut hs (h x (List.mem_cons_self ..)), ih fun y hy => h y (List.mem_cons_of_mem _ hy)]
  exact this m hm.val

/-- where the reference's Set puts the new part -/
structure CutAt (s0 : Int) (m : List (Pt Int)) (k : Nat) : Prop where
  le : k ≤ m.length
  low : ∀ j (h : j < m.length), j < k → m[j].1 < s0
  high : ∀ (h : k < m.length), s0 ≤ m[k].1
theorem ins_perm {α : Type} (m : List α) (k : Nat) (x : α) : (m.take k ++ [x] ++ m.drop k).Perm (m ++ [x]) := by
  have h1 : (m.take k ++ [x] ++ m.drop k).Perm (m.take k ++ (m.drop k ++ [x])) := by
    rw [List.append_assoc]; exact List.Perm.append_left _ List.perm_append_comm
  rw [← List.append_assoc, List.take_append_drop] at h1
  exact h1
theorem ins_sorted {v : Int} {k : Nat} (hm : CanP m) (h : CutAt s0 m k) : (m.take k ++ [((s0, s1, v) : Pt Int)] ++ m.drop k).Pairwise fun x y => x.1 ≤ y.1 := by
  have hr : m.Pairwise fun x y => x.1 ≤ y.1 := (List.pairwise_map.1 hm.rise).imp fun h => Int.le_of_lt h
  have hlow : ∀ a ∈ m.take k, a.1 < s0 := by
    intro a ha
    obtain ⟨j, hj, rfl⟩ := List.getElem_of_mem ha
    rw [List.length_take] at hj
    rw [List.getElem_take]
    exact h.low j (by omega) (by omega)
  have hhigh : ∀ a ∈ m.drop k, s0 ≤ a.1 := by
    intro a ha
    obtain ⟨j, hj, rfl⟩ := List.getElem_of_mem ha
    rw [List.length_drop] at hj
    rw [List.getElem_drop]
    have h0 := h.high (by omega)
    rcases Nat.eq_zero_or_pos j with rfl | hp
    · exact h0
    · have := List.pairwise_iff_getElem.1 hr k (k + j) (by omega) (by omega) (by omega); omega
  rw [List.pairwise_append, List.pairwise_append]
  refine ⟨⟨hr.sublist (List.take_sublist _ _), List.pairwise_singleton _ _, fun a ha b hb => ?_⟩, hr.sublist (List.drop_sublist _ _), fun a ha b hb => ?_⟩
  · rw [List.mem_singleton.1 hb]; exact Int.le_of_lt (hlow a ha)
  · rcases List.mem_append.1 ha with ha | ha
    · have := hlow a ha; have := hhigh b hb; omega
    · rw [List.mem_singleton.1 ha]; exact hhigh b hb
theorem ins_set {v : Int} {k : Nat} (hs : 0 ≤ s0 ∧ s0 < s1) (hm : CanP m) (h : CutAt s0 (clearF s0 s1 m) k) : ((clearF s0 s1 m).take k ++ [((s0, s1, v) : Pt Int)] ++ (clearF s0 s1 m).drop k).foldl stepP [] = setF s0 s1 v m := by
  have hv := vld_iff.2 hs
  have hp := ins_perm (clearF s0 s1 m) k ((s0, s1, v) : Pt Int)
  have hsrt := ins_sorted (s1 := s1) (v := v) (clearF_can hm) h
  have ha := withoutP_apart (s := (s0, s1)) hs hm.dis v
  rw [clearF_without hs hm] at hp hsrt ⊢
  have hl := LayOf.mk' ha hp hsrt
  rw [hl.eqF ha]
  unfold setF
  rw [if_pos hv]
end
end Go.Proofs.Ytiokkoeciijkoaa
