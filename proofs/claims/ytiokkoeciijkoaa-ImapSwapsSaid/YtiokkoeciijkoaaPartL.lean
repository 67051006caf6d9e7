/- Plain facts for chapter 7's laws: parts cut in two and set again are the parts of the whole. -/
import Derived.Test.YtiokkoeciijkoaaImapS
namespace Go.Proofs.Ytiokkoeciijkoaa
set_option linter.unusedVariables false
set_option linter.unusedSimpArgs false

def setAllF (m l : List (Pt Int)) : List (Pt Int) := l.foldl (fun m q => setF q.1 q.2.1 q.2.2 m) m
theorem setAllF_take {m l : List (Pt Int)} {k : Nat} (h : k < l.length) : setAllF m (l.take (k + 1)) = setF l[k].1 l[k].2.1 l[k].2.2 (setAllF m (l.take k)) := by
  unfold setAllF; rw [List.take_succ_eq_append_getElem h, List.foldl_append]; rfl
theorem setAllF_good {m l : List (Pt Int)} {B : Nat} (h : GoodP I64 B m) (hl : okQ I64 l) : GoodP I64 (B + 2 * l.length) (setAllF m l) := by
  induction l generalizing m B with
  | nil => exact h
  | cons q l ih =>
    have hq := hl q (List.mem_cons_self ..)
    exact (ih (h.set hq.1 hq.2.1 hq.2.2) (fun x hx => hl x (List.mem_cons_of_mem _ hx))).mono (by rw [List.length_cons]; omega)
theorem setAllF_at {l : List (Pt Int)} (hl : Dis l) {m : List (Pt Int)} (hm : CanP m) {n u : Int} : atP n u (setAllF m l) ↔ atP n u l ∨ ((∀ v, ¬ atP n v l) ∧ atP n u m) := by
  induction l generalizing m with
  | nil =>
    show atP n u m ↔ _
    constructor
    · intro h; exact .inr ⟨fun v => atP_nil, h⟩
    · rintro (h | ⟨_, h⟩)
      · exact absurd h atP_nil
      · exact h
  | cons q l ih =>
    have hl' : Dis l := ⟨fun x hx => hl.val x (List.mem_cons_of_mem _ hx), hl.sep.of_cons⟩
    have hsep := (List.pairwise_cons.1 hl.sep).1
    have hno : hasS q.1 q.2.1 n = true → ∀ v, ¬ atP n v l := by
      rintro h v ⟨y, hy, h2, _⟩
      rw [hasS_iff] at h h2
      have := hsep y hy
      omega
    show atP n u (setAllF (setF q.1 q.2.1 q.2.2 m) l) ↔ _
    rw [ih hl' (setF_can hm), setF_at hm]
    simp only [atP_cons]
    constructor
    · rintro (h | ⟨h1, ⟨h2, h3⟩ | ⟨h2, h3⟩⟩)
      · exact .inl (.inr h)
      · exact .inl (.inl ⟨h2, h3.symm⟩)
      · exact .inr ⟨fun v h => h.elim (fun h => h2 h.1) (h1 v), h3⟩
    · rintro ((⟨h1, h2⟩ | h) | ⟨h1, h2⟩)
      · exact .inr ⟨hno h1, .inl ⟨h1, h2.symm⟩⟩
      · exact .inl h
      · refine .inr ⟨fun v h => h1 v (.inr h), .inr ⟨fun h => h1 q.2.2 (.inl ⟨h, rfl⟩), h2⟩⟩
theorem parts_two {m : List (Pt Int)} {a b c : Int} (hm : CanP m) (h1 : 0 ≤ a) (h2 : a < b) (h3 : b < c) : setAllF [] (partsP a b m ++ partsP b c m) = partsP a c m := by
  have hd : Dis (partsP a b m ++ partsP b c m) := by
    refine ⟨fun x hx => ?_, ?_⟩
    · rcases List.mem_append.1 hx with hx | hx
      · exact (partsP_can hm).val x hx
      · exact (partsP_can hm).val x hx
    · rw [List.pairwise_append]
      refine ⟨(partsP_can hm).dis.sep, (partsP_can hm).dis.sep, fun x hx y hy => ?_⟩
      obtain ⟨p, _, hx⟩ := List.mem_flatMap.1 hx
      obtain ⟨q, _, hy⟩ := List.mem_flatMap.1 hy
      have := (meetP_mem hx).2.2.2.2.1
      have := (meetP_mem hy).2.2.2.1
      omega
  refine CanP.uniq ?_ (partsP_can hm) fun n u => ?_
  · exact (setAllF_good (B := 0) (l := []) GoodP.nil okQ.nil).can |> fun _ => by
      have : ∀ (l m : List (Pt Int)), CanP m → CanP (setAllF m l) := by
        intro l
        induction l with
        | nil => intro m h; exact h
        | cons q l ih => intro m h; exact ih _ (setF_can h)
      exact this _ _ CanP.nil
  · rw [setAllF_at hd CanP.nil, atP_append, partsP_at hm.dis, partsP_at hm.dis, partsP_at hm.dis, hasS_iff, hasS_iff, hasS_iff]
    constructor
    · rintro ((⟨h, h4⟩ | ⟨h, h4⟩) | ⟨_, h⟩)
      · exact ⟨h, by omega⟩
      · exact ⟨h, by omega⟩
      · exact absurd h atP_nil
    · rintro ⟨h, h4⟩
      left
      by_cases hn : n < b
      · exact .inl ⟨h, by omega⟩
      · exact .inr ⟨h, by omega⟩
theorem partsP_in {m : List (Pt Int)} {a c : Int} {x : Pt Int} (hx : x ∈ partsP a c m) : a ≤ x.1 ∧ x.2.1 ≤ c := by
  obtain ⟨p, _, hx⟩ := List.mem_flatMap.1 hx
  exact ⟨(meetP_mem hx).2.2.2.1, (meetP_mem hx).2.2.2.2.1⟩
end Go.Proofs.Ytiokkoeciijkoaa
