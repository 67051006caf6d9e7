/- Modes: Raise, asked, Needs as plain functions, told by what each block has. -/
import Derived.Test.YtiokkoeciijkoaaGreatPartG
namespace Go.Proofs.YtiokkoeciijkoaaGreat
set_option linter.unusedVariables false
set_option linter.unusedSimpArgs false

def modeB (m : Int) : Bool := decide (0 ≤ m) && decide (m ≤ 2)
def fitB (a b : Int) : Bool := modeB a && (modeB b && (a == 0 || (b == 0 || (a == 1 && b == 1))))
def coversB (a b : Int) : Bool := modeB a && (modeB b && decide (b ≤ a))
theorem modeB_iff {m : Int} : modeB m = true ↔ 0 ≤ m ∧ m ≤ 2 := by simp [modeB]
theorem coversB_iff {a b : Int} : coversB a b = true ↔ (0 ≤ a ∧ a ≤ 2) ∧ (0 ≤ b ∧ b ≤ 2) ∧ b ≤ a := by simp [coversB, modeB]

/-- each block of a range has the greater mode of two -/
def raiseF (s0 s1 v : Int) (m : List (Pt Int)) : List (Pt Int) := setsF (fun u => max u v) (partsP s0 s1 m) (setF s0 s1 v m)
theorem raiseF_can {s0 s1 v : Int} {m : List (Pt Int)} (hm : CanP m) : CanP (raiseF s0 s1 v m) := setsF_can (setF_can hm)
theorem raiseF_inL {L : List Int} {s0 s1 v : Int} {m : List (Pt Int)} (hm : CanP m) (h : InL L m) (h0 : s0 ∈ L) (h1 : s1 ∈ L) : InL L (raiseF s0 s1 v m) :=
  setsF_inL (setF_can hm) (setF_inL hm h h0 h1) (partsP_inL h h0 h1)
theorem getP_raise {s0 s1 v n : Int} {m : List (Pt Int)} (hm : CanP m) : getP n (raiseF s0 s1 v m) = if hasS s0 s1 n = true then some (match getP n m with | some u => max u v | none => v) else getP n m := by
  unfold raiseF
  rw [getP_sets (partsP_can hm).dis (setF_can hm), getP_parts hm, getP_set hm]
  by_cases h : hasS s0 s1 n = true
  · rw [if_pos h, if_pos h, if_pos h]
    cases getP n m <;> rfl
  · rw [if_neg h, if_neg h, if_neg h]

/-- shared or exclusive -/
def asks (v : Int) : Bool := v == 1 || v == 2
def askStep (m : List (Pt Int)) (x : Pt Int) : List (Pt Int) := if asks x.2.2 = true then raiseF x.1 x.2.1 x.2.2 m else m
def askedF (l : List (Pt Int)) : List (Pt Int) := l.foldl askStep []
theorem askedF_take {l : List (Pt Int)} {k : Nat} (h : k < l.length) : askedF (l.take (k + 1)) = askStep (askedF (l.take k)) l[k] := by
  unfold askedF; rw [List.take_succ_eq_append_getElem h, List.foldl_append]; rfl
theorem askedF_snoc (l : List (Pt Int)) (x : Pt Int) : askedF (l ++ [x]) = askStep (askedF l) x := by unfold askedF; rw [List.foldl_append]; rfl
/-- what the locks ask for of a block: 0: nothing -/
def askW (n : Int) : List (Pt Int) → Int
  | [] => 0
  | x :: l => max (if asks x.2.2 = true ∧ hasS x.1 x.2.1 n = true then x.2.2 else 0) (askW n l)
theorem askW_nonneg (n : Int) : ∀ l, 0 ≤ askW n l
  | [] => Int.le_refl _
  | x :: l => by have := askW_nonneg n l; unfold askW; omega
theorem askW_le (n : Int) : ∀ l, askW n l ≤ 2
  | [] => by unfold askW; omega
  | x :: l => by
    have := askW_le n l
    unfold askW
    split
    · rename_i h; have := h.1; simp [asks] at this; omega
    · omega
theorem askW_append (n : Int) : ∀ a b, askW n (a ++ b) = max (askW n a) (askW n b)
  | [], b => by have := askW_nonneg n b; show askW n b = max 0 _; omega
  | x :: a, b => by
    show max _ (askW n (a ++ b)) = max (max _ _) _
    rw [askW_append n a b]; omega
theorem askW_reverse (n : Int) : ∀ l, askW n l.reverse = askW n l
  | [] => rfl
  | x :: l => by
    rw [List.reverse_cons, askW_append, askW_reverse n l]
    show max _ (max _ 0) = max _ _
    have : 0 ≤ (if asks x.2.2 = true ∧ hasS x.1 x.2.1 n = true then x.2.2 else 0) := by
      split
      · rename_i h; have := h.1; simp [asks] at this; omega
      · omega
    omega
theorem snoc_ind {α : Type} {P : List α → Prop} (h0 : P []) (h1 : ∀ l x, P l → P (l ++ [x])) (l : List α) : P l := by
  have : ∀ r : List α, P r.reverse := by
    intro r
    induction r with
    | nil => exact h0
    | cons x r ih => rw [List.reverse_cons]; exact h1 _ _ ih
  rw [← List.reverse_reverse l]; exact this _
theorem askStep_can {m : List (Pt Int)} {x : Pt Int} (hm : CanP m) : CanP (askStep m x) := by
  unfold askStep; split
  · exact raiseF_can hm
  · exact hm
theorem askedF_can (l : List (Pt Int)) : CanP (askedF l) := by
  refine snoc_ind (P := fun l => CanP (askedF l)) CanP.nil (fun l x h => ?_) l
  rw [askedF_snoc]; exact askStep_can h
theorem getP_asked (n : Int) (l : List (Pt Int)) : getP n (askedF l) = if askW n l = 0 then none else some (askW n l) := by
  refine snoc_ind (P := fun l => getP n (askedF l) = if askW n l = 0 then none else some (askW n l)) rfl (fun l x ih => ?_) l
  rw [askedF_snoc, askW_append]
  have h0 := askW_nonneg n l
  generalize hc : (if asks x.2.2 = true ∧ hasS x.1 x.2.1 n = true then x.2.2 else 0) = c
  have e : askW n [x] = max c 0 := by rw [← hc]; rfl
  rw [e]
  clear e
  unfold askStep
  by_cases ha : asks x.2.2 = true
  · have hv : x.2.2 = 1 ∨ x.2.2 = 2 := by simpa [asks] using ha
    rw [if_pos ha, getP_raise (askedF_can l), ih]
    by_cases hn : hasS x.1 x.2.1 n = true
    · rw [if_pos ⟨ha, hn⟩] at hc
      rw [if_pos hn, ← hc, if_neg (show ¬ max (askW n l) (max x.2.2 0) = 0 by omega)]
      by_cases hz : askW n l = 0
      · rw [if_pos hz]; show some x.2.2 = _; congr 1; omega
      · rw [if_neg hz]; show some (max (askW n l) x.2.2) = _; congr 1; omega
    · rw [if_neg (by simp [hn])] at hc
      rw [if_neg hn, ← hc]
      rw [show max (askW n l) (max 0 0) = askW n l by omega]
  · rw [if_neg (by simp [ha])] at hc
    rw [if_neg ha, ih, ← hc]
    rw [show max (askW n l) (max 0 0) = askW n l by omega]
theorem asked_uniq {a b : List (Pt Int)} (h : ∀ n, askW n a = askW n b) : askedF a = askedF b :=
  CanP.uniqG (askedF_can a) (askedF_can b) fun n => by rw [getP_asked, getP_asked, h n]
theorem asked_val (l : List (Pt Int)) : ∀ x ∈ askedF l, x.2.2 = 1 ∨ x.2.2 = 2 := val_of_get (Q := fun v => v = 1 ∨ v = 2) (askedF_can l) fun n u h => by
  rw [getP_asked] at h
  have h1 := askW_nonneg n l
  have h2 := askW_le n l
  split at h
  · cases h
  · injection h with h; omega
/-- all ends of a list of locks -/
def endsL {α : Type} (l : List (Pt α)) : List Int := l.flatMap fun x => [x.1, x.2.1]
theorem endsL_len {α : Type} (l : List (Pt α)) : (endsL l).length = 2 * l.length := by
  unfold endsL
  induction l with
  | nil => rfl
  | cons x l ih => rw [List.flatMap_cons, List.length_append, ih, List.length_cons]; simp; omega
theorem endsL_mem {α : Type} {l : List (Pt α)} {x : Pt α} (h : x ∈ l) : x.1 ∈ endsL l ∧ x.2.1 ∈ endsL l :=
  ⟨List.mem_flatMap.2 ⟨x, h, by simp⟩, List.mem_flatMap.2 ⟨x, h, by simp⟩⟩
theorem askedF_inL {L : List Int} {l : List (Pt Int)} (h : InL L l) : InL L (askedF l) := by
  revert h
  refine snoc_ind (P := fun l => InL L l → InL L (askedF l)) (fun _ => InL.nil) (fun l x ih h => ?_) l
  rw [askedF_snoc]
  have h1 := ih fun y hy => h y (List.mem_append_left _ hy)
  have hx := h x (List.mem_append_right _ (List.mem_singleton_self _))
  unfold askStep; split
  · exact raiseF_inL (askedF_can l) h1 hx.1 hx.2
  · exact h1
theorem askedF_len (l : List (Pt Int)) : (askedF l).length ≤ 2 * l.length := by
  have := (askedF_inL (L := endsL l) (l := l) fun x hx => endsL_mem hx).len (askedF_can l)
  rw [endsL_len] at this; exact this
theorem InL.i64 {α : Type} {L : List Int} {xs : List (Pt α)} (h : InL L xs) (hL : ∀ z ∈ L, I64 z) : ∀ x ∈ xs, I64 x.1 ∧ I64 x.2.1 := fun x hx => ⟨hL _ (h x hx).1, hL _ (h x hx).2⟩
theorem endsL_i64 {l : List (Pt Int)} (h : ∀ x ∈ l, I64 x.1 ∧ I64 x.2.1) : ∀ z ∈ endsL l, I64 z := by
  intro z hz
  obtain ⟨x, hx, hz⟩ := List.mem_flatMap.1 hz
  simp at hz
  rcases hz with rfl | rfl
  · exact (h x hx).1
  · exact (h x hx).2

/-- the inner loop of Needs: what is held of one lock is taken away -/
def needIn (k : Int) (Q a : List (Pt Int)) : List (Pt Int) := Q.foldl (fun a p => if coversB p.2.2 k = true then clearF p.1 p.2.1 a else a) a
theorem needIn_take {k : Int} {Q a : List (Pt Int)} {j : Nat} (h : j < Q.length) : needIn k (Q.take (j + 1)) a = if coversB Q[j].2.2 k = true then clearF Q[j].1 Q[j].2.1 (needIn k (Q.take j) a) else needIn k (Q.take j) a := by
  unfold needIn; rw [List.take_succ_eq_append_getElem h, List.foldl_append]; rfl
theorem needIn_can {k : Int} : ∀ {Q a : List (Pt Int)}, CanP a → CanP (needIn k Q a)
  | [], _, h => h
  | q :: Q, a, h => by
    show CanP (needIn k Q (if coversB q.2.2 k = true then clearF q.1 q.2.1 a else a))
    refine needIn_can ?_
    split
    · exact clearF_can h
    · exact h
theorem needIn_inL {L : List Int} {k : Int} : ∀ {Q a : List (Pt Int)}, CanP a → InL L a → InL L Q → InL L (needIn k Q a)
  | [], _, _, h, _ => h
  | q :: Q, a, hc, h, hQ => by
    have hq := hQ q (List.mem_cons_self ..)
    have hQ' : InL L Q := fun x hx => hQ x (List.mem_cons_of_mem _ hx)
    show InL L (needIn k Q (if coversB q.2.2 k = true then clearF q.1 q.2.1 a else a))
    split
    · exact needIn_inL (clearF_can hc) (clearF_inL hc h hq.1 hq.2) hQ'
    · exact needIn_inL hc h hQ'
theorem getP_needIn {k n : Int} : ∀ {Q a : List (Pt Int)}, Dis Q → CanP a → getP n (needIn k Q a) = match getP n Q with | some h => (if coversB h k = true then none else getP n a) | none => getP n a
  | [], a, _, _ => rfl
  | q :: Q, a, hd, hc => by
    show getP n (needIn k Q (if coversB q.2.2 k = true then clearF q.1 q.2.1 a else a)) = _
    have hc' : CanP (if coversB q.2.2 k = true then clearF q.1 q.2.1 a else a) := by
      split
      · exact clearF_can hc
      · exact hc
    rw [getP_needIn hd.tail hc', getP_cons]
    by_cases hn : hasS q.1 q.2.1 n = true
    · rw [if_pos hn, hd.only hn]
      show getP n (if _ then _ else _) = if _ then _ else _
      by_cases hk : coversB q.2.2 k = true
      · rw [if_pos hk, if_pos hk, getP_clear hc, if_pos hn]
      · rw [if_neg hk, if_neg hk]
    · rw [if_neg hn]
      have e : getP n (if coversB q.2.2 k = true then clearF q.1 q.2.1 a else a) = getP n a := by
        split
        · rw [getP_clear hc, if_neg hn]
        · rfl
      rw [e]
/-- Needs, from a list of parts on -/
def needFrom (held P a : List (Pt Int)) : List (Pt Int) := P.foldl (fun a x => needIn x.2.2 (partsP x.1 x.2.1 held) a) a
theorem needFrom_take {held P a : List (Pt Int)} {j : Nat} (h : j < P.length) : needFrom held (P.take (j + 1)) a = needIn P[j].2.2 (partsP P[j].1 P[j].2.1 held) (needFrom held (P.take j) a) := by
  unfold needFrom; rw [List.take_succ_eq_append_getElem h, List.foldl_append]; rfl
theorem needFrom_can {held : List (Pt Int)} : ∀ {P a : List (Pt Int)}, CanP a → CanP (needFrom held P a)
  | [], _, h => h
  | q :: P, a, h => needFrom_can (P := P) (needIn_can h)
theorem needFrom_inL {L : List Int} {held : List (Pt Int)} (hh : InL L held) : ∀ {P a : List (Pt Int)}, CanP a → InL L a → InL L P → InL L (needFrom held P a)
  | [], _, _, h, _ => h
  | q :: P, a, hc, h, hP => by
    have hq := hP q (List.mem_cons_self ..)
    exact needFrom_inL hh (P := P) (needIn_can hc) (needIn_inL hc h (partsP_inL hh hq.1 hq.2)) fun x hx => hP x (List.mem_cons_of_mem _ hx)
theorem getP_needFrom {held : List (Pt Int)} (hh : CanP held) {n : Int} : ∀ {P a : List (Pt Int)}, Dis P → CanP a →
    getP n (needFrom held P a) = match getP n P with | some k => (match getP n held with | some h => (if coversB h k = true then none else getP n a) | none => getP n a) | none => getP n a
  | [], a, _, _ => rfl
  | q :: P, a, hd, hc => by
    show getP n (needFrom held P (needIn q.2.2 (partsP q.1 q.2.1 held) a)) = _
    rw [getP_needFrom hh hd.tail (needIn_can hc), getP_cons, getP_needIn (partsP_can hh).dis hc, getP_parts hh]
    by_cases hn : hasS q.1 q.2.1 n = true
    · rw [if_pos hn, if_pos hn, hd.only hn]
    · rw [if_neg hn, if_neg hn]
def needsF (held l : List (Pt Int)) : List (Pt Int) := needFrom held (askedF l) (askedF l)
theorem needsF_can (held l : List (Pt Int)) : CanP (needsF held l) := needFrom_can (askedF_can l)
theorem getP_needs {held l : List (Pt Int)} (hh : CanP held) {n : Int} : getP n (needsF held l) = match getP n (askedF l) with | some k => (match getP n held with | some h => (if coversB h k = true then none else some k) | none => some k) | none => none := by
  unfold needsF
  rw [getP_needFrom hh (askedF_can l).dis (askedF_can l)]
  cases getP n (askedF l) with
  | none => rfl
  | some k => cases getP n held <;> rfl
theorem needsF_nil (l : List (Pt Int)) : needsF [] l = askedF l :=
  CanP.uniqG (needsF_can _ _) (askedF_can l) fun n => by
    rw [getP_needs CanP.nil]
    cases getP n (askedF l) <;> rfl
theorem needsF_inL {L : List Int} {held l : List (Pt Int)} (hh : InL L held) (hl : InL L l) : InL L (needsF held l) :=
  needFrom_inL hh (askedF_can l) (askedF_inL hl) (askedF_inL hl)
end Go.Proofs.YtiokkoeciijkoaaGreat
