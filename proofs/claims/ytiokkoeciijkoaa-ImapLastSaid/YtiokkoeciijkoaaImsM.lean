/- imap, of texts: Set and Clear answer as the plain functions setF and clearF say; the reference's Valid. -/
import Derived.Test.YtiokkoeciijkoaaImsG
import Derived.Test.YtiokkoeciijkoaaImapM
import Derived.Test.YtiokkoeciijkoaaOps7
import Derived.Laws.BytesArg
namespace Go.Proofs.Ytiokkoeciijkoaa
set_option linter.unusedVariables false
set_option linter.unusedSimpArgs false
open Go.RowKit

theorem SetTos.eqF {s0 s1 : Int} {v : ByteArray} {xs ys : List (Pt ByteArray)} (h : SetTos s0 s1 v xs ys) (hx : Dis xs) : ys = setF s0 s1 v xs := by
  cases hv : vld s0 s1 with
  | true => unfold setF; rw [if_pos hv]; exact (h.yes hv).eqF (withoutP_apart (s := (s0, s1)) (vld_iff.1 hv) hx v)
  | false => rw [setF_no hv]; exact h.no hv
theorem ClearTos.eqF {s0 s1 : Int} {xs ys : List (Pt ByteArray)} (h : ClearTos s0 s1 xs ys) (hx : Dis xs) : ys = clearF s0 s1 xs := by
  cases hv : vld s0 s1 with
  | true => unfold clearF; rw [if_pos hv]; exact (h.yes hv).eqF (withoutP_dis (s := (s0, s1)) (vld_iff.1 hv) hx).apart
  | false => rw [clearF_no hv]; exact h.no hv
theorem fsSet_c {F : Nat → Prop} (p : Nat) (xs : List (Pt ByteArray)) (s0 s1 : Int) (v : ByteArray) (w : World) (h : IMs F w p xs) (hF : ∀ k, F k → k < w.heap.size) (hc : CanP xs) (hl : xs.length ≤ 50000000) :
    Calls Try.prog 40 #[ptr p, spV s0 s1, .string v] w fun e w' => e = .returned (.bool (vld s0 s1)) ∧ IMs F w' p (setF s0 s1 v xs) ∧ BelX p w.heap.size w w' :=
  (isSet_c p xs s0 s1 v w h hF hc.dis hl).mono fun e w' ⟨h1, ⟨ys, h2, h3⟩, h4⟩ => ⟨h1, by rw [← h3.eqF hc.dis]; exact h2, h4⟩
theorem fsClear_c {F : Nat → Prop} (p : Nat) (xs : List (Pt ByteArray)) (s0 s1 : Int) (w : World) (h : IMs F w p xs) (hF : ∀ k, F k → k < w.heap.size) (hc : CanP xs) (hl : xs.length ≤ 50000000) :
    Calls Try.prog 39 #[ptr p, spV s0 s1] w fun e w' => e = .returned (.bool (vld s0 s1)) ∧ IMs F w' p (clearF s0 s1 xs) ∧ BelX p w.heap.size w w' :=
  (isClear_c p xs s0 s1 w h hF hc.dis hl).mono fun e w' ⟨h1, ⟨ys, h2, h3⟩, h4⟩ => ⟨h1, by rw [← h3.eqF hc.dis]; exact h2, h4⟩

set_option maxHeartbeats 400000 in
theorem rValid_c (a b : Int) (w : World) :
    Calls Try.prog 38 #[spV a b] w fun e w' => e = .returned (.bool (vld a b)) ∧ Below w.heap.size w w' := by
  by_cases h : 0 ≤ a
  all_goals
    go_enter Try.func38, Try.ntmps38
    go_wp2
    go_ret
    exact ⟨by simp [vld]; omega, (Below.refl _ _).alloc (Nat.le_refl _) _⟩

theorem conv1 (W : World) (z : Int) : (convert 46 9 (.slice (some ⟨W.heap.size, 0, none⟩) 1 1)).run Try.prog (W.alloc (.cells #[.int .u8 z] 5)) = .ok (.string (strOfNums [z])) (W.alloc (.cells #[.int .u8 z] 5)) :=
  run_convert_bytes_arg _ 46 5 (by kernel_rfl) (by kernel_rfl) W.heap.size 0 1 1 [z] rfl (fun i hi => by
    have : i = 0 := by omega
    subst this
    simp) 9 (by kernel_rfl)
/-- one step of ImapLast: str tells the text of a step -/
def strO (o : Op7) : ByteArray := strOfNums [o.2.1 % 256]
def lastOp (m : List (Pt ByteArray)) (o : Op7) : List (Pt ByteArray) := if o.1 = 2 then clearF o.2.2.2.1 o.2.2.2.2 m else setF o.2.2.2.1 o.2.2.2.2 (strO o) m
def lastF (l : List Op7) : List (Pt ByteArray) := l.foldl lastOp []
theorem lastF_take {l : List Op7} {k : Nat} (h : k < l.length) : lastF (l.take (k + 1)) = lastOp (lastF (l.take k)) l[k] := by
  unfold lastF; rw [List.take_succ_eq_append_getElem h, List.foldl_append]; rfl
def TrueQ (_ : ByteArray) : Prop := True
theorem lastF_good {l : List Op7} (h : ∀ x ∈ l, okO x) : GoodP TrueQ (2 * l.length) (lastF l) := by
  have key : ∀ (l : List Op7) (m : List (Pt ByteArray)) (B : Nat), (∀ x ∈ l, okO x) → GoodP TrueQ B m → GoodP TrueQ (B + 2 * l.length) (l.foldl lastOp m) := by
    intro l
    induction l with
    | nil => intro m B _ h; exact h
    | cons o l ih =>
      intro m B h1 h2
      obtain ⟨_, _, _, h3, h4⟩ := h1 o (List.mem_cons_self ..)
      have : GoodP TrueQ (B + 2) (lastOp m o) := by
        unfold lastOp; split
        · exact h2.clear h3 h4
        · exact h2.set h3 h4 trivial
      exact (ih _ _ (fun x hx => h1 x (List.mem_cons_of_mem _ hx)) this).mono (by rw [List.length_cons]; omega)
  exact (key l [] 0 h GoodP.nil).mono (by omega)
theorem getP_set {α : Type} [DecidableEq α] {m : List (Pt α)} (hm : CanP m) {s0 s1 n : Int} {v : α} : getP n (setF s0 s1 v m) = if hasS s0 s1 n = true then some v else getP n m := by
  split
  · rename_i h; rw [getP_at (setF_can hm).dis, setF_at hm]; exact .inl ⟨h, rfl⟩
  · rename_i h
    cases hg : getP n m with
    | some u => rw [getP_at hm.dis] at hg; rw [getP_at (setF_can hm).dis, setF_at hm]; exact .inr ⟨h, hg⟩
    | none =>
      cases hs : getP n (setF s0 s1 v m) with
      | none => rfl
      | some u =>
        rw [getP_at (setF_can hm).dis, setF_at hm] at hs
        rcases hs with ⟨h1, _⟩ | ⟨_, h1⟩
        · exact absurd h1 h
        · rw [← getP_at hm.dis, hg] at h1; cases h1
theorem getP_clear {α : Type} [DecidableEq α] {m : List (Pt α)} (hm : CanP m) {s0 s1 n : Int} : getP n (clearF s0 s1 m) = if hasS s0 s1 n = true then none else getP n m := by
  split
  · rename_i h
    cases hs : getP n (clearF s0 s1 m) with
    | none => rfl
    | some u => rw [getP_at (clearF_can hm).dis, clearF_at hm] at hs; exact absurd h hs.1
  · rename_i h
    cases hg : getP n m with
    | some u => rw [getP_at hm.dis] at hg; rw [getP_at (clearF_can hm).dis, clearF_at hm]; exact ⟨h, hg⟩
    | none =>
      cases hs : getP n (clearF s0 s1 m) with
      | none => rfl
      | some u =>
        rw [getP_at (clearF_can hm).dis, clearF_at hm] at hs
        rw [← getP_at hm.dis, hg] at hs; cases hs.2
end Go.Proofs.Ytiokkoeciijkoaa
