/- Set and Clear as plain functions on lists of ranges that have values. -/
import Derived.Test.YtiokkoeciijkoaaGreatPartM
namespace Go.Proofs.YtiokkoeciijkoaaGreat
set_option linter.unusedVariables false
set_option linter.unusedSimpArgs false

section
variable {α : Type} [DecidableEq α]
omit [DecidableEq α] in
theorem LayOf.lenL {zs ys : List (Pt α)} (h : LayOf zs ys) {L : List Int} (hL : ∀ z ∈ zs, z.1 ∈ L) : ys.length ≤ L.length := by
  have := rise_len (ys.map fun x => x.1) L h.can.rise (by
    intro x hx
    obtain ⟨y, hy, rfl⟩ := List.mem_map.1 hx
    obtain ⟨d, hd, e, _⟩ := h.froms y hy
    rw [← e]; exact hL d hd)
  simpa using this
omit [DecidableEq α] in
theorem withoutP_fromsG {s0 s1 : Int} {xs : List (Pt α)} (hs : 0 ≤ s0 ∧ s0 < s1) (hd : Dis xs) : ∀ z ∈ withoutP (s0, s1) xs, z.1 ∈ xs.map (fun x => x.1) ++ [s1] := by
  intro x hx
  obtain ⟨p, hp, hx⟩ := List.mem_flatMap.1 hx
  obtain ⟨_, _, _, _, _, h6, _⟩ := cut1_mem (s := (s0, s1)) hs (hd.val p hp) hx
  rcases h6 with e | e
  · exact List.mem_append_left _ (List.mem_map.2 ⟨p, hp, e.symm⟩)
  · exact List.mem_append_right _ (by rw [e]; exact List.mem_singleton_self _)

/-- insertion by the start -/
def insP (x : Pt α) : List (Pt α) → List (Pt α)
  | [] => [x]
  | y :: l => if x.1 ≤ y.1 then x :: y :: l else y :: insP x l
def sortP (l : List (Pt α)) : List (Pt α) := l.foldr insP []
omit [DecidableEq α] in
theorem insP_perm (x : Pt α) : ∀ l, (insP x l).Perm (x :: l)
  | [] => List.Perm.refl _
  | y :: l => by
    unfold insP
    split
    · exact List.Perm.refl _
    · exact ((insP_perm x l).cons y).trans (List.Perm.swap x y l)
omit [DecidableEq α] in
theorem insP_sorted (x : Pt α) : ∀ l : List (Pt α), l.Pairwise (fun a b => a.1 ≤ b.1) → (insP x l).Pairwise (fun a b => a.1 ≤ b.1)
  | [], _ => List.pairwise_singleton _ _
  | y :: l, h => by
    unfold insP
    split
    · rename_i hxy
      refine List.pairwise_cons.2 ⟨fun z hz => ?_, h⟩
      rcases List.mem_cons.1 hz with rfl | hz
      · exact hxy
      · have := (List.pairwise_cons.1 h).1 z hz; omega
    · rename_i hxy
      refine List.pairwise_cons.2 ⟨fun z hz => ?_, insP_sorted x l h.of_cons⟩
      rcases List.mem_cons.1 ((insP_perm x l).mem_iff.1 hz) with rfl | hz
      · omega
      · exact (List.pairwise_cons.1 h).1 z hz
omit [DecidableEq α] in
theorem sortP_perm : ∀ l : List (Pt α), (sortP l).Perm l
  | [] => List.Perm.refl _
  | x :: l => by unfold sortP; rw [List.foldr_cons]; exact (insP_perm x _).trans ((sortP_perm l).cons x)
omit [DecidableEq α] in
theorem sortP_sorted : ∀ l : List (Pt α), (sortP l).Pairwise (fun a b => a.1 ≤ b.1)
  | [] => List.Pairwise.nil
  | x :: l => by unfold sortP; rw [List.foldr_cons]; exact insP_sorted x _ (sortP_sorted l)
/-- parts, laid -/
def layF (l : List (Pt α)) : List (Pt α) := (sortP l).foldl stepP []
theorem layF_of {l : List (Pt α)} (h : Apart l) : LayOf l (layF l) := LayOf.mk' h (sortP_perm l) (sortP_sorted l)
theorem LayOf.eqF {zs ys : List (Pt α)} (h : LayOf zs ys) (hz : Apart zs) : ys = layF zs := CanP.uniq h.can (layF_of hz).can fun n v => (h.at_ n v).trans ((layF_of hz).at_ n v).symm

def setF (s0 s1 : Int) (v : α) (xs : List (Pt α)) : List (Pt α) := if vld s0 s1 = true then layF (withoutP (s0, s1) xs ++ [(s0, s1, v)]) else xs
def clearF (s0 s1 : Int) (xs : List (Pt α)) : List (Pt α) := if vld s0 s1 = true then layF (withoutP (s0, s1) xs) else xs

variable {s0 s1 : Int} {v : α} {xs : List (Pt α)}
theorem setF_lay (hv : vld s0 s1 = true) (hx : Dis xs) : LayOf (withoutP (s0, s1) xs ++ [(s0, s1, v)]) (setF s0 s1 v xs) := by
  unfold setF; rw [if_pos hv]; exact layF_of (withoutP_apart (s := (s0, s1)) (vld_iff.1 hv) hx v)
theorem setF_no (hv : vld s0 s1 = false) : setF s0 s1 v xs = xs := by unfold setF; rw [if_neg (by simp [hv])]
theorem clearF_lay (hv : vld s0 s1 = true) (hx : Dis xs) : LayOf (withoutP (s0, s1) xs) (clearF s0 s1 xs) := by
  unfold clearF; rw [if_pos hv]; exact layF_of (withoutP_dis (s := (s0, s1)) (vld_iff.1 hv) hx).apart
theorem clearF_no (hv : vld s0 s1 = false) : clearF s0 s1 xs = xs := by unfold clearF; rw [if_neg (by simp [hv])]
theorem hasS_no {n : Int} (hv : vld s0 s1 = false) : ¬ hasS s0 s1 n = true := by intro hh; unfold hasS at hh; rw [hv] at hh; simp at hh

theorem setF_can (hx : CanP xs) : CanP (setF s0 s1 v xs) := by
  cases hv : vld s0 s1 with
  | true => exact (setF_lay hv hx.dis).can
  | false => rw [setF_no hv]; exact hx
theorem setF_at (hx : CanP xs) {n : Int} {u : α} : atP n u (setF s0 s1 v xs) ↔ (hasS s0 s1 n = true ∧ u = v) ∨ (¬ hasS s0 s1 n = true ∧ atP n u xs) := by
  cases hv : vld s0 s1 with
  | true =>
    rw [(setF_lay hv hx.dis).at_, atP_append, withoutP_at (s := (s0, s1)) (vld_iff.1 hv) hx.dis, atP_one]
    constructor
    · rintro (⟨h1, h2⟩ | ⟨h1, h2⟩)
      · exact .inr ⟨h2, h1⟩
      · exact .inl ⟨h1, h2.symm⟩
    · rintro (⟨h1, h2⟩ | ⟨h1, h2⟩)
      · exact .inr ⟨h1, h2.symm⟩
      · exact .inl ⟨h2, h1⟩
  | false => rw [setF_no hv]; simp [hasS_no hv]
theorem setF_len (hx : CanP xs) : (setF s0 s1 v xs).length ≤ xs.length + 2 := by
  cases hv : vld s0 s1 with
  | true =>
    have := (setF_lay (v := v) hv hx.dis).lenL (L := (xs.map (fun x => x.1) ++ [s1]) ++ [s0]) (by
      intro z hz
      rcases List.mem_append.1 hz with hz | hz
      · exact List.mem_append_left _ (withoutP_fromsG (vld_iff.1 hv) hx.dis z hz)
      · rw [List.mem_singleton.1 hz]; exact List.mem_append_right _ (List.mem_singleton_self _))
    simpa using this
  | false => rw [setF_no hv]; omega
theorem clearF_can (hx : CanP xs) : CanP (clearF s0 s1 xs) := by
  cases hv : vld s0 s1 with
  | true => exact (clearF_lay hv hx.dis).can
  | false => rw [clearF_no hv]; exact hx
theorem clearF_at (hx : CanP xs) {n : Int} {u : α} : atP n u (clearF s0 s1 xs) ↔ ¬ hasS s0 s1 n = true ∧ atP n u xs := by
  cases hv : vld s0 s1 with
  | true => rw [(clearF_lay hv hx.dis).at_, withoutP_at (s := (s0, s1)) (vld_iff.1 hv) hx.dis, and_comm]
  | false => rw [clearF_no hv]; simp [hasS_no hv]
theorem clearF_len (hx : CanP xs) : (clearF s0 s1 xs).length ≤ xs.length + 2 := by
  cases hv : vld s0 s1 with
  | true =>
    have := (clearF_lay hv hx.dis).lenL (L := xs.map (fun x => x.1) ++ [s1]) (withoutP_fromsG (vld_iff.1 hv) hx.dis)
    simp at this; omega
  | false => rw [clearF_no hv]; omega

/-- the ends are numbers of 64 bits, the values are as Q says -/
def okQ (Q : α → Prop) (l : List (Pt α)) : Prop := ∀ x ∈ l, I64 x.1 ∧ I64 x.2.1 ∧ Q x.2.2
omit [DecidableEq α] in
theorem okQ.nil {Q : α → Prop} : okQ Q ([] : List (Pt α)) := fun x hx => by cases hx
omit [DecidableEq α] in
theorem LayOf.okQ {Q : α → Prop} {zs ys : List (Pt α)} (h : LayOf zs ys) (hz : okQ Q zs) : okQ Q ys := by
  intro x hx
  obtain ⟨d, hd, e1, e2⟩ := h.froms x hx
  obtain ⟨d', hd', e3⟩ := h.tos x hx
  exact ⟨by rw [← e1]; exact (hz d hd).1, by rw [← e3]; exact (hz d' hd').2.1, by rw [← e2]; exact (hz d hd).2.2⟩
omit [DecidableEq α] in
theorem withoutP_okQ {Q : α → Prop} (hs : 0 ≤ s0 ∧ s0 < s1) (hd : Dis xs) (h : okQ Q xs) (hs1 : I64 s0 ∧ I64 s1) : okQ Q (withoutP (s0, s1) xs) := by
  intro x hx
  obtain ⟨p, hp, hx⟩ := List.mem_flatMap.1 hx
  obtain ⟨_, _, _, h4, _, h6, h7⟩ := cut1_mem (s := (s0, s1)) hs (hd.val p hp) hx
  have hk := h p hp
  refine ⟨?_, ?_, by rw [h4]; exact hk.2.2⟩
  · rcases h6 with e | e
    · rw [e]; exact hk.1
    · rw [e]; exact hs1.2
  · rcases h7 with e | e
    · rw [e]; exact hk.2.1
    · rw [e]; exact hs1.1
theorem setF_ok {Q : α → Prop} (hx : CanP xs) (hk : okQ Q xs) (h0 : I64 s0) (h1 : I64 s1) (hq : Q v) : okQ Q (setF s0 s1 v xs) := by
  cases hv : vld s0 s1 with
  | true =>
    refine (setF_lay hv hx.dis).okQ fun x hx1 => ?_
    rcases List.mem_append.1 hx1 with hx1 | hx1
    · exact withoutP_okQ (vld_iff.1 hv) hx.dis hk ⟨h0, h1⟩ x hx1
    · rw [List.mem_singleton.1 hx1]; exact ⟨h0, h1, hq⟩
  | false => rw [setF_no hv]; exact hk
theorem clearF_ok {Q : α → Prop} (hx : CanP xs) (hk : okQ Q xs) (h0 : I64 s0) (h1 : I64 s1) : okQ Q (clearF s0 s1 xs) := by
  cases hv : vld s0 s1 with
  | true => exact (clearF_lay hv hx.dis).okQ (withoutP_okQ (vld_iff.1 hv) hx.dis hk ⟨h0, h1⟩)
  | false => rw [clearF_no hv]; exact hk

/-- a list of parts as a map holds them: canonical, ends of 64 bits, at most B parts -/
structure GoodP (Q : α → Prop) (B : Nat) (xs : List (Pt α)) : Prop where
  can : CanP xs
  ok : okQ Q xs
  len : xs.length ≤ B
omit [DecidableEq α] in
theorem GoodP.nil {Q : α → Prop} {B : Nat} : GoodP Q B ([] : List (Pt α)) := ⟨CanP.nil, okQ.nil, Nat.zero_le _⟩
omit [DecidableEq α] in
theorem GoodP.mono {Q : α → Prop} {B B' : Nat} (h : GoodP Q B xs) (hB : B ≤ B') : GoodP Q B' xs := ⟨h.can, h.ok, Nat.le_trans h.len hB⟩
theorem GoodP.set {Q : α → Prop} {B : Nat} (h : GoodP Q B xs) (h0 : I64 s0) (h1 : I64 s1) (hq : Q v) : GoodP Q (B + 2) (setF s0 s1 v xs) :=
  ⟨setF_can h.can, setF_ok h.can h.ok h0 h1 hq, Nat.le_trans (setF_len h.can) (by have := h.len; omega)⟩
theorem GoodP.clear {Q : α → Prop} {B : Nat} (h : GoodP Q B xs) (h0 : I64 s0) (h1 : I64 s1) : GoodP Q (B + 2) (clearF s0 s1 xs) :=
  ⟨clearF_can h.can, clearF_ok h.can h.ok h0 h1, Nat.le_trans (clearF_len h.can) (by have := h.len; omega)⟩
end
end Go.Proofs.YtiokkoeciijkoaaGreat
