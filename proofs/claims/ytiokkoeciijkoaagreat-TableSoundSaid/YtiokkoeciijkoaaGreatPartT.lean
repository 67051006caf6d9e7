/- Tables of locks as plain functions. -/
import Derived.Test.YtiokkoeciijkoaaGreatPartN
namespace Go.Proofs.YtiokkoeciijkoaaGreat
set_option linter.unusedVariables false
set_option linter.unusedSimpArgs false
section
/-- a request: id, node, from, to, mode -/
abbrev Wt := Int × Int × Int × Int × Int
def encW (x : Wt) : List Value := [.int .i64 x.1, .int .i64 x.2.1, .int .i64 x.2.2.1, .int .i64 x.2.2.2.1, .int .i64 x.2.2.2.2]

/-- the first block that hinders, among parts that another node holds -/
def firstIn (m f : Int) (P : List (Pt Int)) : Int := P.foldl (fun f p => if fitB p.2.2 m = true then f else min f p.1) f
def firstHeld (held : Nat → List (Pt Int)) (n : Nat) (node s0 s1 m f : Int) : Int := (List.range n).foldl (fun (f : Int) (i : Nat) => if (i : Int) + 1 = node then f else firstIn m f (partsP s0 s1 (held (i + 1)))) f
def ahead1 (node s0 s1 m f : Int) (w : Wt) : Int := if meetB w.2.2.1 w.2.2.2.1 s0 s1 = true ∧ ¬ w.2.1 = node ∧ fitB w.2.2.2.2 m = false then min f (meetF w.2.2.1 w.2.2.2.1 s0 s1) else f
def firstAhead (node s0 s1 m f : Int) (A : List Wt) : Int := A.foldl (ahead1 node s0 s1 m) f
def hindF (held : Nat → List (Pt Int)) (n : Nat) (node s0 s1 m : Int) (A : List Wt) : Int := firstAhead node s0 s1 m (firstHeld held n node s0 s1 m s1) A
def claimW (w : Wt) (k : Int) : Wt := (w.1, w.2.1, w.2.2.1, k + 1, w.2.2.2.2)
def hindW (held : Nat → List (Pt Int)) (n : Nat) (w : Wt) (A : List Wt) : Int := hindF held n w.2.1 w.2.2.1 w.2.2.2.1 w.2.2.2.2 A
def claimStep (held : Nat → List (Pt Int)) (n : Nat) (A : List Wt) (w : Wt) : List Wt := if hindW held n w A < w.2.2.2.1 then A ++ [claimW w (hindW held n w A)] else A
def claimsF (held : Nat → List (Pt Int)) (n : Nat) (ws : List Wt) : List Wt := ws.foldl (claimStep held n) []
def freeF (held : Nat → List (Pt Int)) (n : Nat) (ws : List Wt) (node s0 s1 m : Int) : Bool := !decide (hindF held n node s0 s1 m (claimsF held n ws) < s1)
def shared (p : Pt Int) : Bool := p.2.2 == 1
def deadIn (held : Nat → List (Pt Int)) (node : Int) (w : Wt) (p : Pt Int) : Bool := meetB p.1 p.2.1 w.2.2.1 w.2.2.2.1 && (shared p && (partsP (meetF p.1 p.2.1 w.2.2.1 w.2.2.2.1) (meetT p.1 p.2.1 w.2.2.1 w.2.2.2.1) (held node.toNat)).any shared)
def deadW (held : Nat → List (Pt Int)) (node s0 s1 : Int) (w : Wt) : Bool := !(w.2.1 == node) && (w.2.2.2.2 == 2 && (partsP s0 s1 (held w.2.1.toNat)).any (deadIn held node w))
def deadF (held : Nat → List (Pt Int)) (ws : List Wt) (node s0 s1 m : Int) : Bool := m == 2 && ws.any (deadW held node s0 s1)
def fitsIn (m : Int) (P : List (Pt Int)) : Bool := P.all fun p => fitB p.2.2 m
def fitsF (held : Nat → List (Pt Int)) (n : Nat) (node s0 s1 m : Int) : Bool := (List.range n).all fun (i : Nat) => (i : Int) + 1 == node || fitsIn m (partsP s0 s1 (held (i + 1)))

def upd {α : Type} (f : Nat → α) (i : Nat) (x : α) : Nat → α := fun j => if j = i then x else f j
theorem upd_at {α : Type} (f : Nat → α) (i : Nat) (x : α) : upd f i x i = x := by simp [upd]
theorem upd_ne {α : Type} (f : Nat → α) {i j : Nat} (x : α) (h : j ≠ i) : upd f i x j = f j := by simp [upd, h]

structure Gs where
  held : Nat → List (Pt Int)
  left : List Wt
  cls : List Wt
  out : List Wt
def grantStep (n : Nat) (g : Gs) (w : Wt) : Gs :=
  if hindW g.held n w g.cls < w.2.2.2.1 then { g with left := g.left ++ [w], cls := g.cls ++ [claimW w (hindW g.held n w g.cls)] }
  else { g with held := upd g.held w.2.1.toNat (raiseF w.2.2.1 w.2.2.2.1 w.2.2.2.2 (g.held w.2.1.toNat)), out := g.out ++ [w] }
def grantF (n : Nat) (held : Nat → List (Pt Int)) (ws : List Wt) : Gs := ws.foldl (grantStep n) ⟨held, [], [], []⟩

structure Tb where
  n : Nat
  held : Nat → List (Pt Int)
  waits : List Wt
  last : Int
def Tb.grant (T : Tb) : Tb := { T with held := (grantF T.n T.held T.waits).held, waits := (grantF T.n T.held T.waits).left }
def Tb.granted (T : Tb) : List Wt := (grantF T.n T.held T.waits).out
def rightB (s0 s1 m : Int) : Bool := vld s0 s1 && (decide (s1 ≤ 4096) && asks m)
def isB (n : Nat) (node : Int) : Bool := decide (1 ≤ node) && decide (node ≤ n)
def Tb.has (T : Tb) (node s0 s1 m : Int) : Bool := decide ((needsF (T.held node.toNat) [(s0, s1, m)]).length = 0)
structure Ans where
  id : Int
  now : Bool
  err : Int
  tb : Tb
def Tb.ask (T : Tb) (node s0 s1 m : Int) : Ans :=
  if isB T.n node = false ∨ rightB s0 s1 m = false then ⟨0, false, 1, T⟩
  else if T.has node s0 s1 m = true then ⟨0, true, 0, T⟩
  else if freeF T.held T.n T.waits node s0 s1 m = true then ⟨0, true, 0, { T with held := upd T.held node.toNat (raiseF s0 s1 m (T.held node.toNat)) }⟩
  else if deadF T.held T.waits node s0 s1 m = true then ⟨0, false, 33, T⟩
  else if 1000 ≤ T.waits.length then ⟨0, false, 10, T⟩
  else ⟨T.last + 1, false, 0, { T with waits := T.waits ++ [(T.last + 1, node, s0, s1, m)], last := T.last + 1 }⟩
def lower1 (keep : Int) (m : List (Pt Int)) (p : Pt Int) : List (Pt Int) := if p.2.2 ≤ keep then m else if keep = 0 then clearF p.1 p.2.1 m else setF p.1 p.2.1 keep m
def lowerF (keep : Int) (P m : List (Pt Int)) : List (Pt Int) := P.foldl (lower1 keep) m
def relB (n : Nat) (node s0 s1 keep : Int) : Bool := isB n node && (vld s0 s1 && (keep == 0 || keep == 1))
def Tb.lowered (T : Tb) (node s0 s1 keep : Int) : Tb := { T with held := upd T.held node.toNat (lowerF keep (partsP s0 s1 (T.held node.toNat)) (T.held node.toNat)) }
def Tb.release (T : Tb) (node s0 s1 keep : Int) : Tb := if relB T.n node s0 s1 keep = true then (T.lowered node s0 s1 keep).grant else T
def Tb.mode (T : Tb) (node block : Int) : Int := if isB T.n node = true then (getP block (T.held node.toNat)).getD 0 else 0
def Tb.holds (T : Tb) (node : Int) : List (Pt Int) := if isB T.n node = true then T.held node.toNat else []
def Tb.sound (T : Tb) : Bool := (List.range T.n).all fun (i : Nat) => (T.held (i + 1)).all fun l => fitsF T.held T.n ((i : Int) + 1) l.1 l.2.1 l.2.2

def keepsF (a h : Int) : Int := if a = 1 ∧ h = 2 then 1 else 0
/-- what a node is to let go for a request: m so far, then one part more -/
def revIn (keep : Int) (Q m : List (Pt Int)) : List (Pt Int) := Q.foldl (fun m q => if q.2.2 ≤ keep + 1 then clearF q.1 q.2.1 m else m) m
def rev1 (told : List (Pt Int)) (lm : Int) (m : List (Pt Int)) (p : Pt Int) : List (Pt Int) :=
  if fitB p.2.2 lm = true then m else revIn (keepsF lm p.2.2) (partsP p.1 p.2.1 told) (setF p.1 p.2.1 (keepsF lm p.2.2) m)
def revokedF (held told : List (Pt Int)) (s0 s1 lm : Int) : List (Pt Int) := (partsP s0 s1 held).foldl (rev1 told lm) []
/-- what Revokes has told so far -/
structure Rs where
  out : List (Int × Int × Int × Int)
  told : Nat → List (Pt Int)
def tell1 (node : Int) (r : Rs) (l : Pt Int) : Rs := ⟨r.out ++ [(node, l.1, l.2.1, l.2.2)], upd r.told node.toNat (setF l.1 l.2.1 (l.2.2 + 1) (r.told node.toNat))⟩
def tellNode (held : Nat → List (Pt Int)) (w : Wt) (r : Rs) (i : Nat) : Rs := if (i : Int) + 1 = w.2.1 then r else (revokedF (held (i + 1)) (r.told (i + 1)) w.2.2.1 w.2.2.2.1 w.2.2.2.2).foldl (tell1 ((i : Int) + 1)) r
def tellW (held : Nat → List (Pt Int)) (n : Nat) (r : Rs) (w : Wt) : Rs := (List.range n).foldl (tellNode held w) r
def Tb.revokes (T : Tb) : List (Int × Int × Int × Int) := (T.waits.foldl (tellW T.held T.n) ⟨[], fun _ => []⟩).out

/-! ### what holds of a table's lists -/
structure HOk (l : List (Pt Int)) : Prop where
  can : CanP l
  val : ∀ n u, getP n l = some u → n < 4096 ∧ (u = 1 ∨ u = 2)
theorem HOk.nil : HOk [] := ⟨CanP.nil, fun n u h => by cases h⟩
theorem HOk.part {l : List (Pt Int)} (h : HOk l) : ∀ x ∈ l, 0 ≤ x.1 ∧ x.1 < x.2.1 ∧ x.2.1 ≤ 4096 ∧ (x.2.2 = 1 ∨ x.2.2 = 2) := by
  intro x hx
  have hv := h.can.val x hx
  have h1 := h.val (x.2.1 - 1) x.2.2 ((getP_at h.can.dis).2 ⟨x, hx, by rw [hasS_iff]; omega, rfl⟩)
  exact ⟨hv.1, hv.2, by omega, h1.2⟩
def upTo (n : Nat) : List Int := (List.range n).map fun i : Nat => (i : Int)
theorem upTo_len (n : Nat) : (upTo n).length = n := by simp [upTo]
theorem upTo_mem {n : Nat} {x : Int} (h0 : 0 ≤ x) (h : x < n) : x ∈ upTo n := List.mem_map.2 ⟨x.toNat, List.mem_range.2 (by omega), by omega⟩
theorem can_len {l : List (Pt Int)} (h : CanP l) (hb : ∀ x ∈ l, x.2.1 ≤ 4096) : l.length ≤ 4096 := by
  have := rise_len (l.map fun x => x.1) (upTo 4096) h.rise (by
    intro x hx
    obtain ⟨y, hy, rfl⟩ := List.mem_map.1 hx
    have h1 := h.val y hy
    have h2 := hb y hy
    exact upTo_mem h1.1 (by omega))
  rw [upTo_len] at this
  simpa using this
theorem HOk.len {l : List (Pt Int)} (h : HOk l) : l.length ≤ 4096 := can_len h.can fun x hx => (h.part x hx).2.2.1
theorem HOk.inL {l : List (Pt Int)} (h : HOk l) : InL (upTo 4097) l := fun x hx => by
  have := h.part x hx
  exact ⟨upTo_mem this.1 (by omega), upTo_mem (by omega) (by omega)⟩
theorem HOk.raise {l : List (Pt Int)} (h : HOk l) {s0 s1 v : Int} (h1 : s1 ≤ 4096) (hv : v = 1 ∨ v = 2) : HOk (raiseF s0 s1 v l) := by
  refine ⟨raiseF_can h.can, fun n u hg => ?_⟩
  rw [getP_raise h.can] at hg
  by_cases hn : hasS s0 s1 n = true
  · rw [if_pos hn] at hg
    rw [hasS_iff] at hn
    refine ⟨by omega, ?_⟩
    cases hq : getP n l with
    | none => rw [hq] at hg; simp only [Option.some.injEq] at hg; omega
    | some x => rw [hq] at hg; simp only [Option.some.injEq] at hg; have := (h.val n x hq).2; omega
  · rw [if_neg hn] at hg; exact h.val n u hg
theorem HOk.set {l : List (Pt Int)} (h : HOk l) {s0 s1 v : Int} (h1 : s1 ≤ 4096) (hv : v = 1 ∨ v = 2) : HOk (setF s0 s1 v l) := by
  refine ⟨setF_can h.can, fun n u hg => ?_⟩
  rw [getP_set h.can] at hg
  by_cases hn : hasS s0 s1 n = true
  · rw [if_pos hn] at hg
    rw [hasS_iff] at hn
    injection hg with hg
    exact ⟨by omega, by omega⟩
  · rw [if_neg hn] at hg; exact h.val n u hg
theorem HOk.clear {l : List (Pt Int)} (h : HOk l) {s0 s1 : Int} : HOk (clearF s0 s1 l) := by
  refine ⟨clearF_can h.can, fun n u hg => ?_⟩
  rw [getP_clear h.can] at hg
  by_cases hn : hasS s0 s1 n = true
  · rw [if_pos hn] at hg; cases hg
  · rw [if_neg hn] at hg; exact h.val n u hg
theorem HOk.lower {keep : Int} (hk : keep = 0 ∨ keep = 1) : ∀ {P l : List (Pt Int)}, HOk l → (∀ x ∈ P, x.2.1 ≤ 4096) → HOk (lowerF keep P l)
  | [], _, h, _ => h
  | p :: P, l, h, hP => by
    show HOk (lowerF keep P (lower1 keep l p))
    refine HOk.lower hk ?_ fun x hx => hP x (List.mem_cons_of_mem _ hx)
    unfold lower1
    split
    · exact h
    · split
      · exact h.clear
      · exact h.set (hP p (List.mem_cons_self ..)) (by omega)
theorem HOk.parts_to {l : List (Pt Int)} (h : HOk l) {s0 s1 : Int} : ∀ x ∈ partsP s0 s1 l, 0 ≤ x.1 ∧ x.1 < x.2.1 ∧ x.2.1 ≤ 4096 ∧ (x.2.2 = 1 ∨ x.2.2 = 2) := by
  intro x hx
  obtain ⟨y, hy, hx⟩ := List.mem_flatMap.1 hx
  have h1 := meetP_mem hx
  have h2 := h.part y hy
  exact ⟨h1.1.1, h1.1.2, by omega, by omega⟩
/-- a request that can be -/
structure WOk (n : Nat) (w : Wt) : Prop where
  node : 1 ≤ w.2.1 ∧ w.2.1 ≤ n
  span : 0 ≤ w.2.2.1 ∧ w.2.2.1 < w.2.2.2.1
  end_ : w.2.2.2.1 ≤ 4096
  mode : w.2.2.2.2 = 1 ∨ w.2.2.2.2 = 2
structure TOk (T : Tb) : Prop where
  n : 1 ≤ T.n ∧ T.n ≤ 16
  held : ∀ i, HOk (T.held i)
  waits : ∀ w ∈ T.waits, WOk T.n w
  len : T.waits.length ≤ 1000
  last : 0 ≤ T.last
end

section
theorem foldl_take {α β : Type} (g : β → α → β) (f : β) (l : List α) {k : Nat} (h : k < l.length) : (l.take (k + 1)).foldl g f = g ((l.take k).foldl g f) l[k] := by
  rw [List.take_succ_eq_append_getElem h, List.foldl_append]; rfl
theorem foldl_range {β : Type} (g : β → Nat → β) (f : β) (k : Nat) : (List.range (k + 1)).foldl g f = g ((List.range k).foldl g f) k := by
  rw [List.range_succ, List.foldl_append]; rfl
theorem firstHeld_0 (held : Nat → List (Pt Int)) (node s0 s1 m f : Int) : firstHeld held 0 node s0 s1 m f = f := rfl
theorem firstHeld_no (held : Nat → List (Pt Int)) (k : Nat) (node s0 s1 m f : Int) (h : (k : Int) + 1 = node) : firstHeld held (k + 1) node s0 s1 m f = firstHeld held k node s0 s1 m f := by
  unfold firstHeld; rw [foldl_range, if_pos h]
theorem firstHeld_at (held : Nat → List (Pt Int)) (k : Nat) (node s0 s1 m f : Int) (h : ¬ (k : Int) + 1 = node) : firstHeld held (k + 1) node s0 s1 m f = firstIn m (firstHeld held k node s0 s1 m f) (partsP s0 s1 (held (k + 1))) := by
  unfold firstHeld; rw [foldl_range, if_neg h]
theorem firstIn_take {m f : Int} {P : List (Pt Int)} {j : Nat} (h : j < P.length) : firstIn m f (P.take (j + 1)) = if fitB P[j].2.2 m = true then firstIn m f (P.take j) else min (firstIn m f (P.take j)) P[j].1 := by
  unfold firstIn; rw [foldl_take _ _ _ h]
theorem firstAhead_take {node s0 s1 m f : Int} {l : List Wt} {j : Nat} (h : j < l.length) : firstAhead node s0 s1 m f (l.take (j + 1)) = ahead1 node s0 s1 m (firstAhead node s0 s1 m f (l.take j)) l[j] := by
  unfold firstAhead; rw [foldl_take _ _ _ h]
theorem ahead_ways (node s0 s1 m f : Int) (w : Wt) : (meetB w.2.2.1 w.2.2.2.1 s0 s1 = false ∧ ahead1 node s0 s1 m f w = f) ∨ (meetB w.2.2.1 w.2.2.2.1 s0 s1 = true ∧ node = w.2.1 ∧ ahead1 node s0 s1 m f w = f) ∨ (meetB w.2.2.1 w.2.2.2.1 s0 s1 = true ∧ ¬ w.2.1 = node ∧ fitB w.2.2.2.2 m = true ∧ ahead1 node s0 s1 m f w = f) ∨ (meetB w.2.2.1 w.2.2.2.1 s0 s1 = true ∧ ¬ w.2.1 = node ∧ fitB w.2.2.2.2 m = false ∧ ahead1 node s0 s1 m f w = min f (meetF w.2.2.1 w.2.2.2.1 s0 s1)) := by
  unfold ahead1
  cases h1 : meetB w.2.2.1 w.2.2.2.1 s0 s1
  · exact .inl ⟨rfl, if_neg (by simp)⟩
  · refine .inr ?_
    by_cases h2 : w.2.1 = node
    · exact .inl ⟨rfl, h2.symm, if_neg (by simp [h2])⟩
    · refine .inr ?_
      cases h3 : fitB w.2.2.2.2 m
      · exact .inr ⟨rfl, h2, rfl, if_pos ⟨rfl, h2, rfl⟩⟩
      · exact .inl ⟨rfl, h2, rfl, if_neg (by simp)⟩

theorem firstIn_ge {m s0 : Int} : ∀ (P : List (Pt Int)) (f : Int), s0 ≤ f → (∀ x ∈ P, s0 ≤ x.1) → s0 ≤ firstIn m f P
  | [], f, h, _ => h
  | p :: P, f, h, hP => by
    show s0 ≤ firstIn m (if fitB p.2.2 m = true then f else min f p.1) P
    refine firstIn_ge P _ ?_ fun x hx => hP x (List.mem_cons_of_mem _ hx)
    have := hP p (List.mem_cons_self ..)
    split <;> omega
theorem firstHeld_ge {held : Nat → List (Pt Int)} {node s0 s1 m f : Int} (h : s0 ≤ f) : ∀ n, s0 ≤ firstHeld held n node s0 s1 m f
  | 0 => h
  | n + 1 => by
    have ih := firstHeld_ge (held := held) (node := node) (s1 := s1) (m := m) h n
    by_cases e : (n : Int) + 1 = node
    · rw [firstHeld_no _ _ _ _ _ _ _ e]; exact ih
    · rw [firstHeld_at _ _ _ _ _ _ _ e]
      refine firstIn_ge _ _ ih fun x hx => ?_
      obtain ⟨y, _, hx⟩ := List.mem_flatMap.1 hx
      exact (meetP_mem hx).2.2.2.1
theorem meetF_ge {a b c d : Int} (h : meetB a b c d = true) : c ≤ meetF a b c d := by unfold meetF; rw [if_pos h]; omega
theorem firstAhead_ge {node s0 s1 m : Int} : ∀ (A : List Wt) (f : Int), s0 ≤ f → s0 ≤ firstAhead node s0 s1 m f A
  | [], f, h => h
  | w :: A, f, h => by
    show s0 ≤ firstAhead node s0 s1 m (ahead1 node s0 s1 m f w) A
    refine firstAhead_ge A _ ?_
    rcases ahead_ways node s0 s1 m f w with ⟨_, h2⟩ | ⟨_, _, h2⟩ | ⟨_, _, _, h2⟩ | ⟨h1, _, _, h2⟩
    · rw [h2]; exact h
    · rw [h2]; exact h
    · rw [h2]; exact h
    · rw [h2]; have := meetF_ge h1; omega
theorem hindF_ge {held : Nat → List (Pt Int)} {n : Nat} {node s0 s1 m : Int} {A : List Wt} (h : s0 ≤ s1) : s0 ≤ hindF held n node s0 s1 m A := firstAhead_ge A _ (firstHeld_ge h n)
theorem claimsF_take {held : Nat → List (Pt Int)} {n : Nat} {ws : List Wt} {k : Nat} (h : k < ws.length) : claimsF held n (ws.take (k + 1)) = claimStep held n (claimsF held n (ws.take k)) ws[k] := by
  unfold claimsF; rw [foldl_take _ _ _ h]
theorem claimStep_len (held : Nat → List (Pt Int)) (n : Nat) (A : List Wt) (w : Wt) : (claimStep held n A w).length ≤ A.length + 1 := by
  unfold claimStep; split <;> simp
theorem claimsF_len (held : Nat → List (Pt Int)) (n : Nat) (ws : List Wt) : (claimsF held n ws).length ≤ ws.length := by
  suffices ∀ (ws A : List Wt), (ws.foldl (claimStep held n) A).length ≤ A.length + ws.length by unfold claimsF; simpa using this ws []
  intro ws
  induction ws with
  | nil => intro A; simp
  | cons w ws ih => intro A; have := ih (claimStep held n A w); have := claimStep_len held n A w; simp only [List.foldl_cons, List.length_cons]; omega


/-! ### what hinders, block by block -/
theorem meetP_has {s0 s1 : Int} {l : List (Pt Int)} (hl : CanP l) {p : Pt Int} (hp : p ∈ partsP s0 s1 l) : s0 ≤ p.1 ∧ p.1 < s1 ∧ getP p.1 l = some p.2.2 := by
  have h1 := (partsP_can (s0 := s0) (s1 := s1) hl).val p hp
  have h2 : getP p.1 (partsP s0 s1 l) = some p.2.2 := (getP_at (partsP_can hl).dis).2 ⟨p, hp, by rw [hasS_iff]; omega, rfl⟩
  rw [getP_parts hl] at h2
  split at h2
  · rename_i h; rw [hasS_iff] at h; exact ⟨h.2.1, h.2.2, h2⟩
  · cases h2
theorem part_of {s0 s1 : Int} {l : List (Pt Int)} (hl : CanP l) {x u : Int} (hx : hasS s0 s1 x = true) (h : getP x l = some u) : ∃ p ∈ partsP s0 s1 l, p.1 ≤ x ∧ x < p.2.1 ∧ p.2.2 = u := by
  have h2 : getP x (partsP s0 s1 l) = some u := by rw [getP_parts hl, if_pos hx, h]
  obtain ⟨p, hp, hh, hu⟩ := (getP_at (partsP_can hl).dis).1 h2
  rw [hasS_iff] at hh
  exact ⟨p, hp, hh.2.1, hh.2.2, hu⟩
theorem firstIn_le {m x : Int} : ∀ (P : List (Pt Int)) (f : Int), (f ≤ x ∨ ∃ p ∈ P, fitB p.2.2 m = false ∧ p.1 ≤ x) → firstIn m f P ≤ x
  | [], f, h => by rcases h with h | ⟨p, hp, _⟩; exact h; cases hp
  | q :: P, f, h => by
    show firstIn m (if fitB q.2.2 m = true then f else min f q.1) P ≤ x
    refine firstIn_le P _ ?_
    rcases h with h | ⟨p, hp, h1, h2⟩
    · left; split <;> omega
    · rcases List.mem_cons.1 hp with rfl | hp
      · left; rw [if_neg (by rw [h1]; simp)]; omega
      · exact .inr ⟨p, hp, h1, h2⟩
theorem firstIn_is {m : Int} : ∀ (P : List (Pt Int)) (f : Int), firstIn m f P = f ∨ ∃ p ∈ P, fitB p.2.2 m = false ∧ firstIn m f P = p.1
  | [], f => .inl rfl
  | q :: P, f => by
    have ih := firstIn_is (m := m) P (if fitB q.2.2 m = true then f else min f q.1)
    have e : firstIn m f (q :: P) = firstIn m (if fitB q.2.2 m = true then f else min f q.1) P := rfl
    rw [e]
    rcases ih with ih | ⟨p, hp, h1, h2⟩
    · rw [ih]
      cases hf : fitB q.2.2 m with
      | true => exact .inl rfl
      | false =>
        by_cases hq : f ≤ q.1
        · left; simp; omega
        · right; exact ⟨q, List.mem_cons_self .., hf, by simp; omega⟩
    · exact .inr ⟨p, List.mem_cons_of_mem _ hp, h1, h2⟩
theorem firstIn_le' {m f : Int} (P : List (Pt Int)) : firstIn m f P ≤ f := firstIn_le P f (.inl (Int.le_refl _))
/-- a block that another node holds in a mode that does not fit -/
def Unfit (held : Nat → List (Pt Int)) (n : Nat) (node m x : Int) : Prop := ∃ i, i < n ∧ ¬ (i : Int) + 1 = node ∧ ∃ u, getP x (held (i + 1)) = some u ∧ fitB u m = false
theorem firstHeld_le {held : Nat → List (Pt Int)} (hh : ∀ i, CanP (held i)) {node s0 s1 m x f : Int} : ∀ n, (f ≤ x ∨ hasS s0 s1 x = true ∧ Unfit held n node m x) → firstHeld held n node s0 s1 m f ≤ x
  | 0, h => by
    rcases h with h | ⟨_, i, hi, _⟩
    · exact h
    · omega
  | n + 1, h => by
    have ih := firstHeld_le hh (node := node) (s0 := s0) (s1 := s1) (m := m) (x := x) (f := f) n
    by_cases e : (n : Int) + 1 = node
    · rw [firstHeld_no _ _ _ _ _ _ _ e]
      refine ih ?_
      rcases h with h | ⟨h1, i, hi, h2, h3⟩
      · exact .inl h
      · by_cases e2 : i = n
        · subst e2; exact absurd e h2
        · exact .inr ⟨h1, i, by omega, h2, h3⟩
    · rw [firstHeld_at _ _ _ _ _ _ _ e]
      rcases h with h | ⟨h1, i, hi, h2, u, h3, h4⟩
      · exact firstIn_le _ _ (.inl (ih (.inl h)))
      · by_cases e2 : i = n
        · subst e2
          obtain ⟨p, hp, hx, _, hu⟩ := part_of (hh _) h1 h3
          exact firstIn_le _ _ (.inr ⟨p, hp, by rw [hu]; exact h4, hx⟩)
        · exact firstIn_le _ _ (.inl (ih (.inr ⟨h1, i, by omega, h2, u, h3, h4⟩)))
theorem firstHeld_is {held : Nat → List (Pt Int)} (hh : ∀ i, CanP (held i)) {node s0 s1 m f : Int} : ∀ n, firstHeld held n node s0 s1 m f = f ∨ (s0 ≤ firstHeld held n node s0 s1 m f ∧ firstHeld held n node s0 s1 m f < s1 ∧ Unfit held n node m (firstHeld held n node s0 s1 m f))
  | 0 => .inl rfl
  | n + 1 => by
    have ih := firstHeld_is hh (node := node) (s0 := s0) (s1 := s1) (m := m) (f := f) n
    have up : ∀ {x}, Unfit held n node m x → Unfit held (n + 1) node m x := fun ⟨i, hi, h⟩ => ⟨i, by omega, h⟩
    by_cases e : (n : Int) + 1 = node
    · rw [firstHeld_no _ _ _ _ _ _ _ e]
      rcases ih with ih | ⟨h1, h2, h3⟩
      · exact .inl ih
      · exact .inr ⟨h1, h2, up h3⟩
    · rw [firstHeld_at _ _ _ _ _ _ _ e]
      rcases firstIn_is (m := m) (partsP s0 s1 (held (n + 1))) (firstHeld held n node s0 s1 m f) with h | ⟨p, hp, h1, h2⟩
      · rw [h]
        rcases ih with ih | ⟨h1, h2, h3⟩
        · exact .inl ih
        · exact .inr ⟨h1, h2, up h3⟩
      · rw [h2]
        have h3 := meetP_has (hh _) hp
        exact .inr ⟨h3.1, h3.2.1, n, by omega, e, p.2.2, h3.2.2, h1⟩
theorem meet_has {a b c d x : Int} (h1 : hasS a b x = true) (h2 : hasS c d x = true) : meetB a b c d = true ∧ meetF a b c d ≤ x := by
  rw [hasS_iff] at h1 h2
  have hm : meetB a b c d = true := by unfold meetB; simp only [Bool.and_eq_true, vld_iff]; omega
  exact ⟨hm, by unfold meetF; rw [if_pos hm]; omega⟩
theorem meet_at {a b c d : Int} (h : meetB a b c d = true) : hasS a b (meetF a b c d) = true ∧ hasS c d (meetF a b c d) = true := by
  unfold meetF; rw [if_pos h, hasS_iff, hasS_iff]
  unfold meetB at h; simp only [Bool.and_eq_true, vld_iff] at h; omega
/-- a block that one ahead claims in a mode that does not fit -/
def Claimed (A : List Wt) (node m x : Int) : Prop := ∃ w ∈ A, ¬ w.2.1 = node ∧ hasS w.2.2.1 w.2.2.2.1 x = true ∧ fitB w.2.2.2.2 m = false
theorem ahead1_le (node s0 s1 m f : Int) (w : Wt) : ahead1 node s0 s1 m f w ≤ f := by
  rcases ahead_ways node s0 s1 m f w with ⟨_, h2⟩ | ⟨_, _, h2⟩ | ⟨_, _, _, h2⟩ | ⟨h1, _, _, h2⟩ <;> rw [h2] <;> omega
theorem firstAhead_le {node s0 s1 m x : Int} : ∀ (A : List Wt) (f : Int), (f ≤ x ∨ hasS s0 s1 x = true ∧ Claimed A node m x) → firstAhead node s0 s1 m f A ≤ x
  | [], f, h => by
    rcases h with h | ⟨_, w, hw, _⟩
    · exact h
    · cases hw
  | w :: A, f, h => by
    show firstAhead node s0 s1 m (ahead1 node s0 s1 m f w) A ≤ x
    refine firstAhead_le A _ ?_
    have hle := ahead1_le node s0 s1 m f w
    rcases h with h | ⟨h1, y, hy, h2, h3, h4⟩
    · left; omega
    · rcases List.mem_cons.1 hy with rfl | hy
      · left
        have hm := meet_has h3 h1
        unfold ahead1
        rw [if_pos ⟨hm.1, h2, h4⟩]; omega
      · exact .inr ⟨h1, y, hy, h2, h3, h4⟩
theorem firstAhead_is {node s0 s1 m : Int} : ∀ (A : List Wt) (f : Int), firstAhead node s0 s1 m f A = f ∨ (hasS s0 s1 (firstAhead node s0 s1 m f A) = true ∧ Claimed A node m (firstAhead node s0 s1 m f A))
  | [], f => .inl rfl
  | w :: A, f => by
    have e : firstAhead node s0 s1 m f (w :: A) = firstAhead node s0 s1 m (ahead1 node s0 s1 m f w) A := rfl
    rw [e]
    rcases firstAhead_is (node := node) (s0 := s0) (s1 := s1) (m := m) A (ahead1 node s0 s1 m f w) with ih | ⟨h1, y, hy, h2⟩
    · rw [ih]
      rcases ahead_ways node s0 s1 m f w with ⟨_, h2⟩ | ⟨_, _, h2⟩ | ⟨_, _, _, h2⟩ | ⟨h1, h2, h3, h4⟩
      · exact .inl h2
      · exact .inl h2
      · exact .inl h2
      · have hm := meet_at h1
        by_cases hf : f ≤ meetF w.2.2.1 w.2.2.2.1 s0 s1
        · left; rw [h4]; omega
        · right
          rw [h4, show min f (meetF w.2.2.1 w.2.2.2.1 s0 s1) = meetF w.2.2.1 w.2.2.2.1 s0 s1 by omega]
          exact ⟨hm.2, w, List.mem_cons_self .., h2, hm.1, h3⟩
    · exact .inr ⟨h1, y, List.mem_cons_of_mem _ hy, h2⟩
/-- where a block hinders, the first one that hinders comes no later -/
theorem hindF_le {held : Nat → List (Pt Int)} (hh : ∀ i, CanP (held i)) {n : Nat} {node s0 s1 m x : Int} {A : List Wt} (hx : hasS s0 s1 x = true) (h : Unfit held n node m x ∨ Claimed A node m x) : hindF held n node s0 s1 m A ≤ x := by
  unfold hindF
  rcases h with h | h
  · exact firstAhead_le A _ (.inl (firstHeld_le hh n (.inr ⟨hx, h⟩)))
  · exact firstAhead_le A _ (.inr ⟨hx, h⟩)
/-- the first block that hinders does hinder -/
theorem hindF_at {held : Nat → List (Pt Int)} (hh : ∀ i, CanP (held i)) {n : Nat} {node s0 s1 m : Int} {A : List Wt} (h : hindF held n node s0 s1 m A < s1) : Unfit held n node m (hindF held n node s0 s1 m A) ∨ Claimed A node m (hindF held n node s0 s1 m A) := by
  unfold hindF at h ⊢
  rcases firstAhead_is (node := node) (s0 := s0) (s1 := s1) (m := m) A (firstHeld held n node s0 s1 m s1) with e | ⟨_, h2⟩
  · rw [e] at h ⊢
    rcases firstHeld_is hh (node := node) (s0 := s0) (s1 := s1) (m := m) (f := s1) n with e2 | ⟨_, _, h3⟩
    · omega
    · exact .inl h3
  · exact .inr h2
theorem hindF_free {held : Nat → List (Pt Int)} (hh : ∀ i, CanP (held i)) {n : Nat} {node s0 s1 m : Int} {A : List Wt} (h0 : 0 ≤ s0) (h : ∀ x, s0 ≤ x → x < s1 → ¬ Unfit held n node m x ∧ ¬ Claimed A node m x) (hs : s0 < s1) : ¬ hindF held n node s0 s1 m A < s1 := by
  intro hlt
  have hg := hindF_ge (held := held) (n := n) (node := node) (m := m) (A := A) (Int.le_of_lt hs)
  rcases hindF_at hh hlt with h1 | h1
  · exact (h _ hg hlt).1 h1
  · exact (h _ hg hlt).2 h1

/-! ### has, dead, lower -/
theorem CanP.empty {l : List (Pt Int)} (h : CanP l) (he : ∀ n, getP n l = none) : l = [] := CanP.uniqG h CanP.nil fun n => by rw [he n]; rfl
theorem has_iff {T : Tb} {node s0 s1 m : Int} (hT : HOk (T.held node.toNat)) (hm : m = 1 ∨ m = 2) : T.has node s0 s1 m = true ↔ ∀ x, hasS s0 s1 x = true → ∃ u, getP x (T.held node.toNat) = some u ∧ m ≤ u := by
  have hask : asks m = true := by rcases hm with rfl | rfl <;> rfl
  have hW : ∀ x, askW x [(s0, s1, m)] = if hasS s0 s1 x = true then m else 0 := fun x => by
    unfold askW askW
    by_cases h : hasS s0 s1 x = true
    · rw [if_pos ⟨hask, h⟩, if_pos h]; show max m 0 = m; omega
    · rw [if_neg (fun e => h e.2), if_neg h]; rfl
  have hG : ∀ x, getP x (askedF [(s0, s1, m)]) = if hasS s0 s1 x = true then some m else none := fun x => by
    rw [getP_asked, hW]
    by_cases h : hasS s0 s1 x = true
    · simp only [if_pos h]; rw [if_neg (by omega)]
    · simp only [if_neg h]; rfl
  have hN := fun x => getP_needs hT.can (l := [(s0, s1, m)]) (n := x)
  unfold Tb.has
  rw [decide_eq_true_iff]
  constructor
  · intro h x hx
    have he : needsF (T.held node.toNat) [(s0, s1, m)] = [] := List.eq_nil_of_length_eq_zero h
    have := hN x
    rw [he, hG, if_pos hx] at this
    cases hg : getP x (T.held node.toNat) with
    | none => rw [hg] at this; cases this
    | some u =>
      rw [hg] at this
      by_cases hc : coversB u m = true
      · exact ⟨u, rfl, (coversB_iff.1 hc).2.2⟩
      · simp only [if_neg hc] at this; cases this
  · intro h
    have he : needsF (T.held node.toNat) [(s0, s1, m)] = [] := CanP.empty (needsF_can _ _) fun x => by
      rw [hN x, hG]
      by_cases hx : hasS s0 s1 x = true
      · obtain ⟨u, hu, hle⟩ := h x hx
        rw [if_pos hx, hu]
        have := (hT.val x u hu).2
        show (if coversB u m = true then none else some m) = none
        rw [if_pos (coversB_iff.2 (by omega))]
      · rw [if_neg hx]
    rw [he]; rfl
theorem deadF_of {held : Nat → List (Pt Int)} (hh : ∀ i, CanP (held i)) {ws : List Wt} {node s0 s1 : Int} {w : Wt} (hw : w ∈ ws) (hn : ¬ w.2.1 = node) (hm : w.2.2.2.2 = 2) {x : Int} (h1 : hasS s0 s1 x = true) (h2 : hasS w.2.2.1 w.2.2.2.1 x = true) (h3 : getP x (held w.2.1.toNat) = some 1) (h4 : getP x (held node.toNat) = some 1) : deadF held ws node s0 s1 2 = true := by
  unfold deadF
  simp only [beq_self_eq_true, Bool.true_and, List.any_eq_true]
  refine ⟨w, hw, ?_⟩
  unfold deadW
  rw [hm]
  simp only [beq_self_eq_true, Bool.true_and, Bool.and_eq_true, List.any_eq_true]
  obtain ⟨p, hp, hx1, hx2, hp1⟩ := part_of (hh _) h1 h3
  refine ⟨by simpa using hn, p, hp, ?_⟩
  unfold deadIn
  have hpv := (partsP_can (s0 := s0) (s1 := s1) (hh w.2.1.toNat)).val p hp
  have hpx : hasS p.1 p.2.1 x = true := by rw [hasS_iff]; omega
  have hmx := meet_has hpx h2
  have hmt : hasS (meetF p.1 p.2.1 w.2.2.1 w.2.2.2.1) (meetT p.1 p.2.1 w.2.2.1 w.2.2.2.1) x = true := by
    rw [hasS_iff] at hpx h2 ⊢
    have h5 := hmx.1
    unfold meetF meetT
    rw [if_pos h5, if_pos h5]; omega
  obtain ⟨q, hq, _, _, hq1⟩ := part_of (hh _) hmt h4
  simp only [hmx.1, Bool.true_and, Bool.and_eq_true, List.any_eq_true]
  exact ⟨by simp [shared, hp1], q, hq, by simp [shared, hq1]⟩
theorem deadF_empty {held : Nat → List (Pt Int)} {ws : List Wt} {node s0 s1 m : Int} (h : held node.toNat = []) : deadF held ws node s0 s1 m = false := by
  rw [Bool.eq_false_iff]
  intro hd
  unfold deadF at hd
  simp only [Bool.and_eq_true, List.any_eq_true] at hd
  obtain ⟨_, w, _, hw⟩ := hd
  unfold deadW at hw
  simp only [Bool.and_eq_true, List.any_eq_true] at hw
  obtain ⟨_, _, p, _, hp⟩ := hw
  unfold deadIn at hp
  rw [h] at hp
  simp [partsP] at hp
theorem lowerF_can {keep : Int} : ∀ {P l : List (Pt Int)}, CanP l → CanP (lowerF keep P l)
  | [], _, h => h
  | p :: P, l, h => by
    show CanP (lowerF keep P (lower1 keep l p))
    refine lowerF_can ?_
    unfold lower1
    split
    · exact h
    · split
      · exact clearF_can h
      · exact setF_can h
def lowV (keep u : Int) (o : Option Int) : Option Int := if u ≤ keep then o else if keep = 0 then none else some keep
theorem getP_lowerF {keep x : Int} : ∀ {P l : List (Pt Int)}, Dis P → CanP l → getP x (lowerF keep P l) = match getP x P with | some u => lowV keep u (getP x l) | none => getP x l
  | [], l, _, _ => rfl
  | p :: P, l, hd, hc => by
    show getP x (lowerF keep P (lower1 keep l p)) = _
    have hc' : CanP (lower1 keep l p) := lowerF_can (P := [p]) hc
    rw [getP_lowerF hd.tail hc', getP_cons]
    by_cases hn : hasS p.1 p.2.1 x = true
    · rw [if_pos hn, hd.only hn]
      show getP x (lower1 keep l p) = lowV keep p.2.2 (getP x l)
      unfold lower1 lowV
      split
      · rfl
      · split
        · rw [getP_clear hc, if_pos hn]
        · rw [getP_set hc, if_pos hn]
    · rw [if_neg hn]
      have e : getP x (lower1 keep l p) = getP x l := by
        unfold lower1
        split
        · rfl
        · split
          · rw [getP_clear hc, if_neg hn]
          · rw [getP_set hc, if_neg hn]
      rw [e]
theorem getP_lower {keep s0 s1 x : Int} {l : List (Pt Int)} (hl : CanP l) : getP x (lowerF keep (partsP s0 s1 l) l) = if hasS s0 s1 x = true then (match getP x l with | some u => lowV keep u (some u) | none => none) else getP x l := by
  rw [getP_lowerF (partsP_can hl).dis hl, getP_parts hl]
  by_cases hx : hasS s0 s1 x = true
  · rw [if_pos hx, if_pos hx]
    cases getP x l <;> rfl
  · rw [if_neg hx, if_neg hx]

/-! ### what the calls keep -/
theorem upd_ok {Q : List (Pt Int) → Prop} {held : Nat → List (Pt Int)} (h : ∀ i, Q (held i)) {k : Nat} {l : List (Pt Int)} (hl : Q l) : ∀ i, Q (upd held k l i) := fun i => by
  unfold upd; split
  · exact hl
  · exact h i
structure GOk (n : Nat) (ws : List Wt) (g : Gs) : Prop where
  held : ∀ i, HOk (g.held i)
  left : ∀ w ∈ g.left, w ∈ ws
  out : ∀ w ∈ g.out, w ∈ ws
  len : g.left.length + g.out.length = ws.length
  cls : g.cls.length = g.left.length
theorem GOk.step {n : Nat} {ws : List Wt} {g : Gs} {w : Wt} (h : GOk n ws g) (hw : WOk n w) : GOk n (ws ++ [w]) (grantStep n g w) := by
  unfold grantStep
  split
  · refine ⟨h.held, fun x hx => ?_, fun x hx => List.mem_append_left _ (h.out x hx), ?_, ?_⟩
    · rcases List.mem_append.1 hx with hx | hx
      · exact List.mem_append_left _ (h.left x hx)
      · exact List.mem_append_right _ hx
    · have := h.len; simp only [List.length_append, List.length_singleton]; omega
    · have := h.cls; simp only [List.length_append, List.length_singleton]; omega
  · refine ⟨upd_ok h.held ((h.held _).raise hw.end_ hw.mode), fun x hx => List.mem_append_left _ (h.left x hx), fun x hx => ?_, ?_, h.cls⟩
    · rcases List.mem_append.1 hx with hx | hx
      · exact List.mem_append_left _ (h.out x hx)
      · exact List.mem_append_right _ hx
    · have := h.len; simp only [List.length_append, List.length_singleton]; omega
theorem grantF_take {n : Nat} {held : Nat → List (Pt Int)} {ws : List Wt} {k : Nat} (h : k < ws.length) : grantF n held (ws.take (k + 1)) = grantStep n (grantF n held (ws.take k)) ws[k] := by
  unfold grantF; rw [foldl_take _ _ _ h]
theorem grantF_snoc (n : Nat) (held : Nat → List (Pt Int)) (ws : List Wt) (w : Wt) : grantF n held (ws ++ [w]) = grantStep n (grantF n held ws) w := by
  unfold grantF; rw [List.foldl_append]; rfl
theorem grantF_ok {n : Nat} {held : Nat → List (Pt Int)} (hh : ∀ i, HOk (held i)) (ws : List Wt) : (∀ w ∈ ws, WOk n w) → GOk n ws (grantF n held ws) := by
  refine snoc_ind (P := fun ws => (∀ w ∈ ws, WOk n w) → GOk n ws (grantF n held ws)) ?_ ?_ ws
  · intro _
    exact ⟨hh, fun _ h => (by cases h), fun _ h => (by cases h), rfl, rfl⟩
  · intro l w ih hw
    rw [grantF_snoc]
    exact (ih fun x hx => hw x (List.mem_append_left _ hx)).step (hw w (List.mem_append_right _ (List.mem_singleton.2 rfl)))
theorem TOk.grant {T : Tb} (h : TOk T) : TOk T.grant := by
  have hg := grantF_ok h.held T.waits h.waits
  exact ⟨h.n, hg.held, fun w hw => h.waits w (hg.left w hw), Nat.le_trans (by have := hg.len; show (grantF T.n T.held T.waits).left.length ≤ T.waits.length; omega) h.len, h.last⟩
theorem isB_iff {n : Nat} {node : Int} : isB n node = true ↔ 1 ≤ node ∧ node ≤ n := by simp [isB]
theorem rightB_iff {s0 s1 m : Int} : rightB s0 s1 m = true ↔ (0 ≤ s0 ∧ s0 < s1) ∧ s1 ≤ 4096 ∧ (m = 1 ∨ m = 2) := by
  unfold rightB asks; simp [vld_iff]
theorem relB_iff {n : Nat} {node s0 s1 keep : Int} : relB n node s0 s1 keep = true ↔ (1 ≤ node ∧ node ≤ n) ∧ (0 ≤ s0 ∧ s0 < s1) ∧ (keep = 0 ∨ keep = 1) := by
  unfold relB; simp [vld_iff, isB_iff]
theorem TOk.raise {T : Tb} (h : TOk T) {node s0 s1 m : Int} (hr : rightB s0 s1 m = true) : TOk { T with held := upd T.held node.toNat (raiseF s0 s1 m (T.held node.toNat)) } := by
  have hr' := rightB_iff.1 hr
  exact ⟨h.n, upd_ok h.held ((h.held _).raise hr'.2.1 hr'.2.2), h.waits, h.len, h.last⟩
theorem TOk.ask {T : Tb} (h : TOk T) (node s0 s1 m : Int) : TOk (T.ask node s0 s1 m).tb := by
  unfold Tb.ask
  by_cases h1 : isB T.n node = false ∨ rightB s0 s1 m = false
  · rw [if_pos h1]; exact h
  · rw [if_neg h1]
    have hn : isB T.n node = true := by cases e : isB T.n node <;> simp_all
    have hr : rightB s0 s1 m = true := by cases e : rightB s0 s1 m <;> simp_all
    split
    · exact h
    · split
      · exact h.raise hr
      · split
        · exact h
        · split
          · exact h
          · rename_i hl
            have hn' := isB_iff.1 hn
            have hr' := rightB_iff.1 hr
            have hlast := h.last
            refine ⟨h.n, h.held, fun w hw => ?_, by simp only [List.length_append, List.length_singleton]; omega, by show 0 ≤ T.last + 1; omega⟩
            rcases List.mem_append.1 hw with hw | hw
            · exact h.waits w hw
            · rw [List.mem_singleton] at hw; subst hw
              exact ⟨hn', hr'.1, hr'.2.1, hr'.2.2⟩
theorem TOk.lowered {T : Tb} (h : TOk T) {node s0 s1 keep : Int} (hk : keep = 0 ∨ keep = 1) : TOk (T.lowered node s0 s1 keep) :=
  ⟨h.n, upd_ok h.held (HOk.lower hk (h.held _) fun x hx => ((h.held _).parts_to x hx).2.2.1), h.waits, h.len, h.last⟩
theorem TOk.release {T : Tb} (h : TOk T) (node s0 s1 keep : Int) : TOk (T.release node s0 s1 keep) := by
  unfold Tb.release
  split
  · rename_i hr
    exact (h.lowered (relB_iff.1 hr).2.2).grant
  · exact h
theorem TOk.new {n : Nat} (h1 : 1 ≤ n) (h2 : n ≤ 16) : TOk ⟨n, fun _ => [], [], 0⟩ := ⟨⟨h1, h2⟩, fun _ => HOk.nil, fun _ h => (by cases h), by simp, Int.le_refl _⟩
end

section
theorem and2 {a b : Bool} (h1 : a = true) (h2 : b = true) : ¬ (a = false ∨ b = false) := by rw [h1, h2]; simp
section
variable {T : Tb} {node s0 s1 m : Int}
theorem ask_bad (h : isB T.n node = false ∨ rightB s0 s1 m = false) : T.ask node s0 s1 m = ⟨0, false, 1, T⟩ := by unfold Tb.ask; rw [if_pos h]
theorem ask_has (h1 : isB T.n node = true) (h2 : rightB s0 s1 m = true) (h : T.has node s0 s1 m = true) : T.ask node s0 s1 m = ⟨0, true, 0, T⟩ := by unfold Tb.ask; rw [if_neg (and2 h1 h2), if_pos h]
theorem ask_free (h1 : isB T.n node = true) (h2 : rightB s0 s1 m = true) (h : ¬ T.has node s0 s1 m = true) (hf : freeF T.held T.n T.waits node s0 s1 m = true) : T.ask node s0 s1 m = ⟨0, true, 0, { T with held := upd T.held node.toNat (raiseF s0 s1 m (T.held node.toNat)) }⟩ := by unfold Tb.ask; rw [if_neg (and2 h1 h2), if_neg h, if_pos hf]
theorem ask_dead (h1 : isB T.n node = true) (h2 : rightB s0 s1 m = true) (h : ¬ T.has node s0 s1 m = true) (hf : ¬ freeF T.held T.n T.waits node s0 s1 m = true) (hd : deadF T.held T.waits node s0 s1 m = true) : T.ask node s0 s1 m = ⟨0, false, 33, T⟩ := by unfold Tb.ask; rw [if_neg (and2 h1 h2), if_neg h, if_neg hf, if_pos hd]
theorem ask_wait (h1 : isB T.n node = true) (h2 : rightB s0 s1 m = true) (h : ¬ T.has node s0 s1 m = true) (hf : ¬ freeF T.held T.n T.waits node s0 s1 m = true) (hd : deadF T.held T.waits node s0 s1 m = false) (hl : T.waits.length < 1000) : T.ask node s0 s1 m = ⟨T.last + 1, false, 0, { T with waits := T.waits ++ [(T.last + 1, node, s0, s1, m)], last := T.last + 1 }⟩ := by unfold Tb.ask; rw [if_neg (and2 h1 h2), if_neg h, if_neg hf, if_neg (by rw [hd]; simp), if_neg (by omega)]
theorem not_free (hh : ∀ i, CanP (T.held i)) {x : Int} (hx : hasS s0 s1 x = true) (h : Unfit T.held T.n node m x ∨ Claimed (claimsF T.held T.n T.waits) node m x) : ¬ freeF T.held T.n T.waits node s0 s1 m = true := by
  have := hindF_le hh hx h
  rw [hasS_iff] at hx
  unfold freeF
  simp only [Bool.not_eq_true', decide_eq_false_iff_not]
  omega
theorem is_free (hh : ∀ i, CanP (T.held i)) (hs : 0 ≤ s0 ∧ s0 < s1) (h : ∀ x, s0 ≤ x → x < s1 → ¬ Unfit T.held T.n node m x ∧ ¬ Claimed (claimsF T.held T.n T.waits) node m x) : freeF T.held T.n T.waits node s0 s1 m = true := by
  have := hindF_free hh hs.1 h hs.2 (A := claimsF T.held T.n T.waits)
  unfold freeF
  simp [this]
theorem not_has (hT : HOk (T.held node.toNat)) (hm : m = 1 ∨ m = 2) {x : Int} (hx : hasS s0 s1 x = true) (h : ∀ u, getP x (T.held node.toNat) = some u → u < m) : ¬ T.has node s0 s1 m = true := by
  rw [has_iff hT hm]
  intro hh
  obtain ⟨u, hu, hle⟩ := hh x hx
  have := h u hu
  omega
theorem not_claimed_nil {node m x : Int} : ¬ Claimed [] node m x := by rintro ⟨w, hw, _⟩; cases hw
theorem claims_nil (held : Nat → List (Pt Int)) (n : Nat) : claimsF held n [] = [] := rfl
end
theorem TOk.can {T : Tb} (h : TOk T) : ∀ i, CanP (T.held i) := fun i => (h.held i).can
/-- what each block has, told by a function -/
def Hs (T : Tb) (h : Nat → Int → Option Int) : Prop := ∀ i x, getP x (T.held i) = h i x
theorem Hs.raise {T : Tb} (hT : TOk T) {h : Nat → Int → Option Int} (hs : Hs T h) (k : Nat) (s0 s1 m : Int) : ∀ i x, getP x (upd T.held k (raiseF s0 s1 m (T.held k)) i) = if i = k then (if hasS s0 s1 x = true then some (match h k x with | some u => max u m | none => m) else h k x) else h i x := by
  intro i x
  by_cases e : i = k
  · subst e
    rw [upd_at, if_pos rfl, getP_raise (hT.can _), hs i x]
    try rfl
  · rw [upd_ne _ _ e, if_neg e, hs i x]
theorem Hs.lowered {T : Tb} (hT : TOk T) {h : Nat → Int → Option Int} (hs : Hs T h) (node s0 s1 keep : Int) : Hs (T.lowered node s0 s1 keep) fun i x => if i = node.toNat then (if hasS s0 s1 x = true then (match h i x with | some u => lowV keep u (some u) | none => none) else h i x) else h i x := by
  intro i x
  show getP x (upd T.held node.toNat _ i) = _
  by_cases e : i = node.toNat
  · subst e
    rw [upd_at]
    show _ = if node.toNat = node.toNat then _ else _
    rw [if_pos rfl, getP_lower (hT.can _), hs node.toNat x]
    try rfl
  · rw [upd_ne _ _ e]
    show _ = if i = node.toNat then _ else _
    rw [if_neg e, hs i x]
theorem release_yes {T : Tb} {node s0 s1 keep : Int} (h : relB T.n node s0 s1 keep = true) : T.release node s0 s1 keep = (T.lowered node s0 s1 keep).grant := by unfold Tb.release; rw [if_pos h]
def Tb.given (T : Tb) (node s0 s1 keep : Int) : List Wt := if relB T.n node s0 s1 keep = true then (T.lowered node s0 s1 keep).granted else []
theorem given_yes {T : Tb} {node s0 s1 keep : Int} (h : relB T.n node s0 s1 keep = true) : T.given node s0 s1 keep = (T.lowered node s0 s1 keep).granted := by unfold Tb.given; rw [if_pos h]
/-- a request that is free is granted -/
theorem step_free {n : Nat} {g : Gs} {w : Wt} (h : ¬ hindW g.held n w g.cls < w.2.2.2.1) : grantStep n g w = { g with held := upd g.held w.2.1.toNat (raiseF w.2.2.1 w.2.2.2.1 w.2.2.2.2 (g.held w.2.1.toNat)), out := g.out ++ [w] } := by unfold grantStep; rw [if_neg h]
theorem step_left {n : Nat} {g : Gs} {w : Wt} (h : hindW g.held n w g.cls < w.2.2.2.1) : grantStep n g w = { g with left := g.left ++ [w], cls := g.cls ++ [claimW w (hindW g.held n w g.cls)] } := by unfold grantStep; rw [if_pos h]

/-! ### TableUpgrades -/
section
variable {s0 s1 at_ : Int}
abbrev T3 : Tb := ⟨3, fun _ => [], [], 0⟩
theorem fit_11 : fitB 1 1 = true := rfl
theorem fit_12 : fitB 1 2 = false := rfl
theorem fit_21 : fitB 2 1 = false := rfl
theorem fit_22 : fitB 2 2 = false := rfl
def oneH (k : Nat) (s0 s1 m : Int) (i : Nat) (x : Int) : Option Int := if i = k ∧ hasS s0 s1 x = true then some m else none
theorem raise_one {s0 s1 m : Int} (x : Int) : getP x (raiseF s0 s1 m []) = if hasS s0 s1 x = true then some m else none := by
  rw [getP_raise CanP.nil]; rfl
/-- what the law's tables hold behind the first two calls -/
theorem upgrades_1 (h : 0 ≤ s0 ∧ s0 < s1 ∧ s1 ≤ 4096) : ∃ T1 T2, T3.ask 1 s0 s1 1 = ⟨0, true, 0, T1⟩ ∧ T1.ask 2 s0 s1 1 = ⟨0, true, 0, T2⟩ ∧ TOk T1 ∧ TOk T2 ∧ T2.n = 3 ∧ T2.waits = [] ∧ T2.last = 0 ∧ Hs T2 (fun i x => if (i = 1 ∨ i = 2) ∧ hasS s0 s1 x = true then some 1 else none) := by
  have hT0 : TOk T3 := TOk.new (by decide) (by decide)
  have hr : rightB s0 s1 1 = true := rightB_iff.2 ⟨⟨h.1, h.2.1⟩, h.2.2, .inl rfl⟩
  have hx0 : hasS s0 s1 s0 = true := by rw [hasS_iff]; omega
  have e1 : T3.ask 1 s0 s1 1 = ⟨0, true, 0, { T3 with held := upd T3.held 1 (raiseF s0 s1 1 []) }⟩ :=
    ask_free rfl hr (not_has HOk.nil (.inl rfl) hx0 fun u hu => by cases hu) (is_free (fun i => CanP.nil) ⟨h.1, h.2.1⟩ fun x _ _ => ⟨(by rintro ⟨i, hi, hn, u, hu, _⟩; cases hu), not_claimed_nil⟩)
  have hT1 : TOk { T3 with held := upd T3.held 1 (raiseF s0 s1 1 []) } := by have := hT0.ask 1 s0 s1 1; rw [e1] at this; exact this
  have e2 : Tb.ask { T3 with held := upd T3.held 1 (raiseF s0 s1 1 []) } 2 s0 s1 1 = ⟨0, true, 0, { T3 with held := upd (upd T3.held 1 (raiseF s0 s1 1 [])) 2 (raiseF s0 s1 1 []) }⟩ := by
    refine ask_free rfl hr (not_has HOk.nil (.inl rfl) hx0 fun u hu => by cases hu) (is_free hT1.can ⟨h.1, h.2.1⟩ fun x _ _ => ⟨?_, not_claimed_nil⟩)
    rintro ⟨i, hi, hn, u, hu, hf⟩
    have := (hT1.held (i + 1)).val x u hu
    have hu1 : u = 1 := by
      change getP x (upd T3.held 1 _ (i + 1)) = some u at hu
      unfold upd at hu
      split at hu
      · rw [raise_one] at hu; split at hu
        · injection hu with hu; exact hu.symm
        · cases hu
      · cases hu
    subst hu1; cases hf
  have hT2 := hT1.ask 2 s0 s1 1
  rw [e2] at hT2
  refine ⟨_, _, e1, e2, hT1, hT2, rfl, rfl, rfl, fun i x => ?_⟩
  show getP x (upd (upd T3.held 1 _) 2 _ i) = _
  by_cases h2 : i = 2
  · subst h2; rw [upd_at, raise_one]; simp
  · rw [upd_ne _ _ h2]
    by_cases h1 : i = 1
    · subst h1; rw [upd_at, raise_one]; simp
    · rw [upd_ne _ _ h1]; simp [h1, h2, getP_nil]
theorem upgrades_2 (h : 0 ≤ s0 ∧ s0 < s1 ∧ s1 ≤ 4096) (ha : s0 ≤ at_ ∧ at_ < s1) {T : Tb} (hT : TOk T) (hn : T.n = 3) (hw : T.waits = []) (hl : T.last = 0) (hs : Hs T (fun i x => if (i = 1 ∨ i = 2) ∧ hasS s0 s1 x = true then some 1 else none)) :
    T.ask 1 at_ (at_ + 1) 2 = ⟨1, false, 0, { T with waits := [(1, 1, at_, at_ + 1, 2)], last := 1 }⟩ := by
  have hs' : ∀ i x, getP x (T.held i) = if (i = 1 ∨ i = 2) ∧ hasS s0 s1 x = true then some 1 else none := hs
  have hr : rightB at_ (at_ + 1) 2 = true := rightB_iff.2 ⟨⟨by omega, by omega⟩, by omega, .inr rfl⟩
  have hxa : hasS at_ (at_ + 1) at_ = true := by rw [hasS_iff]; omega
  have hxs : hasS s0 s1 at_ = true := by rw [hasS_iff]; omega
  have h1 : isB T.n 1 = true := by rw [isB_iff, hn]; decide
  have := ask_wait h1 hr (not_has (hT.held _) (.inr rfl) hxa fun u hu => by
      rw [hs', if_pos ⟨.inl rfl, hxs⟩] at hu; injection hu with hu; omega)
    (not_free hT.can hxa (.inl ⟨1, by omega, by decide, 1, by rw [hs', if_pos ⟨.inr rfl, hxs⟩], rfl⟩)) (by unfold deadF; rw [hw]; rfl) (by rw [hw]; decide)
  rw [this, hw, hl]; rfl
theorem upgrades_3 (h : 0 ≤ s0 ∧ s0 < s1 ∧ s1 ≤ 4096) (ha : s0 ≤ at_ ∧ at_ < s1) {T : Tb} (hT : TOk T) (hn : T.n = 3) (hw : T.waits = [(1, 1, at_, at_ + 1, 2)]) (hs : Hs T (fun i x => if (i = 1 ∨ i = 2) ∧ hasS s0 s1 x = true then some 1 else none)) :
    T.ask 2 at_ (at_ + 1) 2 = ⟨0, false, 33, T⟩ := by
  have hs' : ∀ i x, getP x (T.held i) = if (i = 1 ∨ i = 2) ∧ hasS s0 s1 x = true then some 1 else none := hs
  have hr : rightB at_ (at_ + 1) 2 = true := rightB_iff.2 ⟨⟨by omega, by omega⟩, by omega, .inr rfl⟩
  have hxa : hasS at_ (at_ + 1) at_ = true := by rw [hasS_iff]; omega
  have hxs : hasS s0 s1 at_ = true := by rw [hasS_iff]; omega
  have h1 : isB T.n 2 = true := by rw [isB_iff, hn]; decide
  exact ask_dead h1 hr (not_has (hT.held _) (.inr rfl) hxa fun u hu => by
      rw [hs', if_pos ⟨.inr rfl, hxs⟩] at hu; injection hu with hu; omega)
    (not_free hT.can hxa (.inl ⟨0, by omega, by decide, 1, by rw [hs', if_pos ⟨.inl rfl, hxs⟩], rfl⟩))
    (deadF_of hT.can (w := (1, 1, at_, at_ + 1, 2)) (by rw [hw]; exact List.mem_singleton.2 rfl) (show ¬ (1 : Int) = 2 by decide) rfl hxa hxa (by rw [hs', if_pos ⟨.inl rfl, hxs⟩]) (by rw [hs', if_pos ⟨.inr rfl, hxs⟩]))
theorem upgrades_4 (h : 0 ≤ s0 ∧ s0 < s1 ∧ s1 ≤ 4096) (ha : s0 ≤ at_ ∧ at_ < s1) {T : Tb} (hT : TOk T) (hn : T.n = 3) (hw : T.waits = [(1, 1, at_, at_ + 1, 2)]) (hs : Hs T (fun i x => if (i = 1 ∨ i = 2) ∧ hasS s0 s1 x = true then some 1 else none)) :
    relB T.n 2 s0 s1 0 = true ∧ T.given 2 s0 s1 0 = [(1, 1, at_, at_ + 1, 2)] ∧ (T.release 2 s0 s1 0).mode 1 at_ = 2 ∧ (T.release 2 s0 s1 0).mode 2 at_ = 0 := by
  have hxa : hasS at_ (at_ + 1) at_ = true := by rw [hasS_iff]; omega
  have hxs : hasS s0 s1 at_ = true := by rw [hasS_iff]; omega
  have hrel : relB T.n 2 s0 s1 0 = true := relB_iff.2 ⟨by rw [hn]; decide, ⟨h.1, h.2.1⟩, .inl rfl⟩
  have hL : ∀ i x, getP x ((T.lowered 2 s0 s1 0).held i) = if i = 2 then (if hasS s0 s1 x = true then (match (if (i = 1 ∨ i = 2) ∧ hasS s0 s1 x = true then some (1 : Int) else none) with | some u => lowV 0 u (some u) | none => none) else if (i = 1 ∨ i = 2) ∧ hasS s0 s1 x = true then some 1 else none) else if (i = 1 ∨ i = 2) ∧ hasS s0 s1 x = true then some 1 else none := hs.lowered hT 2 s0 s1 0
  have hTL := hT.lowered (node := 2) (s0 := s0) (s1 := s1) (keep := 0) (.inl rfl)
  have hLw : (T.lowered 2 s0 s1 0).waits = [(1, 1, at_, at_ + 1, 2)] := hw
  have hLn : (T.lowered 2 s0 s1 0).n = 3 := hn
  rw [release_yes hrel, given_yes hrel]
  generalize T.lowered 2 s0 s1 0 = L at *
  have hg : grantF L.n L.held L.waits = grantStep L.n ⟨L.held, [], [], []⟩ (1, 1, at_, at_ + 1, 2) := by rw [hLw]; rfl
  have hfree : ¬ hindW L.held L.n (1, 1, at_, at_ + 1, 2) [] < at_ + 1 := by
    refine hindF_free hTL.can (by show 0 ≤ at_; omega) (fun x h1 h2 => ⟨?_, not_claimed_nil⟩) (by show at_ < at_ + 1; omega)
    change at_ ≤ x at h1; change x < at_ + 1 at h2
    obtain rfl : x = at_ := by omega
    rintro ⟨i, hi, hni, u, hu, _⟩
    rw [hL] at hu
    by_cases e : i + 1 = 2
    · rw [e] at hu
      simp [hxs, lowV] at hu
    · have : i ≠ 0 := fun e => hni (by subst e; rfl)
      rw [if_neg e, if_neg (by rintro ⟨h1, _⟩; omega)] at hu
      cases hu
  rw [step_free hfree] at hg
  have hgr : L.granted = [(1, 1, at_, at_ + 1, 2)] := by unfold Tb.granted; rw [hg]; rfl
  have hgh : L.grant.held = upd L.held 1 (raiseF at_ (at_ + 1) 2 (L.held 1)) := by unfold Tb.grant; simp only [hg]; rfl
  have hgn : L.grant.n = 3 := hLn
  refine ⟨hrel, hgr, ?_, ?_⟩
  · unfold Tb.mode
    rw [if_pos (by rw [isB_iff, hgn]; decide), hgh]
    show (getP at_ (upd L.held 1 _ 1)).getD 0 = 2
    rw [upd_at, getP_raise (hTL.can 1), if_pos hxa, hL]
    simp [hxs]
    try rfl
  · unfold Tb.mode
    rw [if_pos (by rw [isB_iff, hgn]; decide), hgh]
    show (getP at_ (upd L.held 1 _ 2)).getD 0 = 0
    rw [upd_ne _ _ (by decide), hL]
    simp [hxs, lowV]
end
end

section
/-- a table told block by block -/
structure Is (T : Tb) (n : Nat) (h : Nat → Int → Option Int) (ws : List Wt) (last : Int) : Prop where
  ok : TOk T
  n : T.n = n
  hs : Hs T h
  ws : T.waits = ws
  last : T.last = last
section
variable {T : Tb} {n : Nat} {h : Nat → Int → Option Int} {ws : List Wt} {last : Int}
theorem Is.unfit (I : Is T n h ws last) {node m x : Int} : Unfit T.held T.n node m x ↔ ∃ i, i < n ∧ ¬ (i : Int) + 1 = node ∧ ∃ u, h (i + 1) x = some u ∧ fitB u m = false := by
  unfold Unfit; rw [I.n]
  simp only [I.hs (_ + 1) x]
theorem Is.now (I : Is T n h ws last) {node s0 s1 m : Int} (h1 : 1 ≤ node ∧ node ≤ n) (h2 : (0 ≤ s0 ∧ s0 < s1) ∧ s1 ≤ 4096 ∧ (m = 1 ∨ m = 2)) (hn : ∃ x, hasS s0 s1 x = true ∧ ∀ u, h node.toNat x = some u → u < m)
    (hf : ∀ x, s0 ≤ x → x < s1 → (¬ ∃ i, i < n ∧ ¬ (i : Int) + 1 = node ∧ ∃ u, h (i + 1) x = some u ∧ fitB u m = false) ∧ ¬ Claimed (claimsF T.held T.n ws) node m x) :
    ∃ T', T.ask node s0 s1 m = ⟨0, true, 0, T'⟩ ∧ Is T' n (fun i x => if i = node.toNat then (if hasS s0 s1 x = true then some (match h node.toNat x with | some u => max u m | none => m) else h node.toNat x) else h i x) ws last := by
  have hb : isB T.n node = true := by rw [isB_iff, I.n]; exact h1
  have hr : rightB s0 s1 m = true := rightB_iff.2 h2
  obtain ⟨x, hx, hu⟩ := hn
  have e := ask_free hb hr (not_has (I.ok.held _) h2.2.2 hx fun u hg => hu u (by rw [← I.hs]; exact hg)) (is_free I.ok.can h2.1 fun x h1 h2 => ⟨by rw [I.unfit]; exact (hf x h1 h2).1, by rw [I.ws]; exact (hf x h1 h2).2⟩)
  have hok := I.ok.ask node s0 s1 m
  rw [e] at hok
  exact ⟨_, e, hok, I.n, fun i x => I.hs.raise I.ok _ _ _ _ i x, I.ws, I.last⟩
theorem Is.wait (I : Is T n h ws last) {node s0 s1 m : Int} (h1 : 1 ≤ node ∧ node ≤ n) (h2 : (0 ≤ s0 ∧ s0 < s1) ∧ s1 ≤ 4096 ∧ (m = 1 ∨ m = 2)) (hn : ∃ x, hasS s0 s1 x = true ∧ ∀ u, h node.toNat x = some u → u < m)
    (hf : ∃ x, hasS s0 s1 x = true ∧ ((∃ i, i < n ∧ ¬ (i : Int) + 1 = node ∧ ∃ u, h (i + 1) x = some u ∧ fitB u m = false) ∨ Claimed (claimsF T.held T.n ws) node m x)) (hd : m = 1 ∨ ∀ x, h node.toNat x = none) (hl : ws.length < 1000) :
    ∃ T', T.ask node s0 s1 m = ⟨last + 1, false, 0, T'⟩ ∧ Is T' n h (ws ++ [(last + 1, node, s0, s1, m)]) (last + 1) ∧ T'.held = T.held := by
  have hb : isB T.n node = true := by rw [isB_iff, I.n]; exact h1
  have hr : rightB s0 s1 m = true := rightB_iff.2 h2
  obtain ⟨x, hx, hu⟩ := hn
  obtain ⟨y, hy, hf⟩ := hf
  have hdead : deadF T.held T.waits node s0 s1 m = false := by
    rcases hd with rfl | hd
    · rfl
    · exact deadF_empty ((I.ok.held _).can.empty fun x => by rw [I.hs]; exact hd x)
  have e := ask_wait hb hr (not_has (I.ok.held _) h2.2.2 hx fun u hg => hu u (by rw [← I.hs]; exact hg)) (not_free I.ok.can hy (by
    rcases hf with hf | hf
    · left; rw [I.unfit]; exact hf
    · right; rw [I.ws]; exact hf)) hdead (by rw [I.ws]; exact hl)
  have hok := I.ok.ask node s0 s1 m
  rw [e] at hok
  rw [I.last, I.ws] at e hok
  exact ⟨_, e, ⟨hok, I.n, I.hs, rfl, rfl⟩, rfl⟩
theorem Is.lowered (I : Is T n h ws last) (node s0 s1 keep : Int) (hk : keep = 0 ∨ keep = 1) : Is (T.lowered node s0 s1 keep) n (fun i x => if i = node.toNat then (if hasS s0 s1 x = true then (match h i x with | some u => lowV keep u (some u) | none => none) else h i x) else h i x) ws last :=
  ⟨I.ok.lowered hk, I.n, I.hs.lowered I.ok _ _ _ _, I.ws, I.last⟩
theorem Is.grant_all (I : Is T n h ws last) : ∃ g, grantF n T.held ws = g ∧ T.granted = g.out ∧ T.grant = { T with held := g.held, waits := g.left } :=
  ⟨_, rfl, by unfold Tb.granted; rw [I.n, I.ws], by unfold Tb.grant; rw [I.n, I.ws]⟩
/-- the first block of a request hinders it -/
theorem Is.hind (I : Is T n h ws last) {node s0 s1 m : Int} {A : List Wt} {x : Int} (hx : hasS s0 s1 x = true) (hu : (∃ i, i < n ∧ ¬ (i : Int) + 1 = node ∧ ∃ u, h (i + 1) x = some u ∧ fitB u m = false) ∨ Claimed A node m x) (hb : ∀ y, s0 ≤ y → y < x → (¬ ∃ i, i < n ∧ ¬ (i : Int) + 1 = node ∧ ∃ u, h (i + 1) y = some u ∧ fitB u m = false) ∧ ¬ Claimed A node m y) : hindF T.held T.n node s0 s1 m A = x := by
  have hle := hindF_le I.ok.can (n := T.n) (node := node) (m := m) (A := A) hx (by rw [I.unfit]; exact hu)
  rw [hasS_iff] at hx
  have hge := hindF_ge (held := T.held) (n := T.n) (node := node) (m := m) (A := A) (show s0 ≤ s1 by omega)
  by_cases e : hindF T.held T.n node s0 s1 m A < x
  · have := hb _ hge e
    rcases hindF_at I.ok.can (show hindF T.held T.n node s0 s1 m A < s1 by omega) with h1 | h1
    · rw [I.unfit] at h1; exact absurd h1 this.1
    · exact absurd h1 this.2
  · omega
theorem Is.mode (I : Is T n h ws last) {node b : Int} (h1 : 1 ≤ node ∧ node ≤ n) : T.mode node b = (h node.toNat b).getD 0 := by
  unfold Tb.mode; rw [if_pos (by rw [isB_iff, I.n]; exact h1), I.hs]
end
theorem Is.new {n : Nat} (h1 : 1 ≤ n) (h2 : n ≤ 16) : Is ⟨n, fun _ => [], [], 0⟩ n (fun _ _ => none) [] 0 := ⟨TOk.new h1 h2, rfl, fun _ _ => rfl, rfl, rfl⟩

/-! ### TableClaims -/
section
variable {f n k : Int}
theorem claims_law (hf : 0 ≤ f ∧ f ≤ 1000) (hn : 2 ≤ n ∧ n ≤ 100) (hk : 1 ≤ k ∧ k < n) : ∃ T1 T2 T3' T4, T3.ask 1 f (f + 1) 2 = ⟨0, true, 0, T1⟩ ∧ T1.ask 2 f (f + n) 2 = ⟨1, false, 0, T2⟩ ∧ T2.ask 3 (f + k) (f + k + 1) 2 = ⟨0, true, 0, T3'⟩ ∧ T3'.ask 3 f (f + 1) 1 = ⟨2, false, 0, T4⟩ ∧
    relB T4.n 1 f (f + 1) 0 = true ∧ T4.given 1 f (f + 1) 0 = [] ∧ relB (T4.release 1 f (f + 1) 0).n 3 (f + k) (f + k + 1) 0 = true ∧ (T4.release 1 f (f + 1) 0).given 3 (f + k) (f + k + 1) 0 = [(1, 2, f, f + n, 2)] ∧ ((T4.release 1 f (f + 1) 0).release 3 (f + k) (f + k + 1) 0).mode 2 (f + n - 1) = 2 := by
  have I0 := Is.new (n := 3) (by decide) (by decide)
  have hff : hasS f (f + 1) f = true := by rw [hasS_iff]; omega
  have hfn : hasS f (f + n) f = true := by rw [hasS_iff]; omega
  have hkk : hasS (f + k) (f + k + 1) (f + k) = true := by rw [hasS_iff]; omega
  obtain ⟨T1, e1, I1⟩ := I0.now (node := 1) (s0 := f) (s1 := f + 1) (m := 2) (by decide) ⟨by omega, by omega, .inr rfl⟩ ⟨f, hff, fun u hu => by cases hu⟩ fun x _ _ => ⟨(by rintro ⟨i, _, _, u, hu, _⟩; cases hu), not_claimed_nil⟩
  obtain ⟨T2, e2, I2, hh2⟩ := I1.wait (node := 2) (s0 := f) (s1 := f + n) (m := 2) (by decide) ⟨by omega, by omega, .inr rfl⟩ ⟨f, hfn, fun u hu => by cases hu⟩ ⟨f, hfn, .inl ⟨0, by decide, by decide, 2, by simp [hff], rfl⟩⟩ (.inr fun x => rfl) (by simp)
  have hc2 : claimsF T2.held T2.n [(1, 2, f, f + n, 2)] = [(1, 2, f, f + 1, 2)] := by
    have hi : hindW T2.held T2.n (1, 2, f, f + n, 2) [] = f := I2.hind (node := 2) (s0 := f) (s1 := f + n) (m := 2) (A := []) hfn (.inl ⟨0, by decide, by decide, 2, by simp [hff], rfl⟩) fun y h1 h2 => by omega
    show claimStep T2.held T2.n [] (1, 2, f, f + n, 2) = _
    unfold claimStep
    rw [hi, if_pos (by show f < f + n; omega)]; rfl
  obtain ⟨T3', e3, I3⟩ := I2.now (node := 3) (s0 := f + k) (s1 := f + k + 1) (m := 2) (by decide) ⟨by omega, by omega, .inr rfl⟩ ⟨f + k, hkk, fun u hu => by cases hu⟩ fun x h1 h2 => by
    obtain rfl : x = f + k := by omega
    have hno : hasS f (f + 1) (f + k) = false := by rw [Bool.eq_false_iff]; intro e; rw [hasS_iff] at e; omega
    refine ⟨?_, ?_⟩
    · rintro ⟨i, hi, hne, u, hu, _⟩
      by_cases hi0 : i = 0
      · subst hi0; simp [hno] at hu
      · simp [hi0] at hu
    · show ¬ Claimed (claimsF T2.held T2.n [(1, 2, f, f + n, 2)]) 3 2 (f + k)
      rw [hc2]
      rintro ⟨w, hw, _, h3, _⟩
      rw [List.mem_singleton] at hw; subst hw
      rw [hno] at h3; cases h3
  obtain ⟨T4, e4, I4, hh4⟩ := I3.wait (node := 3) (s0 := f) (s1 := f + 1) (m := 1) (by decide) ⟨by omega, by omega, .inl rfl⟩ ⟨f, hff, fun u hu => by
      have hno : hasS (f + k) (f + k + 1) f = false := by rw [Bool.eq_false_iff]; intro e; rw [hasS_iff] at e; omega
      simp [hno] at hu⟩ ⟨f, hff, .inl ⟨0, by decide, by decide, 2, by simp [hff], rfl⟩⟩ (.inl rfl) (by simp)
  refine ⟨T1, T2, T3', T4, e1, e2, e3, e4, ?_⟩
  have hr1 : relB T4.n 1 f (f + 1) 0 = true := relB_iff.2 ⟨by rw [I4.n]; decide, by omega, .inl rfl⟩
  have I5 := I4.lowered 1 f (f + 1) 0 (.inl rfl)
  rw [release_yes hr1, given_yes hr1]
  generalize T4.lowered 1 f (f + 1) 0 = L at *
  obtain ⟨g, hg, hg1, hg2⟩ := I5.grant_all
  -- the first one waits at f + k
  have hfk : hasS f (f + n) (f + k) = true := by rw [hasS_iff]; omega
  have hi1 : hindW L.held L.n (1, 2, f, f + n, 2) [] = f + k := I5.hind (node := 2) (s0 := f) (s1 := f + n) (m := 2) (A := []) hfk (.inl ⟨2, by decide, by decide, 2, by simp [hkk], rfl⟩) fun y h1 h2 => ⟨by
    rintro ⟨i, hi, hne, u, hu, _⟩
    have hno : hasS (f + k) (f + k + 1) y = false := by rw [Bool.eq_false_iff]; intro e; rw [hasS_iff] at e; omega
    by_cases hi0 : i = 0
    · subst hi0
      by_cases hy : hasS f (f + 1) y = true
      · simp [hy, lowV] at hu
      · simp [hy] at hu
    · by_cases hi2 : i = 2
      · subst hi2; simp [hno] at hu
      · simp [hi0, hi2] at hu, not_claimed_nil⟩
  have hcl : Claimed [claimW (1, 2, f, f + n, 2) (f + k)] 3 1 f := ⟨_, List.mem_singleton.2 rfl, (show ¬ (2 : Int) = 3 by decide), by show hasS f (f + k + 1) f = true; rw [hasS_iff]; omega, rfl⟩
  have hi2 : hindW L.held L.n (2, 3, f, f + 1, 1) [claimW (1, 2, f, f + n, 2) (f + k)] = f := I5.hind (node := 3) (s0 := f) (s1 := f + 1) (m := 1) hff (.inr hcl) fun y h1 h2 => by omega
  have hgs : g = ⟨L.held, [(1, 2, f, f + n, 2), (2, 3, f, f + 1, 1)], [claimW (1, 2, f, f + n, 2) (f + k), claimW (2, 3, f, f + 1, 1) f], []⟩ := by
    rw [← hg]
    show grantStep 3 (grantStep 3 ⟨L.held, [], [], []⟩ (1, 2, f, f + n, 2)) (2, 3, f, f + 1, 1) = _
    rw [I5.n] at hi1 hi2
    rw [step_left (g := ⟨L.held, [], [], []⟩) (w := (1, 2, f, f + n, 2)) (by show hindW L.held 3 (1, 2, f, f + n, 2) [] < f + n; rw [hi1]; omega)]
    show grantStep 3 ⟨L.held, [(1, 2, f, f + n, 2)], [claimW (1, 2, f, f + n, 2) (hindW L.held 3 (1, 2, f, f + n, 2) [])], []⟩ (2, 3, f, f + 1, 1) = _
    rw [hi1, step_left (g := ⟨L.held, [(1, 2, f, f + n, 2)], [claimW (1, 2, f, f + n, 2) (f + k)], []⟩) (w := (2, 3, f, f + 1, 1)) (by show hindW L.held 3 (2, 3, f, f + 1, 1) [claimW (1, 2, f, f + n, 2) (f + k)] < f + 1; rw [hi2]; omega)]
    show Gs.mk L.held _ [claimW (1, 2, f, f + n, 2) (f + k), claimW (2, 3, f, f + 1, 1) (hindW L.held 3 (2, 3, f, f + 1, 1) [claimW (1, 2, f, f + n, 2) (f + k)])] [] = _
    rw [hi2]; rfl
  have hLg : L.grant = L := by
    rw [hg2, hgs]
    have := I5.ws
    cases L; simp only at this ⊢; rw [this]; rfl
  rw [hLg, hg1, hgs]
  have hr2 : relB L.n 3 (f + k) (f + k + 1) 0 = true := relB_iff.2 ⟨by rw [I5.n]; decide, by omega, .inl rfl⟩
  have I6 := I5.lowered 3 (f + k) (f + k + 1) 0 (.inl rfl)
  refine ⟨hr1, rfl, hr2, ?_⟩
  rw [release_yes hr2, given_yes hr2]
  generalize L.lowered 3 (f + k) (f + k + 1) 0 = M at *
  obtain ⟨q, hq, hq1, hq2⟩ := I6.grant_all
  have hj1 : ¬ hindW M.held M.n (1, 2, f, f + n, 2) [] < f + n := hindF_free I6.ok.can (by show 0 ≤ f; omega) (fun x h1 h2 => ⟨by
    rw [I6.unfit]
    rintro ⟨i, hi, hne, u, hu, _⟩
    by_cases hi0 : i = 0
    · subst hi0
      by_cases hy : hasS f (f + 1) x = true
      · simp [hy, lowV] at hu
      · simp [hy] at hu
    · by_cases hi2 : i = 2
      · subst hi2
        by_cases hy : hasS (f + k) (f + k + 1) x = true
        · simp [hy, lowV] at hu
        · simp [hy] at hu
      · simp [hi0, hi2] at hu, not_claimed_nil⟩) (by show f < f + n; omega)
  have I7 : Is { M with held := upd M.held 2 (raiseF f (f + n) 2 (M.held 2)) } 3 _ _ _ := ⟨I6.ok.raise (node := 2) (rightB_iff.2 ⟨by omega, by omega, .inr rfl⟩), I6.n, fun i x => I6.hs.raise I6.ok 2 f (f + n) 2 i x, I6.ws, I6.last⟩
  have hj2 : hindW (upd M.held 2 (raiseF f (f + n) 2 (M.held 2))) M.n (2, 3, f, f + 1, 1) [] = f := I7.hind (node := 3) (s0 := f) (s1 := f + 1) (m := 1) (x := f) (A := []) hff (.inl ⟨1, by decide, by decide, 2, by simp [hfn], rfl⟩) fun y h1 h2 => by omega
  rw [I6.n] at hj1 hj2
  have hqs : q = ⟨upd M.held 2 (raiseF f (f + n) 2 (M.held 2)), [(2, 3, f, f + 1, 1)], [claimW (2, 3, f, f + 1, 1) f], [(1, 2, f, f + n, 2)]⟩ := by
    rw [← hq]
    show grantStep 3 (grantStep 3 ⟨M.held, [], [], []⟩ (1, 2, f, f + n, 2)) (2, 3, f, f + 1, 1) = _
    rw [step_free (g := ⟨M.held, [], [], []⟩) (w := (1, 2, f, f + n, 2)) hj1]
    show grantStep 3 ⟨upd M.held 2 (raiseF f (f + n) 2 (M.held 2)), [], [], [(1, 2, f, f + n, 2)]⟩ (2, 3, f, f + 1, 1) = _
    rw [step_left (g := ⟨upd M.held 2 (raiseF f (f + n) 2 (M.held 2)), [], [], [(1, 2, f, f + n, 2)]⟩) (w := (2, 3, f, f + 1, 1)) (by show hindW _ 3 (2, 3, f, f + 1, 1) [] < f + 1; rw [hj2]; omega)]
    show Gs.mk _ _ [claimW (2, 3, f, f + 1, 1) (hindW (upd M.held 2 (raiseF f (f + n) 2 (M.held 2))) 3 (2, 3, f, f + 1, 1) [])] _ = _
    rw [hj2]; rfl
  rw [hq1, hqs]
  refine ⟨rfl, ?_⟩
  have hgh : M.grant.held = upd M.held 2 (raiseF f (f + n) 2 (M.held 2)) := by rw [hq2, hqs]
  have hgn : M.grant.n = 3 := I6.n
  have hlast : hasS f (f + n) (f + n - 1) = true := by rw [hasS_iff]; omega
  unfold Tb.mode
  rw [if_pos (by rw [isB_iff, hgn]; decide), hgh]
  show (getP (f + n - 1) (upd M.held 2 _ 2)).getD 0 = 2
  rw [I7.hs 2]
  simp [hlast]
end

/-! ### TableKeeps -/
/-- only the first node holds anything, and none waits -/
structure Alone (T : Tb) : Prop where
  ok : TOk T
  n : T.n = 2
  two : T.held 2 = []
  ws : T.waits = []
theorem Alone.new : Alone ⟨2, fun _ => [], [], 0⟩ := ⟨TOk.new (by decide) (by decide), rfl, rfl, rfl⟩
theorem Alone.ask {T : Tb} (h : Alone T) (s0 s1 m : Int) : Alone (T.ask 1 s0 s1 m).tb := by
  by_cases hr : rightB s0 s1 m = true
  · have hb : isB T.n 1 = true := by rw [isB_iff, h.n]; decide
    by_cases hh : T.has 1 s0 s1 m = true
    · rw [ask_has hb hr hh]; exact h
    · have hf : freeF T.held T.n T.waits 1 s0 s1 m = true := by
        refine is_free h.ok.can (rightB_iff.1 hr).1 fun x _ _ => ⟨?_, by rw [h.ws]; exact not_claimed_nil⟩
        rintro ⟨i, hi, hne, u, hu, _⟩
        rw [h.n] at hi
        have : i = 1 := by
          have : i ≠ 0 := fun e => hne (by subst e; rfl)
          omega
        subst this
        rw [h.two] at hu; cases hu
      have hok := h.ok.ask 1 s0 s1 m
      rw [ask_free hb hr hh hf] at hok ⊢
      exact ⟨hok, h.n, by show upd T.held 1 (raiseF s0 s1 m (T.held 1)) 2 = []; rw [upd_ne _ _ (by decide)]; exact h.two, h.ws⟩
  · rw [ask_bad (.inr (by simpa using hr))]; exact h
theorem keeps_release {T : Tb} (h : Alone T) {s0 s1 keep : Int} (hs : 0 ≤ s0 ∧ s0 < s1) (hk : keep = 0 ∨ keep = 1) (b : Int) : relB T.n 1 s0 s1 keep = true ∧ Alone (T.release 1 s0 s1 keep) ∧ T.given 1 s0 s1 keep = [] ∧ (T.release 1 s0 s1 keep).mode 1 b = if s0 ≤ b ∧ b < s1 then min (T.mode 1 b) keep else T.mode 1 b := by
  have hr : relB T.n 1 s0 s1 keep = true := relB_iff.2 ⟨by rw [h.n]; decide, hs, hk⟩
  have hL := h.ok.lowered (node := 1) (s0 := s0) (s1 := s1) hk
  have hg : (T.lowered 1 s0 s1 keep).grant = T.lowered 1 s0 s1 keep := by
    unfold Tb.grant Tb.lowered
    rw [h.ws]; rfl
  have hgo : (T.lowered 1 s0 s1 keep).granted = [] := by
    unfold Tb.granted Tb.lowered
    rw [h.ws]; rfl
  rw [release_yes hr, given_yes hr, hg, hgo]
  refine ⟨hr, ⟨hL, h.n, ?_, h.ws⟩, rfl, ?_⟩
  · show upd T.held 1 (lowerF keep (partsP s0 s1 (T.held 1)) (T.held 1)) 2 = []
    rw [upd_ne _ _ (by decide)]; exact h.two
  · unfold Tb.mode
    have hb : isB T.n 1 = true := by rw [isB_iff, h.n]; decide
    have hb2 : isB (T.lowered 1 s0 s1 keep).n 1 = true := hb
    rw [if_pos hb, if_pos hb2]
    show (getP b (upd T.held 1 (lowerF keep (partsP s0 s1 (T.held 1)) (T.held 1)) 1)).getD 0 = if s0 ≤ b ∧ b < s1 then min ((getP b (T.held 1)).getD 0) keep else (getP b (T.held 1)).getD 0
    rw [upd_at, getP_lower (h.ok.can 1)]
    have hbl : hasS s0 s1 b = true ↔ s0 ≤ b ∧ b < s1 := by rw [hasS_iff]; omega
    by_cases hx : s0 ≤ b ∧ b < s1
    · rw [if_pos (hbl.2 hx), if_pos hx]
      cases hq : getP b (T.held 1) with
      | none => show (0 : Int) = min 0 keep; omega
      | some u =>
        show (lowV keep u (some u)).getD 0 = min u keep
        have := ((h.ok.held 1).val b u hq).2
        unfold lowV
        split
        · show u = _; omega
        · split
          · show (0 : Int) = _; omega
          · show keep = _; omega
    · rw [if_neg (fun e => hx (hbl.1 e)), if_neg hx]
theorem keeps_again {T : Tb} (h : Alone T) {x : Pt Int} (hx : x ∈ T.held 1) : T.ask 1 x.1 x.2.1 x.2.2 = ⟨0, true, 0, T⟩ := by
  have hp := (h.ok.held 1).part x hx
  refine ask_has (by rw [isB_iff, h.n]; decide) (rightB_iff.2 ⟨⟨hp.1, hp.2.1⟩, hp.2.2.1, hp.2.2.2⟩) ?_
  rw [has_iff (h.ok.held _) hp.2.2.2]
  intro y hy
  exact ⟨x.2.2, (getP_at (h.ok.can 1).dis).2 ⟨x, hx, hy, rfl⟩, Int.le_refl _⟩
theorem keeps_holds {T : Tb} (h : Alone T) : T.holds 1 = T.held 1 := by
  unfold Tb.holds; rw [if_pos (by rw [isB_iff, h.n]; decide)]; rfl
end

section
/-- requests for one block, of the nodes from j + 1 on -/
def reqs (b : Int) : Nat → List Int → List Wt
  | _, [] => []
  | j, m :: ms => ((j : Int) + 1, (j : Int) + 1, b, b + 1, m) :: reqs b (j + 1) ms
theorem reqs_len (b : Int) : ∀ (ms : List Int) (j : Nat), (reqs b j ms).length = ms.length
  | [], _ => rfl
  | m :: ms, j => by show (reqs b (j + 1) ms).length + 1 = ms.length + 1; rw [reqs_len b ms]
theorem reqs_snoc (b m : Int) : ∀ (ms : List Int) (j : Nat), reqs b j (ms ++ [m]) = reqs b j ms ++ [(((j + ms.length : Nat) : Int) + 1, ((j + ms.length : Nat) : Int) + 1, b, b + 1, m)]
  | [], j => rfl
  | x :: ms, j => by
    show _ :: reqs b (j + 1) (ms ++ [m]) = _ :: (reqs b (j + 1) ms ++ _)
    rw [reqs_snoc b m ms (j + 1)]
    have : j + 1 + ms.length = j + (x :: ms).length := by simp only [List.length_cons]; omega
    rw [this]
theorem reqs_get (b : Int) : ∀ (ms : List Int) (j i : Nat) (h : i < (reqs b j ms).length), (reqs b j ms)[i].1 = ((j + i : Nat) : Int) + 1 ∧ (reqs b j ms)[i].2.1 = ((j + i : Nat) : Int) + 1
  | [], _, _, h => absurd h (Nat.not_lt_zero _)
  | m :: ms, j, 0, _ => ⟨rfl, rfl⟩
  | m :: ms, j, i + 1, h => by
    have := reqs_get b ms (j + 1) i (by simpa [reqs] using h)
    have e : j + 1 + i = j + (i + 1) := by omega
    rw [e] at this; exact this
/-- each node holds no block but b -/
def OneB (b : Int) (held : Nat → List (Pt Int)) (h : Nat → Int) : Prop := ∀ i x, getP x (held i) = if x = b ∧ h i ≠ 0 then some (h i) else none
theorem OneB.at_ {b : Int} {held : Nat → List (Pt Int)} {h : Nat → Int} (hs : OneB b held h) {i : Nat} (hi : h i ≠ 0) : getP b (held i) = some (h i) := by rw [hs, if_pos ⟨rfl, hi⟩]
theorem OneB.of {b : Int} {held : Nat → List (Pt Int)} {h : Nat → Int} (hs : OneB b held h) {i : Nat} {x u : Int} (hi : getP x (held i) = some u) : x = b ∧ h i = u ∧ h i ≠ 0 := by
  rw [hs] at hi
  split at hi
  · rename_i e; injection hi with hi; exact ⟨e.1, hi, e.2⟩
  · cases hi
section
variable {b : Int}
theorem hindW_lt {held : Nat → List (Pt Int)} (hh : ∀ i, HOk (held i)) (hb : 0 ≤ b) {n : Nat} {w : Wt} {cls : List Wt} (h0 : w.2.2.1 = b) (h1 : w.2.2.2.1 = b + 1) (h : Unfit held n w.2.1 w.2.2.2.2 b ∨ Claimed cls w.2.1 w.2.2.2.2 b) : hindW held n w cls < w.2.2.2.1 := by
  have := hindF_le (fun i => (hh i).can) (n := n) (node := w.2.1) (s0 := w.2.2.1) (s1 := w.2.2.2.1) (m := w.2.2.2.2) (x := b) (A := cls) (by rw [h0, h1, hasS_iff]; omega) h
  unfold hindW
  omega
/-- behind one that waits, all wait -/
theorem fairB (hb : 0 ≤ b) {held : Nat → List (Pt Int)} (hh : ∀ i, HOk (held i)) : ∀ (rest : List Int) (j : Nat) (left cls out : List Wt), (∀ m ∈ rest, m = 1 ∨ m = 2) →
    (∀ nn : Nat, j < nn → nn ≤ j + rest.length → ∀ m : Int, m = 1 ∨ m = 2 → Unfit held 16 nn m b ∨ Claimed cls nn m b) →
    ∃ cls', (reqs b j rest).foldl (grantStep 16) ⟨held, left, cls, out⟩ = ⟨held, left ++ reqs b j rest, cls', out⟩
  | [], j, left, cls, out, _, _ => ⟨cls, by simp [reqs]⟩
  | m :: rest, j, left, cls, out, hm, hbl => by
    have hlt : hindW held 16 ((j : Int) + 1, (j : Int) + 1, b, b + 1, m) cls < b + 1 :=
      hindW_lt hh hb (w := ((j : Int) + 1, (j : Int) + 1, b, b + 1, m)) rfl rfl (by
        have := hbl (j + 1) (by omega) (by simp only [List.length_cons]; omega) m (hm m (List.mem_cons_self ..))
        simpa using this)
    obtain ⟨cls', e⟩ := fairB hb hh rest (j + 1) (left ++ [((j : Int) + 1, (j : Int) + 1, b, b + 1, m)]) (cls ++ [claimW ((j : Int) + 1, (j : Int) + 1, b, b + 1, m) (hindW held 16 ((j : Int) + 1, (j : Int) + 1, b, b + 1, m) cls)]) out (fun x hx => hm x (List.mem_cons_of_mem _ hx)) fun nn h1 h2 m' hm' => by
      rcases hbl nn (by omega) (by simp only [List.length_cons]; omega) m' hm' with h | ⟨w, hw, h⟩
      · exact .inl h
      · exact .inr ⟨w, List.mem_append_left _ hw, h⟩
    refine ⟨cls', ?_⟩
    show (reqs b (j + 1) rest).foldl (grantStep 16) (grantStep 16 ⟨held, left, cls, out⟩ ((j : Int) + 1, (j : Int) + 1, b, b + 1, m)) = _
    rw [step_left (g := ⟨held, left, cls, out⟩) hlt, e]
    show Gs.mk _ (left ++ [_] ++ _) _ _ = Gs.mk _ (left ++ (_ :: _)) _ _
    rw [List.append_assoc]; rfl
/-- those that are let through are the first ones -/
theorem fairA (hb : 0 ≤ b ∧ b ≤ 4000) : ∀ (rest : List Int) (j : Nat) (held : Nat → List (Pt Int)) (h : Nat → Int) (out : List Wt), (∀ i, HOk (held i)) → OneB b held h → (∀ m ∈ rest, m = 1 ∨ m = 2) → (∀ i, j < i → i ≤ j + rest.length → h i = 0) →
    ∃ (p : Nat) (g : Gs) (h' : Nat → Int), p ≤ rest.length ∧ (reqs b j rest).foldl (grantStep 16) ⟨held, [], [], out⟩ = g ∧ g.out = out ++ reqs b j (rest.take p) ∧ g.left = reqs b (j + p) (rest.drop p) ∧ OneB b g.held h' ∧ (∀ i, h' i ≠ 0 ↔ h i ≠ 0 ∨ (j < i ∧ i ≤ j + p)) ∧ (p < rest.length → ∃ i, h' i ≠ 0)
  | [], j, held, h, out, hh, hs, _, _ => ⟨0, _, h, Nat.le_refl _, rfl, by simp [reqs], rfl, hs, fun i => ⟨.inl, fun e => by rcases e with e | e; exact e; omega⟩, fun e => absurd e (Nat.lt_irrefl _)⟩
  | m :: rest, j, held, h, out, hh, hs, hm, hz => by
    have hmm := hm m (List.mem_cons_self ..)
    have hbb : hasS b (b + 1) b = true := by rw [hasS_iff]; omega
    by_cases hlt : hindW held 16 ((j : Int) + 1, (j : Int) + 1, b, b + 1, m) [] < b + 1
    · have hge : b ≤ hindW held 16 ((j : Int) + 1, (j : Int) + 1, b, b + 1, m) [] := hindF_ge (s0 := b) (s1 := b + 1) (by omega)
      have heq : hindW held 16 ((j : Int) + 1, (j : Int) + 1, b, b + 1, m) [] = b := by omega
      have hun : Unfit held 16 ((j : Int) + 1) m b := by
        rcases hindF_at (fun i => (hh i).can) (n := 16) (node := (j : Int) + 1) (s0 := b) (s1 := b + 1) (m := m) (A := []) hlt with h1 | h1
        · have e : hindF held 16 ((j : Int) + 1) b (b + 1) m [] = b := heq
          rw [e] at h1; exact h1
        · exact absurd h1 not_claimed_nil
      obtain ⟨i, hi, hne, u, hu, hf⟩ := hun
      have hiu := hs.of hu
      obtain ⟨cls', e⟩ := fairB hb.1 hh rest (j + 1) [((j : Int) + 1, (j : Int) + 1, b, b + 1, m)] [claimW ((j : Int) + 1, (j : Int) + 1, b, b + 1, m) b] out (fun x hx => hm x (List.mem_cons_of_mem _ hx)) fun nn h1 h2 m' hm' => by
        have hnn : h nn = 0 := hz nn (by omega) (by simp only [List.length_cons]; omega)
        rcases hmm with rfl | rfl
        · left
          have hu2 : u = 2 := by
            rcases ((hh (i + 1)).val b u hu).2 with rfl | rfl
            · cases hf
            · rfl
          refine ⟨i, hi, fun e => ?_, u, hu, ?_⟩
          · have : i + 1 = nn := by omega
            rw [this, hnn] at hiu
            exact hiu.2.2 rfl
          · rw [hu2]; rcases hm' with rfl | rfl <;> rfl
        · right
          refine ⟨_, List.mem_singleton.2 rfl, ?_, ?_, ?_⟩
          · show ¬ (j : Int) + 1 = nn; omega
          · show hasS b (b + 1) b = true; exact hbb
          · show fitB 2 m' = false; rcases hm' with rfl | rfl <;> rfl
      have estep : (reqs b j (m :: rest)).foldl (grantStep 16) ⟨held, [], [], out⟩ = ⟨held, [((j : Int) + 1, (j : Int) + 1, b, b + 1, m)] ++ reqs b (j + 1) rest, cls', out⟩ := by
        show (reqs b (j + 1) rest).foldl (grantStep 16) (grantStep 16 ⟨held, [], [], out⟩ ((j : Int) + 1, (j : Int) + 1, b, b + 1, m)) = _
        rw [step_left (g := ⟨held, [], [], out⟩) hlt]
        show (reqs b (j + 1) rest).foldl (grantStep 16) ⟨held, [((j : Int) + 1, (j : Int) + 1, b, b + 1, m)], [claimW ((j : Int) + 1, (j : Int) + 1, b, b + 1, m) (hindW held 16 ((j : Int) + 1, (j : Int) + 1, b, b + 1, m) [])], out⟩ = _
        rw [heq]; exact e
      exact ⟨0, _, h, Nat.zero_le _, estep, by simp [reqs], rfl, hs, fun i => ⟨.inl, fun e => by rcases e with e | e; exact e; omega⟩, fun _ => ⟨i + 1, hiu.2.2⟩⟩
    · have hz0 : h (j + 1) = 0 := hz (j + 1) (by omega) (by simp only [List.length_cons]; omega)
      have htn : ((j : Int) + 1).toNat = j + 1 := by omega
      have hs' : OneB b (upd held (j + 1) (raiseF b (b + 1) m (held (j + 1)))) (upd h (j + 1) m) := fun i x => by
        by_cases e : i = j + 1
        · subst e
          have hno : getP x (held (j + 1)) = none := by rw [hs]; exact if_neg (fun e => e.2 hz0)
          rw [upd_at, upd_at, getP_raise (hh _).can, hno]
          by_cases hx : x = b
          · subst hx; rw [if_pos hbb, if_pos ⟨rfl, by omega⟩]
          · have hxb : ¬ hasS b (b + 1) x = true := by rw [hasS_iff]; omega
            rw [if_neg hxb, if_neg (fun e => hx e.1)]
        · rw [upd_ne _ _ e, upd_ne _ _ e, hs]
      have hh' : ∀ i, HOk (upd held (j + 1) (raiseF b (b + 1) m (held (j + 1))) i) := upd_ok hh ((hh _).raise (by omega) hmm)
      obtain ⟨p, g, h', hp, hg, ho, hl, hs2, hm2, hr⟩ := fairA hb rest (j + 1) _ _ (out ++ [((j : Int) + 1, (j : Int) + 1, b, b + 1, m)]) hh' hs' (fun x hx => hm x (List.mem_cons_of_mem _ hx)) fun i h1 h2 => by
        rw [upd_ne _ _ (by omega)]; exact hz i (by omega) (by simp only [List.length_cons]; omega)
      have estep : (reqs b j (m :: rest)).foldl (grantStep 16) ⟨held, [], [], out⟩ = g := by
        show (reqs b (j + 1) rest).foldl (grantStep 16) (grantStep 16 ⟨held, [], [], out⟩ ((j : Int) + 1, (j : Int) + 1, b, b + 1, m)) = _
        rw [step_free (g := ⟨held, [], [], out⟩) hlt]
        show (reqs b (j + 1) rest).foldl (grantStep 16) ⟨upd held ((j : Int) + 1).toNat (raiseF b (b + 1) m (held ((j : Int) + 1).toNat)), [], [], out ++ [((j : Int) + 1, (j : Int) + 1, b, b + 1, m)]⟩ = _
        rw [htn]; exact hg
      refine ⟨p + 1, g, h', by simp only [List.length_cons]; omega, estep, ?_, ?_, hs2, fun i => ?_, fun e => hr (by simp only [List.length_cons] at e; omega)⟩
      · rw [ho, List.append_assoc]; rfl
      · rw [hl, show j + (p + 1) = j + 1 + p by omega]; rfl
      · rw [hm2]
        by_cases e : i = j + 1
        · subst e; rw [upd_at]
          exact ⟨fun _ => .inr ⟨by omega, by omega⟩, fun _ => .inl (by omega)⟩
        · rw [upd_ne _ _ e]
          constructor
          · rintro (h1 | h1)
            · exact .inl h1
            · exact .inr ⟨by omega, by omega⟩
          · rintro (h1 | h1)
            · exact .inl h1
            · exact .inr ⟨by omega, by omega⟩

def h16 : Nat → Int := upd (fun _ => 0) 16 2
theorem h16_at : h16 16 = 2 := rfl
theorem h16_ne {i : Nat} (h : i ≠ 16) : h16 i = 0 := upd_ne _ _ h
/-- before any is let go: node 16 holds the block, those that asked wait -/
structure Asked (b : Int) (ms : List Int) (T : Tb) (j : Nat) : Prop where
  is_ : Is T 16 (fun i x => if x = b ∧ h16 i ≠ 0 then some (h16 i) else none) (reqs b 0 (ms.take j)) j
theorem fair_first (hb : 0 ≤ b ∧ b ≤ 4000) (ms : List Int) : ∃ T1, Tb.ask ⟨16, fun _ => [], [], 0⟩ 16 b (b + 1) 2 = ⟨0, true, 0, T1⟩ ∧ Asked b ms T1 0 := by
  have hbb : hasS b (b + 1) b = true := by rw [hasS_iff]; omega
  obtain ⟨T1, e, I⟩ := (Is.new (n := 16) (by decide) (by decide)).now (node := 16) (s0 := b) (s1 := b + 1) (m := 2) (by decide) ⟨by omega, by omega, .inr rfl⟩ ⟨b, hbb, fun u hu => by cases hu⟩ fun x _ _ => ⟨(by rintro ⟨i, _, _, u, hu, _⟩; cases hu), not_claimed_nil⟩
  refine ⟨T1, e, ⟨I.ok, I.n, fun i x => ?_, I.ws, I.last⟩⟩
  rw [I.hs]
  show (if i = 16 then (if hasS b (b + 1) x = true then some (2 : Int) else none) else none) = _
  by_cases e : i = 16
  · subst e
    rw [h16_at, if_pos rfl]
    by_cases hx : x = b
    · subst hx; rw [if_pos hbb, if_pos ⟨rfl, by decide⟩]
    · have hxb : ¬ hasS b (b + 1) x = true := by rw [hasS_iff]; omega
      rw [if_neg hxb, if_neg (fun e => hx e.1)]
  · rw [h16_ne e, if_neg e, if_neg (fun e => e.2 rfl)]
theorem fair_ask (hb : 0 ≤ b ∧ b ≤ 4000) {ms : List Int} (hm : ∀ m ∈ ms, m = 1 ∨ m = 2) (hl : ms.length ≤ 15) {T : Tb} {j : Nat} (h : Asked b ms T j) (hj : j < ms.length) : ∃ T', T.ask ((j : Int) + 1) b (b + 1) ms[j] = ⟨(j : Int) + 1, false, 0, T'⟩ ∧ Asked b ms T' (j + 1) := by
  have hbb : hasS b (b + 1) b = true := by rw [hasS_iff]; omega
  have hmm := hm _ (List.getElem_mem hj)
  have htn : ((j : Int) + 1).toNat = j + 1 := by omega
  have hnone : ∀ x, (if x = b ∧ h16 ((j : Int) + 1).toNat ≠ 0 then some (h16 ((j : Int) + 1).toNat) else none) = none := fun x => by
    rw [htn, h16_ne (by omega), if_neg (fun e => e.2 rfl)]
  obtain ⟨T', e, I, _⟩ := h.is_.wait (node := (j : Int) + 1) (s0 := b) (s1 := b + 1) (m := ms[j]) (by omega) ⟨by omega, by omega, hmm⟩ ⟨b, hbb, fun u hu => by rw [hnone] at hu; cases hu⟩
    ⟨b, hbb, .inl ⟨15, by decide, by omega, 2, by rw [if_pos ⟨rfl, by decide⟩]; rfl, by rcases hmm with h | h <;> rw [h] <;> rfl⟩⟩ (.inr hnone) (by rw [reqs_len, List.length_take]; omega)
  refine ⟨T', e, ⟨I.ok, I.n, I.hs, ?_, by rw [I.last]; rfl⟩⟩
  rw [I.ws, List.take_succ_eq_append_getElem hj, reqs_snoc, List.length_take, Nat.min_eq_left (by omega), Nat.zero_add]
/-- j are let through, hl hold the block -/
structure Fair (b : Int) (ms : List Int) (T : Tb) (j k : Nat) (hl : List Nat) : Prop where
  ok : TOk T
  n : T.n = 16
  one : ∃ h : Nat → Int, OneB b T.held h ∧ ∀ i, h i ≠ 0 ↔ i ∈ hl
  ws : T.waits = reqs b j (ms.drop j)
  cnt : hl.length + k = j + 1
  nd : hl.Nodup
  mem : (k = 0 ∧ j = 0 ∧ hl = [16]) ∨ ∀ i ∈ hl, 1 ≤ i ∧ i ≤ j
  le : j ≤ ms.length
theorem Asked.fair {ms : List Int} {T : Tb} (h : Asked b ms T ms.length) : Fair b ms T 0 0 [16] := by
  refine ⟨h.is_.ok, h.is_.n, ⟨h16, fun i x => h.is_.hs i x, fun i => ?_⟩, ?_, rfl, by simp, .inl ⟨rfl, rfl, rfl⟩, Nat.zero_le _⟩
  · by_cases e : i = 16
    · subst e; rw [h16_at]; simp
    · rw [h16_ne e]; simp [e]
  · have := h.is_.ws
    rw [List.take_length] at this; exact this
theorem Fair.mode {ms : List Int} {T : Tb} {j k : Nat} {hl : List Nat} (h : Fair b ms T j k hl) {i : Nat} (hi : 1 ≤ i ∧ i ≤ 16) : T.mode i b ≠ 0 ↔ i ∈ hl := by
  obtain ⟨g, hs, hg⟩ := h.one
  unfold Tb.mode
  rw [if_pos (by rw [isB_iff, h.n]; omega), show ((i : Int)).toNat = i by omega, hs, ← hg]
  by_cases e : g i = 0
  · rw [if_neg (fun h => h.2 e)]; simp [e]
  · rw [if_pos ⟨rfl, e⟩]; rfl
theorem Fair.step (hb : 0 ≤ b ∧ b ≤ 4000) {ms : List Int} (hm : ∀ m ∈ ms, m = 1 ∨ m = 2) (h15 : ms.length ≤ 15) {T : Tb} {j k : Nat} {hl : List Nat} (h : Fair b ms T j k hl) {i : Nat} (hi : i ∈ hl) :
    relB T.n i b (b + 1) 0 = true ∧ ∃ (p : Nat) (hl' : List Nat), p ≤ (ms.drop j).length ∧ T.given i b (b + 1) 0 = reqs b j ((ms.drop j).take p) ∧ Fair b ms (T.release i b (b + 1) 0) (j + p) (k + 1) hl' ∧ (j + p < ms.length → ∃ q, q ∈ hl') ∧ (0 < p → j + p ∈ hl') := by
  have hbb : hasS b (b + 1) b = true := by rw [hasS_iff]; omega
  have hi16 : 1 ≤ i ∧ i ≤ 16 := by
    have h2 := h.le
    rcases h.mem with ⟨_, _, e⟩ | h1
    · rw [e, List.mem_singleton] at hi; omega
    · have := h1 i hi; omega
  have herase : ∀ q ∈ hl.erase i, 1 ≤ q ∧ q ≤ j := fun q hq => by
    have h2 := h.nd.mem_erase_iff.1 hq
    rcases h.mem with ⟨_, _, e⟩ | h1
    · rw [e, List.mem_singleton] at hi
      have h3 := h2.2
      rw [e, List.mem_singleton] at h3
      exact absurd (h3.trans hi.symm) h2.1
    · exact h1 q h2.2
  have hr : relB T.n i b (b + 1) 0 = true := relB_iff.2 ⟨by rw [h.n]; omega, by omega, .inl rfl⟩
  refine ⟨hr, ?_⟩
  obtain ⟨g, hs, hg⟩ := h.one
  have hok := h.ok.lowered (node := i) (s0 := b) (s1 := b + 1) (keep := 0) (.inl rfl)
  have hs1 : OneB b (T.lowered i b (b + 1) 0).held (upd g i 0) := fun q x => by
    show getP x (upd T.held ((i : Int)).toNat (lowerF 0 (partsP b (b + 1) (T.held ((i : Int)).toNat)) (T.held ((i : Int)).toNat)) q) = _
    rw [show ((i : Int)).toNat = i by omega]
    by_cases e : q = i
    · subst e
      rw [upd_at, upd_at, if_neg (fun e => e.2 rfl), getP_lower (h.ok.can _), hs]
      by_cases hx : hasS b (b + 1) x = true
      · rw [if_pos hx]
        by_cases h2 : x = b ∧ g q ≠ 0
        · rw [if_pos h2]
          have := ((h.ok.held q).val b (g q) (hs.at_ h2.2)).2
          show lowV 0 (g q) _ = none
          unfold lowV; rw [if_neg (by omega), if_pos rfl]
        · rw [if_neg h2]
      · rw [if_neg hx, if_neg (fun e => hx (by rw [e.1]; exact hbb))]
    · rw [upd_ne _ _ e, upd_ne _ _ e, hs]
  have hz : ∀ q, j < q → q ≤ j + (ms.drop j).length → upd g i 0 q = 0 := fun q h1 h2 => by
    by_cases e : q = i
    · rw [e, upd_at]
    · rw [upd_ne _ _ e]
      by_cases hq : g q = 0
      · exact hq
      · have := herase q (h.nd.mem_erase_iff.2 ⟨e, (hg q).1 hq⟩)
        omega
  obtain ⟨p, G, h', hp, hG, ho, hlf, hs2, hm2, hr2⟩ := fairA hb (ms.drop j) j (T.lowered i b (b + 1) 0).held _ [] hok.held hs1 (fun m hx => hm m (List.mem_of_mem_drop hx)) hz
  have hGF : grantF (T.lowered i b (b + 1) 0).n (T.lowered i b (b + 1) 0).held (T.lowered i b (b + 1) 0).waits = G := by
    show grantF T.n (T.lowered i b (b + 1) 0).held T.waits = G
    rw [h.n, h.ws]; exact hG
  have hlen : (ms.drop j).length = ms.length - j := List.length_drop ..
  have hle := h.le
  have hmem : ∀ q, h' q ≠ 0 ↔ q ∈ hl.erase i ++ (List.range p).map (fun q => j + 1 + q) := fun q => by
    rw [hm2, List.mem_append, h.nd.mem_erase_iff, ← hg]
    simp only [List.mem_map, List.mem_range]
    by_cases e : q = i
    · subst e; rw [upd_at]
      constructor
      · rintro (h1 | h1)
        · exact absurd rfl h1
        · exact .inr ⟨q - j - 1, by omega, by omega⟩
      · rintro (h1 | ⟨x, h1, h2⟩)
        · exact absurd rfl h1.1
        · exact .inr ⟨by omega, by omega⟩
    · rw [upd_ne _ _ e]
      constructor
      · rintro (h1 | h1)
        · exact .inl ⟨e, h1⟩
        · exact .inr ⟨q - j - 1, by omega, by omega⟩
      · rintro (h1 | ⟨x, h1, h2⟩)
        · exact .inl h1.2
        · exact .inr ⟨by omega, by omega⟩
  refine ⟨p, hl.erase i ++ (List.range p).map (fun q => j + 1 + q), hp, ?_, ⟨?_, ?_, ⟨h', ?_, hmem⟩, ?_, ?_, ?_, ?_, by omega⟩, ?_, ?_⟩
  · rw [given_yes hr]; unfold Tb.granted; rw [hGF, ho]; rfl
  · exact h.ok.release _ _ _ _
  · rw [release_yes hr]; exact h.n
  · rw [release_yes hr]
    show OneB b (grantF (T.lowered i b (b + 1) 0).n (T.lowered i b (b + 1) 0).held (T.lowered i b (b + 1) 0).waits).held h'
    rw [hGF]; exact hs2
  · rw [release_yes hr]
    show (grantF (T.lowered i b (b + 1) 0).n (T.lowered i b (b + 1) 0).held (T.lowered i b (b + 1) 0).waits).left = _
    rw [hGF, hlf, List.drop_drop]
  · rw [List.length_append, List.length_erase_of_mem hi, List.length_map, List.length_range]
    have := h.cnt
    have : 0 < hl.length := List.length_pos_of_mem hi
    omega
  · rw [List.nodup_append]
    refine ⟨h.nd.erase _, ?_, ?_⟩
    · refine List.Pairwise.map _ (fun a b hab => ?_) List.nodup_range
      exact fun e => hab (by omega)
    · intro x hx y hy e
      subst e
      have h1 := herase x hx
      obtain ⟨q, hq, hq2⟩ := List.mem_map.1 hy
      omega
  · right
    intro q hq
    rcases List.mem_append.1 hq with hq | hq
    · have := herase q hq; omega
    · obtain ⟨x, hx, hx2⟩ := List.mem_map.1 hq
      have := List.mem_range.1 hx
      omega
  · intro hlt
    obtain ⟨q, hq⟩ := hr2 (by omega)
    exact ⟨q, (hmem q).1 hq⟩
  · intro hpos
    exact List.mem_append_right _ (List.mem_map.2 ⟨p - 1, List.mem_range.2 (by omega), by omega⟩)
end
end

section
theorem fitB_comm (a b : Int) : fitB a b = fitB b a := by
  unfold fitB
  cases modeB a <;> cases modeB b <;> simp
  rw [Bool.eq_iff_iff]
  simp only [Bool.or_eq_true, Bool.and_eq_true, beq_iff_eq]
  omega
theorem fitB_low {a b c : Int} (ha : a = 1 ∨ a = 2) (hc : c = 1 ∨ c = 2) (hle : c ≤ a) (h : fitB a b = true) : fitB c b = true := by
  rcases ha with rfl | rfl <;> rcases hc with rfl | rfl
  · exact h
  · omega
  · unfold fitB at h ⊢
    simp [modeB] at h ⊢
    omega
  · exact h
theorem fitB_max {a b c : Int} (h1 : fitB a c = true) (h2 : fitB b c = true) : fitB (max a b) c = true := by
  by_cases h : a ≤ b
  · rw [Int.max_eq_right h]; exact h2
  · rw [Int.max_eq_left (by omega)]; exact h1

/-- no two nodes hold a block in modes that do not fit -/
def Snd (n : Nat) (held : Nat → List (Pt Int)) : Prop := ∀ i j, i < n → j < n → i ≠ j → ∀ x u v, getP x (held (i + 1)) = some u → getP x (held (j + 1)) = some v → fitB u v = true
theorem Snd.sound {T : Tb} (hT : TOk T) (h : Snd T.n T.held) : T.sound = true := by
  unfold Tb.sound; rw [List.all_eq_true]
  intro i hi
  rw [List.all_eq_true]
  intro l hl
  unfold fitsF; rw [List.all_eq_true]
  intro j hj
  by_cases e : (j : Int) + 1 = (i : Int) + 1
  · simp [e]
  · rw [Bool.or_eq_true]; right
    unfold fitsIn; rw [List.all_eq_true]
    intro p hp
    have h1 := meetP_has (hT.can _) hp
    have hlv := (hT.can _).val l hl
    exact h j i (List.mem_range.1 hj) (List.mem_range.1 hi) (by omega) p.1 _ _ h1.2.2 ((getP_at (hT.can _).dis).2 ⟨l, hl, by rw [hasS_iff]; omega, rfl⟩)
theorem Snd.less {n : Nat} {held held' : Nat → List (Pt Int)} (h : Snd n held) (hh : ∀ i, HOk (held i)) (hh' : ∀ i, HOk (held' i)) (hle : ∀ i x u, getP x (held' i) = some u → ∃ u0, getP x (held i) = some u0 ∧ u ≤ u0) : Snd n held' := by
  intro i j hi hj hne x u v hu hv
  obtain ⟨u0, hu0, hu1⟩ := hle _ _ _ hu
  obtain ⟨v0, hv0, hv1⟩ := hle _ _ _ hv
  have h0 := h i j hi hj hne x _ _ hu0 hv0
  have h1 := fitB_low ((hh _).val _ _ hu0).2 ((hh' _).val _ _ hu).2 hu1 h0
  rw [fitB_comm] at h1 ⊢
  exact fitB_low ((hh _).val _ _ hv0).2 ((hh' _).val _ _ hv).2 hv1 h1
theorem Snd.raise {n : Nat} {held : Nat → List (Pt Int)} (h : Snd n held) (hh : ∀ i, HOk (held i)) {node s0 s1 m : Int} (hn : 1 ≤ node) (hf : ∀ x, hasS s0 s1 x = true → ¬ Unfit held n node m x) : Snd n (upd held node.toNat (raiseF s0 s1 m (held node.toNat))) := by
  have key : ∀ j, j < n → ¬ (j : Int) + 1 = node → ∀ x u v, getP x (raiseF s0 s1 m (held node.toNat)) = some u → getP x (held (j + 1)) = some v → (∀ u0, getP x (held node.toNat) = some u0 → fitB u0 v = true) → fitB u v = true := by
    intro j hj hne x u v hu hv h0
    rw [getP_raise (hh _).can] at hu
    split at hu
    · rename_i hx
      have hmv : fitB m v = true := by
        rw [fitB_comm]
        cases hc : fitB v m with
        | true => rfl
        | false => exact absurd ⟨j, hj, hne, v, hv, hc⟩ (hf x hx)
      injection hu with hu
      subst hu
      cases hg : getP x (held node.toNat) with
      | none => exact hmv
      | some u0 => exact fitB_max (h0 u0 hg) hmv
    · exact h0 u hu
  intro i j hi hj hne x u v hu hv
  by_cases e1 : i + 1 = node.toNat
  · have e2 : j + 1 ≠ node.toNat := by omega
    rw [e1, upd_at] at hu
    rw [upd_ne _ _ e2] at hv
    exact key j hj (by omega) x u v hu hv fun u0 h0 => h i j hi hj hne x u0 v (by rw [e1]; exact h0) hv
  · rw [upd_ne _ _ e1] at hu
    by_cases e2 : j + 1 = node.toNat
    · rw [e2, upd_at] at hv
      rw [fitB_comm]
      exact key i hi (by omega) x v u hv hu fun u0 h0 => h j i hj hi (Ne.symm hne) x u0 u (by rw [e2]; exact h0) hu
    · rw [upd_ne _ _ e2] at hv
      exact h i j hi hj hne x u v hu hv
theorem not_unfit {held : Nat → List (Pt Int)} (hh : ∀ i, HOk (held i)) {n : Nat} {node s0 s1 m : Int} {A : List Wt} (h : ¬ hindF held n node s0 s1 m A < s1) : ∀ x, hasS s0 s1 x = true → ¬ Unfit held n node m x := fun x hx hu => by
  have := hindF_le (fun i => (hh i).can) (n := n) (A := A) hx (.inl hu)
  rw [hasS_iff] at hx; omega
theorem Unfit.raise {n : Nat} {held : Nat → List (Pt Int)} (hh : ∀ i, HOk (held i)) {node m x : Int} (hm : m = 1 ∨ m = 2) (h : Unfit held n node m x) (k : Nat) {s0 s1 m' : Int} (hm' : m' = 1 ∨ m' = 2) : Unfit (upd held k (raiseF s0 s1 m' (held k))) n node m x := by
  obtain ⟨i, hi, hne, u, hu, hf⟩ := h
  by_cases e : i + 1 = k
  · refine ⟨i, hi, hne, ?_⟩
    rw [e, upd_at, getP_raise (hh _).can]
    rw [e] at hu
    have hu2 := ((hh _).val _ _ hu).2
    rw [hu]
    split
    · refine ⟨_, rfl, ?_⟩
      rcases hu2 with rfl | rfl <;> rcases hm with rfl | rfl <;> rcases hm' with rfl | rfl <;> first | rfl | cases hf
    · exact ⟨u, rfl, hf⟩
  · exact ⟨i, hi, hne, u, by rw [upd_ne _ _ e]; exact hu, hf⟩

/-- the first request that waits is hindered by what others hold -/
def Stuck (n : Nat) (held : Nat → List (Pt Int)) (ws : List Wt) : Prop := ∀ w l, ws = w :: l → ∃ x, hasS w.2.2.1 w.2.2.2.1 x = true ∧ Unfit held n w.2.1 w.2.2.2.2 x
theorem Stuck.raise {n : Nat} {held : Nat → List (Pt Int)} {ws : List Wt} (hh : ∀ i, HOk (held i)) (hw : ∀ w ∈ ws, WOk n w) (h : Stuck n held ws) (k : Nat) {s0 s1 m' : Int} (hm' : m' = 1 ∨ m' = 2) : Stuck n (upd held k (raiseF s0 s1 m' (held k))) ws := fun w l e => by
  obtain ⟨x, hx, hu⟩ := h w l e
  exact ⟨x, hx, hu.raise hh (hw w (by rw [e]; exact List.mem_cons_self ..)).mode k hm'⟩
structure GSd (n : Nat) (g : Gs) : Prop where
  snd : Snd n g.held
  stuck : Stuck n g.held g.left
  cls : g.left = [] → g.cls = []
theorem GSd.step {n : Nat} {ws : List Wt} {g : Gs} {w : Wt} (hg : GOk n ws g) (hws : ∀ x ∈ ws, WOk n x) (h : GSd n g) (hw : WOk n w) : GSd n (grantStep n g w) := by
  by_cases hlt : hindW g.held n w g.cls < w.2.2.2.1
  · rw [step_left hlt]
    refine ⟨h.snd, fun y l e => ?_, fun e => absurd e (by simp)⟩
    cases hl : g.left with
    | nil =>
      rw [hl, List.nil_append] at e
      injection e with e _; subst e
      have hc := h.cls hl
      have hge := hindF_ge (held := g.held) (n := n) (node := w.2.1) (m := w.2.2.2.2) (A := g.cls) (Int.le_of_lt hw.span.2)
      have hlt' : hindF g.held n w.2.1 w.2.2.1 w.2.2.2.1 w.2.2.2.2 g.cls < w.2.2.2.1 := hlt
      refine ⟨_, ?_, (hindF_at (fun i => (hg.held i).can) hlt').resolve_right (by rw [hc]; exact not_claimed_nil)⟩
      rw [hasS_iff]; have := hw.span; omega
    | cons z r =>
      rw [hl, List.cons_append] at e
      injection e with e _; subst e
      exact h.stuck z r hl
  · rw [step_free hlt]
    exact ⟨h.snd.raise hg.held hw.node.1 (not_unfit hg.held hlt), h.stuck.raise hg.held (fun x hx => hws x (hg.left x hx)) _ hw.mode, h.cls⟩
theorem grantF_sd {n : Nat} {held : Nat → List (Pt Int)} (hh : ∀ i, HOk (held i)) (hs : Snd n held) (ws : List Wt) : (∀ w ∈ ws, WOk n w) → GSd n (grantF n held ws) := by
  refine snoc_ind (P := fun ws => (∀ w ∈ ws, WOk n w) → GSd n (grantF n held ws)) ?_ ?_ ws
  · intro _
    exact ⟨hs, fun _ _ h => (by cases h), fun _ => rfl⟩
  · intro l w ih hw
    rw [grantF_snoc]
    have hl := fun x hx => hw x (List.mem_append_left _ hx)
    exact (ih hl).step (grantF_ok hh l hl) hl (hw w (List.mem_append_right _ (List.mem_singleton.2 rfl)))
/-- where none is let through, nothing changes -/
theorem grantF_none {n : Nat} {held : Nat → List (Pt Int)} (ws : List Wt) : (grantF n held ws).out = [] → (grantF n held ws).held = held ∧ (grantF n held ws).left = ws := by
  refine snoc_ind (P := fun ws => (grantF n held ws).out = [] → (grantF n held ws).held = held ∧ (grantF n held ws).left = ws) ?_ ?_ ws
  · intro _; exact ⟨rfl, rfl⟩
  · intro l w ih h
    rw [grantF_snoc] at h ⊢
    by_cases hlt : hindW (grantF n held l).held n w (grantF n held l).cls < w.2.2.2.1
    · rw [step_left hlt] at h ⊢
      have := ih h
      exact ⟨this.1, by show (grantF n held l).left ++ [w] = l ++ [w]; rw [this.2]⟩
    · rw [step_free hlt] at h
      exact absurd h (by simp)

/-! ### the calls -/
structure Good (T : Tb) : Prop where
  ok : TOk T
  snd : Snd T.n T.held
  stuck : Stuck T.n T.held T.waits
theorem Good.new {n : Nat} (h1 : 1 ≤ n) (h2 : n ≤ 16) : Good ⟨n, fun _ => [], [], 0⟩ := ⟨TOk.new h1 h2, fun _ _ _ _ _ _ _ _ h => (by cases h), fun _ _ h => (by cases h)⟩
theorem good_grant {T : Tb} (h : TOk T) (hs : Snd T.n T.held) : Good T.grant := by
  have := grantF_sd h.held hs T.waits h.waits
  exact ⟨h.grant, this.snd, this.stuck⟩
theorem Good.ask {T : Tb} (h : Good T) (node s0 s1 m : Int) : Good (T.ask node s0 s1 m).tb := by
  have hok := h.ok.ask node s0 s1 m
  refine ⟨hok, ?_, ?_⟩
  all_goals
    by_cases h1 : isB T.n node = false ∨ rightB s0 s1 m = false
    · rw [ask_bad h1]; first | exact h.snd | exact h.stuck
    · have hn : isB T.n node = true := by cases e : isB T.n node <;> simp_all
      have hr : rightB s0 s1 m = true := by cases e : rightB s0 s1 m <;> simp_all
      by_cases h2 : T.has node s0 s1 m = true
      · rw [ask_has hn hr h2]; first | exact h.snd | exact h.stuck
      · by_cases h3 : freeF T.held T.n T.waits node s0 s1 m = true
        · rw [ask_free hn hr h2 h3]
          have h3' : ¬ hindF T.held T.n node s0 s1 m (claimsF T.held T.n T.waits) < s1 := by unfold freeF at h3; simpa using h3
          first
            | exact h.snd.raise h.ok.held (isB_iff.1 hn).1 (not_unfit h.ok.held h3')
            | exact h.stuck.raise h.ok.held h.ok.waits _ (rightB_iff.1 hr).2.2
        · cases h4 : deadF T.held T.waits node s0 s1 m with
          | true => rw [ask_dead hn hr h2 h3 h4]; first | exact h.snd | exact h.stuck
          | false =>
            by_cases h5 : T.waits.length < 1000
            · rw [ask_wait hn hr h2 h3 h4 h5]
              first
                | exact h.snd
                | (intro w l e
                   cases hw : T.waits with
                   | nil =>
                     have e' : [(T.last + 1, node, s0, s1, m)] = w :: l := by rw [← e]; show _ = T.waits ++ _; rw [hw]; rfl
                     injection e' with e1 _; subst e1
                     have h3' : hindF T.held T.n node s0 s1 m [] < s1 := by
                       unfold freeF at h3; rw [hw, claims_nil] at h3; exact of_decide_eq_true (by simpa using h3)
                     have hge := hindF_ge (held := T.held) (n := T.n) (node := node) (m := m) (A := []) (show s0 ≤ s1 from by have := rightB_iff.1 hr; omega)
                     exact ⟨_, by rw [hasS_iff]; have := rightB_iff.1 hr; exact ⟨this.1.1, hge, h3'⟩, (hindF_at h.ok.can h3').resolve_right not_claimed_nil⟩
                   | cons z r =>
                     have e' : z :: (r ++ [(T.last + 1, node, s0, s1, m)]) = w :: l := by rw [← e]; show _ = T.waits ++ _; rw [hw]; rfl
                     injection e' with e1 _; subst e1
                     exact h.stuck z r hw)
            · have e : T.ask node s0 s1 m = ⟨0, false, 10, T⟩ := by
                unfold Tb.ask; rw [if_neg h1, if_neg h2, if_neg h3, if_neg (by rw [h4]; simp), if_pos (by omega)]
              rw [e]; first | exact h.snd | exact h.stuck
theorem low_less {T : Tb} (h : TOk T) {node s0 s1 keep : Int} : ∀ i x u, getP x ((T.lowered node s0 s1 keep).held i) = some u → ∃ u0, getP x (T.held i) = some u0 ∧ (0 ≤ keep → u ≤ u0) ∧ (i = node.toNat → hasS s0 s1 x = true → u ≤ keep ) := by
  intro i x u hu
  have hl := (show Hs T (fun i x => getP x (T.held i)) from fun _ _ => rfl).lowered h node s0 s1 keep
  rw [hl] at hu
  change (if i = node.toNat then (if hasS s0 s1 x = true then (match getP x (T.held i) with | some u => lowV keep u (some u) | none => none) else getP x (T.held i)) else getP x (T.held i)) = some u at hu
  by_cases e : i = node.toNat
  · rw [if_pos e] at hu
    by_cases hx : hasS s0 s1 x = true
    · rw [if_pos hx] at hu
      cases hg : getP x (T.held i) with
      | none => rw [hg] at hu; cases hu
      | some u0 =>
        rw [hg] at hu
        refine ⟨u0, rfl, ?_⟩
        change lowV keep u0 (some u0) = some u at hu
        unfold lowV at hu
        split at hu
        · injection hu with hu; omega
        · split at hu
          · cases hu
          · injection hu with hu; omega
    · rw [if_neg hx] at hu
      exact ⟨u, hu, fun _ => Int.le_refl _, fun _ h => absurd h hx⟩
  · rw [if_neg e] at hu
    exact ⟨u, hu, fun _ => Int.le_refl _, fun h => absurd h e⟩
theorem Good.release {T : Tb} (h : Good T) (node s0 s1 keep : Int) : Good (T.release node s0 s1 keep) := by
  unfold Tb.release
  split
  · rename_i hr
    have hk := (relB_iff.1 hr).2.2
    have hl := h.ok.lowered (node := node) (s0 := s0) (s1 := s1) hk
    refine good_grant hl (h.snd.less h.ok.held hl.held fun i x u hu => ?_)
    obtain ⟨u0, h1, h2, _⟩ := low_less h.ok i x u hu
    exact ⟨u0, h1, h2 (by omega)⟩
  · exact h
def Tb.cancelled (T : Tb) (id : Int) : Tb := { T with waits := T.waits.filter fun w => !(w.1 == id) }
def Tb.cancel (T : Tb) (id : Int) : Tb := if (T.cancelled id).waits.length = T.waits.length then T.cancelled id else (T.cancelled id).grant
def Tb.dropped (T : Tb) (node : Int) : Tb := { T with held := upd T.held node.toNat [], waits := T.waits.filter fun w => !(w.2.1 == node) }
def Tb.drop (T : Tb) (node : Int) : Tb := if isB T.n node = true then (T.dropped node).grant else T
def Tb.force (T : Tb) (node s0 s1 m : Int) : Int × Tb :=
  if isB T.n node = false ∨ rightB s0 s1 m = false then (1, T)
  else if fitsF T.held T.n node s0 s1 m = false then (8, T)
  else (0, { T with held := upd T.held node.toNat (raiseF s0 s1 m (T.held node.toNat)) })
theorem TOk.cancelled {T : Tb} (h : TOk T) (id : Int) : TOk (T.cancelled id) := ⟨h.n, h.held, fun w hw => h.waits w ((List.mem_filter.1 hw).1), Nat.le_trans (List.length_filter_le _ _) h.len, h.last⟩
theorem TOk.dropped {T : Tb} (h : TOk T) (node : Int) : TOk (T.dropped node) := ⟨h.n, upd_ok h.held HOk.nil, fun w hw => h.waits w ((List.mem_filter.1 hw).1), Nat.le_trans (List.length_filter_le _ _) h.len, h.last⟩
theorem Good.cancel {T : Tb} (h : Good T) (id : Int) : Good (T.cancel id) := by
  unfold Tb.cancel
  split
  · rename_i he
    have : T.cancelled id = T := by
      have h2 : T.waits.filter (fun w => !(w.1 == id)) = T.waits := List.filter_eq_self.2 (List.length_filter_eq_length_iff.1 he)
      unfold Tb.cancelled; rw [h2]
    rw [this]; exact h
  · exact good_grant (h.ok.cancelled id) h.snd
theorem Good.drop {T : Tb} (h : Good T) (node : Int) : Good (T.drop node) := by
  unfold Tb.drop
  split
  · refine good_grant (h.ok.dropped node) (h.snd.less h.ok.held (h.ok.dropped node).held fun i x u hu => ?_)
    change getP x (upd T.held node.toNat [] i) = some u at hu
    unfold upd at hu
    split at hu
    · cases hu
    · exact ⟨u, hu, Int.le_refl _⟩
  · exact h
theorem fitsF_unfit {held : Nat → List (Pt Int)} (hh : ∀ i, HOk (held i)) {n : Nat} {node s0 s1 m : Int} (h : ¬ fitsF held n node s0 s1 m = false) : ∀ x, hasS s0 s1 x = true → ¬ Unfit held n node m x := by
  rintro x hx ⟨i, hi, hne, u, hu, hf⟩
  have ht : fitsF held n node s0 s1 m = true := by simpa using h
  unfold fitsF at ht
  have h1 := List.all_eq_true.1 ht i (List.mem_range.2 hi)
  obtain ⟨p, hp, _, _, hpu⟩ := part_of (hh _).can hx hu
  rw [Bool.or_eq_true] at h1
  rcases h1 with h1 | h1
  · exact hne (by simpa using h1)
  · unfold fitsIn at h1
    have := List.all_eq_true.1 h1 p hp
    rw [hpu, hf] at this; cases this
theorem Good.force {T : Tb} (h : Good T) (node s0 s1 m : Int) : Good (T.force node s0 s1 m).2 := by
  unfold Tb.force
  split
  · exact h
  · rename_i h1
    have hn : isB T.n node = true := by cases e : isB T.n node <;> simp_all
    have hr : rightB s0 s1 m = true := by cases e : rightB s0 s1 m <;> simp_all
    split
    · exact h
    · rename_i h2
      exact ⟨h.ok.raise hr, h.snd.raise h.ok.held (isB_iff.1 hn).1 (fitsF_unfit h.ok.held h2), h.stuck.raise h.ok.held h.ok.waits _ (rightB_iff.1 hr).2.2⟩
end

section
abbrev Rv := Int × Int × Int × Int
/-! ### what revoked tells -/
structure RvOk (m : List (Pt Int)) : Prop where
  can : CanP m
  top : ∀ x ∈ m, x.2.1 ≤ 4096
  val : ∀ n u, getP n m = some u → u = 0 ∨ u = 1
theorem RvOk.nil : RvOk [] := ⟨CanP.nil, fun _ h => (by cases h), fun _ _ h => (by cases h)⟩
theorem keepsF_val (a h : Int) : keepsF a h = 0 ∨ keepsF a h = 1 := by unfold keepsF; split <;> simp
theorem to_of {α : Type} {m : List (Pt α)} (hm : CanP m) (h : ∀ n u, getP n m = some u → n < 4096) : ∀ x ∈ m, x.2.1 ≤ 4096 := fun x hx => by
  have hv := hm.val x hx
  have := h (x.2.1 - 1) x.2.2 ((getP_at hm.dis).2 ⟨x, hx, by rw [hasS_iff]; omega, rfl⟩)
  omega
theorem of_to {α : Type} {m : List (Pt α)} (hm : CanP m) (h : ∀ x ∈ m, x.2.1 ≤ 4096) : ∀ n u, getP n m = some u → n < 4096 := fun n u hu => by
  obtain ⟨x, hx, hh, _⟩ := (getP_at hm.dis).1 hu
  have := h x hx
  rw [hasS_iff] at hh; omega
theorem RvOk.set {m : List (Pt Int)} (h : RvOk m) {a b k : Int} (hb : b ≤ 4096) (hk : k = 0 ∨ k = 1) : RvOk (setF a b k m) := by
  have hc := setF_can (s0 := a) (s1 := b) (v := k) h.can
  refine ⟨hc, to_of hc fun n u hu => ?_, fun n u hu => ?_⟩
  all_goals
    rw [getP_set h.can] at hu
    split at hu
    · rename_i hx; rw [hasS_iff] at hx; injection hu with hu; omega
    · first | exact of_to h.can h.top n u hu | exact h.val n u hu
theorem RvOk.clear {m : List (Pt Int)} (h : RvOk m) {a b : Int} : RvOk (clearF a b m) := by
  have hc := clearF_can (s0 := a) (s1 := b) h.can
  refine ⟨hc, to_of hc fun n u hu => ?_, fun n u hu => ?_⟩
  all_goals
    rw [getP_clear h.can] at hu
    split at hu
    · cases hu
    · first | exact of_to h.can h.top n u hu | exact h.val n u hu
theorem revIn_ok {keep : Int} : ∀ {Q m : List (Pt Int)}, RvOk m → RvOk (revIn keep Q m)
  | [], _, h => h
  | q :: Q, m, h => by
    show RvOk (revIn keep Q (if q.2.2 ≤ keep + 1 then clearF q.1 q.2.1 m else m))
    refine revIn_ok ?_
    split
    · exact h.clear
    · exact h
theorem rev1_ok {told : List (Pt Int)} {lm : Int} {m : List (Pt Int)} {p : Pt Int} (h : RvOk m) (hp : p.2.1 ≤ 4096) : RvOk (rev1 told lm m p) := by
  unfold rev1
  split
  · exact h
  · exact revIn_ok (h.set hp (keepsF_val _ _))
theorem revF_ok {told : List (Pt Int)} {lm : Int} : ∀ {P m : List (Pt Int)}, RvOk m → (∀ x ∈ P, x.2.1 ≤ 4096) → RvOk (P.foldl (rev1 told lm) m)
  | [], _, h, _ => h
  | p :: P, m, h, hP => revF_ok (P := P) (rev1_ok h (hP p (List.mem_cons_self ..))) fun x hx => hP x (List.mem_cons_of_mem _ hx)
theorem revokedF_ok {held told : List (Pt Int)} (h : HOk held) (s0 s1 lm : Int) : RvOk (revokedF held told s0 s1 lm) := revF_ok RvOk.nil fun x hx => (h.parts_to x hx).2.2.1
/-- with nothing told: just what does not fit -/
theorem getP_rev {lm x : Int} : ∀ {P m : List (Pt Int)}, Dis P → CanP m → (∀ p ∈ P, p.2.1 ≤ 4096) → RvOk m → getP x (P.foldl (rev1 [] lm) m) = match getP x P with | some u => (if fitB u lm = true then getP x m else some (keepsF lm u)) | none => getP x m
  | [], m, _, _, _, _ => rfl
  | p :: P, m, hd, hc, hP, hm => by
    show getP x (P.foldl (rev1 [] lm) (rev1 [] lm m p)) = _
    have hok := rev1_ok (told := []) (lm := lm) hm (hP p (List.mem_cons_self ..))
    rw [getP_rev hd.tail hok.can (fun y hy => hP y (List.mem_cons_of_mem _ hy)) hok, getP_cons]
    have e1 : rev1 [] lm m p = if fitB p.2.2 lm = true then m else setF p.1 p.2.1 (keepsF lm p.2.2) m := rfl
    by_cases hn : hasS p.1 p.2.1 x = true
    · rw [if_pos hn, hd.only hn]
      show getP x (rev1 [] lm m p) = if _ then _ else _
      rw [e1]
      by_cases hf : fitB p.2.2 lm = true
      · rw [if_pos hf, if_pos hf]
      · rw [if_neg hf, if_neg hf, getP_set hc, if_pos hn]
    · rw [if_neg hn]
      have e : getP x (rev1 [] lm m p) = getP x m := by
        rw [e1]
        split
        · rfl
        · rw [getP_set hc, if_neg hn]
      rw [e]
theorem revoked_has {held : List (Pt Int)} (h : HOk held) {s0 s1 lm x u : Int} (hx : hasS s0 s1 x = true) (hu : getP x held = some u) (hf : fitB u lm = false) : ∃ l ∈ revokedF held [] s0 s1 lm, hasS l.1 l.2.1 x = true ∧ l.2.2 = keepsF lm u := by
  have hg : getP x (revokedF held [] s0 s1 lm) = some (keepsF lm u) := by
    unfold revokedF
    rw [getP_rev (partsP_can h.can).dis CanP.nil (fun p hp => (h.parts_to p hp).2.2.1) RvOk.nil, getP_parts h.can, if_pos hx, hu]
    show (if fitB u lm = true then _ else _) = _
    rw [if_neg (by rw [hf]; simp)]
  exact (getP_at (revokedF_ok h s0 s1 lm).can.dis).1 hg

/-! ### what Revokes tells -/
structure RsOk (n : Nat) (r : Rs) : Prop where
  out : ∀ x ∈ r.out, relB n x.1 x.2.1 x.2.2.1 x.2.2.2 = true
  can : ∀ i, CanP (r.told i)
  top : ∀ i, ∀ x ∈ r.told i, x.2.1 ≤ 4096
theorem RsOk.first (n : Nat) : RsOk n ⟨[], fun _ => []⟩ := ⟨fun _ h => (by cases h), fun _ => CanP.nil, fun _ _ h => (by cases h)⟩
theorem RsOk.tell1 {n : Nat} {r : Rs} (h : RsOk n r) {node : Int} (hn : 1 ≤ node ∧ node ≤ n) {l : Pt Int} (hl : (0 ≤ l.1 ∧ l.1 < l.2.1) ∧ l.2.1 ≤ 4096 ∧ (l.2.2 = 0 ∨ l.2.2 = 1)) : RsOk n (tell1 node r l) := by
  have hc := setF_can (s0 := l.1) (s1 := l.2.1) (v := l.2.2 + 1) (h.can node.toNat)
  refine ⟨fun x hx => ?_, fun i => ?_, fun i => ?_⟩
  · rcases List.mem_append.1 hx with hx | hx
    · exact h.out x hx
    · rw [List.mem_singleton] at hx; subst hx
      exact relB_iff.2 ⟨hn, hl.1, hl.2.2⟩
  · show CanP (upd r.told node.toNat _ i)
    unfold upd; split
    · exact hc
    · exact h.can i
  · show ∀ x ∈ upd r.told node.toNat _ i, x.2.1 ≤ 4096
    unfold upd; split
    · refine to_of hc fun y u hu => ?_
      rw [getP_set (h.can _)] at hu
      split at hu
      · rename_i hx; rw [hasS_iff] at hx; omega
      · exact of_to (h.can _) (h.top _) y u hu
    · exact h.top i
theorem RvOk.each {m : List (Pt Int)} (h : RvOk m) : ∀ l ∈ m, (0 ≤ l.1 ∧ l.1 < l.2.1) ∧ l.2.1 ≤ 4096 ∧ (l.2.2 = 0 ∨ l.2.2 = 1) := fun l hl =>
  ⟨h.can.val l hl, h.top l hl, h.val l.1 l.2.2 ((getP_at h.can.dis).2 ⟨l, hl, by have := h.can.val l hl; rw [hasS_iff]; omega, rfl⟩)⟩
theorem RsOk.tells {n : Nat} {node : Int} (hn : 1 ≤ node ∧ node ≤ n) : ∀ {L : List (Pt Int)} {r : Rs}, RsOk n r → (∀ l ∈ L, (0 ≤ l.1 ∧ l.1 < l.2.1) ∧ l.2.1 ≤ 4096 ∧ (l.2.2 = 0 ∨ l.2.2 = 1)) → RsOk n (L.foldl (Go.Proofs.YtiokkoeciijkoaaGreat.tell1 node) r)
  | [], _, h, _ => h
  | l :: L, r, h, hL => RsOk.tells hn (L := L) (h.tell1 hn (hL l (List.mem_cons_self ..))) fun x hx => hL x (List.mem_cons_of_mem _ hx)
theorem RsOk.node {n : Nat} {held : Nat → List (Pt Int)} (hh : ∀ i, HOk (held i)) {w : Wt} {r : Rs} (h : RsOk n r) {i : Nat} (hi : i < n) : RsOk n (tellNode held w r i) := by
  unfold tellNode
  split
  · exact h
  · exact RsOk.tells (by omega) h (revokedF_ok (hh _) _ _ _).each
theorem RsOk.nodes {n : Nat} {held : Nat → List (Pt Int)} (hh : ∀ i, HOk (held i)) {w : Wt} : ∀ (k : Nat) {r : Rs}, k ≤ n → RsOk n r → RsOk n ((List.range k).foldl (tellNode held w) r)
  | 0, _, _, h => h
  | k + 1, r, hk, h => by rw [foldl_range]; exact (RsOk.nodes hh k (by omega) h).node hh (by omega)
theorem RsOk.waits {n : Nat} {held : Nat → List (Pt Int)} (hh : ∀ i, HOk (held i)) : ∀ (ws : List Wt) {r : Rs}, RsOk n r → RsOk n (ws.foldl (tellW held n) r)
  | [], _, h => h
  | w :: ws, r, h => RsOk.waits hh ws (RsOk.nodes hh n (Nat.le_refl _) h)
theorem revokes_ok {T : Tb} (h : TOk T) : ∀ r ∈ T.revokes, relB T.n r.1 r.2.1 r.2.2.1 r.2.2.2 = true := (RsOk.waits h.held T.waits (RsOk.first T.n)).out

/-! ### the first one's lines are among them -/
theorem tells_out {node : Int} : ∀ (L : List (Pt Int)) (r : Rs), (L.foldl (tell1 node) r).out = r.out ++ L.map fun l => (node, l.1, l.2.1, l.2.2)
  | [], r => by simp
  | l :: L, r => by
    show (L.foldl (tell1 node) (tell1 node r l)).out = _
    rw [tells_out L]
    show (r.out ++ [_]) ++ _ = _
    rw [List.append_assoc]; rfl
theorem tells_told {node : Int} {i : Nat} (hi : i ≠ node.toNat) : ∀ (L : List (Pt Int)) (r : Rs), (L.foldl (tell1 node) r).told i = r.told i
  | [], r => rfl
  | l :: L, r => by
    show (L.foldl (tell1 node) (tell1 node r l)).told i = _
    rw [tells_told hi L]
    exact upd_ne _ _ hi
theorem tellNode_out {held : Nat → List (Pt Int)} {w : Wt} {r : Rs} {i : Nat} {x : Rv} (hx : x ∈ r.out) : x ∈ (tellNode held w r i).out := by
  unfold tellNode
  split
  · exact hx
  · rw [tells_out]; exact List.mem_append_left _ hx
theorem tellNodes_out {held : Nat → List (Pt Int)} {w : Wt} {x : Rv} : ∀ (k : Nat) {r : Rs}, x ∈ r.out → x ∈ ((List.range k).foldl (tellNode held w) r).out
  | 0, _, h => h
  | k + 1, r, h => by rw [foldl_range]; exact tellNode_out (tellNodes_out k h)
theorem tellWs_out {n : Nat} {held : Nat → List (Pt Int)} {x : Rv} : ∀ (ws : List Wt) {r : Rs}, x ∈ r.out → x ∈ (ws.foldl (tellW held n) r).out
  | [], _, h => h
  | w :: ws, r, h => tellWs_out ws (tellNodes_out n h)
theorem tellNode_told {held : Nat → List (Pt Int)} {w : Wt} {r : Rs} {i j : Nat} (h : j ≠ i) : (tellNode held w r i).told (j + 1) = r.told (j + 1) := by
  unfold tellNode
  split
  · rfl
  · exact tells_told (by omega) _ _
theorem tellNodes_told {held : Nat → List (Pt Int)} {w : Wt} {j : Nat} : ∀ (k : Nat) {r : Rs}, k ≤ j → ((List.range k).foldl (tellNode held w) r).told (j + 1) = r.told (j + 1)
  | 0, _, _ => rfl
  | k + 1, r, h => by rw [foldl_range, tellNode_told (by omega), tellNodes_told k (by omega)]
theorem tellNodes_has {held : Nat → List (Pt Int)} {w : Wt} {i : Nat} (hne : ¬ (i : Int) + 1 = w.2.1) {r : Rs} (ht : r.told (i + 1) = []) {l : Pt Int} (hl : l ∈ revokedF (held (i + 1)) [] w.2.2.1 w.2.2.2.1 w.2.2.2.2) : ∀ k, i < k → (((i : Int) + 1, l.1, l.2.1, l.2.2) : Rv) ∈ ((List.range k).foldl (tellNode held w) r).out
  | 0, h => absurd h (Nat.not_lt_zero _)
  | k + 1, h => by
    rw [foldl_range]
    by_cases e : i = k
    · subst e
      have e : tellNode held w ((List.range i).foldl (tellNode held w) r) i = (revokedF (held (i + 1)) (((List.range i).foldl (tellNode held w) r).told (i + 1)) w.2.2.1 w.2.2.2.1 w.2.2.2.2).foldl (tell1 ((i : Int) + 1)) ((List.range i).foldl (tellNode held w) r) := if_neg hne
      rw [e, tells_out, tellNodes_told i (Nat.le_refl _), ht]
      exact List.mem_append_right _ (List.mem_map.2 ⟨l, hl, rfl⟩)
    · exact tellNode_out (tellNodes_has hne ht hl k (by omega))
/-- what hinders the first one is told -/
theorem revokes_has {T : Tb} (h : TOk T) {w : Wt} {ws : List Wt} (hw : T.waits = w :: ws) {i : Nat} (hi : i < T.n) (hne : ¬ (i : Int) + 1 = w.2.1) {x u : Int} (hx : hasS w.2.2.1 w.2.2.2.1 x = true) (hu : getP x (T.held (i + 1)) = some u) (hf : fitB u w.2.2.2.2 = false) : ∃ r ∈ T.revokes, r.1 = (i : Int) + 1 ∧ hasS r.2.1 r.2.2.1 x = true ∧ r.2.2.2 = keepsF w.2.2.2.2 u := by
  obtain ⟨l, hl, hlx, hlk⟩ := revoked_has (h.held _) hx hu hf
  refine ⟨((i : Int) + 1, l.1, l.2.1, l.2.2), ?_, rfl, hlx, hlk⟩
  unfold Tb.revokes
  rw [hw]
  exact tellWs_out ws (tellNodes_has hne rfl hl T.n hi)
theorem revokes_some {T : Tb} (h : Good T) (hw : T.waits ≠ []) : T.revokes ≠ [] := by
  cases e : T.waits with
  | nil => exact absurd e hw
  | cons w ws =>
    obtain ⟨x, hx, i, hi, hne, u, hu, hf⟩ := h.stuck w ws e
    obtain ⟨r, hr, _⟩ := revokes_has h.ok e hi hne hx hu hf
    intro h0
    rw [h0] at hr; cases hr

/-! ### a round -/
def relAll (T : Tb) (R : List Rv) : Tb := R.foldl (fun T r => T.release r.1 r.2.1 r.2.2.1 r.2.2.2) T
theorem relAll_good : ∀ (R : List Rv) {T : Tb}, Good T → Good (relAll T R)
  | [], _, h => h
  | r :: R, T, h => relAll_good R (h.release r.1 r.2.1 r.2.2.1 r.2.2.2)
theorem release_n (T : Tb) (a b c d : Int) : (T.release a b c d).n = T.n := by unfold Tb.release; split <;> rfl
theorem relAll_n : ∀ (R : List Rv) (T : Tb), (relAll T R).n = T.n
  | [], _ => rfl
  | r :: R, T => (relAll_n R _).trans (release_n T _ _ _ _)
theorem release_len {T : Tb} (h : TOk T) (a b c d : Int) : (T.release a b c d).waits.length ≤ T.waits.length := by
  unfold Tb.release
  split
  · rename_i hr
    have := (grantF_ok (h.lowered (node := a) (s0 := b) (s1 := c) (relB_iff.1 hr).2.2).held T.waits h.waits).len
    show (grantF T.n (T.lowered a b c d).held T.waits).left.length ≤ _
    omega
  · exact Nat.le_refl _
theorem relAll_len : ∀ (R : List Rv) {T : Tb}, TOk T → (relAll T R).waits.length ≤ T.waits.length
  | [], _, _ => Nat.le_refl _
  | r :: R, T, h => Nat.le_trans (relAll_len R (h.release r.1 r.2.1 r.2.2.1 r.2.2.2)) (release_len h _ _ _ _)
theorem release_same {T : Tb} (h : TOk T) {a b c d : Int} (hr : relB T.n a b c d = true) (hl : (T.release a b c d).waits.length = T.waits.length) : T.release a b c d = T.lowered a b c d := by
  rw [release_yes hr] at hl ⊢
  have hg := grantF_ok (h.lowered (node := a) (s0 := b) (s1 := c) (relB_iff.1 hr).2.2).held T.waits h.waits
  have hl' : (grantF T.n (T.lowered a b c d).held T.waits).left.length = T.waits.length := hl
  have ho : (grantF T.n (T.lowered a b c d).held T.waits).out = [] := List.eq_nil_of_length_eq_zero (by have := hg.len; omega)
  have := grantF_none (n := T.n) (held := (T.lowered a b c d).held) T.waits ho
  show ({ T.lowered a b c d with held := (grantF T.n (T.lowered a b c d).held T.waits).held, waits := (grantF T.n (T.lowered a b c d).held T.waits).left } : Tb) = _
  rw [this.1, this.2]; rfl
/-- where a round lets none through, each block that was told has no more than what is kept -/
theorem relAll_same : ∀ (R : List Rv) {T : Tb}, TOk T → (∀ r ∈ R, relB T.n r.1 r.2.1 r.2.2.1 r.2.2.2 = true) → (relAll T R).waits.length = T.waits.length →
    (relAll T R).waits = T.waits ∧ ∀ i x u, getP x ((relAll T R).held i) = some u → ∃ u0, getP x (T.held i) = some u0 ∧ u ≤ u0 ∧ ∀ r ∈ R, i = r.1.toNat → hasS r.2.1 r.2.2.1 x = true → u ≤ r.2.2.2
  | [], T, _, _, _ => ⟨rfl, fun i x u hu => ⟨u, hu, Int.le_refl _, fun _ h => (by cases h)⟩⟩
  | r :: R, T, h, hR, hl => by
    have h1 := relAll_len R (h.release r.1 r.2.1 r.2.2.1 r.2.2.2)
    have h2 := release_len h r.1 r.2.1 r.2.2.1 r.2.2.2
    have hl' : (relAll (T.release r.1 r.2.1 r.2.2.1 r.2.2.2) R).waits.length = T.waits.length := hl
    have hr := hR r (List.mem_cons_self ..)
    have hs := release_same h hr (by omega)
    have ih := relAll_same R (h.release r.1 r.2.1 r.2.2.1 r.2.2.2) (fun y hy => by rw [release_n]; exact hR y (List.mem_cons_of_mem _ hy)) (by omega)
    have hk := (relB_iff.1 hr).2.2
    refine ⟨ih.1.trans (by rw [hs]; rfl), fun i x u hu => ?_⟩
    obtain ⟨u1, hu1, hle1, hall⟩ := ih.2 i x u hu
    rw [hs] at hu1
    obtain ⟨u0, hu0, hle0, hkp⟩ := low_less h i x u1 hu1
    refine ⟨u0, hu0, by have := hle0 (by omega); omega, fun y hy hi hx => ?_⟩
    rcases List.mem_cons.1 hy with rfl | hy
    · have := hkp hi hx; omega
    · exact hall y hy hi hx
/-- each round lets one through -/
theorem round_less {T : Tb} (h : Good T) (hw : T.waits ≠ []) : (relAll T T.revokes).waits.length < T.waits.length := by
  have hle := relAll_len T.revokes h.ok
  refine Nat.lt_of_le_of_ne hle fun he => ?_
  obtain ⟨hs, hlow⟩ := relAll_same T.revokes h.ok (revokes_ok h.ok) he
  have hg := relAll_good T.revokes h
  cases e : T.waits with
  | nil => exact hw e
  | cons w ws =>
    obtain ⟨x, hx, i, hi, hne, u, hu, hf⟩ := hg.stuck w ws (hs.trans e)
    rw [relAll_n] at hi
    obtain ⟨u0, hu0, hle0, hall⟩ := hlow _ _ _ hu
    have hwm := (h.ok.waits w (by rw [e]; exact List.mem_cons_self ..)).mode
    have hv := ((hg.ok.held _).val _ _ hu).2
    have hv0 := ((h.ok.held _).val _ _ hu0).2
    have hf0 : fitB u0 w.2.2.2.2 = false := by
      cases hc : fitB u0 w.2.2.2.2 with
      | false => rfl
      | true => rw [fitB_low hv0 hv hle0 hc] at hf; cases hf
    obtain ⟨r, hr, hr1, hr2, hr3⟩ := revokes_has h.ok e hi hne hx hu0 hf0
    have := hall r hr (by omega) hr2
    rw [hr3] at this
    unfold keepsF at this
    split at this
    · rename_i hc
      rw [hc.1] at hf
      have : u = 1 := by omega
      rw [this] at hf; cases hf
    · omega
end
end Go.Proofs.YtiokkoeciijkoaaGreat
