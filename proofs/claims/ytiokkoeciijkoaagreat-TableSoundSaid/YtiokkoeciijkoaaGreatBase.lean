/- Words for memory that all my walks use: a fact kept from the walk; rows of structs that are read or owned; append of what was made last; numbers that fit 64 bits. -/
import Derived.Test.YtiokkoeciijkoaaGreatProg
import Derived.WalkKit
import Derived.WalkSpells
import Derived.WalkLawsBesides
import Derived.BigQuiet
import Derived.StillTailTactics
import Derived.Deep.RegionHeld3
import Derived.Deep.RegionWith
import Derived.Deep.LoopGhost
import Derived.Deep.DeepCutAuto
namespace Go.Proofs.YtiokkoeciijkoaaGreat
set_option linter.unusedVariables false
set_option linter.unusedSimpArgs false
open Go.RowKit

theorem hidd {p : Prop} (h : p) : Hid p := h

/-- fits a signed number of 64 bits -/
def I64 (n : Int) : Prop := -9223372036854775808 ≤ n ∧ n ≤ 9223372036854775807
theorem I64.lo {n : Int} (h : I64 n) : -9223372036854775808 ≤ n := h.1
theorem I64.hi {n : Int} (h : I64 n) : n ≤ 9223372036854775807 := h.2

theorem add_lit' (b o j : Nat) : (⟨b, o, none⟩ : Addr).add j = ⟨b, o + j, none⟩ := by unfold Addr.add; split <;> simp_all

/-! ### rows of elements of k cells -/
section
variable {α : Type}
theorem flat_length (enc : α → List Value) (k : Nat) (hk : ∀ x, (enc x).length = k) (xs : List α) : (xs.flatMap enc).length = xs.length * k := by
  induction xs with
  | nil => simp
  | cons x xs ih => rw [List.flatMap_cons, List.length_append, hk, ih, List.length_cons, Nat.add_mul]; omega

theorem flat_at (enc : α → List Value) (k : Nat) (hk : ∀ x, (enc x).length = k) (xs : List α) : ∀ (i : Nat) (x : α), xs[i]? = some x → ∀ j, j < k → (xs.flatMap enc)[i * k + j]? = (enc x)[j]? := by
  induction xs with
  | nil => intro i x h; simp at h
  | cons y xs ih =>
    intro i x h j hj
    rw [List.flatMap_cons]
    cases i with
    | zero =>
      simp at h; subst h
      rw [List.getElem?_append_left (by rw [hk]; omega)]; simp
    | succ i =>
      rw [List.getElem?_append_right (by rw [hk, Nat.add_mul]; omega), hk]
      have e : (i + 1) * k + j - k = i * k + j := by rw [Nat.add_mul]; omega
      rw [e]
      exact ih i x (by simpa using h) j hj
end

/-- A slice value's address A leads to the elements xs (each of k cells), below the heap's end. -/
def Rd {α : Type} (k : Nat) (enc : α → List Value) (w : World) (A : Option Addr) (xs : List α) : Prop :=
  xs = [] ∨ ∃ b o, A = some ⟨b, o, none⟩ ∧ b < w.heap.size ∧ ∀ j u, (xs.flatMap enc)[j]? = some u → w.cell? ⟨b, o + j, none⟩ = some u

/-- The row of v is the call's own from block base on: n elements of type e. -/
abbrev Own {α : Type} (k : Nat) (enc : α → List Value) (e : TypeId) (w : World) (base : Nat) (v : Value) (xs : List α) : Prop := w.ownsRow base e k v xs.length (xs.flatMap enc)

section
variable {α : Type} {k : Nat} {enc : α → List Value} {w w' : World} {A : Option Addr} {xs : List α} {e : TypeId} {base : Nat} {v : Value}
theorem Rd.nil : Rd k enc w A ([] : List α) := .inl rfl
theorem Rd.below {B : Nat} (h : Rd k enc w A xs) (hb : Below B w w') (hB : w.heap.size ≤ B) : Rd k enc w' A xs := by
  rcases h with h | ⟨b, o, hA, hlt, hc⟩
  · exact .inl h
  · exact .inr ⟨b, o, hA, Nat.lt_of_lt_of_le hlt hb.size, fun j u hu => (hb.cell (p := ⟨b, o + j, none⟩) (by show b < B; omega)).trans (hc j u hu)⟩
theorem Rd.drewN (h : Rd k enc w A xs) (n : Nat) : Rd k enc (w.drewN n) A xs := h
theorem Rd.drew (h : Rd k enc w A xs) : Rd k enc w.drew A xs := h
theorem Rd.alloc (h : Rd k enc w A xs) (o : Obj) : Rd k enc (w.alloc o) A xs := h.below ((Below.refl _ _).alloc (Nat.le_refl _) o) (Nat.le_refl _)

theorem own_shape {size n : Nat} {ys : List Value} (h : w.ownsRow base e size v n ys) : ∃ A c, v = .slice A n c := by
  rcases h.2 with ⟨h1, h2⟩ | ⟨g, cap, cur, h1, _⟩
  · exact ⟨none, 0, by rw [h1, h2]⟩
  · exact ⟨_, _, h1⟩
theorem own_below {size n : Nat} {ys : List Value} (h : w.ownsRow base e size v n ys) (hb : Below w.heap.size w w') : w'.ownsRow base e size v n ys :=
  h.kept (row := none) ⟨hb.os, hb.tape, hb.output, hb.size, fun k hk _ => hb.block k hk⟩ (by cases hv : v.ownBlock <;> simp)
theorem own_base {size n base' : Nat} {ys : List Value} (h : w.ownsRow base e size v n ys) (hb : base' ≤ base) : w.ownsRow base' e size v n ys := by
  refine ⟨h.1, ?_⟩
  rcases h.2 with h2 | ⟨g, cap, cur, h1, h2, h3⟩
  · exact .inl h2
  · exact .inr ⟨g, cap, cur, h1, by omega, h3⟩
theorem Own.rd {c : Nat} {n : Nat} (h : w.ownsRow base e k (.slice A n c) n (xs.flatMap enc)) (hn : n = xs.length) : Rd k enc w A xs := by
  rcases h.2 with ⟨h1, h2⟩ | ⟨g, cap, cur, h1, hb, hg, _⟩
  · subst hn; exact .inl (List.eq_nil_of_length_eq_zero h2)
  · injection h1 with h1 _ _
    subst h1
    refine .inr ⟨g, 0, rfl, (Array.getElem?_eq_some_iff.1 hg).1, fun j u hu => ?_⟩
    have := h.cells (g := g) rfl j u hu
    rw [add_lit'] at this
    exact this
/-- a row that holds something: where it lies -/
theorem own_at {size n : Nat} {ys : List Value} (h : w.ownsRow base e size v n ys) (hn : 0 < n) : ∃ g cap, v = .slice (some ⟨g, 0, none⟩) n cap ∧ base ≤ g ∧ g < w.heap.size ∧ (∀ j u, ys[j]? = some u → w.cell? ⟨g, j, none⟩ = some u) ∧ ∀ j, w.frozen? ⟨g, j, none⟩ = false := by
  rcases h.2 with ⟨h1, h2⟩ | ⟨g, cap, cur, h1, hb, hg, _⟩
  · omega
  · subst h1
    refine ⟨g, cap, rfl, hb, (Array.getElem?_eq_some_iff.1 hg).1, fun j u hu => ?_, fun j => h.frozenAt j⟩
    have := h.cells (g := g) rfl j u hu
    rw [add_lit'] at this
    simpa using this
end

/-- what lay in W reads in w1 as it did: two rules for the walk -/
theorem bcell {W w1 : World} (h : Below W.heap.size W w1) :
    (∀ b o, b < W.heap.size → w1.cell? ⟨b, o, none⟩ = W.cell? ⟨b, o, none⟩) ∧ (∀ b o, b < W.heap.size → w1.frozen? ⟨b, o, none⟩ = W.frozen? ⟨b, o, none⟩) :=
  ⟨fun b o hb => h.cell (p := ⟨b, o, none⟩) hb, fun b o hb => h.frozen (p := ⟨b, o, none⟩) hb⟩
theorem below_next {W w1 w2 : World} (h : Below W.heap.size W w1) (h2 : Below w1.heap.size w1 w2) : Below W.heap.size W w2 := h.trans (h2.mono h.size)
theorem below_drewN {B : Nat} {w w' : World} (h : Below B w w') (n : Nat) : Below B w (w'.drewN n) := ⟨h.os, h.tape, h.output, h.size, h.block⟩
theorem below_of {B : Nat} {w w' : World} (h : Below w.heap.size w w') (hB : B ≤ w.heap.size) : Below B w w' := h.mono hB

/-- append of what was made last, onto a row of the call's own -/
theorem wpList_app_new {P : Program} {wr W0 : World} {ops : Array Oper} {rest : List Oper} {o : Oper} {a : Act} {Q : Exit → Act → World → Prop} {s x : Operand} {t e : TypeId} {z : Value} {base size bytes n m c g : Nat} {v : Value} {xs : List Value} {cs : Array Value}
    (ht : P.underlying t = some (.slice e)) (hinfo : (P.info? e).map (fun i => (i.zero, i.size, i.bytes)) = some (some z, size, bytes)) (hzs : z.cells.size = size) (hsz : 0 < size)
    (hown : wr.ownsRow base e size v n xs) (hbase : base ≤ wr.heap.size) (hbW : Below wr.heap.size wr W0)
    (hgd : o.guard = none) (ho : o.op = .call { callee := .builtin .append, args := #[s, x], argTypes := #[t, t] })
    (hs : a.eval s = v) (hx : a.eval x = .slice (some ⟨g, 0, none⟩) m c) (hg : g = W0.heap.size) (hcs : cs.size = m * size) (h1 : cs.toList.all (·.oneCell') = true)
    (h63 : n + m ≤ maxLen) (hbytes : (n + m) * bytes ≤ 140737488355328)
    (h : ∀ v' w', w'.ownsRow base e size v' (n + m) (xs ++ cs.toList) → Below base wr w' → wpList P ops Q rest (a.put o.dst v') w') :
    wpList P ops Q (o :: rest) a (W0.alloc (.cells cs e)) := by
  subst hg
  obtain ⟨i, hi, hz, h3, h4⟩ := info_parts hinfo
  have hsize := hbW.size
  refine wpList_append_own _ hgd s x t ho base e i z size bytes ht hi hz h3 h4 hzs hsz v n xs hs ((own_below hown hbW).alloc _) ⟨W0.heap.size, 0, none⟩ m c cs.toList hx (by simpa using hcs) ?_ (List.all_eq_true.1 h1) h63 hbytes (by simp; omega) ?_
  · intro j u hu
    rw [add_lit', Nat.zero_add, cell_of_row _ _ j cs e (0, 0) (heap_alloc_new W0 _)]
    simpa using hu
  · intro v' w' ho' hg _
    exact h v' w' ho' (((hbW.mono hbase).alloc (by omega) _).grown hg (by simp; omega) (fun k hk => (hown.lt k hk).1))

/-! ### worlds that have grown: all that was there is as it was -/
structure Gr where
  n : Nat
  os : Array Obj
instance : Inhabited Gr := ⟨⟨0, #[]⟩⟩
/-- w with x.n draws in all and the blocks x.os behind its own -/
def regrow (w : World) (x : Gr) : World := { w with heap := w.heap ++ x.os, drawn := x.n }
@[simp, go_sem] theorem size_regrow (w : World) (x : Gr) : (regrow w x).heap.size = w.heap.size + x.os.size := by simp [regrow]
theorem heap_regrow (w : World) (x : Gr) {b : Nat} (h : b < w.heap.size) : (regrow w x).heap[b]? = w.heap[b]? := by
  show (w.heap ++ x.os)[b]? = _
  rw [Array.getElem?_append_left h]
@[simp, go_sem] theorem cell_regrow (w : World) (x : Gr) (b o : Nat) (h : b < w.heap.size) : (regrow w x).cell? ⟨b, o, none⟩ = w.cell? ⟨b, o, none⟩ := by
  unfold World.cell?; rw [heap_regrow w x h]
@[simp, go_sem] theorem frozen_regrow (w : World) (x : Gr) (b o : Nat) (h : b < w.heap.size) : (regrow w x).frozen? ⟨b, o, none⟩ = w.frozen? ⟨b, o, none⟩ := by
  unfold World.frozen?; rw [heap_regrow w x h]
theorem below_regrow (w : World) (x : Gr) : Below w.heap.size w (regrow w x) := ⟨rfl, rfl, rfl, by simp, fun k hk => heap_regrow w x hk⟩
theorem regrow_of_below {w w' : World} (h : Below w.heap.size w w') : ∃ x, w' = regrow w x := by
  refine ⟨⟨w'.drawn, w'.heap.extract w.heap.size w'.heap.size⟩, ?_⟩
  obtain ⟨h1, h2, h3, h4, h5⟩ := h
  have e1 : w'.heap = w.heap ++ w'.heap.extract w.heap.size w'.heap.size := by
    apply Array.ext_getElem?
    intro i
    by_cases hi : i < w.heap.size
    · rw [Array.getElem?_append_left hi]; exact h5 i hi
    · rw [Array.getElem?_append_right (by omega), Array.getElem?_extract]
      by_cases h6 : i < w'.heap.size
      · rw [if_pos (by omega)]; congr 1; omega
      · rw [if_neg (by omega), Array.getElem?_eq_none (by omega)]
  cases w'
  simp only [regrow] at *
  simp only [World.mk.injEq]
  exact ⟨e1, h2, trivial, h1, h3⟩
theorem regrow_call {w w' : World} {x : Gr} (h : Below (regrow w x).heap.size (regrow w x) w') : ∃ x, w' = regrow w x :=
  regrow_of_below ((below_regrow w x).trans (h.mono (by simp)))
/-- a region that draws its order, reads, and calls what turns nothing that was there -/
theorem wp_calm {id : Nat} {Q : Exit → Act → World → Prop} {a : Act} {w : World} {l : List Oper} (hB : Region.lexB .any l.toArray = true)
    (h : wpQuiet Tryz.prog l.toArray (fun W => ∃ x, W = regrow w x) (fun a' => ∀ W, Below w.heap.size w W → Q .normal a' W) l a) : (Code.region id l.toArray true).wp Tryz.prog Q a w := by
  refine wp_region_quiet (C := fun W => ∃ x, W = regrow w x) (by kernel_rfl) hB ⟨⟨w.drawn + 1, #[]⟩, ?_⟩ ?_
  · simp [regrow]
  · have e : (fun a' => ∀ W, (∃ x, W = regrow w x) → Q .normal a' W) = (fun a' => ∀ W, Below w.heap.size w W → Q .normal a' W) := by
      funext a'
      apply propext
      constructor
      · intro h W hW; exact h W (regrow_of_below hW)
      · rintro h W ⟨x, rfl⟩; exact h _ (below_regrow w x)
    rw [e]
    simpa using h

theorem mixedOrders : Tryz.prog.follows .mixedOrders = true := by kernel_rfl
/-- a region that draws its order: n operations that only read, then a tail in one forced order -/
theorem wp_tail {id : Nat} {Q : Exit → Act → World → Prop} {a : Act} {w : World} {l : List Oper} (n : Nat) (hB : Region.lexTailB .any l.toArray n = true)
    (h : wpStill Tryz.prog l.toArray w.drew (fun a' => wpList Tryz.prog l.toArray Q (l.drop n) a' w.drew) (l.take n) a) : (Code.region id l.toArray true).wp Tryz.prog Q a w :=
  wp_region_still_tail n mixedOrders hB h
/-- a region that draws its order and only reads -/
theorem wp_stills {id : Nat} {Q : Exit → Act → World → Prop} {a : Act} {w : World} {l : List Oper} (hB : Region.lexB .any l.toArray = true)
    (h : wpStill Tryz.prog l.toArray w.drew (fun a' => Q .normal a' w.drew) l a) : (Code.region id l.toArray true).wp Tryz.prog Q a w :=
  wp_region_still_lit mixedOrders hB h

end Go.Proofs.YtiokkoeciijkoaaGreat
