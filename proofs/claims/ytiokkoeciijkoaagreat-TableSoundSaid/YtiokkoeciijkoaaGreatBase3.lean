/- Blocks known whole, a row that may be written beside them, and append that says where the new row lies. -/
import Derived.Test.YtiokkoeciijkoaaGreatSpanB
import Derived.Deep.AppendLies
namespace Go.Proofs.YtiokkoeciijkoaaGreat
set_option linter.unusedVariables false
set_option linter.unusedSimpArgs false
open Go.RowKit

theorem Bk.next {W W' : World} {p B : Nat} {cs : Array Value} {t : TypeId} (h : Bk W p cs t) (hb : Below B W W') (hB : W.heap.size ≤ B) : Bk W' p cs t :=
  (hb.block p (Nat.lt_of_lt_of_le (Array.getElem?_eq_some_iff.1 h).1 hB)).trans h
theorem Bk.lt {W : World} {p : Nat} {cs : Array Value} {t : TypeId} (h : Bk W p cs t) : p < W.heap.size := (Array.getElem?_eq_some_iff.1 h).1
theorem Bk.new (W : World) (cs : Array Value) (t : TypeId) {p : Nat} (hp : p = W.heap.size) : Bk (W.alloc (.cells cs t)) p cs t := by subst hp; exact heap_alloc_new W _
theorem Bk.alloc {W : World} {p : Nat} {cs : Array Value} {t : TypeId} (h : Bk W p cs t) (o : Obj) : Bk (W.alloc o) p cs t := h.next (below_alloc W o) (Nat.le_refl _)
theorem Bk.bx1 {W : World} {p : Nat} {a : Value} {t : TypeId} (h : Bk W p #[a] t) : Bx1 W p a :=
  ⟨(cell_of_row _ _ 0 _ t (0, 0) h).trans rfl, frozen_of_row _ _ 0 _ t h, h.lt⟩
abbrev Bx3 (W : World) (p : Nat) (a b c : Value) : Prop := W.cell? ⟨p, 0, none⟩ = some a ∧ W.cell? ⟨p, 1, none⟩ = some b ∧ W.cell? ⟨p, 2, none⟩ = some c ∧ W.frozen? ⟨p, 0, none⟩ = false ∧ W.frozen? ⟨p, 1, none⟩ = false ∧ W.frozen? ⟨p, 2, none⟩ = false ∧ p < W.heap.size
theorem Bk.bx3 {W : World} {p : Nat} {a b c : Value} {t : TypeId} (h : Bk W p #[a, b, c] t) : Bx3 W p a b c :=
  ⟨(cell_of_row _ _ 0 _ t (0, 0) h).trans rfl, (cell_of_row _ _ 1 _ t (0, 0) h).trans rfl, (cell_of_row _ _ 2 _ t (0, 0) h).trans rfl, frozen_of_row _ _ 0 _ t h, frozen_of_row _ _ 1 _ t h, frozen_of_row _ _ 2 _ t h, h.lt⟩

/-- append of what was made last: what is known whole elsewhere stays; where the new row lies -/
theorem wpList_app_new3 {P : Program} {wr W0 : World} {ops : Array Oper} {rest : List Oper} {o : Oper} {a : Act} {Q : Exit → Act → World → Prop} {s x : Operand} {t e : TypeId} {z : Value} {base size bytes n m c g : Nat} {v : Value} {xs : List Value} {cs : Array Value}
    (ht : P.underlying t = some (.slice e)) (hinfo : (P.info? e).map (fun i => (i.zero, i.size, i.bytes)) = some (some z, size, bytes)) (hzs : z.cells.size = size) (hsz : 0 < size)
    (hown : wr.ownsRow base e size v n xs) (hbase : base ≤ wr.heap.size) (hbW : Below wr.heap.size wr W0)
    (hgd : o.guard = none) (ho : o.op = .call { callee := .builtin .append, args := #[s, x], argTypes := #[t, t] })
    (hs : a.eval s = v) (hx : a.eval x = .slice (some ⟨g, 0, none⟩) m c) (hg : g = W0.heap.size) (hm : 0 < m) (hcs : cs.size = m * size) (h1 : cs.toList.all (·.oneCell') = true)
    (h63 : n + m ≤ maxLen) (hbytes : (n + m) * bytes ≤ 140737488355328)
    (h : ∀ v' w', w'.ownsRow base e size v' (n + m) (xs ++ cs.toList) → Below base wr w' → (∀ k, v.ownBlock ≠ some k → k < wr.heap.size → v'.ownBlock ≠ some k ∧ ∀ cp tp, Bk wr k cp tp → Bk w' k cp tp) → wpList P ops Q rest (a.put o.dst v') w') :
    wpList P ops Q (o :: rest) a (W0.alloc (.cells cs e)) := by
  subst hg
  obtain ⟨i, hi, hz, h3, h4⟩ := info_parts hinfo
  have hsize := hbW.size
  refine wpList_append_lies _ hgd s x t ho base e i z size bytes ht hi hz h3 h4 hzs hsz v n xs hs ((own_below hown hbW).alloc _) ⟨W0.heap.size, 0, none⟩ m c cs.toList hx (by simpa using hcs) ?_ (List.all_eq_true.1 h1) hm h63 hbytes (by simp; omega) _ rfl ?_
  · intro j u hu
    rw [add_lit', Nat.zero_add, cell_of_row _ _ j cs e (0, 0) (heap_alloc_new W0 _)]
    simpa using hu
  · intro g cap w' ho' hg hat _
    refine h _ w' ho' (((hbW.mono hbase).alloc (by omega) _).grown hg (by simp; omega) (fun k hk => (hown.lt k hk).1)) ?_
    intro k hk hlt
    refine ⟨?_, fun cp tp hp => ?_⟩
    · intro he
      obtain rfl : g = k := by simpa [Value.ownBlock] using he
      rcases hat with hat | hat
      · exact hk hat
      · simp at hat; omega
    · have h5 : Bk (W0.alloc (.cells cs e)) k cp tp := ((hbW.alloc hsize _).block k hlt).trans hp
      exact (hg.block k (by simp; omega) (fun he => hk he.symm)).trans h5
/-- the same, at a step of a region that draws its order -/
theorem step_app_new {P : Program} {wr W0 : World} {ops : Array Oper} {o : Oper} {a : Act} {K : Act → World → Prop} {Q : Exit → Act → World → Prop} {E : Prop} {s x : Operand} {t e : TypeId} {z : Value} {base size bytes n m c g : Nat} {v : Value} {xs : List Value} {cs : Array Value}
    (ht : P.underlying t = some (.slice e)) (hinfo : (P.info? e).map (fun i => (i.zero, i.size, i.bytes)) = some (some z, size, bytes)) (hzs : z.cells.size = size) (hsz : 0 < size)
    (hown : wr.ownsRow base e size v n xs) (hbase : base ≤ wr.heap.size) (hbW : Below wr.heap.size wr W0)
    (hgd : o.guard = none) (ho : o.op = .call { callee := .builtin .append, args := #[s, x], argTypes := #[t, t] })
    (hs : a.eval s = v) (hx : a.eval x = .slice (some ⟨g, 0, none⟩) m c) (hg : g = W0.heap.size) (hm : 0 < m) (hcs : cs.size = m * size) (h1 : cs.toList.all (·.oneCell') = true)
    (h63 : n + m ≤ maxLen) (hbytes : (n + m) * bytes ≤ 140737488355328)
    (h : ∀ v' w', w'.ownsRow base e size v' (n + m) (xs ++ cs.toList) → Below base wr w' → (∀ k, v.ownBlock ≠ some k → k < wr.heap.size → v'.ownBlock ≠ some k ∧ ∀ cp tp, Bk wr k cp tp → Bk w' k cp tp) → K (a.put o.dst v') w') :
    if Region.wanted o (yielded ops a.tmps) = true then Oper.wp P o a (W0.alloc (.cells cs e)) K Q else E := by
  subst hg
  obtain ⟨i, hi, hz, h3, h4⟩ := info_parts hinfo
  have hsize := hbW.size
  refine step_append_lies _ hgd s x t ho base e i z size bytes ht hi hz h3 h4 hzs hsz v n xs hs ((own_below hown hbW).alloc _) ⟨W0.heap.size, 0, none⟩ m c cs.toList hx (by simpa using hcs) ?_ (List.all_eq_true.1 h1) hm h63 hbytes (by simp; omega) _ rfl ?_
  · intro j u hu
    rw [add_lit', Nat.zero_add, cell_of_row _ _ j cs e (0, 0) (heap_alloc_new W0 _)]
    simpa using hu
  · intro g cap w' ho' hg hat _
    refine h _ w' ho' (((hbW.mono hbase).alloc (by omega) _).grown hg (by simp; omega) (fun k hk => (hown.lt k hk).1)) ?_
    intro k hk hlt
    refine ⟨?_, fun cp tp hp => ?_⟩
    · intro he
      obtain rfl : g = k := by simpa [Value.ownBlock] using he
      rcases hat with hat | hat
      · exact hk hat
      · simp at hat; omega
    · have h5 : Bk (W0.alloc (.cells cs e)) k cp tp := ((hbW.alloc hsize _).block k hlt).trans hp
      exact (hg.block k (by simp; omega) (fun he => hk he.symm)).trans h5
/-- append of a block that is known whole, at a step of a region that draws its order -/
theorem step_app_bk {P : Program} {W : World} {ops : Array Oper} {o : Oper} {a : Act} {K : Act → World → Prop} {Q : Exit → Act → World → Prop} {E : Prop} {s x : Operand} {t e : TypeId} {z : Value} {base size bytes n m c g : Nat} {v : Value} {xs : List Value} {cs : Array Value}
    (ht : P.underlying t = some (.slice e)) (hinfo : (P.info? e).map (fun i => (i.zero, i.size, i.bytes)) = some (some z, size, bytes)) (hzs : z.cells.size = size) (hsz : 0 < size)
    (hown : W.ownsRow base e size v n xs) (hbase : base ≤ W.heap.size) (hlit : Bk W g cs e)
    (hgd : o.guard = none) (ho : o.op = .call { callee := .builtin .append, args := #[s, x], argTypes := #[t, t] })
    (hs : a.eval s = v) (hx : a.eval x = .slice (some ⟨g, 0, none⟩) m c) (hm : 0 < m) (hcs : cs.size = m * size) (h1 : cs.toList.all (·.oneCell') = true)
    (h63 : n + m ≤ maxLen) (hbytes : (n + m) * bytes ≤ 140737488355328)
    (h : ∀ v' w', w'.ownsRow base e size v' (n + m) (xs ++ cs.toList) → Below base W w' → K (a.put o.dst v') w') :
    if Region.wanted o (yielded ops a.tmps) = true then Oper.wp P o a W K Q else E := by
  obtain ⟨i, hi, hz, h3, h4⟩ := info_parts hinfo
  refine step_append_lies _ hgd s x t ho base e i z size bytes ht hi hz h3 h4 hzs hsz v n xs hs hown ⟨g, 0, none⟩ m c cs.toList hx (by simpa using hcs) (World.news_of_block hlit) (List.all_eq_true.1 h1) hm h63 hbytes hbase _ rfl ?_
  intro g cap w' ho' hg hat _
  exact h _ w' ho' ((Below.refl _ _).grown hg hbase (fun k hk => (hown.lt k hk).1))
theorem own_far {w : World} {base : Nat} {e : TypeId} {size n : Nat} {v : Value} {xs : List Value} (h : w.ownsRow base e size v n xs) {k : Nat} (hk : w.heap.size ≤ k) : v.ownBlock ≠ some k := fun he => by
  have := (h.lt k he).2; omega
theorem own_far_base {w : World} {base : Nat} {e : TypeId} {size n : Nat} {v : Value} {xs : List Value} (h : w.ownsRow base e size v n xs) {k : Nat} (hk : k < base) : v.ownBlock ≠ some k := fun he => by
  have := (h.lt k he).1; omega

theorem own_keepB {w w' : World} {base : Nat} {e : TypeId} {size n : Nat} {v : Value} {xs : List Value} (h : w.ownsRow base e size v n xs) (hk : ∀ k cp tp, base ≤ k → k < w.heap.size → Bk w k cp tp → Bk w' k cp tp) : w'.ownsRow base e size v n xs := by
  refine ⟨h.1, ?_⟩
  rcases h.2 with h2 | ⟨g, cap, cur, h1, hb, hg, h3⟩
  · exact .inl h2
  · exact .inr ⟨g, cap, cur, h1, hb, hk g cur e hb (Array.getElem?_eq_some_iff.1 hg).1 hg, h3⟩
/-! ### ranges with values, as rows -/
def encP (x : Int × Int × Int) : List Value := [.int .i64 x.1, .int .i64 x.2.1, .int .i64 x.2.2]
theorem encP_len (x : Int × Int × Int) : (encP x).length = 3 := rfl
theorem encP_one (x : Int × Int × Int) : ∀ v ∈ encP x, v.oneCell' = true := by
  intro v hv; simp [encP] at hv; rcases hv with rfl | rfl | rfl <;> rfl
theorem infoPartI : (Tryz.prog.info? 159).map (fun i => (i.zero, i.size, i.bytes)) = some (some (.agg #[.int .i64 0, .int .i64 0, .int .i64 0]), 3, 24) := by kernel_rfl
theorem Rd.cells3 {w : World} {A : Option Addr} {xs : List (Int × Int × Int)} (h : Rd 3 encP w A xs) (hx : xs ≠ []) : ∃ b o, A = some ⟨b, o, none⟩ ∧ b < w.heap.size ∧
    ∀ (i : Nat) (hi : i < xs.length), w.cell? ⟨b, o + i * 3, none⟩ = some (.int .i64 xs[i].1) ∧ w.cell? ⟨b, o + i * 3 + 1, none⟩ = some (.int .i64 xs[i].2.1) ∧ w.cell? ⟨b, o + i * 3 + 2, none⟩ = some (.int .i64 xs[i].2.2) := by
  rcases h with h | ⟨b, o, hA, hb, hc⟩
  · exact absurd h hx
  · refine ⟨b, o, hA, hb, fun i hi => ?_⟩
    have hf := flat_at encP 3 encP_len xs i xs[i] (List.getElem?_eq_getElem hi)
    have h0 := hc _ _ (hf 0 (by decide))
    have h1 := hc _ _ (hf 1 (by decide))
    have h2 := hc _ _ (hf 2 (by decide))
    refine ⟨by simpa using h0, ?_, ?_⟩
    · rw [Nat.add_assoc]; exact h1
    · rw [Nat.add_assoc]; exact h2
theorem own_cells3 {w : World} {base g n c : Nat} {e : TypeId} {ys : List (Int × Int × Int)} (h : w.ownsRow base e 3 (.slice (some ⟨g, 0, none⟩) n c) n (ys.flatMap encP)) {i : Nat} (hi : i < ys.length) :
    w.cell? ⟨g, i * 3, none⟩ = some (.int .i64 ys[i].1) ∧ w.cell? ⟨g, i * 3 + 1, none⟩ = some (.int .i64 ys[i].2.1) ∧ w.cell? ⟨g, i * 3 + 2, none⟩ = some (.int .i64 ys[i].2.2) ∧ w.frozen? ⟨g, i * 3, none⟩ = false ∧ w.frozen? ⟨g, i * 3 + 1, none⟩ = false ∧ w.frozen? ⟨g, i * 3 + 2, none⟩ = false := by
  have e : ys[i]? = some ys[i] := List.getElem?_eq_getElem hi
  have h0 := flat_at encP 3 encP_len ys i _ e 0 (by omega)
  have h1 := flat_at encP 3 encP_len ys i _ e 1 (by omega)
  have h2 := flat_at encP 3 encP_len ys i _ e 2 (by omega)
  have c0 := h.cells (g := g) rfl _ _ (h0.trans rfl)
  have c1 := h.cells (g := g) rfl _ _ (h1.trans rfl)
  have c2 := h.cells (g := g) rfl _ _ (h2.trans rfl)
  rw [add_lit', Nat.zero_add] at c0 c1 c2
  exact ⟨c0, c1, c2, h.frozenAt _, h.frozenAt _, h.frozenAt _⟩
theorem rd_one (W : World) (x : Sp) {W' : World} {p B : Nat} (hp : p = W.heap.size) (hb : Below B (W.alloc (.cells #[.int .i64 x.1, .int .i64 x.2] 43)) W') (hB : W.heap.size < B) : Rd 2 encS W' (some ⟨p, 0, none⟩) [x] := by
  subst hp
  refine .inr ⟨W.heap.size, 0, rfl, ?_, fun j u hu => ?_⟩
  · have := hb.size; simp at this; omega
  · rw [Nat.zero_add]
    refine (hb.cell (p := ⟨W.heap.size, j, none⟩) hB).trans ?_
    rw [cell_of_row _ _ j _ 43 (0, 0) (heap_alloc_new W _)]
    simpa [encS] using hu
end Go.Proofs.YtiokkoeciijkoaaGreat
