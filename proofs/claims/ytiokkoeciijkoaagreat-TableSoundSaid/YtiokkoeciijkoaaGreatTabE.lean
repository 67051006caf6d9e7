/- ltab: what grant keeps; grant. -/
import Derived.Test.YtiokkoeciijkoaaGreatTabB
namespace Go.Proofs.YtiokkoeciijkoaaGreat
set_option linter.unusedVariables false
set_option linter.unusedSimpArgs false
section
open Go.RowKit

structure AppF (wr w' : World) (v v' : Value) : Prop where
  bel : BelF (fun k => v.ownBlock = some k) wr.heap.size wr w'
  far : ∀ k, v.ownBlock ≠ some k → k < wr.heap.size → v'.ownBlock ≠ some k
section
variable {wr w' : World} {v v' : Value} {base size n : Nat} {e : TypeId} {xs : List Value}
theorem AppF.below (h : AppF wr w' v v') (ho : wr.ownsRow base e size v n xs) (hb : base ≤ wr.heap.size) : Below base wr w' := h.bel.below hb fun k hk => (ho.lt k hk).1
theorem AppF.block (h : AppF wr w' v v') {k : Nat} (hk : v.ownBlock ≠ some k) (hl : k < wr.heap.size) : w'.heap[k]? = wr.heap[k]? := h.bel.block k hl hk
end

theorem wpList_app1 {α : Type} {enc : α → List Value} {k : Nat} {P : Program} {wr W0 : World} {ops : Array Oper} {rest : List Oper} {o : Oper} {a : Act} {Q : Exit → Act → World → Prop} {s x : Operand} {t e : TypeId} {z : Value} {base bytes c g : Nat} {v : Value} {ys : List α} {cs : Array Value} (y : α)
    (ht : P.underlying t = some (.slice e)) (hinfo : (P.info? e).map (fun i => (i.zero, i.size, i.bytes)) = some (some z, k, bytes)) (hzs : z.cells.size = k) (hsz : 0 < k)
    (hown : Own k enc e wr base v ys) (hbase : base ≤ wr.heap.size) (hbW : Below wr.heap.size wr W0)
    (hgd : o.guard = none) (ho : o.op = .call { callee := .builtin .append, args := #[s, x], argTypes := #[t, t] })
    (hs : a.eval s = v) (hx : a.eval x = .slice (some ⟨g, 0, none⟩) 1 c) (hg : g = W0.heap.size) (hcs : cs.toList = enc y) (hk : (enc y).length = k) (h1 : ∀ u ∈ enc y, u.oneCell' = true)
    (h63 : ys.length + 1 ≤ maxLen) (hbytes : (ys.length + 1) * bytes ≤ 140737488355328)
    (h : ∀ v' w', Own k enc e w' base v' (ys ++ [y]) → AppF wr w' v v' → wpList P ops Q rest (a.put o.dst v') w') :
    wpList P ops Q (o :: rest) a (W0.alloc (.cells cs e)) := by
  subst hg
  obtain ⟨i, hi, hz, h3, h4⟩ := info_parts hinfo
  have hsize := hbW.size
  refine wpList_append_lies _ hgd s x t ho base e i z k bytes ht hi hz h3 h4 hzs hsz v ys.length _ hs ((own_below hown hbW).alloc _) ⟨W0.heap.size, 0, none⟩ 1 c (enc y) hx (by omega) ?_ h1 (by omega) h63 hbytes (by simp; omega) _ rfl ?_
  · intro j u hu
    rw [add_lit', Nat.zero_add, cell_of_row _ _ j cs e (0, 0) (heap_alloc_new W0 _), ← Array.getElem?_toList, hcs]
    exact hu
  · intro g cap w' ho' hg hat _
    refine h _ w' (by show World.ownsRow _ _ _ _ _ _ _; rw [List.flatMap_append, List.length_append, List.flatMap_singleton]; exact ho') ⟨⟨?_, ?_, ?_, ?_, ?_⟩, ?_⟩
    · exact hg.os.trans hbW.os
    · exact hg.tape.trans hbW.tape
    · exact hg.output.trans hbW.output
    · have := hg.size; simp at this; omega
    · intro k hk hn
      exact (hg.block k (by simp; omega) (fun e => hn e.symm)).trans ((hbW.alloc hsize _).block k hk)
    · intro k hk hlt he
      obtain rfl : g = k := by simpa [Value.ownBlock] using he
      rcases hat with hat | hat
      · exact hk hat
      · simp at hat; omega
theorem step_app1 {α : Type} {enc : α → List Value} {k : Nat} {P : Program} {wr W0 : World} {ops : Array Oper} {o : Oper} {a : Act} {K : Act → World → Prop} {Q : Exit → Act → World → Prop} {E : Prop} {s x : Operand} {t e : TypeId} {z : Value} {base bytes c g : Nat} {v : Value} {ys : List α} {cs : Array Value} (y : α)
    (ht : P.underlying t = some (.slice e)) (hinfo : (P.info? e).map (fun i => (i.zero, i.size, i.bytes)) = some (some z, k, bytes)) (hzs : z.cells.size = k) (hsz : 0 < k)
    (hown : Own k enc e wr base v ys) (hbase : base ≤ wr.heap.size) (hbW : Below wr.heap.size wr W0)
    (hgd : o.guard = none) (ho : o.op = .call { callee := .builtin .append, args := #[s, x], argTypes := #[t, t] })
    (hs : a.eval s = v) (hx : a.eval x = .slice (some ⟨g, 0, none⟩) 1 c) (hg : g = W0.heap.size) (hcs : cs.toList = enc y) (hk : (enc y).length = k) (h1 : ∀ u ∈ enc y, u.oneCell' = true)
    (h63 : ys.length + 1 ≤ maxLen) (hbytes : (ys.length + 1) * bytes ≤ 140737488355328)
    (h : ∀ v' w', Own k enc e w' base v' (ys ++ [y]) → AppF wr w' v v' → K (a.put o.dst v') w') :
    if Region.wanted o (yielded ops a.tmps) = true then Oper.wp P o a (W0.alloc (.cells cs e)) K Q else E := by
  subst hg
  obtain ⟨i, hi, hz, h3, h4⟩ := info_parts hinfo
  have hsize := hbW.size
  refine step_append_lies _ hgd s x t ho base e i z k bytes ht hi hz h3 h4 hzs hsz v ys.length _ hs ((own_below hown hbW).alloc _) ⟨W0.heap.size, 0, none⟩ 1 c (enc y) hx (by omega) ?_ h1 (by omega) h63 hbytes (by simp; omega) _ rfl ?_
  · intro j u hu
    rw [add_lit', Nat.zero_add, cell_of_row _ _ j cs e (0, 0) (heap_alloc_new W0 _), ← Array.getElem?_toList, hcs]
    exact hu
  · intro g cap w' ho' hg hat _
    refine h _ w' (by show World.ownsRow _ _ _ _ _ _ _; rw [List.flatMap_append, List.length_append, List.flatMap_singleton]; exact ho') ⟨⟨?_, ?_, ?_, ?_, ?_⟩, ?_⟩
    · exact hg.os.trans hbW.os
    · exact hg.tape.trans hbW.tape
    · exact hg.output.trans hbW.output
    · have := hg.size; simp at this; omega
    · intro k hk hn
      exact (hg.block k (by simp; omega) (fun e => hn e.symm)).trans ((hbW.alloc hsize _).block k hk)
    · intro k hk hlt he
      obtain rfl : g = k := by simpa [Value.ownBlock] using he
      rcases hat with hat | hat
      · exact hk hat
      · simp at hat; omega

/-! ### rows beside one another -/
def Apt (a b : Value) : Prop := ∀ k, a.ownBlock = some k → b.ownBlock ≠ some k
theorem Apt.symm {a b : Value} (h : Apt a b) : Apt b a := fun k hb ha => h k ha hb
section
variable {w w' : World} {base size n : Nat} {e : TypeId} {v r r' : Value} {xs : List Value}
theorem own_app (h : w.ownsRow base e size v n xs) (ha : AppF w w' r r') (hd : Apt v r) : w'.ownsRow base e size v n xs ∧ Apt v r' := by
  refine ⟨?_, fun k hk => ha.far k (hd k hk) (h.lt k hk).2⟩
  refine ⟨h.1, ?_⟩
  rcases h.2 with h2 | ⟨g, cap, cur, h1, hb, hg, h3⟩
  · exact .inl h2
  · have hgl : g < w.heap.size := (Array.getElem?_eq_some_iff.1 hg).1
    exact .inr ⟨g, cap, cur, h1, hb, (ha.block (hd g (by rw [h1]; rfl)) hgl).trans hg, h3⟩
theorem own_belX (h : w.ownsRow base e size v n xs) {p : Nat} (hb : BelX p w.heap.size w w') (hp : v.ownBlock ≠ some p) : w'.ownsRow base e size v n xs := by
  refine ⟨h.1, ?_⟩
  rcases h.2 with h2 | ⟨g, cap, cur, h1, hB, hg, h3⟩
  · exact .inl h2
  · have hgl : g < w.heap.size := (Array.getElem?_eq_some_iff.1 hg).1
    exact .inr ⟨g, cap, cur, h1, hB, (hb.block g hgl (fun e => hp (by rw [h1, ← e]; rfl))).trans hg, h3⟩
end
theorem Rd.heap {α : Type} {k : Nat} {enc : α → List Value} {w w' : World} {A : Option Addr} {xs : List α} (h : Rd k enc w A xs) (hs : w.heap.size ≤ w'.heap.size) (hk : ∀ b o, A = some ⟨b, o, none⟩ → b < w.heap.size → w'.heap[b]? = w.heap[b]?) : Rd k enc w' A xs := by
  rcases h with h | ⟨b, o, hA, hb, hc⟩
  · exact .inl h
  · refine .inr ⟨b, o, hA, Nat.lt_of_lt_of_le hb hs, fun j u hu => ?_⟩
    have : w'.cell? ⟨b, o + j, none⟩ = w.cell? ⟨b, o + j, none⟩ := by unfold World.cell?; rw [hk b o hA hb]
    rw [this]; exact hc j u hu
theorem Rd.lt_of {α : Type} {k : Nat} {enc : α → List Value} {w : World} {b o : Nat} {xs : List α} (h : Rd k enc w (some ⟨b, o, none⟩) xs) (hx : xs ≠ []) : b < w.heap.size := by
  rcases h with h | ⟨b', o', hA, hb, _⟩
  · exact absurd h hx
  · injection hA with hA; injection hA with h1 _ _; rw [h1]; exact hb
section
variable {F F' : Nat → Prop} {W W' : World} {p : Nat} {xs : List (Pt Int)}
theorem IM.sub (h : IM F W p xs) (hF : ∀ k, F' k → F k) : IM F' W p xs := by
  obtain ⟨A, c, h1, h2, h3⟩ := h.ex
  exact ⟨A, c, h1, h2, fun b o hx hA hf => h3 b o hx hA (hF b hf)⟩
/-- beside an append -/
theorem IM.app {r r' : Value} (h : IM F W p xs) (ha : AppF W W' r r') (hr : ∀ k, r.ownBlock = some k → F k) (hp : r.ownBlock ≠ some p) (hF : ∀ k, k < W.heap.size → F' k → F k ∨ r'.ownBlock = some k) : IM F' W' p xs := by
  obtain ⟨A, c, h1, h2, h3⟩ := h.ex
  by_cases hx : xs = []
  · subst hx
    exact ⟨A, c, (ha.block hp h1.lt).trans h1, .inl rfl, fun b o h => absurd rfl h⟩
  · have hfar : ∀ b o, A = some ⟨b, o, none⟩ → r.ownBlock ≠ some b := fun b o hA hb => h3 b o hx hA (hr b hb)
    refine ⟨A, c, (ha.block hp h1.lt).trans h1, h2.heap ha.bel.size (fun b o hA hb => ha.block (hfar b o hA) hb), fun b o _ hA hf => ?_⟩
    subst hA
    have hb := h2.lt_of hx
    rcases hF b hb hf with h | h
    · exact h3 b o hx rfl h
    · exact ha.far b (hfar b o rfl) hb h
end

/-! ### a table beside other rows -/
structure TF (F : Nat → Prop) (W : World) (t : Nat) (T : Tb) (ps : Nat → Nat) (v : Value) : Prop where
  at_ : TAt W t T ps v
  maps : ∀ i, i ≤ 16 → IM F W (ps i) (T.held i)
  sub : ∀ k, fpS t ps v k → F k
  lt : ∀ k, F k → k < W.heap.size
section
variable {F F' : Nat → Prop} {W W' : World} {t : Nat} {T : Tb} {ps : Nat → Nat} {v : Value}
theorem TF.of (h : TAt W t T ps v) : TF (fpS t ps v) W t T ps v := ⟨h, h.maps, fun _ h => h, h.fp_lt⟩
theorem TF.next {B : Nat} (h : TF F W t T ps v) (hb : Below B W W') (hB : W.heap.size ≤ B) : TF F W' t T ps v :=
  ⟨h.at_.next hb hB, fun i hi => (h.maps i hi).next hb hB, h.sub, fun k hk => Nat.lt_of_lt_of_le (h.lt k hk) hb.size⟩
theorem TF.map {i : Nat} {ys : List (Pt Int)} (h : TF F W t T ps v) (hi : i ≤ 16) (hb : BelX (ps i) W.heap.size W W') (hm : IM F W' (ps i) ys) : TF F W' t { T with held := upd T.held i ys } ps v := by
  refine ⟨h.at_.map hi hb (hm.sub h.sub), fun j hj => ?_, h.sub, fun k hk => Nat.lt_of_lt_of_le (h.lt k hk) hb.size⟩
  by_cases e : j = i
  · subst e; show IM _ _ _ (upd T.held j ys j); rw [upd_at]; exact hm
  · show IM _ _ _ (upd T.held i ys j)
    rw [upd_ne _ _ e]
    exact (h.maps j hj).far hb (Nat.le_refl _) (h.sub _ (.inr (.inl ⟨i, hi, rfl⟩))) (fun hp => e (h.at_.inj j i hj hi hp))
/-- beside an append to a row that is not the table's -/
theorem TF.app {r r' : Value} (h : TF F W t T ps v) (ha : AppF W W' r r') (hr : ∀ k, r.ownBlock = some k → F k) (hrt : ∀ k, fpS t ps v k → r.ownBlock ≠ some k) (hF : ∀ k, F' k → F k ∨ r'.ownBlock = some k) (hs : ∀ k, F k → (r.ownBlock = some k → r'.ownBlock = some k) → F' k) (hr' : ∀ k, r'.ownBlock = some k → k < W'.heap.size) : TF F' W' t T ps v := by
  have hps : ∀ i, i ≤ 16 → r.ownBlock ≠ some (ps i) := fun i hi => hrt _ (.inr (.inl ⟨i, hi, rfl⟩))
  have hsub : ∀ k, fpS t ps v k → F' k := fun k hk => hs k (h.sub k hk) fun e => absurd e (hrt k hk)
  have hm : ∀ i, i ≤ 16 → IM F' W' (ps i) (T.held i) := fun i hi => (h.maps i hi).app ha hr (hps i hi) (fun k _ hk => hF k hk)
  refine ⟨⟨?_, ?_, fun i hi => (hm i hi).sub hsub, h.at_.inj, h.at_.net, h.at_.vt, h.at_.vp⟩, hm, hsub, fun k hk => ?_⟩
  · exact h.at_.tc.keep (ha.block (hrt t (.inl rfl)) h.at_.tc.lt) ha.bel.size
  · exact (own_app h.at_.own ha (fun k hk => hrt k (.inr (.inr hk)))).1
  · rcases hF k hk with h1 | h1
    · exact Nat.lt_of_lt_of_le (h.lt k h1) ha.bel.size
    · exact hr' k h1
theorem TF.weak (h : TF F W t T ps v) (hs : ∀ k, fpS t ps v k → F' k) (hF : ∀ k, F' k → F k) : TF F' W t T ps v :=
  ⟨h.at_, fun i hi => (h.maps i hi).sub hF, hs, fun k hk => h.lt k (hF k hk)⟩
end

/-! ### the cells of the box -/
theorem block_setCell (w : World) (p : Addr) (u : Value) (b : Nat) (h : b ≠ p.block) : (w.setCell p u).heap[b]? = w.heap[b]? := Below.heap_setCell _ _ _ _ h
theorem cell_setCell_ne (w : World) (b i j : Nat) (u : Value) (h : i ≠ j) : (w.setCell ⟨b, i, none⟩ u).cell? ⟨b, j, none⟩ = w.cell? ⟨b, j, none⟩ := by
  unfold World.cell? World.setCell
  simp only [Array.getElem?_modify, if_true]
  cases hb : w.heap[b]? with
  | none => rfl
  | some o => cases o <;> simp [h]
theorem cell_setCell_at (w : World) (b i : Nat) (u x : Value) (h : w.cell? ⟨b, i, none⟩ = some x) : (w.setCell ⟨b, i, none⟩ u).cell? ⟨b, i, none⟩ = some u := by
  unfold World.cell? at h ⊢
  unfold World.setCell
  simp only [Array.getElem?_modify, if_true]
  cases hb : w.heap[b]? with
  | none => simp [hb] at h
  | some o =>
    cases o <;> simp [hb] at h ⊢
    rename_i c _ _
    have hi : i < c.size := (Array.getElem?_eq_some_iff.1 h).1
    simp [hi]
theorem frozen_setCell' (w : World) (p q : Addr) (u : Value) : (w.setCell p u).frozen? q = w.frozen? q := by
  unfold World.frozen? World.setCell
  simp only [Array.getElem?_modify]
  by_cases h : p.block = q.block
  · rw [if_pos h]
    cases hb : w.heap[q.block]? with
    | none => rfl
    | some o => cases o <;> rfl
  · rw [if_neg h]
section
variable {W : World} {t n : Nat} {ps : Nat → Nat} {v : Value} {last : Int}
theorem TC.setWaits (h : TC W t n ps v last) (u : Value) : TC (W.setCell ⟨t, 18, none⟩ u) t n ps u last :=
  ⟨(cell_setCell_ne _ _ _ _ _ (by decide)).trans h.c0, fun i hi => (cell_setCell_ne _ _ _ _ _ (by omega)).trans (h.cm i hi), cell_setCell_at _ _ _ _ _ h.cw, (cell_setCell_ne _ _ _ _ _ (by decide)).trans h.cl, fun i => (frozen_setCell' _ _ _ _).trans (h.fz i), by simpa [World.setCell] using h.lt⟩
theorem TC.setLast (h : TC W t n ps v last) (x : Int) : TC (W.setCell ⟨t, 19, none⟩ (.int .i64 x)) t n ps v x :=
  ⟨(cell_setCell_ne _ _ _ _ _ (by decide)).trans h.c0, fun i hi => (cell_setCell_ne _ _ _ _ _ (by omega)).trans (h.cm i hi), (cell_setCell_ne _ _ _ _ _ (by decide)).trans h.cw, cell_setCell_at _ _ _ _ _ h.cl, fun i => (frozen_setCell' _ _ _ _).trans (h.fz i), by simpa [World.setCell] using h.lt⟩
end
theorem belX_set (w : World) (t i : Nat) (u : Value) : BelX t w.heap.size w (w.setCell ⟨t, i, none⟩ u) := (BelX.refl _ _ _).setp i u
/-- the table's list of requests is written: a row beside the table -/
theorem TF.setWaits {F : Nat → Prop} {W : World} {t : Nat} {T : Tb} {ps : Nat → Nat} {v u : Value} {ws : List Wt} {base : Nat} (h : TF F W t T ps v) (hu : Own 5 encW 168 W base u ws) (hF : ∀ k, u.ownBlock = some k → F k) (hut : u.ownBlock ≠ some t) (hup : ∀ i, i ≤ 16 → u.ownBlock ≠ some (ps i)) : TAt (W.setCell ⟨t, 18, none⟩ u) t { T with waits := ws } ps u := by
  refine ⟨h.at_.tc.setWaits u, own_base (own_belX hu (belX_set W t 18 u) hut) (Nat.zero_le _), fun i hi => ?_, h.at_.inj, h.at_.net, hut, hup⟩
  refine ((h.maps i hi).far (belX_set W t 18 u) (Nat.le_refl _) (h.sub _ (.inl rfl)) (h.at_.net i hi)).sub ?_
  rintro k (rfl | hk | hk)
  · exact h.sub _ (.inl rfl)
  · exact h.sub _ (.inr (.inl hk))
  · exact hF k hk
end

section
open Go.RowKit

/-- append of a block that is known whole, at a step of a drawn region: which block it turns -/
theorem step_appG {α : Type} {enc : α → List Value} {k : Nat} {P : Program} {W : World} {ops : Array Oper} {o : Oper} {a : Act} {K : Act → World → Prop} {Q : Exit → Act → World → Prop} {E : Prop} {s x : Operand} {t e : TypeId} {z : Value} {base bytes c g : Nat} {v : Value} {ys : List α} {cs : Array Value} (y : α)
    (ht : P.underlying t = some (.slice e)) (hinfo : (P.info? e).map (fun i => (i.zero, i.size, i.bytes)) = some (some z, k, bytes)) (hzs : z.cells.size = k) (hsz : 0 < k)
    (hown : Own k enc e W base v ys) (hbase : base ≤ W.heap.size) (hlit : Bk W g cs e)
    (hgd : o.guard = none) (ho : o.op = .call { callee := .builtin .append, args := #[s, x], argTypes := #[t, t] })
    (hs : a.eval s = v) (hx : a.eval x = .slice (some ⟨g, 0, none⟩) 1 c) (hcs : cs.toList = enc y) (hk : (enc y).length = k) (h1 : ∀ u ∈ enc y, u.oneCell' = true)
    (h63 : ys.length + 1 ≤ maxLen) (hbytes : (ys.length + 1) * bytes ≤ 140737488355328)
    (h : ∀ v' w', Own k enc e w' base v' (ys ++ [y]) → AppF W w' v v' → K (a.put o.dst v') w') :
    if Region.wanted o (yielded ops a.tmps) = true then Oper.wp P o a W K Q else E := by
  obtain ⟨i, hi, hz, h3, h4⟩ := info_parts hinfo
  refine step_append_lies _ hgd s x t ho base e i z k bytes ht hi hz h3 h4 hzs hsz v ys.length _ hs hown ⟨g, 0, none⟩ 1 c (enc y) hx (by omega) ?_ h1 (by omega) h63 hbytes hbase _ rfl ?_
  · rw [← hcs]; exact World.news_of_block hlit
  · intro g cap w' ho' hg hat _
    refine h _ w' (by show World.ownsRow _ _ _ _ _ _ _; rw [List.flatMap_append, List.length_append, List.flatMap_singleton]; exact ho') ⟨⟨hg.os, hg.tape, hg.output, hg.size, fun k hk hn => hg.block k hk (fun e => hn e.symm)⟩, ?_⟩
    intro k hk hlt he
    obtain rfl : g = k := by simpa [Value.ownBlock] using he
    rcases hat with hat | hat
    · exact hk hat
    · omega

theorem below_then {W0 W1 W2 : World} (h : Below W0.heap.size W0 W1) (h2 : Below W1.heap.size W1 W2) : Below W0.heap.size W0 W2 := h.trans (h2.mono h.size)
theorem below_base {B : Nat} {W W0 W1 : World} (h : Below B W W0) (hB : B ≤ W0.heap.size) (h2 : Below W0.heap.size W0 W1) : Below B W W1 := h.trans (h2.mono hB)
structure GrS (W : World) (base t : Nat) (T : Tb) (ps : Nat → Nat) (v vo vl vc : Value) (O L C : List Wt) : Prop where
  tf : TF (fun k => fpS t ps v k ∨ vo.ownBlock = some k ∨ vl.ownBlock = some k ∨ vc.ownBlock = some k) W t T ps v
  o : Own 5 encW 168 W base vo O
  l : Own 5 encW 168 W base vl L
  c : Own 5 encW 168 W base vc C
  ol : Apt vo vl
  oc : Apt vo vc
  lc : Apt vl vc
  fp : ∀ k, fpS t ps v k → k < base
  le : base ≤ W.heap.size
section
variable {W W' : World} {base t : Nat} {T : Tb} {ps : Nat → Nat} {v vo vl vc : Value} {O L C : List Wt}
theorem GrS.rot (h : GrS W base t T ps v vo vl vc O L C) : GrS W base t T ps v vl vc vo L C O :=
  ⟨h.tf.weak (fun k hk => .inl hk) (fun k hk => by exact hk.elim .inl fun hk => .inr (hk.elim (fun h => .inr (.inl h)) fun hk => hk.elim (fun h => .inr (.inr h)) .inl)), h.l, h.c, h.o, h.lc, h.ol.symm, h.oc.symm, h.fp, h.le⟩
theorem GrS.next {B : Nat} (h : GrS W base t T ps v vo vl vc O L C) (hb : Below B W W') (hB : W.heap.size ≤ B) : GrS W' base t T ps v vo vl vc O L C :=
  ⟨h.tf.next hb hB, own_below h.o (hb.mono hB), own_below h.l (hb.mono hB), own_below h.c (hb.mono hB), h.ol, h.oc, h.lc, h.fp, Nat.le_trans h.le hb.size⟩
theorem GrS.app {v' : Value} {O' : List Wt} (h : GrS W base t T ps v vo vl vc O L C) (ho : Own 5 encW 168 W' base v' O') (ha : AppF W W' vo v') : GrS W' base t T ps v v' vl vc O' L C := by
  have hl := own_app h.l ha h.ol.symm
  have hc := own_app h.c ha h.oc.symm
  refine ⟨h.tf.app ha (fun k hk => .inr (.inl hk)) (fun k hk e => ?_) (fun k hk => ?_) (fun k hk hi => ?_) (fun k hk => (ho.lt k hk).2), ho, hl.1, hc.1, hl.2.symm, hc.2.symm, h.lc, h.fp, Nat.le_trans h.le ha.bel.size⟩
  · have := h.fp k hk; have := (h.o.lt k e).1; omega
  · rcases hk with hk | hk | hk | hk
    · exact .inl (.inl hk)
    · exact .inr hk
    · exact .inl (.inr (.inr (.inl hk)))
    · exact .inl (.inr (.inr (.inr hk)))
  · rcases hk with hk | hk | hk | hk
    · exact .inl hk
    · exact .inr (.inl (hi hk))
    · exact .inr (.inr (.inl hk))
    · exact .inr (.inr (.inr hk))
theorem GrS.raise {i : Nat} {ys : List (Pt Int)} (h : GrS W base t T ps v vo vl vc O L C) (hi : i ≤ 16) (hb : BelX (ps i) W.heap.size W W') (hm : IM (fun k => fpS t ps v k ∨ vo.ownBlock = some k ∨ vl.ownBlock = some k ∨ vc.ownBlock = some k) W' (ps i) ys) : GrS W' base t { T with held := upd T.held i ys } ps v vo vl vc O L C := by
  have hp : ∀ {u : Value} {X : List Wt}, Own 5 encW 168 W base u X → u.ownBlock ≠ some (ps i) := fun ho e => by
    have := h.fp _ (.inr (.inl ⟨i, hi, rfl⟩)); have := (ho.lt _ e).1; omega
  exact ⟨h.tf.map hi hb hm, own_belX h.o hb (hp h.o), own_belX h.l hb (hp h.l), own_belX h.c hb (hp h.c), h.ol, h.oc, h.lc, h.fp, Nat.le_trans h.le hb.size⟩
end
/-- with a box beside it -/
structure GrX (W : World) (base t : Nat) (T : Tb) (ps : Nat → Nat) (v vo vl vc : Value) (O L C : List Wt) (p : Nat) (cs : Array Value) : Prop where
  s : GrS W base t T ps v vo vl vc O L C
  bk : Bk W p cs 168
  po : vo.ownBlock ≠ some p
  pl : vl.ownBlock ≠ some p
  pc : vc.ownBlock ≠ some p
section
variable {W W' : World} {base t : Nat} {T : Tb} {ps : Nat → Nat} {v vo vl vc : Value} {O L C : List Wt} {p : Nat} {cs : Array Value}
theorem GrS.box (h : GrS W base t T ps v vo vl vc O L C) (cs : Array Value) : GrX (W.alloc (.cells cs 168)) base t T ps v vo vl vc O L C W.heap.size cs :=
  ⟨h.next (below_alloc W _) (Nat.le_refl _), Bk.new W cs 168 rfl, own_far h.o (Nat.le_refl _), own_far h.l (Nat.le_refl _), own_far h.c (Nat.le_refl _)⟩
theorem GrX.rot (h : GrX W base t T ps v vo vl vc O L C p cs) : GrX W base t T ps v vl vc vo L C O p cs := ⟨h.s.rot, h.bk, h.pl, h.pc, h.po⟩
theorem GrX.next {B : Nat} (h : GrX W base t T ps v vo vl vc O L C p cs) (hb : Below B W W') (hB : W.heap.size ≤ B) : GrX W' base t T ps v vo vl vc O L C p cs :=
  ⟨h.s.next hb hB, h.bk.next hb hB, h.po, h.pl, h.pc⟩
theorem GrX.app {v' : Value} {O' : List Wt} (h : GrX W base t T ps v vo vl vc O L C p cs) (ho : Own 5 encW 168 W' base v' O') (ha : AppF W W' vo v') : GrX W' base t T ps v v' vl vc O' L C p cs :=
  ⟨h.s.app ho ha, (ha.block h.po h.bk.lt).trans h.bk, ha.far p h.po h.bk.lt, h.pl, h.pc⟩
theorem GrX.appL {v' : Value} {L' : List Wt} (h : GrX W base t T ps v vo vl vc O L C p cs) (ho : Own 5 encW 168 W' base v' L') (ha : AppF W W' vl v') : GrX W' base t T ps v vo v' vc O L' C p cs := (h.rot.app ho ha).rot.rot
theorem GrX.appC {v' : Value} {C' : List Wt} (h : GrX W base t T ps v vo vl vc O L C p cs) (ho : Own 5 encW 168 W' base v' C') (ha : AppF W W' vc v') : GrX W' base t T ps v vo vl v' O L C' p cs := (h.rot.rot.app ho ha).rot
theorem GrX.raise {i : Nat} {ys : List (Pt Int)} (h : GrX W base t T ps v vo vl vc O L C p cs) (hi : i ≤ 16) (hb : BelX (ps i) W.heap.size W W') (hm : IM (fun k => fpS t ps v k ∨ vo.ownBlock = some k ∨ vl.ownBlock = some k ∨ vc.ownBlock = some k) W' (ps i) ys) (hp : p ≠ ps i) : GrX W' base t { T with held := upd T.held i ys } ps v vo vl vc O L C p cs :=
  ⟨h.s.raise hi hb hm, hb.bk h.bk h.bk.lt hp, h.po, h.pl, h.pc⟩
/-- the left row grows, at a step of a drawn region -/
theorem step_grL {W0 : World} {ops : Array Oper} {o : Oper} {a : Act} {K : Act → World → Prop} {Q : Exit → Act → World → Prop} {E : Prop} {s x : Operand} {c g : Nat} {lit : Array Value} (y : Wt) (hX : GrX W0 base t T ps v vo vl vc O L C p cs) (hb : Below W0.heap.size W0 W) (hlit : Bk W g lit 168)
    (hgd : o.guard = none) (ho : o.op = .call { callee := .builtin .append, args := #[s, x], argTypes := #[107, 107] })
    (hs : a.eval s = vl) (hx : a.eval x = .slice (some ⟨g, 0, none⟩) 1 c) (hcs : lit.toList = encW y) (h63 : L.length ≤ 1000)
    (h : ∀ v' w', GrX w' base t T ps v vo v' vc O (L ++ [y]) C p cs → Below base W0 w' → K (a.put o.dst v') w') :
    if Region.wanted o (yielded ops a.tmps) = true then Oper.wp Tryz.prog o a W K Q else E := by
  have hX' := hX.next hb (Nat.le_refl _)
  refine step_appG y Tryz.underlying107 infoWait rfl (by decide) hX'.s.l hX'.s.le hlit hgd ho hs hx hcs rfl (encW_one y) (by unfold maxLen; omega) (by omega) fun v' w' ho' ha' => ?_
  exact h v' w' (hX'.appL ho' ha') ((hb.mono hX.s.le).trans (ha'.below hX'.s.l hX'.s.le))
/-- the claims' row grows, at a step of a drawn region -/
theorem step_grC {W0 : World} {ops : Array Oper} {o : Oper} {a : Act} {K : Act → World → Prop} {Q : Exit → Act → World → Prop} {E : Prop} {s x : Operand} {c g : Nat} {lit : Array Value} (y : Wt) (hX : GrX W0 base t T ps v vo vl vc O L C p cs) (hb : Below W0.heap.size W0 W) (hlit : Bk W g lit 168)
    (hgd : o.guard = none) (ho : o.op = .call { callee := .builtin .append, args := #[s, x], argTypes := #[107, 107] })
    (hs : a.eval s = vc) (hx : a.eval x = .slice (some ⟨g, 0, none⟩) 1 c) (hcs : lit.toList = encW y) (h63 : C.length ≤ 1000)
    (h : ∀ v' w', GrX w' base t T ps v vo vl v' O L (C ++ [y]) p cs → Below base W0 w' → K (a.put o.dst v') w') :
    if Region.wanted o (yielded ops a.tmps) = true then Oper.wp Tryz.prog o a W K Q else E := by
  have hX' := hX.next hb (Nat.le_refl _)
  refine step_appG y Tryz.underlying107 infoWait rfl (by decide) hX'.s.c hX'.s.le hlit hgd ho hs hx hcs rfl (encW_one y) (by unfold maxLen; omega) (by omega) fun v' w' ho' ha' => ?_
  exact h v' w' (hX'.appC ho' ha') ((hb.mono hX.s.le).trans (ha'.below hX'.s.c hX'.s.le))
/-- the row of those let through grows, in a plain region -/
theorem wpList_grO {W0 : World} {ops : Array Oper} {rest : List Oper} {o : Oper} {a : Act} {Q : Exit → Act → World → Prop} {s x : Operand} {c g : Nat} {lit : Array Value} (y : Wt) (hX : GrX W0 base t T ps v vo vl vc O L C p cs) (hb : Below W0.heap.size W0 W) (hg : g = W.heap.size)
    (hgd : o.guard = none) (ho : o.op = .call { callee := .builtin .append, args := #[s, x], argTypes := #[107, 107] })
    (hs : a.eval s = vo) (hx : a.eval x = .slice (some ⟨g, 0, none⟩) 1 c) (hcs : lit.toList = encW y) (h63 : O.length ≤ 1000)
    (h : ∀ v' w', GrX w' base t T ps v v' vl vc (O ++ [y]) L C p cs → Below base W0 w' → wpList Tryz.prog ops Q rest (a.put o.dst v') w') :
    wpList Tryz.prog ops Q (o :: rest) a (W.alloc (.cells lit 168)) := by
  have hX' := hX.next hb (Nat.le_refl _)
  refine wpList_app1 y Tryz.underlying107 infoWait rfl (by decide) hX'.s.o hX'.s.le (Below.refl _ _) hgd ho hs hx hg hcs rfl (encW_one y) (by unfold maxLen; omega) (by omega) fun v' w' ho' ha' => ?_
  exact h v' w' (hX'.app ho' ha') ((hb.mono hX.s.le).trans (ha'.below hX'.s.o hX'.s.le))
end
end

section
open Go.RowKit

def mapsS (ps : Nat → Nat) (k : Nat) : Prop := ∃ i, i ≤ 16 ∧ k = ps i
theorem upTo_ok {s0 s1 : Int} (h : 0 ≤ s0 ∧ s0 < s1) (h1 : s1 ≤ 4096) : s0 ∈ upTo 4097 ∧ s1 ∈ upTo 4097 := ⟨upTo_mem h.1 (by omega), upTo_mem (by omega) (by omega)⟩

set_option maxHeartbeats 8000000 in
set_option maxRecDepth 100000 in
theorem tgrant_c (t : Nat) (T : Tb) (ps : Nat → Nat) (v : Value) (w : World) (h : TAt w t T ps v) (hT : TOk T) :
    Calls Tryz.prog 158 #[ptr t] w fun e w' => ∃ vo vl, e = .returned vo ∧ Own 5 encW 168 w' w.heap.size vo T.granted ∧ TAt w' t T.grant ps vl ∧ (∀ k, vl.ownBlock = some k → w.heap.size ≤ k) ∧ Apt vo vl ∧ BelF (fun k => k = t ∨ mapsS ps k) w.heap.size w w' := by
  obtain ⟨A, c, rfl⟩ := own_shape h.own
  have hn := hT.n.2
  have HA := hidd h
  have h18 := h.tc.cw
  have htl := h.tc.lt
  have HW := hidd hT.waits
  have hl := hT.len
  have HG0 : Hid (GrS w w.heap.size t { T with held := T.held } ps (.slice A T.waits.length c) (.slice none 0 0) (.slice none 0 0) (.slice none 0 0) [] [] []) :=
    ⟨(TF.of h).weak (fun k hk => .inl hk) (fun k hk => by rcases hk with hk | hk | hk | hk; exact hk; all_goals cases hk), World.ownsRow_nil _ _ _ _, World.ownsRow_nil _ _ _ _, World.ownsRow_nil _ _ _ _, (fun k hk => by cases hk), (fun k hk => by cases hk), (fun k hk => by cases hk), h.fp_lt, Nat.le_refl _⟩
  have HST : Hid (∀ k (h : k < T.waits.length), grantF T.n T.held (T.waits.take (k + 1)) = grantStep T.n (grantF T.n T.held (T.waits.take k)) T.waits[k]) := fun k h => grantF_take h
  have HOK : Hid (∀ k, k ≤ T.waits.length → GOk T.n (T.waits.take k) (grantF T.n T.held (T.waits.take k))) := fun k hk => grantF_ok hT.held _ fun x hx => hT.waits x (List.mem_of_mem_take hx)
  have HGD : Hid (T.granted = (grantF T.n T.held (T.waits.take T.waits.length)).out) := by show _ = _; rw [List.take_length]; rfl
  have HGR : Hid (T.grant = { T with held := (grantF T.n T.held (T.waits.take T.waits.length)).held, waits := (grantF T.n T.held (T.waits.take T.waits.length)).left }) := by show _ = _; rw [List.take_length]; rfl
  generalize T.granted = GD at *
  generalize T.grant = GR at *
  clear h hT
  go_enter Tryz.func158, Tryz.ntmps158
  go_wp2_with fail
  go_loopw [3, 4, 5, 15] (fun vo vl vc i wr => ∃ (k : Nat) (H : Nat → List (Pt Int)) (L C O : List Wt) (uo ul uc : Value), k ≤ T.waits.length ∧ i = .int .i64 k ∧ uo = vo ∧ ul = vl ∧ uc = vc ∧ Hid (grantF T.n T.held (T.waits.take k) = ⟨H, L, C, O⟩) ∧ Hid (GrS wr w.heap.size t { T with held := H } ps (.slice A T.waits.length c) uo ul uc O L C) ∧ BelF (mapsS ps) w.heap.size w wr) (fun _ _ _ i _ => T.waits.length - (intOf i).toNat)
  case atStart => exact ⟨0, T.held, [], [], [], _, _, _, by omega, rfl, rfl, rfl, rfl, rfl, HG0.out, BelF.refl _ _ _⟩
  case round =>
    obtain ⟨k, H, gl, gc, go, vo, vl, vc, hk, rfl, rfl, rfl, rfl, hG, hS, hbr⟩ := hrel
    by_cases hlt : k < T.waits.length
    · have hne : T.waits ≠ [] := by intro e; rw [e] at hlt; simp at hlt
      have hg := HOK.out k hk
      rw [hG.out] at hg
      have hlen : gl.length + go.length = (T.waits.take k).length := hg.len
      have hcl : gc.length = gl.length := hg.cls
      rw [List.length_take, Nat.min_eq_left hk] at hlen
      have hgl : gl.length ≤ 1000 := by omega
      have hgo : go.length ≤ 1000 := by omega
      have hgc : gc.length ≤ 1000 := by omega
      clear hlen hcl
      have HGH : Hid (∀ i, HOk (H i)) := hg.held
      have HT := hidd (HST.out k hlt)
      rw [hG.out] at HT
      have hwy := HW.out T.waits[k] (List.getElem_mem hlt)
      obtain ⟨b, o, hAe, hblt, hc⟩ := (hS.out.tf.at_.rd (T := { T with held := H }) rfl).cellsW hne
      obtain ⟨g0, g1, g2, g3, g4⟩ := hc k hlt
      clear hc hg HG0 HST HOK hG
      subst hAe
      obtain ⟨Bc, cc, rfl⟩ := own_shape hS.out.c
      generalize T.waits[k] = y at *
      obtain ⟨yi, yn, y0, y1, ym⟩ := y
      have hs0 : 0 ≤ y0 ∧ y0 < y1 := hwy.span
      have hs1 : y1 ≤ 4096 := hwy.end_
      have hnd : 1 ≤ yn ∧ yn ≤ T.n := hwy.node
      clear hwy
      simp only [] at g0 g1 g2 g3 g4
      have hX0 := hidd (hS.out.box #[.int .i64 yi, .int .i64 yn, .int .i64 y0, .int .i64 y1, .int .i64 ym])
      have HIN : Hid (Calls Tryz.prog 204 #[ptr t, .int .i64 yn, lkV y0 y1 ym, .slice Bc gc.length cc] (wr.alloc (.cells #[.int .i64 yi, .int .i64 yn, .int .i64 y0, .int .i64 y1, .int .i64 ym] 168)) fun e w' => e = .returned (.tuple #[.int .i64 (hindF H T.n yn y0 y1 ym gc), .bool (decide (hindF H T.n yn y0 y1 ym gc < y1))]) ∧ Below (wr.alloc (.cells #[.int .i64 yi, .int .i64 yn, .int .i64 y0, .int .i64 y1, .int .i64 ym] 168)).heap.size (wr.alloc (.cells #[.int .i64 yi, .int .i64 yn, .int .i64 y0, .int .i64 y1, .int .i64 ym] 168)) w') :=
        thinders_c t { T with held := H } ps _ yn y0 y1 ym Bc _ cc gc _ hX0.out.s.tf.at_ hn HGH.out (Own.rd hX0.out.s.c rfl) rfl (by omega)
      have hge := hindF_ge (held := H) (n := T.n) (node := yn) (m := ym) (A := gc) (Int.le_of_lt hs0.2)
      have HGS : Hid (grantStep T.n ⟨H, gl, gc, go⟩ (yi, yn, y0, y1, ym) = if hindF H T.n yn y0 y1 ym gc < y1 then ⟨H, gl ++ [(yi, yn, y0, y1, ym)], gc ++ [claimW (yi, yn, y0, y1, ym) (hindF H T.n yn y0 y1 ym gc)], go⟩ else ⟨upd H yn.toNat (raiseF y0 y1 ym (H yn.toNat)), gl, gc, go ++ [(yi, yn, y0, y1, ym)]⟩) := rfl
      clear HW
      have HR0 : Hid (∀ W, GrX W w.heap.size t { T with held := H } ps (.slice (some ⟨b, o, none⟩) T.waits.length c) vo vl (.slice Bc gc.length cc) go gl gc wr.heap.size #[.int .i64 yi, .int .i64 yn, .int .i64 y0, .int .i64 y1, .int .i64 ym] → Calls Tryz.prog 156 #[ptr (ps yn.toNat), lkV y0 y1 ym] W fun e w' => e = .returned (.tuple #[]) ∧ IM (fun k => fpS t ps (.slice (some ⟨b, o, none⟩) T.waits.length c) k ∨ vo.ownBlock = some k ∨ vl.ownBlock = some k ∨ (Value.slice Bc gc.length cc).ownBlock = some k) w' (ps yn.toNat) (raiseF y0 y1 ym (H yn.toNat)) ∧ BelX (ps yn.toNat) W.heap.size W w') :=
        fun W hW => mRaise_c (upTo 4097) (ps yn.toNat) (H yn.toNat) y0 y1 ym W (hW.s.tf.maps yn.toNat (by omega)) hW.s.tf.lt (HGH.out _).can (HGH.out _).inL (upTo_ok hs0 hs1).1 (upTo_ok hs0 hs1).2 (by rw [upTo_len]; omega)
      have hcv : Hid (encW (yi, yn, y0, y1, ym) = [.int .i64 yi, .int .i64 yn, .int .i64 y0, .int .i64 y1, .int .i64 ym]) := rfl
      have hone := hidd (encW_one (yi, yn, y0, y1, ym))
      generalize hindF H T.n yn y0 y1 ym gc = K at *
      have KC : Hid (K < y1 → ∀ W, Calls Tryz.prog 209 #[wtV (yi, yn, y0, y1, ym), .int .i64 K] W fun e w' => e = .returned (wtV (claimW (yi, yn, y0, y1, ym) K)) ∧ Below W.heap.size W w') := fun hH W => tclaim_c (yi, yn, y0, y1, ym) K W ⟨by omega, by omega⟩
      have HCW : Hid (encW (claimW (yi, yn, y0, y1, ym) K) = [.int .i64 yi, .int .i64 yn, .int .i64 y0, .int .i64 (K + 1), .int .i64 ym]) := rfl
      have hcw : Hid (wtV (claimW (yi, yn, y0, y1, ym) K) = .agg #[.int .i64 yi, .int .i64 yn, .int .i64 y0, .int .i64 (K + 1), .int .i64 ym]) := rfl
      have honec := hidd (encW_one (claimW (yi, yn, y0, y1, ym) K))
      generalize claimW (yi, yn, y0, y1, ym) K = yc at *
      by_cases hd : K < y1
      · have HDB := hidd (show decide (K < y1) = true from decide_eq_true hd)
        have HGS2 : Hid (grantStep T.n ⟨H, gl, gc, go⟩ (yi, yn, y0, y1, ym) = ⟨H, gl ++ [(yi, yn, y0, y1, ym)], gc ++ [yc], go⟩) := by show _ = _; rw [HGS.out, if_pos hd]
        have KC2 := hidd (KC.out hd)
        clear hd KC HGS
        go_wp2_with fail
        refine HIN.out.mono ?_; rintro e w5 ⟨rfl, hb5⟩
        rw [HDB.out]
        have hX := hidd (hX0.out.next hb5 (Nat.le_refl _))
        have hbx := hX.out.bk.bx5
        have hle := hX.out.s.le
        have hBr5 : BelF (mapsS ps) w.heap.size w w5 := hbr.trans (BelF.of ((below_alloc1 hb5).mono (by have := hbr.size; omega)))
        have hB := hidd (Below.refl w.heap.size w5)
        go_wp2_with fail
        go_region_law (first
          | (go_simp; go_at_call 209; refine (KC2.out _).mono ?_; rintro e wc ⟨rfl, hbc⟩; rw [hcw.out]
             have hb2 := below_then (by first | exact Below.refl _ _ | exact below_drewN (Below.refl _ _) 1 | exact below_alloc _ _ | exact below_drewN (below_alloc _ _) 1 | exact (below_drewN (Below.refl _ _) 1).alloc (Nat.le_refl _) _) hbc
             have hB := hidd (below_base hB.out hX.out.s.le hb2)
             have hX := hidd (hX.out.next hb2 (Nat.le_refl _))
             have hbx := hX.out.bk.bx5
             clear hb2 hbc)
          | (refine step_grL (c := 1) (yi, yn, y0, y1, ym) hX.out (by first | exact Below.refl _ _ | exact below_drewN (Below.refl _ _) 1 | exact below_alloc _ _ | exact below_drewN (below_alloc _ _) 1 | exact (below_drewN (Below.refl _ _) 1).alloc (Nat.le_refl _) _) (Bk.new _ _ _ rfl) rfl rfl (by simp [Act.eval, Act.put]) (by simp [Act.eval, Act.put]) rfl hgl ?_
             intro v' w' hx' hb'
             have hB := hidd (hB.out.trans hb')
             have hX := hidd hx'
             have hbx := hX.out.bk.bx5
             clear hx' hb')
          | (refine step_grC (c := 1) yc hX.out (by first | exact Below.refl _ _ | exact below_drewN (Below.refl _ _) 1 | exact below_alloc _ _ | exact below_drewN (below_alloc _ _) 1 | exact (below_drewN (Below.refl _ _) 1).alloc (Nat.le_refl _) _) (Bk.new _ _ _ rfl) rfl rfl (by simp [Act.eval, Act.put]) (by simp [Act.eval, Act.put]) HCW.out.symm hgc ?_
             intro v' w' hx' hb'
             have hB := hidd (hB.out.trans hb')
             have hX := hidd hx'
             have hbx := hX.out.bk.bx5
             clear hx' hb')
          | fail)
        all_goals
          go_wp2_with fail
          go_roundw
          case rel => exact ⟨k + 1, H, gl ++ [(yi, yn, y0, y1, ym)], gc ++ [yc], go, _, _, _, by omega, by go_num, rfl, rfl, rfl, HT.out.trans HGS2.out, hX.out.s, hBr5.trans (BelF.of hB.out)⟩
          case measure => simp [intOf]; omega
      · have HDB := hidd (show decide (K < y1) = false from decide_eq_false hd)
        have HGS2 : Hid (grantStep T.n ⟨H, gl, gc, go⟩ (yi, yn, y0, y1, ym) = ⟨upd H yn.toNat (raiseF y0 y1 ym (H yn.toNat)), gl, gc, go ++ [(yi, yn, y0, y1, ym)]⟩) := by show _ = _; rw [HGS.out, if_neg hd]
        clear hd KC HGS
        go_wp2_with fail
        refine HIN.out.mono ?_; rintro e w5 ⟨rfl, hb5⟩
        rw [HDB.out]
        have hX5 := hidd (hX0.out.next hb5 (Nat.le_refl _))
        have hbx := hX5.out.bk.bx5
        have hBr5 : BelF (mapsS ps) w.heap.size w w5 := hbr.trans (BelF.of ((below_alloc1 hb5).mono (by have := hX0.out.s.le; have := hS.out.le; omega)))
        obtain ⟨q, rfl⟩ : ∃ q : Nat, yn = q := ⟨yn.toNat, by omega⟩
        rw [Int.toNat_natCast] at HGS2 HR0
        have hq : q ≤ 16 := by omega
        have hcm := hX5.out.s.tf.at_.tc.cm q hq
        have hfz := hX5.out.s.tf.at_.tc.fz (1 + q)
        have htl5 := hX5.out.s.tf.at_.tc.lt
        have hi0 : 0 ≤ (q : Int) := by omega
        have hi1 : (q : Int) < 17 := by omega
        go_wp2_with fail
        refine wp_tail 9 (by kernel_rfl) ?_
        simp only [List.take_succ_cons, List.take_zero, List.drop_succ_cons, List.drop_zero]
        repeat still_step
        refine wpStill_nil ?_
        go_wp2_with fail
        refine (HR0.out _ (hX5.out.next (below_drewN (Below.refl _ _) 1) (Nat.le_refl _))).mono ?_; rintro e w6 ⟨rfl, hm6, hb6⟩
        have hX6 := hidd ((hX5.out.next (below_drewN (Below.refl _ _) 1) (Nat.le_refl _)).raise hq hb6 hm6 (by have := hS.out.fp _ (.inr (.inl ⟨q, hq, rfl⟩)); have := hS.out.le; omega))
        have hBr6 : BelF (mapsS ps) w.heap.size w w6 := (hBr5.trans (BelF.of (below_drewN (Below.refl _ _) 1))).trans (BelF.ofX (hb6.mono hX5.out.s.le) ⟨q, hq, rfl⟩)
        have hbx6 := hX6.out.bk.bx5
        clear hm6 hb6 HR0 hcm hfz htl5 hbx
        go_wp2_with (at_builtin; refine wpList_grO (c := 1) ((yi, (q : Int), y0, y1, ym) : Wt) hX6.out (Below.refl _ _) rfl rfl rfl rfl rfl rfl hgo (fun v' w' hx' hb' => ?_))
        go_roundw
        case rel => exact ⟨k + 1, upd H q (raiseF y0 y1 ym (H q)), gl, gc, go ++ [(yi, (q : Int), y0, y1, ym)], _, _, _, by omega, by go_num, rfl, rfl, rfl, HT.out.trans HGS2.out, hx'.s, hBr6.trans (BelF.of hb')⟩
        case measure => simp [intOf]; omega
    · obtain rfl : k = T.waits.length := by omega
      rw [hG.out] at HGD HGR
      obtain ⟨Al, cl, rfl⟩ := own_shape hS.out.l
      have h18r := hS.out.tf.at_.tc.cw
      have hfz := hS.out.tf.at_.tc.fz 18
      have htr := hS.out.tf.at_.tc.lt
      have hnt := fun (u : Value) (X : List Wt) (ho : Own 5 encW 168 wr w.heap.size u X) => (show u.ownBlock ≠ some t from fun e => by have := (ho.lt t e).1; omega)
      have hnp := fun (u : Value) (X : List Wt) (ho : Own 5 encW 168 wr w.heap.size u X) (i : Nat) (hi : i ≤ 16) => (show u.ownBlock ≠ some (ps i) from fun e => by have := (ho.lt _ e).1; have := hS.out.fp _ (.inr (.inl ⟨i, hi, rfl⟩)); omega)
      have HEND : Hid (TAt (wr.setCell ⟨t, 18, none⟩ (.slice Al gl.length cl)) t { T with held := H, waits := gl } ps (.slice Al gl.length cl) ∧ Own 5 encW 168 (wr.setCell ⟨t, 18, none⟩ (.slice Al gl.length cl)) w.heap.size vo go) :=
        ⟨hS.out.tf.setWaits hS.out.l (fun k hk => .inr (.inr (.inl hk))) (hnt _ gl hS.out.l) (hnp _ gl hS.out.l), own_belX hS.out.o (belX_set wr t 18 _) (hnt vo go hS.out.o)⟩
      have HVL : Hid (∀ k, (Value.slice Al gl.length cl).ownBlock = some k → w.heap.size ≤ k) := fun k hk => (hS.out.l.lt k hk).1
      have HAP := hidd hS.out.ol
      have HBE : Hid (BelF (fun k => k = t ∨ mapsS ps k) w.heap.size w (wr.setCell ⟨t, 18, none⟩ (.slice Al gl.length cl))) := (hbr.sub fun k _ hk => .inr hk).trans ((BelF.ofX (belX_set wr t 18 _) (.inl rfl)).mono hS.out.le)
      clear hnt hnp
      go_wp2_with fail
      go_ret
      exact ⟨vo, rfl, by rw [HGD.out]; exact HEND.out.2, _, by rw [HGR.out]; exact HEND.out.1, HVL.out, HAP.out, HBE.out⟩
end
end Go.Proofs.YtiokkoeciijkoaaGreat
