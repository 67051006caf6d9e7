/- slices.SortFunc on a row of the call's own, whatever the element: the row holds a permutation, sorted; nothing else has turned. -/
import Derived.Test.YtiokkoeciijkoaaGreatBase
import Derived.Shelf.SlSortCmp.WholeK
import Derived.Shelf.SlSortCmp.NoneTotal
namespace Go.Proofs.YtiokkoeciijkoaaGreat
set_option linter.unusedVariables false
set_option linter.unusedSimpArgs false
open Go.RowKit Go.Sort Go.Lib Go.Shelf

section
variable {α : Type} [Inhabited α] {enc : α → List Value} {k : Nat}

theorem flatK_flat (hk : ∀ x, (enc x).length = k) (xs : List α) : (flatK enc k xs.toArray).toList = xs.flatMap enc := by
  apply List.ext_getElem?
  intro t
  by_cases ht : t < xs.length * k
  · have hk0 : 0 < k := by rcases Nat.eq_zero_or_pos k with h | h; · subst h; simp at ht
                           · exact h
    have hq : t / k < xs.length := (Nat.div_lt_iff_lt_mul hk0).2 ht
    have hm : t % k < k := Nat.mod_lt _ hk0
    have he : xs[t / k]? = some xs[t / k] := List.getElem?_eq_getElem hq
    have h2 := flat_at enc k hk xs (t / k) _ he (t % k) hm
    have ht2 : t / k * k + t % k = t := by rw [Nat.mul_comm]; exact Nat.div_add_mod t k
    rw [ht2] at h2
    rw [h2]
    have hs : t < (flatK enc k xs.toArray).size := by simpa using ht
    rw [Array.getElem?_toList, Array.getElem?_eq_getElem hs]
    have h3 := get_flatK enc k xs.toArray t (by simpa using ht)
    rw [getElem!_pos _ t hs] at h3
    rw [h3]
    have hm2 : t % k < (enc xs[t / k]).length := by rw [hk]; exact hm
    have e1 : xs.toArray[t / k]! = xs[t / k] := by simp [hq]
    rw [e1, List.getElem?_eq_getElem hm2, getElem!_pos (enc xs[t / k]) (t % k) hm2]
  · rw [List.getElem?_eq_none (by simp; omega), List.getElem?_eq_none (by rw [flat_length enc k hk]; omega)]

theorem holdsK_own {w : World} {base g cap : Nat} {e : TypeId} {n : Nat} {xs : List α} (hk : ∀ x, (enc x).length = k) (h : w.ownsRow base e k (.slice (some ⟨g, 0, none⟩) n cap) n (xs.flatMap enc)) : HoldsK enc k w g 0 xs.toArray := by
  intro j hj
  have hj' : j < (flatK enc k xs.toArray).toList.length := by simpa using hj
  constructor
  · have hc := h.cells (g := g) rfl j ((flatK enc k xs.toArray)[j]) (by rw [← flatK_flat hk xs, Array.getElem?_toList]; exact Array.getElem?_eq_getElem hj)
    rw [add_lit', Nat.zero_add] at hc
    rw [Nat.zero_add, hc, getElem!_pos _ j hj]; rfl
  · exact h.frozenAt _

theorem own_sortWorld {w : World} {base g cap : Nat} {e : TypeId} {n : Nat} {xs : List α} (hk : ∀ x, (enc x).length = k) (h : w.ownsRow base e k (.slice (some ⟨g, 0, none⟩) n cap) n (xs.flatMap enc)) (hn : n = xs.length)
    (d' : Array α) (hs : d'.size = xs.length) (m : Nat) (os : Array Obj) :
    (sortWorldK enc k w g 0 m d' os).ownsRow base e k (.slice (some ⟨g, 0, none⟩) n cap) n (d'.toList.flatMap enc) ∧ w.grownBy (sortWorldK enc k w g 0 m d' os) (some g) := by
  obtain ⟨hl, h2⟩ := h
  rcases h2 with ⟨h2, _⟩ | ⟨g', cap', cur, h2, hb, hg, hnc, hcm, hcs, htake⟩
  · cases h2
  · injection h2 with h2 _ h3
    injection h2 with h2
    injection h2 with h2
    subst h2; subst h3
    have hlt : g < w.heap.size := (Array.getElem?_eq_some_iff.1 hg).1
    have hF : (flatK enc k d').toList = d'.toList.flatMap enc := by
      have := flatK_flat hk d'.toList
      rwa [Array.toArray_toList] at this
    have hFs : (flatK enc k d').size = n * k := by rw [size_flatK, hs, hn]
    have hle : n * k ≤ cur.size := by rw [hcs]; exact Nat.mul_le_mul_right k hnc
    refine ⟨⟨by rw [flat_length enc k hk, Array.length_toList, hs, hn], .inr ⟨g, cap, putCells id 0 (flatK enc k d') cur, rfl, hb, ?_, hnc, hcm, by simp [putCells, hcs], ?_⟩⟩, ⟨rfl, rfl, rfl, ?_, ?_⟩⟩
    · show ((w.heap.modify g (onCells (putCells id 0 (flatK enc k d')))) ++ os)[g]? = _
      rw [Array.getElem?_append_left (by simpa using hlt), Array.getElem?_modify, if_pos rfl, hg]
      rfl
    · rw [← hF]
      apply List.ext_getElem?
      intro t
      by_cases ht : t < n * k
      · rw [List.getElem?_take_of_lt ht, Array.getElem?_toList, Array.getElem?_toList, Array.getElem?_eq_getElem (by simp [putCells]; omega), Array.getElem?_eq_getElem (by omega)]
        simp [putCells, hFs, ht]
      · rw [List.getElem?_eq_none (by simp; omega), List.getElem?_eq_none (by simp [hFs]; omega)]
    · show w.heap.size ≤ ((w.heap.modify g (onCells (putCells id 0 (flatK enc k d')))) ++ os).size
      simp
    · intro j hj hne
      show ((w.heap.modify g (onCells (putCells id 0 (flatK enc k d')))) ++ os)[j]? = _
      rw [Array.getElem?_append_left (by simpa using hj), Array.getElem?_modify, if_neg (fun h => hne (by rw [h]))]

/-- slices.SortFunc on a row of the call's own. -/
theorem sort_generic {P : Program} {ρ : Ren} (L : SlLaysF0.n6 P ρ) (aE : ∀ w, (isAgg (ρ.t 24)).run P w = .ok true w) (zE : ∀ w, (Go.sizeOf (ρ.t 24)).run P w = .ok k w) (hk : ∀ x, (enc x).length = k) (h1 : ∀ x, ∀ v ∈ enc x, v.oneCell' = true)
    (cf : α → α → Int) (hO : SWO (ltOf cf)) (g : Nat) (eg : ∀ args w, (callFunc g args).run P w = .ok (.enter g args) w)
    (hcmp : ∀ x y W, Calls P g #[.agg (enc x).toArray, .agg (enc y).toArray] W fun e w' => e = .returned (.int .i64 (cf x y)) ∧ ∃ q os', w' = grow (W.drewN q) os')
    {w : World} {base : Nat} {e : TypeId} {v : Value} {xs : List α} (h : w.ownsRow base e k v xs.length (xs.flatMap enc)) (hsz : xs.length < 4611686018427387904) :
    Calls P (ρ.f 6) #[v, .func (.func g) #[] #[]] w fun e' w' => e' = .returned (.tuple #[]) ∧ ∃ ys : List α, ys.Perm xs ∧ ys.Pairwise (fun x y => ltOf cf y x = false) ∧ w'.ownsRow base e k v xs.length (ys.flatMap enc) ∧ w.grownBy w' v.ownBlock := by
  obtain ⟨A, c, rfl⟩ := own_shape h
  rcases Nat.eq_zero_or_pos xs.length with h0 | h0
  · have hx : xs = [] := List.eq_nil_of_length_eq_zero h0
    subst hx
    exact (AnyF.slices_SortFunc_none L A c _ w).mono fun e' w' ⟨he, hw⟩ => by subst hw; exact ⟨he, [], List.Perm.refl _, List.Pairwise.nil, h, World.grownBy.refl _ _⟩
  · obtain ⟨g', cap, hv, hb, hlt, hc, hf⟩ := own_at h h0
    injection hv with hA _ hcap
    subst hA; subst hcap
    have hsz' : xs.toArray.size < 4611686018427387904 := by simpa using hsz
    have hrun := AnyQ.slices_SortFunc L k aE zE enc hk h1 cf hO g #[] g' 0 c xs.toArray w eg (fun m os dk _ x y => hcmp x y _) (holdsK_own hk h) hlt hsz'
    have hsize : xs.toArray.size = xs.length := by simp
    rw [hsize] at hrun
    refine hrun.mono fun e' w' ⟨he, d', m, os, hp, hs, hw⟩ => ?_
    subst hw
    have hd : d'.size = xs.length := by have := hp.1; simpa using this
    have ho := own_sortWorld hk h rfl d' hd m os
    refine ⟨he, d'.toList, ?_, ?_, ho.1, ho.2⟩
    · have := hp.2.2
      rw [Array.extract_eq_self_of_le (by omega), Array.extract_eq_self_of_le (by simp)] at this
      simpa using this
    · rw [List.pairwise_iff_getElem]
      intro i j hi hj hij
      have := hs i j (Nat.zero_le _) hij (by simp at hj; omega)
      simp only [Array.length_toList] at hi hj
      rw [getElem!_pos _ i hi, getElem!_pos _ j hj] at this
      simpa using this
end

theorem grown_trans {w w1 w2 : World} {row : Option Nat} (h : w.grownBy w1 row) (h2 : w1.grownBy w2 row) : w.grownBy w2 row :=
  ⟨h2.os.trans h.os, h2.tape.trans h.tape, h2.output.trans h.output, Nat.le_trans h.size h2.size, fun k hk hne => (h2.block k (Nat.lt_of_lt_of_le hk h.size) hne).trans (h.block k hk hne)⟩
theorem grown_below {w w1 : World} {row : Option Nat} (h : RowKit.Below w.heap.size w w1) : w.grownBy w1 row := ⟨h.os, h.tape, h.output, h.size, fun k hk _ => h.block k hk⟩
theorem below_grown {w w1 : World} {row : Option Nat} {B : Nat} (h : w.grownBy w1 row) (hB : B ≤ w.heap.size) (hr : ∀ k, row = some k → B ≤ k) : RowKit.Below B w w1 :=
  (RowKit.Below.refl B w).grown h hB hr

/-- a run of values laid into a list -/
def setL : List Value → Nat → List Value → List Value
  | l, _, [] => l
  | l, s, v :: r => setL (l.set s v) (s + 1) r
theorem setL_append (a b : List Value) : ∀ (vs : List Value) (s : Nat) (b : List Value), setL (a ++ b) (a.length + s) vs = a ++ setL b s vs
  | [], _, _ => rfl
  | v :: r, s, b => by
    rw [setL, setL, List.set_append_right _ _ (by omega)]
    have e : a.length + s - a.length = s := by omega
    rw [e, Nat.add_assoc, setL_append a b r (s + 1)]
theorem setL_whole : ∀ (a vs b : List Value), a.length = vs.length → setL (a ++ b) 0 vs = vs ++ b
  | [], [], b, _ => rfl
  | [], _ :: _, _, h => by cases h
  | _ :: _, [], _, h => by cases h
  | x :: a, v :: r, b, h => by
    rw [setL]
    show setL (([v] : List Value) ++ (a ++ b)) (([v] : List Value).length + 0) r = _
    rw [setL_append [v] b r 0 (a ++ b), setL_whole a r b (by simpa using h)]
    rfl
theorem setL_elem {α : Type} (enc : α → List Value) (k : Nat) (hk : ∀ x, (enc x).length = k) (x : α) : ∀ (ys : List α) (i : Nat), i < ys.length → setL (ys.flatMap enc) (i * k) (enc x) = (ys.set i x).flatMap enc
  | [], _, h => by cases h
  | y :: ys, 0, _ => by
    rw [List.flatMap_cons, Nat.zero_mul, setL_whole _ _ _ (by rw [hk, hk])]
    rfl
  | y :: ys, i + 1, h => by
    rw [List.flatMap_cons, Nat.add_mul, Nat.one_mul, Nat.add_comm, ← hk y, setL_append _ [] , hk y, setL_elem enc k hk x ys i (by simpa using h)]
    rfl

section
variable {w : World} {base : Nat} {e : TypeId} {size g n cap : Nat}
theorem own_setCells : ∀ (vs : List Value) (s : Nat) (w : World) (l : List Value), w.ownsRow base e size (.slice (some ⟨g, 0, none⟩) n cap) n l →
    (w.setCells g s vs).ownsRow base e size (.slice (some ⟨g, 0, none⟩) n cap) n (setL l s vs) ∧ w.grownBy (w.setCells g s vs) (some g)
  | [], _, w, l, h => ⟨h, World.grownBy.refl w _⟩
  | v :: r, s, w, l, h => by
    have h1 := h.stored s v
    have h2 := own_setCells r (s + 1) _ _ h1.1
    exact ⟨h2.1, grown_trans h1.2 h2.2⟩
theorem own_setElem {α : Type} {enc : α → List Value} {k : Nat} (hk : ∀ x, (enc x).length = k) {w : World} {ys : List α} (h : w.ownsRow base e k (.slice (some ⟨g, 0, none⟩) n cap) n (ys.flatMap enc)) (i : Nat) (hi : i < ys.length) (x : α) :
    (w.setCells g (i * k) (enc x)).ownsRow base e k (.slice (some ⟨g, 0, none⟩) n cap) n ((ys.set i x).flatMap enc) ∧ w.grownBy (w.setCells g (i * k) (enc x)) (some g) := by
  have := own_setCells (enc x) (i * k) w _ h
  rwa [setL_elem enc k hk x ys i hi] at this
theorem own_take {l : List Value} (h : w.ownsRow base e size (.slice (some ⟨g, 0, none⟩) n cap) n l) {m : Nat} (hm : m ≤ n) : w.ownsRow base e size (.slice (some ⟨g, 0, none⟩) m cap) m (l.take (m * size)) := by
  obtain ⟨hl, h2⟩ := h
  have hmn : m * size ≤ n * size := Nat.mul_le_mul_right _ hm
  refine ⟨by rw [List.length_take, hl]; omega, ?_⟩
  rcases h2 with ⟨h2, _⟩ | ⟨g', cap', cur, h2, hb, hg, hnc, hcm, hcs, htake⟩
  · cases h2
  · injection h2 with h2 _ h3
    injection h2 with h2
    injection h2 with h2
    subst h2; subst h3
    exact .inr ⟨g, cap, cur, rfl, hb, hg, by omega, hcm, hcs, by rw [← htake, List.take_take]; congr 1; omega⟩
/-- clear(s[i:]) of a row of the call's own -/
theorem own_clear {P : Program} {t : TypeId} {z : Value} (ht : P.underlying t = some (.slice e)) (hz : ∀ w, (zeroValue e).run P w = .ok z w) (hzs : z.cells.size = size) (hz1 : ∀ v ∈ z.cells.toList, v.oneCell' = true)
    {l : List Value} (h : w.ownsRow base e size (.slice (some ⟨g, 0, none⟩) n cap) n l) {i : Nat} (hi : i < n) :
    ∃ w2 l2, (∀ ty c', (Builtin.clear_ #[t] ty #[.slice (some ⟨g, i * size, none⟩) (n - i) c']).run P w = .ok (.tuple #[]) w2) ∧ w2.ownsRow base e size (.slice (some ⟨g, 0, none⟩) n cap) n l2 ∧ l2.take (i * size) = l.take (i * size) ∧ w.grownBy w2 (some g) := by
  obtain ⟨hl, h2⟩ := h
  rcases h2 with ⟨h2, _⟩ | ⟨g', cap', cur, h2, hb, hg, hnc, hcm, hcs, htake⟩
  · cases h2
  · injection h2 with h2 _ h3
    injection h2 with h2
    injection h2 with h2
    subst h2; subst h3
    have hle : i * size + (n - i) * size = n * size := by rw [← Nat.add_mul]; congr 1; omega
    have hcap : n * size ≤ cap * size := Nat.mul_le_mul_right _ hnc
    have hzl : (Builtin.zeroCells z.cells (n - i)).toList.length = (n - i) * size := by rw [Array.length_toList, size_zeroCells, hzs]
    have hone : ∀ v ∈ (Builtin.zeroCells z.cells (n - i)).toList, v.oneCell' = true := by
      intro v hv
      obtain ⟨j, hj, rfl⟩ := List.getElem_of_mem hv
      simp only [Array.length_toList, size_zeroCells] at hj
      have hsz : 0 < z.cells.size := by rcases Nat.eq_zero_or_pos z.cells.size with h | h; · rw [h] at hj; simp at hj
                                        · exact h
      have hm : j % z.cells.size < z.cells.size := Nat.mod_lt _ hsz
      refine hz1 _ ?_
      simp only [Builtin.zeroCells, Array.getElem_toList]
      simp [hm]
    have hst := run_storeCells_at P g (i * size) e (Builtin.zeroCells z.cells (n - i)).toList 0 cur w hg (by rw [hzl]; omega) hone
    simp only [Nat.add_zero] at hst
    generalize hN : (cur.toList.take (i * size) ++ (Builtin.zeroCells z.cells (n - i)).toList ++ cur.toList.drop (i * size + (Builtin.zeroCells z.cells (n - i)).toList.length)).toArray = N at hst
    refine ⟨w.setRow g N, (cur.toList.take (i * size) ++ (Builtin.zeroCells z.cells (n - i)).toList), fun ty c' => ?_, ⟨?_, .inr ⟨g, cap, N, rfl, hb, setRow_heap w g cur _ e _ hg, hnc, hcm, ?_, ?_⟩⟩, ?_, ⟨rfl, rfl, rfl, by simp [World.setRow], fun k hk hne => setRow_other w g k _ (fun e => hne (by rw [e]))⟩⟩
    · obtain ⟨m, hm⟩ : ∃ m, n - i = m + 1 := ⟨n - i - 1, by omega⟩
      rw [hm] at hst ⊢
      simp [Builtin.clear_, run_underlying ht, hz, hst]
    · rw [List.length_append, hzl, List.length_take, Array.length_toList, hcs]; omega
    · rw [← hN]; simp only [List.size_toArray, List.length_append, List.length_take, List.length_drop, Array.length_toList, size_zeroCells, hzs]; omega
    · rw [← hN]
      have : (cur.toList.take (i * size) ++ (Builtin.zeroCells z.cells (n - i)).toList).length = n * size := by rw [List.length_append, hzl, List.length_take, Array.length_toList, hcs]; omega
      rw [← this]
      exact List.take_left
    · rw [List.take_append_of_le_length (by rw [List.length_take, Array.length_toList, hcs]; omega), List.take_take, ← htake, List.take_take]
      congr 1; omega
end

end Go.Proofs.YtiokkoeciijkoaaGreat
