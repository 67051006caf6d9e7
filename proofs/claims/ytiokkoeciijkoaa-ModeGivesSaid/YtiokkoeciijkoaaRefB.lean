/- append of a readable row at a step of a region that draws its order; parts of readable rows. -/
import Derived.Test.YtiokkoeciijkoaaRefA
import Derived.Maps.AppendAt
namespace Go.Proofs.Ytiokkoeciijkoaa
set_option linter.unusedVariables false
set_option linter.unusedSimpArgs false
open Go.RowKit

theorem step_app_rd {α : Type} {enc : α → List Value} {k : Nat} {P : Program} {wr : World} {ops : Array Oper} {o : Oper} {a : Act} {K : Act → World → Prop} {Q : Exit → Act → World → Prop} {E : Prop} {s x : Operand} {t e : TypeId} {z : Value} {base bytes m c : Nat} {v : Value} {ys xs : List α} {A : Option Addr}
    (ht : P.underlying t = some (.slice e)) (hinfo : (P.info? e).map (fun i => (i.zero, i.size, i.bytes)) = some (some z, k, bytes)) (hzs : z.cells.size = k) (hsz : 0 < k)
    (hlen : ∀ x, (enc x).length = k) (hone : ∀ x, ∀ u ∈ enc x, u.oneCell' = true)
    (hown : Own k enc e wr base v ys) (hbase : base ≤ wr.heap.size)
    (hgd : o.guard = none) (ho : o.op = .call { callee := .builtin .append, args := #[s, x], argTypes := #[t, t] })
    (hs : a.eval s = v) (hx : a.eval x = .slice A m c) (hR : Rd k enc wr A xs) (hm : m = xs.length)
    (h63 : ys.length + xs.length ≤ maxLen) (hbytes : (ys.length + xs.length) * bytes ≤ 140737488355328)
    (h : ∀ v' w', Own k enc e w' base v' (ys ++ xs) → Below base wr w' → (∀ q, v.ownBlock ≠ some q → q < wr.heap.size → v'.ownBlock ≠ some q ∧ ∀ cp tp, Bk wr q cp tp → Bk w' q cp tp) → K (a.put o.dst v') w') :
    if Region.wanted o (yielded ops a.tmps) = true then Oper.wp P o a wr K Q else E := by
  have hw : Region.wanted o (yielded ops a.tmps) = true := by simp [Region.wanted, hgd]
  rw [if_pos hw]
  subst hm
  obtain ⟨i, hi, hz, h3, h4⟩ := info_parts hinfo
  cases A with
  | none =>
    have hxs : xs = [] := by rcases hR with h | ⟨_, _, h, _⟩; · exact h
                             · cases h
    subst hxs
    have hrun := run_append_nil (P := P) (w := wr) base t o.type e i k ht hi v _ c _ hown
    unfold Oper.wp
    simp [execOp, ho, resolve, invoke, builtin, hs, hx, hrun, Result.andThen]
    exact h v wr (by simpa using hown) (Below.refl _ _) (fun q hq _ => ⟨hq, fun cp tp hb => hb⟩)
  | some ad =>
    have H : ∀ j u, (xs.flatMap enc)[j]? = some u → wr.cell? (ad.add j) = some u := by
      intro j u hu
      rcases hR with h | ⟨b, o, ha, _, hc⟩
      · subst h; simp at hu
      · injection ha with ha; subst ha; rw [add_lit']; exact hc j u hu
    obtain ⟨v', w', hrun, ho', hg, _, hat⟩ := run_append_own_at (P := P) wr base t o.type e i z k bytes ht hi hz h3 h4 hzs hsz v ys.length _ hown ad xs.length c (xs.flatMap enc) (flat_length enc k hlen xs) H
      (by intro u hu; obtain ⟨y, _, hy⟩ := List.mem_flatMap.1 hu; exact hone y u hy) h63 hbytes hbase
    unfold Oper.wp
    simp [execOp, ho, resolve, invoke, builtin, hs, hx, hrun, Result.andThen]
    refine h v' w' ?_ ((Below.refl _ _).grown hg hbase (fun k hk => (hown.lt k hk).1)) ?_
    · show World.ownsRow _ _ _ _ _ _ _
      rw [List.flatMap_append, List.length_append]; exact ho'
    · intro q hq hlt
      refine ⟨?_, fun cp tp hp => (hg.block q hlt (fun he => hq he.symm)).trans hp⟩
      intro he
      rcases hat with h5 | h5
      · rw [h5] at he; exact hq he
      · rw [h5] at he; injection he with he; omega

section
variable {α : Type} {k : Nat} {enc : α → List Value} {W : World} {A : Option Addr} {xs : List α}
theorem Rd.take (h : Rd k enc W A xs) (j : Nat) : Rd k enc W A (xs.take j) := by
  rcases h with h | ⟨b, o, hA, hlt, hc⟩
  · subst h; exact .inl (by simp)
  · refine .inr ⟨b, o, hA, hlt, fun i u hu => hc i u ?_⟩
    have e : xs.flatMap enc = (xs.take j).flatMap enc ++ (xs.drop j).flatMap enc := by rw [← List.flatMap_append, List.take_append_drop]
    rw [e]
    have hi : i < ((xs.take j).flatMap enc).length := (List.getElem?_eq_some_iff.1 hu).1
    rw [List.getElem?_append_left hi]; exact hu
theorem Rd.drop {b o : Nat} (hk : ∀ x, (enc x).length = k) (h : Rd k enc W (some ⟨b, o, none⟩) xs) {j : Nat} (hj : j ≤ xs.length) : Rd k enc W (some ⟨b, o + j * k, none⟩) (xs.drop j) := by
  rcases h with h | ⟨b', o', hA, hlt, hc⟩
  · subst h; exact .inl (by simp)
  · injection hA with hA
    injection hA with h1 h2 _
    subst h1; subst h2
    refine .inr ⟨b, _, rfl, hlt, fun i u hu => ?_⟩
    have e : xs.flatMap enc = (xs.take j).flatMap enc ++ (xs.drop j).flatMap enc := by rw [← List.flatMap_append, List.take_append_drop]
    have hl : ((xs.take j).flatMap enc).length = j * k := by rw [flat_length enc k hk, List.length_take, Nat.min_eq_left hj]
    have := hc (j * k + i) u (by rw [e, List.getElem?_append_right (by omega), hl, Nat.add_sub_cancel_left]; exact hu)
    rw [Nat.add_assoc]; exact this
end
end Go.Proofs.Ytiokkoeciijkoaa
