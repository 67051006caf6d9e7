/- span.Blocks: the blocks of ranges, one by one. Plain facts first, then the walk. -/
import Derived.Test.YtiokkoeciijkoaaGreatSpanN
import Derived.Test.YtiokkoeciijkoaaGreatBase2
namespace Go.Proofs.YtiokkoeciijkoaaGreat
set_option linter.unusedVariables false
set_option linter.unusedSimpArgs false
open Go.RowKit

def encI (n : Int) : List Value := [.int .i64 n]
theorem encI_len (x : Int) : (encI x).length = 1 := rfl
theorem infoInt : (Tryz.prog.info? 3).map (fun i => (i.zero, i.size, i.bytes)) = some (some (.int .i64 0), 1, 8) := by kernel_rfl

def seg (a : Int) (m : Nat) : List Int := (List.range m).map fun i : Nat => a + (i : Int)
def blocksOf (l : List Sp) : List Int := l.flatMap fun x => seg x.1 (x.2 - x.1).toNat
def tot : List Sp → Int
  | [] => 0
  | x :: l => lenS x.1 x.2 + tot l
theorem seg_zero (a : Int) : seg a 0 = [] := rfl
theorem seg_succ (a : Int) (m : Nat) : seg a (m + 1) = seg a m ++ [a + m] := by unfold seg; rw [List.range_succ, List.map_append]; rfl
theorem seg_length (a : Int) (m : Nat) : (seg a m).length = m := by simp [seg]
theorem seg_mem {a y : Int} {m : Nat} : y ∈ seg a m ↔ a ≤ y ∧ y < a + m := by
  simp only [seg, List.mem_map, List.mem_range]
  constructor
  · rintro ⟨i, h, rfl⟩; omega
  · rintro ⟨h1, h2⟩; exact ⟨(y - a).toNat, by omega, by omega⟩
theorem seg_rise (a : Int) (m : Nat) : (seg a m).Pairwise (· < ·) := by
  induction m with
  | zero => exact List.Pairwise.nil
  | succ m ih =>
    rw [seg_succ, List.pairwise_append]
    refine ⟨ih, List.pairwise_singleton _ _, fun x hx y hy => ?_⟩
    rw [List.mem_singleton.1 hy]
    exact (seg_mem.1 hx).2
theorem blocksOf_append (a b : List Sp) : blocksOf (a ++ b) = blocksOf a ++ blocksOf b := List.flatMap_append
theorem blocksOf_one (x : Sp) : blocksOf [x] = seg x.1 (x.2 - x.1).toNat := by simp [blocksOf]
theorem blocksOf_take {l : List Sp} {k : Nat} (h : k < l.length) : blocksOf (l.take (k + 1)) = blocksOf (l.take k) ++ seg l[k].1 (l[k].2 - l[k].1).toNat := by
  rw [List.take_succ_eq_append_getElem h, blocksOf_append, blocksOf_one]
theorem tot_append (a b : List Sp) : tot (a ++ b) = tot a + tot b := by
  induction a with
  | nil => simp [tot]
  | cons x a ih => simp [tot, ih]; omega
theorem tot_take {l : List Sp} {k : Nat} (h : k < l.length) : tot (l.take (k + 1)) = tot (l.take k) + lenS l[k].1 l[k].2 := by
  rw [List.take_succ_eq_append_getElem h, tot_append]; simp [tot]
theorem lenS_nonneg (a b : Int) : 0 ≤ lenS a b := by
  unfold lenS; split
  · next h => rw [vld_iff] at h; omega
  · omega
theorem tot_nonneg (l : List Sp) : 0 ≤ tot l := by
  induction l with
  | nil => exact Int.le_refl _
  | cons x l ih => have := lenS_nonneg x.1 x.2; simp only [tot]; omega
theorem tot_take_le (l : List Sp) (k : Nat) : tot (l.take k) ≤ tot l := by
  have h := tot_append (l.take k) (l.drop k)
  rw [List.take_append_drop] at h
  have := tot_nonneg (l.drop k)
  omega
theorem tot_le {l : List Sp} (h : Can l) {M : Int} (hM : ∀ x ∈ l, x.2 ≤ M) : ∀ lo, lo ≤ M → (∀ x ∈ l, lo ≤ x.1) → tot l ≤ M - lo := by
  induction l with
  | nil => intro lo h1 _; simp only [tot]; omega
  | cons x l ih =>
    intro lo h1 h2
    have hv := h.val x (List.mem_cons_self ..)
    have hx := hM x (List.mem_cons_self ..)
    have hl := h2 x (List.mem_cons_self ..)
    have := ih h.tail (fun y hy => hM y (List.mem_cons_of_mem _ hy)) x.2 hx (fun y hy => Int.le_of_lt (h.head y hy))
    have e : lenS x.1 x.2 = x.2 - x.1 := by unfold lenS; rw [if_pos (vld_iff.2 hv)]
    simp only [tot]
    omega
theorem Can.lenS {l : List Sp} (h : Can l) {x : Sp} (hx : x ∈ l) : lenS x.1 x.2 = x.2 - x.1 := by
  unfold Go.Proofs.YtiokkoeciijkoaaGreat.lenS; rw [if_pos (vld_iff.2 (h.val x hx))]
theorem blocksOf_length {l : List Sp} (h : Can l) : ((blocksOf l).length : Int) = tot l := by
  induction l with
  | nil => rfl
  | cons x l ih =>
    have hv := h.val x (List.mem_cons_self ..)
    have := ih h.tail
    have e := h.lenS (List.mem_cons_self ..)
    rw [show x :: l = [x] ++ l from rfl, blocksOf_append, blocksOf_one, List.length_append, seg_length]
    simp only [List.singleton_append, tot]
    omega
theorem blocksOf_mem {l : List Sp} (h : Can l) {y : Int} : y ∈ blocksOf l ↔ memS y l := by
  unfold blocksOf memS
  simp only [List.mem_flatMap]
  constructor
  · rintro ⟨x, hx, hy⟩
    rw [seg_mem] at hy
    have := h.val x hx
    exact ⟨x, hx, hasS_iff.2 (by omega)⟩
  · rintro ⟨x, hx, hy⟩
    rw [hasS_iff] at hy
    exact ⟨x, hx, seg_mem.2 (by omega)⟩
theorem blocksOf_rise {l : List Sp} (h : Can l) : (blocksOf l).Pairwise (· < ·) := by
  induction l with
  | nil => exact List.Pairwise.nil
  | cons x l ih =>
    have hv := h.val x (List.mem_cons_self ..)
    rw [show x :: l = [x] ++ l from rfl, blocksOf_append, blocksOf_one, List.pairwise_append]
    refine ⟨seg_rise _ _, ih h.tail, fun y hy z hz => ?_⟩
    rw [seg_mem] at hy
    obtain ⟨u, hu, hz⟩ := (blocksOf_mem h.tail).1 hz
    rw [hasS_iff] at hz
    have := h.head u hu
    omega
theorem Can.take {l : List Sp} (h : Can l) (k : Nat) : Can (l.take k) := ⟨fun x hx => h.val x (List.mem_of_mem_take hx), h.sep.sublist (List.take_sublist _ _)⟩
/-- what fits 64 bits stays so -/
theorem NormOf.i64 {xs out : List Sp} (h : NormOf xs out) (hx : ∀ x ∈ xs, I64 x.1 ∧ I64 x.2) : ∀ x ∈ out, I64 x.1 ∧ I64 x.2 := by
  intro x hx1
  obtain ⟨d, hd, e1⟩ := h.froms x hx1
  obtain ⟨d2, hd2, e2⟩ := h.tos x hx1
  rw [← e1, ← e2]
  exact ⟨(hx d hd).1, (hx d2 hd2).2⟩
theorem NormOf.tot_i64 {xs out : List Sp} (h : NormOf xs out) (hx : ∀ x ∈ xs, I64 x.1 ∧ I64 x.2) : tot out ≤ 9223372036854775807 := by
  have := tot_le h.can (M := 9223372036854775807) (fun x hx1 => ((h.i64 hx) x hx1).2.hi) 0 (by omega) (fun x hx1 => (h.can.val x hx1).1)
  omega

def blkOut (most : Int) (l : List Sp) : List Int := if tot l ≤ most then blocksOf l else []
/-- a block of cells, whole -/
abbrev Bk (W : World) (p : Nat) (cs : Array Value) (t : TypeId) : Prop := W.heap[p]? = some (.cells cs t)
theorem Bk.bx2 {W : World} {p : Nat} {a b : Value} {t : TypeId} (h : Bk W p #[a, b] t) : Bx2 W p a b :=
  ⟨(cell_of_row _ _ 0 _ t (0, 0) h).trans rfl, (cell_of_row _ _ 1 _ t (0, 0) h).trans rfl, frozen_of_row _ _ 0 _ t h, frozen_of_row _ _ 1 _ t h, (Array.getElem?_eq_some_iff.1 h).1⟩

/-- append of what was made last; blocks of other types stay -/
theorem wpList_app_new2 {P : Program} {wr W0 : World} {ops : Array Oper} {rest : List Oper} {o : Oper} {a : Act} {Q : Exit → Act → World → Prop} {s x : Operand} {t e : TypeId} {z : Value} {base size bytes n m c g : Nat} {v : Value} {xs : List Value} {cs : Array Value}
    (ht : P.underlying t = some (.slice e)) (hinfo : (P.info? e).map (fun i => (i.zero, i.size, i.bytes)) = some (some z, size, bytes)) (hzs : z.cells.size = size) (hsz : 0 < size)
    (hown : wr.ownsRow base e size v n xs) (hbase : base ≤ wr.heap.size) (hbW : Below wr.heap.size wr W0)
    (hgd : o.guard = none) (ho : o.op = .call { callee := .builtin .append, args := #[s, x], argTypes := #[t, t] })
    (hs : a.eval s = v) (hx : a.eval x = .slice (some ⟨g, 0, none⟩) m c) (hg : g = W0.heap.size) (hcs : cs.size = m * size) (h1 : cs.toList.all (·.oneCell') = true)
    (h63 : n + m ≤ maxLen) (hbytes : (n + m) * bytes ≤ 140737488355328)
    (h : ∀ v' w', w'.ownsRow base e size v' (n + m) (xs ++ cs.toList) → Below base wr w' → (∀ p cp tp, tp ≠ e → Bk wr p cp tp → Bk w' p cp tp) → wpList P ops Q rest (a.put o.dst v') w') :
    wpList P ops Q (o :: rest) a (W0.alloc (.cells cs e)) := by
  subst hg
  obtain ⟨i, hi, hz, h3, h4⟩ := info_parts hinfo
  have hsize := hbW.size
  have hown1 := (own_below hown hbW).alloc (.cells cs e)
  refine wpList_append_own _ hgd s x t ho base e i z size bytes ht hi hz h3 h4 hzs hsz v n xs hs hown1 ⟨W0.heap.size, 0, none⟩ m c cs.toList hx (by simpa using hcs) ?_ (List.all_eq_true.1 h1) h63 hbytes (by simp; omega) ?_
  · intro j u hu
    rw [add_lit', Nat.zero_add, cell_of_row _ _ j cs e (0, 0) (heap_alloc_new W0 _)]
    simpa using hu
  · intro v' w' ho' hg _
    refine h v' w' ho' (((hbW.mono hbase).alloc (by omega) _).grown hg (by simp; omega) (fun k hk => (hown.lt k hk).1)) ?_
    intro p cp tp htp hp
    have hpl := (Array.getElem?_eq_some_iff.1 hp).1
    have h5 : Bk (W0.alloc (.cells cs e)) p cp tp := ((hbW.alloc hsize _).block p hpl).trans hp
    refine (hg.block p (by simp; omega) ?_).trans h5
    intro he
    rcases hown1.2 with ⟨h6, _⟩ | ⟨g, cap, cur, h6, _, h7, _⟩
    · rw [h6] at he; simp [Value.ownBlock] at he
    · rw [h6] at he
      obtain rfl : p = g := by simpa [Value.ownBlock] using he
      have h8 := h5.symm.trans h7
      injection h8 with h8
      injection h8 with _ h8
      exact htp h8

set_option maxHeartbeats 4000000 in
set_option maxRecDepth 100000 in
theorem sBlocks_c (most : Int) (A : Option Addr) (n c : Nat) (xs : List Sp) (w : World) (h : Rd 2 encS w A xs) (hn : n = xs.length) (hbig : xs.length ≤ 1000000000) (hI : ∀ x ∈ xs, I64 x.1 ∧ I64 x.2) (hm : most ≤ 1000000000) :
    Calls Tryz.prog 27 #[.int .i64 most, .slice A n c] w fun e w' => (∃ v' l, NormOf xs l ∧ e = .returned (.tuple #[v', .bool (decide (tot l ≤ most))]) ∧ Own 1 encI 3 w' w.heap.size v' (blkOut most l)) ∧ Below w.heap.size w w' := by
  have hN := hidd (sNorm_c A n c xs w h hn hbig)
  have HI := hidd hI
  have HM := hidd hm
  clear h hn hI hm
  go_enter Tryz.func27, Tryz.ntmps27
  go_wp2_with fail
  refine hN.out.mono ?_; rintro e w1 ⟨⟨v1, l, rfl, ho, hno⟩, hb1⟩
  obtain ⟨A1, c1, rfl⟩ := own_shape ho
  have hO := hidd ho
  have hR1 := hidd (Own.rd ho rfl)
  have hNO := hidd hno
  have hL := hidd (hno.i64 HI.out)
  have hT := hidd (hno.tot_i64 HI.out)
  have hlen : l.length ≤ 1000000000 := Nat.le_trans hno.len hbig
  clear ho hno hN
  go_wp2_with fail
  go_loopw [6, 17] (fun v i wr => ∃ k : Nat, k ≤ l.length ∧ i = .int .i64 k ∧ v = .int .i64 (tot (l.take k)) ∧ Below w1.heap.size w1 wr) (fun _ i _ => l.length - (intOf i).toNat)
  case atStart => exact ⟨0, by omega, rfl, rfl, Below.refl _ _⟩
  case round =>
    obtain ⟨k, hk, rfl, rfl, hbr⟩ := hrel
    by_cases hlt : k < l.length
    · have hne : l ≠ [] := by intro e; rw [e] at hlt; simp at hlt
      obtain ⟨b, o, rfl, hblt, hc⟩ := hR1.out.cells2 hne
      obtain ⟨g0, g1⟩ := hc k hlt
      rw [← hbr.cell (p := ⟨_, _, none⟩) hblt] at g0 g1
      have hbw : b < wr.heap.size := Nat.lt_of_lt_of_le hblt hbr.size
      clear hc
      have hLk := hidd (hL.out l[k] (List.getElem_mem hlt))
      have hT1 := tot_take hlt
      have hT2 := tot_take_le l (k + 1)
      have hT3 := tot_nonneg (l.take k)
      have hT4 := lenS_nonneg l[k].1 l[k].2
      generalize hlk : l[k] = y at *
      obtain ⟨y0, y1⟩ := y
      simp only [] at *
      have HT1 := hidd hT1
      have hs1 : tot (l.take k) + lenS y0 y1 ≤ 9223372036854775807 := by have := hT.out; omega
      clear hlk hT1 hT2
      go_wp2_with fail
      refine (sLen_c _ _ _ hLk.out.1 hLk.out.2).mono ?_; rintro e w3 ⟨rfl, hb3⟩
      go_wp2_with fail
      go_roundw
      case rel => exact ⟨k + 1, by omega, by go_num, by rw [HT1.out], hbr.trans ((below_alloc1 hb3).mono hbr.size)⟩
      case measure => simp [intOf]; omega
    · obtain rfl : k = l.length := by omega
      rw [List.take_length]
      obtain ⟨wo, rfl⟩ : ∃ wo : World, wo = wr := ⟨_, rfl⟩
      have hB2 := hb1.trans (hbr.mono hb1.size)
      by_cases hgt : tot l ≤ most
      · have hd : decide (most < tot l) = false := by simp; omega
        have HG := hidd hgt
        clear hgt
        go_wp2_with fail
        clear hd
        go_loopw [9, 31] (fun v i wr => ∃ (k : Nat) (out : List Int), k ≤ l.length ∧ i = .int .i64 k ∧ Hid (out = blocksOf (l.take k)) ∧ Below wo.heap.size wo wr ∧ Hid (Own 1 encI 3 wr wo.heap.size v out)) (fun _ i _ => l.length - (intOf i).toNat)
        case atStart => exact ⟨0, [], by omega, rfl, rfl, Below.refl _ _, World.ownsRow_nil _ _ _ _⟩
        case round =>
          obtain ⟨k, out, hk, rfl, hout, hbs, hown⟩ := hrel
          by_cases hlt : k < l.length
          · have hne : l ≠ [] := by intro e; rw [e] at hlt; simp at hlt
            obtain ⟨b, o, rfl, hblt, hc⟩ := hR1.out.cells2 hne
            obtain ⟨g0, g1⟩ := hc k hlt
            rw [← hbr.cell (p := ⟨_, _, none⟩) hblt] at g0 g1
            have hbo : b < wo.heap.size := Nat.lt_of_lt_of_le hblt hbr.size
            rw [← hbs.cell (p := ⟨_, _, none⟩) hbo] at g0 g1
            have hbw : b < wr.heap.size := Nat.lt_of_lt_of_le hbo hbs.size
            clear hc
            have hLk := hidd (hL.out l[k] (List.getElem_mem hlt))
            have hV := hNO.out.can.val l[k] (List.getElem_mem hlt)
            have hBT := hidd (blocksOf_take hlt)
            have hOL : Hid ((out.length : Int) + (l[k].2 - l[k].1) ≤ 1000000000) := by
              show _ ≤ _
              have h1 := blocksOf_length (hNO.out.can.take k)
              have h2 := tot_take hlt
              have h3 := tot_take_le l (k + 1)
              have h4 := HM.out
              have h5 := HG.out
              have h6 := hNO.out.can.lenS (List.getElem_mem hlt)
              rw [hout.out]
              omega
            generalize hlk : l[k] = y at *
            obtain ⟨y0, y1⟩ := y
            simp only [] at *
            clear hlk
            have hw0 := hLk.out.1.lo
            have hw1 := hLk.out.2.hi
            go_wp2_with fail
            go_loopw [9, 12] (fun v i ws => ∃ (j : Nat) (out2 : List Int), y0 + j ≤ y1 ∧ i = .int .i64 (y0 + j) ∧ Hid (out2 = out ++ seg y0 j) ∧ Below wo.heap.size wo ws ∧ Bk ws wr.heap.size #[.int .i64 y0, .int .i64 y1] 43 ∧ Hid (Own 1 encI 3 ws wo.heap.size v out2)) (fun _ i _ => (y1 - intOf i).toNat)
            case atStart => exact ⟨0, out, by omega, by simp, by show _ = _; simp [seg_zero], hbs.trans ((below_alloc _ _).mono hbs.size), heap_alloc_new wr _, hown.out.alloc _⟩
            case round =>
              obtain ⟨j, out2, hj, rfl, hout2, hbt, hbox, hown2⟩ := hrel
              have hxb := hbox.bx2
              have hol2 : Hid (out2.length = out.length + j) := by show _ = _; rw [hout2.out, List.length_append, seg_length]
              by_cases hlj : y0 + j < y1
              · have hol3 : out2.length + 1 ≤ 1000000000 := by have := hol2.out; have := hOL.out; omega
                go_wp2_with (at_builtin; refine wpList_app_new2 Tryz.underlying55 infoInt rfl (by decide) hown2.out hbt.size ?c1 rfl rfl rfl rfl ?c2 ?c3 ?c4 ?c5 ?c6 (fun v' w' hown' hb' hk' => ?_))
                case c1 => exact Below.refl _ _
                case c2 => simp
                case c3 => rfl
                case c4 => simp [Value.oneCell']
                case c5 => unfold maxLen; omega
                case c6 => omega
                go_roundw
                case rel => exact ⟨j + 1, out2 ++ [y0 + j], by omega, by go_num, by show _ = _; rw [hout2.out, seg_succ, List.append_assoc], hbt.trans hb', hk' _ _ _ (by decide) hbox, by show Own _ _ _ _ _ _ _; unfold Own; rw [List.flatMap_append, List.length_append]; exact hown'⟩
                case measure => simp [intOf]; omega
              · obtain rfl : j = (y1 - y0).toNat := by omega
                go_wp2_with fail
                go_roundw
                case rel => exact ⟨k + 1, out2, by omega, by go_num, by show _ = _; rw [hBT.out, hout2.out, hout.out], hbt, hown2⟩
                case measure => simp [intOf]; omega
          · obtain rfl : k = l.length := by omega
            go_wp2_with fail
            refine bodyPost_ret (v := .tuple #[_, .bool true]) (by simp [results, Tryz.results27, go_sem]; rfl) rfl ⟨⟨_, l, hNO.out, by rw [show decide (tot l ≤ most) = true from decide_eq_true HG.out], ?_⟩, hB2.trans (hbs.mono hB2.size)⟩
            unfold blkOut
            have h1 := hout.out
            rw [List.take_length] at h1
            rw [if_pos HG.out, ← h1]
            exact own_base hown.out hB2.size
      · have hd : decide (most < tot l) = true := by simp; omega
        go_wp2_with fail
        refine bodyPost_ret (v := .tuple #[.slice none 0 0, .bool false]) (by simp [results, Tryz.results27, go_sem]) rfl ⟨⟨_, l, hNO.out, by rw [show decide (tot l ≤ most) = false by simp; omega], by unfold blkOut; rw [if_neg (show ¬ tot l ≤ most by omega)]; exact World.ownsRow_nil _ _ _ _⟩, hB2⟩
end Go.Proofs.YtiokkoeciijkoaaGreat
