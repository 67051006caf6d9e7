/- The law TableSound: for every input the call returns true, and what came in reads as it did. -/
import Derived.Test.YtiokkoeciijkoaaGreatLawSo
import Derived.Test.YtiokkoeciijkoaaGreatOpenO
import Derived.Test.YtiokkoeciijkoaaGreatFacts
namespace Go.Proofs.YtiokkoeciijkoaaGreat.tableSound
set_option linter.unusedVariables false
set_option linter.unusedSimpArgs false
open Go.ChangeShapes Go.WideShapes Go.ChangeAt Go.RowKit
open Go.ChangeMaps (open_string shut_string)
set_option linter.unusedVariables false

set_option maxRecDepth 100000 in
theorem lifted (os : Os) (started : os.Started) (H : Type) (enc : TypeId × Value → H) :
    ReturnsInHanded {} Tryz.checked os 6 .any (Rows.tableSoundSpec.pre6 enc Tryz.prog Tryz.f6 Rows.tableSoundRow.domain false) (Rows.tableSoundSpec.post enc Tryz.prog Tryz.f6 false true false false) := by
  refine returnsInHanded_of_change (C := Tryz.checked) ownKnob_ started (by kernel_rfl) Tryz.func6
    (ChangeSpec.witness6 (enc := enc) (C := Tryz.checked) false ⟨#[], #[.int .i64 0, .slice none 0 0], []⟩ 8 (by kernel_rfl) (by kernel_rfl) (by kernel_rfl) (by kernel_rfl)) ?_
  intro W base args ds gs before hval0 hW hcnd _
  have hval : ∀ (j : Nat) t v, Tryz.f6.params[j]? = some t → args[j]? = some v → Value.okWide Tryz.prog W .any base t v := hval0
  have hW' := hW
  obtain ⟨p, q, hA0, hV, rfl, hfz, hnd⟩ := hW
  have hA : DataW.TrodAll enc Tryz.prog W 0 (fun _ => true) true Tryz.f6.params.toList args.toList ds p := hA0
  rw [Tryz.params6] at hA hval
  obtain ⟨v0, vs0, d0, ds0, p0, q0, hargs, rfl, rfl, h0, r0⟩ := trodAll_cons hA
  obtain ⟨v1, vs1, d1, ds1, p1, q1, rfl, rfl, rfl, h1, r1⟩ := trodAll_cons r0
  obtain ⟨rfl, rfl, rfl⟩ := trodAll_nil r1
  obtain rfl : args = #[v0, v1] := by cases args; simp_all
  obtain ⟨rfl, rfl⟩ := trodVars_none hV
  obtain ⟨a0, rfl, rfl, rfl, w0⟩ := open_int Tryz.underlying3 (hval 0 3 v0 rfl rfl) h0
  obtain ⟨A1, n1, c1, rfl⟩ := okWide_slice Tryz.underlying97 (hval 1 97 v1 rfl rfl)
  have k1 := h1
  have lt1 : ∀ x ∈ p1, x.block < W.heap.size := by obtain ⟨m, hm⟩ := k1; exact DataW.trod_lt m _ _ _ hm
  obtain ⟨xs1, hn1, hr1, hI1⟩ := open_rowE Tryz.underlying97 cellsOp18 (by decide) (fun n cs x h => open_op18E h) h1
  clear hA0 hval0
  refine (TableSound_c a0 A1 n1 c1 xs1 W (i64_of_wf w0) hr1 hn1 hI1).mono fun e W' ⟨he, bel⟩ => ?_
  subst he
  exact ⟨_, rfl, _, _, _, [], _, [], hW', trodAll_mk1 (shut_bool Tryz.underlying4 _), (trodAll_cons_mk (shut_int Tryz.underlying3 w0) (trodAll_cons_mk (Below.trod laidOut_ (by kernel_rfl) (of_decide_eq_true (by kernel_rfl)) k1 bel lt1) trodAll_mk0)), rfl, bel.frame _, fun h => by cases h⟩

set_option maxHeartbeats 8000000 in
theorem closed : joinedFacts Tryz.prog 6 Tryz.f6 Rows.tableSoundSpec Rows.tableSoundRow = true := by
  unfold joinedFacts
  repeat' (with_reducible apply and_mk)
  all_goals first
    | with_reducible exact fact_laidOut | with_reducible exact fact_mapsRowed | with_reducible exact fact_stops | with_reducible exact fact_stopKnobs | with_reducible exact fact_stopsHeard | with_reducible exact fact_mayEnter
    | (with_reducible refine beq_mk fact_plainKeys ?_; as_aux_lemma => kernel_rfl)
    | (with_reducible refine beq_mk fact_lifts ?_; as_aux_lemma => kernel_rfl)
    | (with_reducible refine beq_mk' fact_make ?_; as_aux_lemma => kernel_rfl)
    | (as_aux_lemma => kernel_rfl)

theorem over : Rows.tableSoundRow.holds Tryz.pinned (OpenSpec.ofChange Rows.tableSoundSpec) :=
  OpenClaim.holds_of_wide 6 Tryz.f6 rfl rfl rfl rfl rfl rfl rfl ⟨rfl, rfl, rfl, rfl, rfl⟩ rfl rfl rfl rfl rfl (by kernel_rfl) Tryz.func6 closed
    (of_decide_eq_true (by kernel_rfl)) (by unfold Func.isWrapper; first | (rw [if_pos (by decide +kernel)]; kernel_rfl) | (rw [if_neg (by decide +kernel)]; exact ⟨rfl, rfl⟩))
    (fun os started H enc _ => lifted os started H enc)

end Go.Proofs.YtiokkoeciijkoaaGreat.tableSound
namespace Go.Proofs.YtiokkoeciijkoaaGreat
/-- The statement. -/
theorem tableSound_holds : Rows.TableSoundSaid := tableSound.over
end Go.Proofs.YtiokkoeciijkoaaGreat
