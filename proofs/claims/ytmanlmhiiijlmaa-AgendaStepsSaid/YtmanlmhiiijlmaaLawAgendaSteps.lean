/- The row of the law wardmote/wardmotelaw13.AgendaSteps: whatever the input (within the form's own reach), the call returns true and the input reads as it did. No further condition. -/
import Derived.Test.YtmanlmhiiijlmaaRows
import Derived.Test.YtmanlmhiiijlmaaOpen
import Derived.Test.YtmanlmhiiijlmaaLs
import Derived.WalkKit
import Derived.ProofKit
import Derived.OpenShut
import Derived.ShutString
import Derived.ChangeOld
import Derived.Below
import Derived.SizedLaws
import Derived.Lib.SmallJoins
namespace Go.Proofs.Ytmanlmhiiijlmaa.agendaSteps
open Go.ChangeShapes Go.WideShapes Go.ChangeAt Go.RowKit Go.Joins Go.Proofs.Ytmanlmhiiijlmaa Go.Proofs.YtmanlmhiiijlmaaW.PrintWords
open Go.ChangeMaps (open_string shut_string)
set_option linter.unusedVariables false
theorem own : ownKnob Try.prog.godebug = none := by kernel_rfl
theorem laidOut : laidOutB Try.prog = true := by kernel_rfl
set_option maxHeartbeats 1000000 in
set_option maxRecDepth 100000 in
theorem lifted (os : Os) (started : os.Started) (H : Type) (enc : TypeId × Value → H) :
    ReturnsInHanded {} Try.checked os 3 .any (Rows.agendaStepsSpec.pre6 enc Try.prog Try.f3 Rows.agendaStepsRow.domain false) (Rows.agendaStepsSpec.post enc Try.prog Try.f3 false true false false) := by
  refine returnsInHanded_of_change_sized (C := Try.checked) own started (by kernel_rfl) Try.func3
    (ChangeSpec.witness6 (enc := enc) (C := Try.checked) false ⟨#[], #[.slice none 0 0], []⟩ 8 (by kernel_rfl) (by kernel_rfl) (by kernel_rfl) (by kernel_rfl)) ?_
  intro W base args ds gs before hval0 hW hcnd hsz0 _
  have hsz : (DataW.weightsEach Try.prog (Try.f3.params.toList ++ Rows.agendaStepsSpec.plain.varTypes Try.prog) (ds ++ gs)).all (· ≤ reachBytes) = true := hsz0
  have hval : ∀ (j : Nat) t v, Try.f3.params[j]? = some t → args[j]? = some v → Value.okWide Try.prog W .any base t v := hval0
  have hW' := hW
  obtain ⟨p, q, hA0, hV, rfl, hfz, hnd⟩ := hW
  have hA : DataW.TrodAll enc Try.prog W 0 (fun _ => true) true Try.f3.params.toList args.toList ds p := hA0
  rw [Try.params3] at hA hval hsz
  obtain ⟨v0, vs0, d0, ds0, p0, q0, hargs, rfl, rfl, h0, r0⟩ := trodAll_cons hA
  obtain ⟨rfl, rfl, rfl⟩ := trodAll_nil r0
  obtain rfl : args = #[v0] := by cases args; simp_all
  obtain ⟨rfl, rfl⟩ := trodVars_none hV
  have k0 := h0
  have lt0 : ∀ x ∈ p0, x.block < W.heap.size := by obtain ⟨m, hm⟩ := k0; exact DataW.trod_lt m _ _ _ hm
  have ft0 : Fits Try.prog 22 d0 := (fits_of hsz (j := 0) (t := 22) rfl rfl)
  obtain ⟨a0_, len0_, cap0_, rfl⟩ := okWide_slice Try.underlying22 (hval 0 22 v0 rfl rfl)
  obtain ⟨fuel0, hf0⟩ := h0
  replace hf0 : DataW.trod enc Try.prog W 0 (fun _ => true) true fuel0 22 [.slice a0_ len0_ cap0_] = some (d0, p0) := hf0
  obtain ⟨A0, c0, l0, hv0, hr0, hc0, y0, z0⟩ := opn_steps Try.underlying22 Try.underlying31 (by kernel_rfl) (by kernel_rfl) (of_decide_eq_true (by kernel_rfl)) Try.underlying3 Try.underlying3 Try.underlying3 Try.underlying9 hf0 ft0
  obtain ⟨rfl, rfl, rfl⟩ : A0 = a0_ ∧ len0_ = l0.length ∧ c0 = cap0_ := by simp only [Value.slice.injEq] at hv0; exact ⟨hv0.1.symm, hv0.2.1, hv0.2.2.symm⟩
  clear hA0 hval0 hsz0 hsz
  refine (law_AgendaSteps A0 c0 l0 W y0 z0 hr0 hc0).mono fun e W' ⟨he, bel⟩ => ?_
  subst he
  exact ⟨_, rfl, _, _, _, [], _, [], hW', trodAll_mk1 (shut_bool Try.underlying4 _), (trodAll_cons_mk (Below.trod laidOut (by kernel_rfl) (of_decide_eq_true (by kernel_rfl)) k0 bel lt0) trodAll_mk0), rfl, bel.frame _, fun h => by cases h⟩
theorem over : Rows.agendaStepsRow.holds Try.pinned (OpenSpec.ofChange Rows.agendaStepsSpec) :=
  OpenClaim.holds_of_wide 3 Try.f3 rfl rfl rfl rfl rfl rfl rfl ⟨rfl, rfl, rfl, rfl, rfl⟩ rfl rfl rfl rfl rfl (by kernel_rfl) Try.func3 (by kernel_rfl)
    (of_decide_eq_true (by kernel_rfl)) (by unfold Func.isWrapper; first | (rw [if_pos (by decide +kernel)]; kernel_rfl) | (rw [if_neg (by decide +kernel)]; exact ⟨rfl, rfl⟩))
    (fun os started H enc _ => lifted os started H enc)
theorem proved : Rows.AgendaStepsSaid := over
#print axioms proved
end Go.Proofs.Ytmanlmhiiijlmaa.agendaSteps
namespace Go.Proofs.Ytmanlmhiiijlmaa
/-- The row, under a short name, for the claim. -/
theorem agendaSteps_holds : Rows.AgendaStepsSaid := agendaSteps.proved
end Go.Proofs.Ytmanlmhiiijlmaa
