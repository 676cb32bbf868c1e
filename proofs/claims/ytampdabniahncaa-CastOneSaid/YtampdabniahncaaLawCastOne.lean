/- The row of the law wardmote/wardmotelaw16.CastOne: whatever the input (within the form's own reach), the call returns true and the input reads as it did. No further condition. -/
import Derived.Test.YtampdabniahncaaRows
import Derived.Test.YtampdabniahncaaOpen
import Derived.Test.YtampdabniahncaaPureCastOne
import Derived.WalkKit
import Derived.ProofKit
import Derived.OpenShut
import Derived.ShutString
import Derived.ChangeOld
import Derived.Below
import Derived.SizedLaws
import Derived.Lib.SmallJoins
namespace Go.Proofs.Ytampdabniahncaa.castOne
open Go.ChangeShapes Go.WideShapes Go.ChangeAt Go.RowKit Go.Joins Go.Proofs.Ytampdabniahncaa Go.Proofs.YtampdabniahncaaW.PrintWords
open Go.ChangeMaps (open_string shut_string)
set_option linter.unusedVariables false
theorem own : ownKnob Try.prog.godebug = none := by kernel_rfl
theorem laidOut : laidOutB Try.prog = true := by kernel_rfl
set_option maxHeartbeats 1000000 in
set_option maxRecDepth 100000 in
theorem lifted (os : Os) (started : os.Started) (H : Type) (enc : TypeId × Value → H) :
    ReturnsInHanded {} Try.checked os 3 .any (Rows.castOneSpec.pre6 enc Try.prog Try.f3 Rows.castOneRow.domain false) (Rows.castOneSpec.post enc Try.prog Try.f3 false true false false) := by
  refine returnsInHanded_of_change_sized (C := Try.checked) own started (by kernel_rfl) Try.func3
    (ChangeSpec.witness6 (enc := enc) (C := Try.checked) false ⟨#[], #[.int .i64 0, .int .i64 0, .agg #[.int .i64 0, .slice none 0 0, .slice none 0 0, .slice none 0 0]], []⟩ 8 (by kernel_rfl) (by kernel_rfl) (by kernel_rfl) (by kernel_rfl)) ?_
  intro W base args ds gs before hval0 hW hcnd hsz0 _
  have hsz : (DataW.weightsEach Try.prog (Try.f3.params.toList ++ Rows.castOneSpec.plain.varTypes Try.prog) (ds ++ gs)).all (· ≤ reachBytes) = true := hsz0
  have hval : ∀ (j : Nat) t v, Try.f3.params[j]? = some t → args[j]? = some v → Value.okWide Try.prog W .any base t v := hval0
  have hW' := hW
  obtain ⟨p, q, hA0, hV, rfl, hfz, hnd⟩ := hW
  have hA : DataW.TrodAll enc Try.prog W 0 (fun _ => true) true Try.f3.params.toList args.toList ds p := hA0
  rw [Try.params3] at hA hval hsz
  obtain ⟨v0, vs0, d0, ds0, p0, q0, hargs, rfl, rfl, h0, r0⟩ := trodAll_cons hA
  obtain ⟨v1, vs1, d1, ds1, p1, q1, rfl, rfl, rfl, h1, r1⟩ := trodAll_cons r0
  obtain ⟨v2, vs2, d2, ds2, p2, q2, rfl, rfl, rfl, h2, r2⟩ := trodAll_cons r1
  obtain ⟨rfl, rfl, rfl⟩ := trodAll_nil r2
  obtain rfl : args = #[v0, v1, v2] := by cases args; simp_all
  obtain ⟨rfl, rfl⟩ := trodVars_none hV
  obtain ⟨a0, rfl, rfl, rfl, w0⟩ := open_int Try.underlying3 (hval 0 3 v0 rfl rfl) h0
  obtain ⟨a1, rfl, rfl, rfl, w1⟩ := open_int Try.underlying3 (hval 1 3 v1 rfl rfl) h1
  have k2 := h2
  have lt2 : ∀ x ∈ p2, x.block < W.heap.size := by obtain ⟨m, hm⟩ := k2; exact DataW.trod_lt m _ _ _ hm
  have ft2 : Fits Try.prog 24 d2 := (fits_of hsz (j := 2) (t := 24) rfl rfl)
  obtain ⟨u2_0, u2_1, u2_2, u2_3, e2_0, e2_1, e2_2, e2_3, n2, rfl, rfl, rfl, g2_0, g2_1, g2_2, g2_3⟩ := open_agg4 Try.underlying24 (by kernel_rfl) (by kernel_rfl) (hval 2 24 v2 rfl rfl) h2
  have fa2 := fits_agg Try.underlying24 ft2
  obtain ⟨a2_0, rfl, w2_0⟩ := opn_int Try.underlying3 g2_0
  obtain ⟨A2_1, c2_1, l2_1, rfl, hr2_1, hc2_1, y2_1, z2_1⟩ := opn_strs Try.underlying22 Try.underlying9 (by kernel_rfl) (by kernel_rfl) g2_1 (fits_each fa2 (j := 1) (t := 22) rfl rfl)
  obtain ⟨A2_2, c2_2, l2_2, rfl, hr2_2, hc2_2, y2_2, z2_2⟩ := opn_strs Try.underlying22 Try.underlying9 (by kernel_rfl) (by kernel_rfl) g2_2 (fits_each fa2 (j := 2) (t := 22) rfl rfl)
  obtain ⟨A2_3, c2_3, l2_3, rfl, hr2_3, hc2_3, y2_3, z2_3⟩ := opn_strs Try.underlying22 Try.underlying9 (by kernel_rfl) (by kernel_rfl) g2_3 (fits_each fa2 (j := 3) (t := 22) rfl rfl)
  clear hA0 hval0 hsz0 hsz
  obtain ⟨k_, hk_⟩ := Pure.CastOne a0 a1 a2_0 l2_1 l2_2 l2_3 w0 w1 w2_0 y2_1 z2_1 y2_2 z2_2 y2_3 z2_3
  refine (Ytampdabniahncaa.PCast.wardmotelaw16_CastOne.calls k_ a0 a1 a2_0 A2_1 c2_1 l2_1 A2_2 c2_2 l2_2 A2_3 c2_3 l2_3 true W hr2_1 hc2_1 hr2_2 hc2_2 hr2_3 hc2_3 hk_).mono fun e W' ⟨he, bel⟩ => ?_
  subst he
  exact ⟨_, rfl, _, _, _, [], _, [], hW', trodAll_mk1 (shut_bool Try.underlying4 _), (trodAll_cons_mk (shut_int Try.underlying3 w0) (trodAll_cons_mk (shut_int Try.underlying3 w1) (trodAll_cons_mk (Below.trod laidOut (by kernel_rfl) (of_decide_eq_true (by kernel_rfl)) k2 bel lt2) trodAll_mk0))), rfl, bel.frame _, fun h => by cases h⟩
theorem over : Rows.castOneRow.holds Try.pinned (OpenSpec.ofChange Rows.castOneSpec) :=
  OpenClaim.holds_of_wide 3 Try.f3 rfl rfl rfl rfl rfl rfl rfl ⟨rfl, rfl, rfl, rfl, rfl⟩ rfl rfl rfl rfl rfl (by kernel_rfl) Try.func3 (by kernel_rfl)
    (of_decide_eq_true (by kernel_rfl)) (by unfold Func.isWrapper; first | (rw [if_pos (by decide +kernel)]; kernel_rfl) | (rw [if_neg (by decide +kernel)]; exact ⟨rfl, rfl⟩))
    (fun os started H enc _ => lifted os started H enc)
theorem proved : Rows.CastOneSaid := over
#print axioms proved
end Go.Proofs.Ytampdabniahncaa.castOne
namespace Go.Proofs.Ytampdabniahncaa
/-- The row, under a short name, for the claim. -/
theorem castOne_holds : Rows.CastOneSaid := castOne.proved
end Go.Proofs.Ytampdabniahncaa
