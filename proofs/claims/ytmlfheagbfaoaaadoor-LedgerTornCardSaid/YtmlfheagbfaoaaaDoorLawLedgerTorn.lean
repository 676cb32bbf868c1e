/- The row of the law wardmote/wardmotelaw11.LedgerTorn: whatever the input (within the form's own reach), the call returns true and the input reads as it did. No further condition. -/
import Derived.Test.YtmlfheagbfaoaaaDoorRows
import Derived.Test.YtmlfheagbfaoaaaDoorOpen
import Derived.Test.YtmlfheagbfaoaaaDoorLd
import Derived.Test.YtmlfheagbfaoaaaDoorCards
import Derived.Test.YtmlfheagbfaoaaaDoorTie
import Derived.Test.YtmlfheagbfaoaaaDoorLaidRow
import Derived.WalkKit
import Derived.ProofKit
import Derived.OpenShut
import Derived.ShutString
import Derived.ChangeOld
import Derived.Below
import Derived.SizedLaws
import Derived.Lib.SmallJoins
namespace Go.Proofs.YtmlfheagbfaoaaaDoor.ledgerTorn
open Go.ChangeShapes Go.WideShapes Go.ChangeAt Go.RowKit Go.Joins Go.Proofs.YtmlfheagbfaoaaaDoor Go.Proofs.YtmlfheagbfaoaaaDoorW.PrintWords
open Go.ChangeMaps (open_string shut_string)
set_option linter.unusedVariables false
theorem own : ownKnob Tryd.prog.godebug = none := by kernel_rfl
theorem laidOut : laidOutB Tryd.prog = true := by kernel_rfl
set_option maxHeartbeats 1000000 in
set_option maxRecDepth 100000 in
theorem contract (H : Type) (enc : TypeId × Value → H) (W : World) (base : Nat) (args : Array Value) (ds gs : List (DataW H)) (before : List MemPlace)
    (hval0 : ∀ (j : Nat) t v, Tryd.f6.params[j]? = some t → args[j]? = some v → Value.okWide Tryd.prog W .any base t v)
    (hW : DataW.Whole enc Tryd.prog Tryd.f6.params.toList Rows.ledgerTornSpec.vars false W args.toList ds gs before)
    (hsz0 : (DataW.weightsEach Tryd.prog (Tryd.f6.params.toList ++ Rows.ledgerTornSpec.plain.varTypes Tryd.prog) (ds ++ gs)).all (· ≤ reachBytes) = true) (hL : laidMetH Tryd.prog Rows.ledgerTornRow.laid W) :
    Calls Tryd.prog 6 args W fun e W' => ∃ v, e = .returned v ∧ Rows.ledgerTornSpec.post enc Tryd.prog Tryd.f6 false true false false W args v W' := by
  have hT := tab_of hL
  have hsz : (DataW.weightsEach Tryd.prog (Tryd.f6.params.toList ++ Rows.ledgerTornSpec.plain.varTypes Tryd.prog) (ds ++ gs)).all (· ≤ reachBytes) = true := hsz0
  have hval : ∀ (j : Nat) t v, Tryd.f6.params[j]? = some t → args[j]? = some v → Value.okWide Tryd.prog W .any base t v := hval0
  have hW' := hW
  obtain ⟨p, q, hA0, hV, rfl, hfz, hnd⟩ := hW
  have hA : DataW.TrodAll enc Tryd.prog W 0 (fun _ => true) true Tryd.f6.params.toList args.toList ds p := hA0
  rw [Tryd.params6] at hA hval hsz
  obtain ⟨v0, vs0, d0, ds0, p0, q0, hargs, rfl, rfl, h0, r0⟩ := trodAll_cons hA
  obtain ⟨v1, vs1, d1, ds1, p1, q1, rfl, rfl, rfl, h1, r1⟩ := trodAll_cons r0
  obtain ⟨v2, vs2, d2, ds2, p2, q2, rfl, rfl, rfl, h2, r2⟩ := trodAll_cons r1
  obtain ⟨rfl, rfl, rfl⟩ := trodAll_nil r2
  obtain rfl : args = #[v0, v1, v2] := by cases args; simp_all
  obtain ⟨rfl, rfl⟩ := trodVars_none hV
  have k0 := h0
  have lt0 : ∀ x ∈ p0, x.block < W.heap.size := by obtain ⟨m, hm⟩ := k0; exact DataW.trod_lt m _ _ _ hm
  have ft0 : Fits Tryd.prog 22 d0 := (fits_of hsz (j := 0) (t := 22) rfl rfl)
  obtain ⟨a0_, len0_, cap0_, rfl⟩ := okWide_slice Tryd.underlying22 (hval 0 22 v0 rfl rfl)
  obtain ⟨fuel0, hf0⟩ := h0
  replace hf0 : DataW.trod enc Tryd.prog W 0 (fun _ => true) true fuel0 22 [.slice a0_ len0_ cap0_] = some (d0, p0) := hf0
  obtain ⟨A0, c0, l0, hv0, hr0, hc0, y0, z0⟩ := opn_strs Tryd.underlying22 Tryd.underlying9 (by kernel_rfl) (by kernel_rfl) hf0 ft0
  obtain ⟨rfl, rfl, rfl⟩ : A0 = a0_ ∧ len0_ = l0.length ∧ c0 = cap0_ := by simp only [Value.slice.injEq] at hv0; exact ⟨hv0.1.symm, hv0.2.1, hv0.2.2.symm⟩
  have k1 := h1
  have lt1 : ∀ x ∈ p1, x.block < W.heap.size := by obtain ⟨m, hm⟩ := k1; exact DataW.trod_lt m _ _ _ hm
  have ft1 : Fits Tryd.prog 22 d1 := (fits_of hsz (j := 1) (t := 22) rfl rfl)
  obtain ⟨a1_, len1_, cap1_, rfl⟩ := okWide_slice Tryd.underlying22 (hval 1 22 v1 rfl rfl)
  obtain ⟨fuel1, hf1⟩ := h1
  replace hf1 : DataW.trod enc Tryd.prog W 0 (fun _ => true) true fuel1 22 [.slice a1_ len1_ cap1_] = some (d1, p1) := hf1
  obtain ⟨A1, c1, l1, hv1, hr1, hc1, y1, z1⟩ := opn_strs Tryd.underlying22 Tryd.underlying9 (by kernel_rfl) (by kernel_rfl) hf1 ft1
  obtain ⟨rfl, rfl, rfl⟩ : A1 = a1_ ∧ len1_ = l1.length ∧ c1 = cap1_ := by simp only [Value.slice.injEq] at hv1; exact ⟨hv1.1.symm, hv1.2.1, hv1.2.2.symm⟩
  have k2 := h2
  have lt2 : ∀ x ∈ p2, x.block < W.heap.size := by obtain ⟨m, hm⟩ := k2; exact DataW.trod_lt m _ _ _ hm
  have ft2 : Fits Tryd.prog 50 d2 := (fits_of hsz (j := 2) (t := 50) rfl rfl)
  obtain ⟨u2_0, u2_1, u2_2, u2_3, e2_0, e2_1, e2_2, e2_3, n2, rfl, rfl, rfl, g2_0, g2_1, g2_2, g2_3⟩ := open_agg4 Tryd.underlying50 (by kernel_rfl) (by kernel_rfl) (hval 2 50 v2 rfl rfl) h2
  have fa2 := fits_agg Tryd.underlying50 ft2
  obtain ⟨a2_0, rfl, w2_0⟩ := opn_int Tryd.underlying3 g2_0
  obtain ⟨a2_1, rfl, w2_1⟩ := opn_int Tryd.underlying3 g2_1
  obtain ⟨a2_2, rfl, w2_2⟩ := opn_int Tryd.underlying3 g2_2
  obtain ⟨a2_3, rfl, w2_3⟩ := opn_str Tryd.underlying9 g2_3 (fits_each fa2 (j := 3) (t := 9) rfl rfl)
  clear hA0 hval0 hsz0 hsz
  refine (law_LedgerTorn A0 c0 l0 A1 c1 l1 a2_0 a2_1 a2_2 a2_3 W y0 z0 y1 z1 w2_0 w2_1 w2_2 w2_3 hr0 hc0 hr1 hc1 hT).mono fun e W' ⟨he, bel⟩ => ?_
  subst he
  exact ⟨_, rfl, _, _, _, [], _, [], hW', trodAll_mk1 (shut_bool Tryd.underlying4 _), (trodAll_cons_mk (Below.trod laidOut (by kernel_rfl) (of_decide_eq_true (by kernel_rfl)) k0 bel lt0) (trodAll_cons_mk (Below.trod laidOut (by kernel_rfl) (of_decide_eq_true (by kernel_rfl)) k1 bel lt1) (trodAll_cons_mk (Below.trod laidOut (by kernel_rfl) (of_decide_eq_true (by kernel_rfl)) k2 bel lt2) trodAll_mk0))), rfl, bel.frame _, fun h => by cases h⟩
theorem reads (os : Os) {H : Type} (enc : TypeId × Value → H) : ∃ places, DataW.whole enc Tryd.prog ((laidWorld os).forCall (fun _ _ => 0) ⟨#[], #[.slice none 0 0, .slice none 0 0, .agg #[.int .i64 0, .int .i64 0, .int .i64 0, .string ByteArray.empty]], []⟩).memory Tryd.f6.params.toList Rows.ledgerTornSpec.vars false (#[(.slice none 0 0 : Value), (.slice none 0 0 : Value), (.agg #[.int .i64 0, .int .i64 0, .int .i64 0, .string ByteArray.empty] : Value)] : Array Value).toList 8 = some ([.nil, .nil, .agg [.lit (.int .i64 0), .lit (.int .i64 0), .lit (.int .i64 0), .lit (.string [])]], [], places) :=
  ⟨[], by kernel_rfl⟩
set_option maxRecDepth 100000 in
theorem lifted (os : Os) (started : os.Started) (H : Type) (enc : TypeId × Value → H) (F : Stop.Interp) :
    ReturnsInHanded {} Tryd.checked os 6 .any ((OpenSpec.ofChange Rows.ledgerTornSpec).preRow enc Tryd.prog Tryd.f6 Rows.ledgerTornRow.domain false Rows.ledgerTornRow.laid) (((OpenSpec.ofChange Rows.ledgerTornSpec).at F).post enc Tryd.prog Tryd.f6 false true false false) := by
  obtain ⟨places, hx⟩ := reads os enc
  refine returnsInHanded_of_row (C := Tryd.checked) (s := OpenSpec.ofChange Rows.ledgerTornSpec) own started (by kernel_rfl) Tryd.func6
    (witness_row_at (enc := enc) (C := Tryd.checked) false (laidWorld os) #[.slice none 0 0, .slice none 0 0, .agg #[.int .i64 0, .int .i64 0, .int .i64 0, .string ByteArray.empty]] rfl (by kernel_rfl) (by kernel_rfl) (by kernel_rfl)
      (OpenSpec.preRow_of_cond 8 hx (by kernel_rfl) (fun k hk => by cases hk) (by kernel_rfl) (laid_met os _))) ?_
  intro W base args ds gs before hval hW _ _ hsz hL _ _
  exact contract H enc W base args ds gs before hval hW hsz hL
theorem said : Rows.LedgerTornSaid :=
  OpenClaim.holds_of_cond 6 Tryd.f6 rfl rfl rfl rfl rfl rfl rfl ⟨rfl, rfl, rfl, rfl, rfl⟩ rfl rfl rfl rfl rfl (by kernel_rfl) Tryd.func6 (by kernel_rfl)
    (of_decide_eq_true (by kernel_rfl)) (by unfold Func.isWrapper; first | (rw [if_pos (by decide +kernel)]; kernel_rfl) | (rw [if_neg (by decide +kernel)]; exact ⟨rfl, rfl⟩))
    (fun os started H enc _ F => by rw [OpenClaim.pre_eq_preRow]; exact lifted os started H enc F)
theorem plain (f : FuncId) (fn : Func) (hf : Tryd.pinned.checked.prog.funcNamed "wardmote/wardmotelaw11.LedgerTorn" = some f) (hfn : Tryd.pinned.checked.prog.funcs[f]? = some fn) :
    false = Tryd.pinned.checked.prog.looks [] ∧ ∀ (j : Nat) t, fn.params[j]? = some t → Tryd.pinned.checked.prog.wantsStandIn t = false := by
  obtain rfl : f = 6 := Option.some.inj ((show Tryd.prog.funcNamed "wardmote/wardmotelaw11.LedgerTorn" = some 6 by kernel_rfl).symm.trans hf) |>.symm
  obtain rfl : fn = Tryd.f6 := (Option.some.inj (Tryd.func6.symm.trans hfn)).symm
  refine ⟨by kernel_rfl, fun j t ht => ?_⟩
  rw [Tryd.params6] at ht
  have hm : t ∈ ([22, 22, 50] : List TypeId) := by simpa using Array.mem_of_getElem? ht
  have hall : (([22, 22, 50] : List TypeId).all fun u => !Tryd.prog.wantsStandIn u) = true := by kernel_rfl
  exact (show Tryd.prog.wantsStandIn t = false by simpa using List.all_eq_true.1 hall t hm)
/-- The card: the table is tied to the program's text. -/
theorem card : Rows.LedgerTornCardSaid :=
  Claim7.holds_tied_plain_at .later [] _ _ _ _ said (fun _ h => by cases h) (by kernel_rfl) (fun _ h => by cases h) ledgerTorn_row_tie rfl ⟨rfl, rfl⟩ (by kernel_rfl) rfl plain (by kernel_rfl)
#print axioms card
end Go.Proofs.YtmlfheagbfaoaaaDoor.ledgerTorn
namespace Go.Proofs.YtmlfheagbfaoaaaDoor
/-- The card, under a short name, for the claim. -/
theorem ledgerTorn_holds : Rows.LedgerTornCardSaid := ledgerTorn.card
end Go.Proofs.YtmlfheagbfaoaaaDoor
