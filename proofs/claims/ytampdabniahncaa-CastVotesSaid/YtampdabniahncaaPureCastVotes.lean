/- CastVotes, as a statement on numbers and lists: for every table and all votes the law's function answers true. -/
import Derived.Test.YtampdabniahncaaPlain
namespace Go.Proofs.Ytampdabniahncaa.Pure
open Go.RowKit Go.Proofs.Ytampdabniahncaa Go.Proofs.Ytampdabniahncaa.Plain Go.Proofs.Ytampdabniahncaa.PCast Go.Proofs.YtampdabniahncaaW.PrintWords Go.Proofs.YtampdabniahncaaW.PrintLast
set_option linter.unusedVariables false
theorem CastVotes (a0 a1 : Int) (l2 : List ByteArray) (w0 : (Lit.int .i64 a0).wf = true) (w1 : (Lit.int .i64 a1).wf = true) (_ : l2.length * 16 ≤ 140737488351232) (z2 : ∀ s ∈ l2, s.size ≤ 140737488351232) :
    ∃ k, wardmotelaw16_CastVotes.f k a0 a1 l2 = some true := by
  refine ⟨3 * l2.length + 10, ?_⟩
  unfold wardmotelaw16_CastVotes.f
  by_cases h : (l2.length : Int) > 200
  · rw [if_pos h, four_true]; rfl
  · rw [if_neg h]
    simp only [cast_Echoed.f, cast_Ready.f, cast_Sure.f, castMost_eq _ _ _ z2, castTable_eq, refTable_eq, Option.bind_some]
    rw [if_neg (by simp)]
    by_cases ht : table a0 a1 = true
    · have hb := (table_iff a0 a1).1 ht
      have e1 : wrap64 (a0 - a1) = ((a0 - a1).toNat : Int) := by unfold wrap64; omega
      have e2 : wrap64 (a1 + 1) = ((a1 + 1).toNat : Int) := by unfold wrap64; omega
      rw [e1, e2, refMost_eq a0 a1 _ l2 (fun _ => by omega) (by omega) _ (by omega), refMost_eq a0 a1 _ l2 (fun _ => by omega) (by omega) _ (by omega)]
      simp [four_true]
    · have hm : ∀ x, most a0 a1 x l2 = (⟨#[]⟩, false, 1) := fun x => by simp [most, ht]
      have hr : ∀ x k, wardmoteref16_Most.f (k + 1) a0 a1 x l2 = some (⟨#[]⟩, false, 1) := fun x k => by
        unfold wardmoteref16_Most.f
        rw [refTable_eq]
        simp [ht, wardmoteref16_Most.j0]
      rw [hm, hm, hr, hr]
      simp [four_true]
end Go.Proofs.Ytampdabniahncaa.Pure
