/- CastOne, as a statement on numbers and lists: whatever those that fail tell whom, no two unlike texts are echoed. -/
import Derived.Test.YtampdabniahncaaPlainTold
namespace Go.Proofs.Ytampdabniahncaa.Pure
open Go.RowKit Go.Proofs.Ytampdabniahncaa Go.Proofs.Ytampdabniahncaa.Plain Go.Proofs.Ytampdabniahncaa.PCast Go.Proofs.YtampdabniahncaaW.PrintWords Go.Proofs.YtampdabniahncaaW.PrintLast
set_option linter.unusedVariables false

/-- Two texts that n - f are heard to tell, in two lists that part at those alone that fail, are one. -/
theorem one_of_two (set : Int) (H A B : List ByteArray) (n f : Nat) (hf : 3 * f < n) (a b : ByteArray)
    (ha : n - f ≤ cnt (heard n set f H A) n a) (hb : n - f ≤ cnt (heard n set f H B) n b) : a = b := by
  apply Classical.byContradiction
  intro hab
  rw [cnt_heard] at ha hb
  have h1 := countP_or (vote_some set f H A a) (List.range n)
  have h2 := countP_or (vote_some set f H B b) (List.range n)
  have h3 := (bad_few set f (by omega) n).1
  have h4 := countP_apart (p := tells set f H a) (q := tells set f H b) (r := isbad set f)
    (fun x hx => by
      unfold tells at hx ⊢
      cases hb : isbad set f x <;> simp_all)
    (fun x hx => by
      unfold tells at hx
      cases hb : isbad set f x <;> simp_all) (List.range n)
  rw [List.length_range] at h4
  omega

theorem CastOne (a0 a1 : Int) (a2_0 : Int) (l2_1 l2_2 l2_3 : List ByteArray) (w0 : (Lit.int .i64 a0).wf = true) (w1 : (Lit.int .i64 a1).wf = true) (w2_0 : (Lit.int .i64 a2_0).wf = true) (y1 : l2_1.length * 16 ≤ 140737488351232) (z1 : ∀ s ∈ l2_1, s.size ≤ 140737488351232) (y2 : l2_2.length * 16 ≤ 140737488351232) (z2 : ∀ s ∈ l2_2, s.size ≤ 140737488351232) (y3 : l2_3.length * 16 ≤ 140737488351232) (z3 : ∀ s ∈ l2_3, s.size ≤ 140737488351232) :
    ∃ k, wardmotelaw16_CastOne.f k a0 a1 a2_0 l2_1 l2_2 l2_3 = some true := by
  refine ⟨1000, ?_⟩
  unfold wardmotelaw16_CastOne.f
  rw [refTable_eq]
  simp only [Option.bind_some]
  by_cases ht : table a0 a1 = true
  · rw [if_pos ht]
    have hb := (table_iff a0 a1).1 ht
    obtain ⟨n, rfl⟩ := Int.eq_ofNat_of_zero_le (show 0 ≤ a0 by omega)
    obtain ⟨f, rfl⟩ := Int.eq_ofNat_of_zero_le (show 0 ≤ a1 by omega)
    have e1 : wrap64 ((n : Int) - (f : Int)) = ((n - f : Nat) : Int) := by unfold wrap64; omega
    rw [votes_eq a2_0 f l2_1 l2_2 l2_3 l2_2 n (by omega) 1000 (by omega), votes_eq a2_0 f l2_1 l2_2 l2_3 l2_3 n (by omega) 1000 (by omega)]
    simp only [cast_Echoed.f, castMost_eq _ _ _ (heard_size z1 z2), castMost_eq _ _ _ (heard_size z1 z3), Option.bind_some, e1]
    have hA := most_ok n f (n - f) (heard n a2_0 f l2_1 l2_2) ht (by rw [heard_length]) (by omega)
    have hB := most_ok n f (n - f) (heard n a2_0 f l2_1 l2_3) ht (by rw [heard_length]) (by omega)
    rw [heard_length] at hA hB
    rcases hA with ⟨x, hx, hx'⟩ | ⟨hx, _⟩ <;> rcases hB with ⟨y, hy, hy'⟩ | ⟨hy, _⟩ <;> rw [hx, hy]
    · have : x = y := one_of_two a2_0 l2_1 l2_2 l2_3 n f (by omega) x y ((hx' x).2 rfl).2 ((hy' y).2 rfl).2
      subst this
      simp [four_true]
    · simp [four_true]
    · simp [four_true]
    · simp [four_true]
  · rw [if_neg ht, four_true]
    rfl
end Go.Proofs.Ytampdabniahncaa.Pure
