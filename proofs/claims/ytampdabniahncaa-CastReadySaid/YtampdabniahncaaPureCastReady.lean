/- CastReady, as a statement on numbers and lists: where all that do as told tell one mark, or none, and one node is sure of a mark, each one is ready for it. -/
import Derived.Test.YtampdabniahncaaPlainTold
namespace Go.Proofs.Ytampdabniahncaa.Pure
open Go.RowKit Go.Proofs.Ytampdabniahncaa Go.Proofs.Ytampdabniahncaa.Plain Go.Proofs.Ytampdabniahncaa.PCast Go.Proofs.YtampdabniahncaaW.PrintWords Go.Proofs.YtampdabniahncaaW.PrintLast
set_option linter.unusedVariables false

/-- All that do as told tell one, or nothing. -/
def Alike (n : Nat) (set f : Int) (H : List ByteArray) (one : ByteArray) (i : Nat) : Prop :=
  ∀ j, j < i → j < n → isbad set f j = false → H.getD j ⟨#[]⟩ = ⟨#[]⟩ ∨ H.getD j ⟨#[]⟩ = one

theorem teller (n : Nat) (set f : Int) (H : List ByteArray) (one s : ByteArray) (h : Alike n set f H one H.length) (hs : s ≠ ⟨#[]⟩) (hp : 0 < (List.range n).countP (tells set f H s)) : s = one := by
  obtain ⟨i, hi, ht⟩ := List.countP_pos_iff.1 hp
  simp only [List.mem_range] at hi
  unfold tells at ht
  have hb : isbad set f i = false := by cases hb : isbad set f i <;> simp_all
  have he : H.getD i ⟨#[]⟩ = s := by cases hb : isbad set f i <;> simp_all
  have hl : i < H.length := by
    apply Classical.byContradiction
    intro hn
    rw [List.getD, List.getElem?_eq_none (by omega)] at he
    exact hs he.symm
  rcases h i hl hi hb with h1 | h1
  · rw [he] at h1; exact absurd h1 hs
  · rw [he] at h1; exact h1

theorem ready_end (n f : Nat) (set : Int) (H A B : List ByteArray) (one : ByteArray) (zH : ∀ s ∈ H, s.size ≤ 140737488351232) (zA : ∀ s ∈ A, s.size ≤ 140737488351232) (zB : ∀ s ∈ B, s.size ≤ 140737488351232)
    (ht : table n f = true) (h : Alike n set f H one H.length) :
    (∃ r, most n f ((n - f : Nat) : Int) (heard n set f H A) = (⟨#[]⟩, false, 0) ∧ most n f ((f + 1 : Nat) : Int) (heard n set f H B) = r ∧ r.2.2 = 0) ∨
    (most n f ((n - f : Nat) : Int) (heard n set f H A) = (one, true, 0) ∧ most n f ((f + 1 : Nat) : Int) (heard n set f H B) = (one, true, 0)) := by
  have hb := (table_iff n f).1 ht
  have hA := most_ok n f (n - f) (heard n set f H A) ht (by rw [heard_length]) (by omega)
  have hB := most_ok n f (f + 1) (heard n set f H B) ht (by rw [heard_length]) (by omega)
  rw [heard_length] at hA hB
  have hbad := (bad_few set f (by omega) n).1
  rcases hA with ⟨x, hx, hx'⟩ | ⟨hx, _⟩
  · right
    obtain ⟨x1, x2⟩ := (hx' x).2 rfl
    rw [cnt_heard] at x2
    have c1 := countP_or (vote_some set f H A x) (List.range n)
    have hx1 : x = one := teller n set f H one x h x1 (by omega)
    subst hx1
    have c2 := countP_imp (tells_vote set f H B x) (List.range n)
    have hBx : Has (heard n set f H B) (f + 1) n x := ⟨x1, by rw [cnt_heard]; omega⟩
    have hBu : ∀ s, Has (heard n set f H B) (f + 1) n s ↔ s = x := by
      intro s
      refine ⟨fun hs => ?_, fun e => e ▸ hBx⟩
      obtain ⟨s1, s2⟩ := hs
      rw [cnt_heard] at s2
      have c3 := countP_or (vote_some set f H B s) (List.range n)
      exact teller n set f H x s h s1 (by omega)
    refine ⟨hx, ?_⟩
    rcases hB with ⟨y, hy, hy'⟩ | ⟨_, hy'⟩
    · rw [hy, (hy' x).1 hBx]
    · exact absurd hBu (hy' x)
  · left
    rcases hB with ⟨y, hy, _⟩ | ⟨hy, _⟩
    · exact ⟨_, hx, hy, rfl⟩
    · exact ⟨_, hx, hy, rfl⟩

theorem ready_l0 (n f : Nat) (set : Int) (H A B : List ByteArray) (zH : ∀ s ∈ H, s.size ≤ 140737488351232) (zA : ∀ s ∈ A, s.size ≤ 140737488351232) (zB : ∀ s ∈ B, s.size ≤ 140737488351232)
    (ht : table n f = true) (hl : H.length ≤ 140737488351232) (d : Nat) : ∀ (k i : Nat) (one : ByteArray), i + d = H.length → 2 * d + 100 < k → Alike n set f H one i →
    wardmotelaw16_CastReady.l0 k n f one (H.length : Int) i set H A B = some true := by
  have hb := (table_iff n f).1 ht
  induction d with
  | zero =>
    intro k i one hi hk h
    obtain ⟨k, rfl⟩ : ∃ m, k = m + 1 := ⟨k - 1, by omega⟩
    obtain rfl : i = H.length := by omega
    have e1 : wrap64 ((n : Int) - (f : Int)) = ((n - f : Nat) : Int) := by unfold wrap64; omega
    have e2 : wrap64 ((f : Int) + 1) = ((f + 1 : Nat) : Int) := by unfold wrap64; omega
    rw [wardmotelaw16_CastReady.l0, if_neg (by omega), votes_eq set f H A B A n (by omega) k (by omega), votes_eq set f H A B B n (by omega) k (by omega)]
    simp only [cast_Sure.f, cast_Ready.f, castMost_eq _ _ _ (heard_size zH zA), castMost_eq _ _ _ (heard_size zH zB), Option.bind_some, e1, e2]
    rcases ready_end n f set H A B one zH zA zB ht h with ⟨r, h1, h2, h3⟩ | ⟨h1, h2⟩
    · rw [h1, h2, h3]
      simp [four_true]
    · rw [h1, h2]
      simp [four_true]
  | succ d ih =>
    intro k i one hi hk h
    obtain ⟨k, rfl⟩ : ∃ m, k = m + 2 := ⟨k - 2, by omega⟩
    have e1 : wrap64 ((i : Int) + 1) = ((i + 1 : Nat) : Int) := by unfold wrap64; omega
    have hskip : (i < n → isbad set f i = false → H.getD i ⟨#[]⟩ = ⟨#[]⟩) → wardmotelaw16_CastReady.j1 (k + 1) n f one i (H.length : Int) i true set H A B = some true := by
      intro hs
      rw [wardmotelaw16_CastReady.j1, if_pos rfl, e1]
      refine ih k (i + 1) one (by omega) (by omega) (fun j hj hjn hjb => ?_)
      by_cases e : j = i
      · subst e; exact .inl (hs hjn hjb)
      · exact h j (by omega) hjn hjb
    rw [wardmotelaw16_CastReady.l0, if_pos (by omega)]
    by_cases h1 : (i : Int) ≥ n
    · rw [if_pos h1]
      exact hskip (fun hn => by omega)
    · rw [if_neg h1, bad_eq set f i (by omega) (k + 1) (by omega)]
      simp only [Option.bind_some]
      by_cases h2 : isbad set f i = true
      · rw [if_pos h2]
        exact hskip (fun _ hb => by rw [h2] at hb; cases hb)
      · rw [if_neg h2, if_pos (by omega), if_pos (by omega), rd_getD]
        by_cases h3 : H.getD i ByteArray.empty = ⟨#[]⟩
        · rw [beq_iff_eq.2 ((toList_nil _).2 h3)]
          exact hskip (fun _ _ => h3)
        · rw [beq_eq_false_iff_ne.2 (fun e => h3 ((toList_nil _).1 e)), wardmotelaw16_CastReady.j1, if_neg (by decide), rd_getD, e1]
          by_cases h4 : one.toList = []
          · rw [if_pos h4, if_pos (by omega), if_pos (by omega)]
            have h4' := (toList_nil _).1 h4
            refine ih k (i + 1) _ (by omega) (by omega) (fun j hj hjn hjb => ?_)
            by_cases e : j = i
            · subst e; exact .inr rfl
            · rcases h j (by omega) hjn hjb with h5 | h5
              · exact .inl h5
              · rw [h4'] at h5; exact .inl h5
          · rw [if_neg h4, if_pos (by omega), if_pos (by omega)]
            by_cases h5 : (H.getD i ByteArray.empty).toList = one.toList
            · rw [if_pos h5, toList_inj.1 h5]
              refine ih k (i + 1) _ (by omega) (by omega) (fun j hj hjn hjb => ?_)
              by_cases e : j = i
              · subst e; exact .inr (toList_inj.1 h5)
              · exact h j (by omega) hjn hjb
            · rw [if_neg h5, four_true]; rfl

theorem CastReady (a0 a1 : Int) (a2_0 : Int) (l2_1 l2_2 l2_3 : List ByteArray) (w0 : (Lit.int .i64 a0).wf = true) (w1 : (Lit.int .i64 a1).wf = true) (w2_0 : (Lit.int .i64 a2_0).wf = true) (y1 : l2_1.length * 16 ≤ 140737488351232) (z1 : ∀ s ∈ l2_1, s.size ≤ 140737488351232) (y2 : l2_2.length * 16 ≤ 140737488351232) (z2 : ∀ s ∈ l2_2, s.size ≤ 140737488351232) (y3 : l2_3.length * 16 ≤ 140737488351232) (z3 : ∀ s ∈ l2_3, s.size ≤ 140737488351232) :
    ∃ k, wardmotelaw16_CastReady.f k a0 a1 a2_0 l2_1 l2_2 l2_3 = some true := by
  refine ⟨2 * l2_1.length + 101, ?_⟩
  unfold wardmotelaw16_CastReady.f
  rw [refTable_eq]
  simp only [Option.bind_some]
  by_cases ht : table a0 a1 = true
  · rw [if_pos ht]
    have hb := (table_iff a0 a1).1 ht
    obtain ⟨n, rfl⟩ := Int.eq_ofNat_of_zero_le (show 0 ≤ a0 by omega)
    obtain ⟨f, rfl⟩ := Int.eq_ofNat_of_zero_le (show 0 ≤ a1 by omega)
    exact ready_l0 n f a2_0 l2_1 l2_2 l2_3 z1 z2 z3 ht (by omega) l2_1.length _ 0 ⟨#[]⟩ (by omega) (by omega) (fun j hj => by omega)
  · rw [if_neg ht, four_true]
    rfl
end Go.Proofs.Ytampdabniahncaa.Pure
