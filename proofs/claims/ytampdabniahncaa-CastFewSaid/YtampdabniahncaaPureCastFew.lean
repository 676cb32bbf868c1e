/- CastFew, as a statement on numbers and lists: fewer than n - f votes echo nothing, none make nothing ready, and what is sure is ready where no other mark has more than f. -/
import Derived.Test.YtampdabniahncaaPlainTold
namespace Go.Proofs.Ytampdabniahncaa.Pure
open Go.RowKit Go.Proofs.Ytampdabniahncaa Go.Proofs.Ytampdabniahncaa.Plain Go.Proofs.Ytampdabniahncaa.PCast Go.Proofs.YtampdabniahncaaW.PrintWords Go.Proofs.YtampdabniahncaaW.PrintLast
set_option linter.unusedVariables false

/-- How many of the first i tell something. -/
def told (ss : List ByteArray) (i : Nat) : Nat := (ss.take i).countP (fun x => decide (x ≠ ⟨#[]⟩))
theorem told_le (ss : List ByteArray) (i : Nat) : told ss i ≤ i := by
  unfold told
  exact Nat.le_trans List.countP_le_length (by simp; omega)
theorem told_succ (ss : List ByteArray) (k : Nat) (hk : k < ss.length) : told ss (k + 1) = told ss k + if ss.getD k ByteArray.empty = ⟨#[]⟩ then 0 else 1 := by
  unfold told
  rw [List.take_add_one, List.getElem?_eq_getElem hk, List.countP_append]
  by_cases h : ss[k] = ⟨#[]⟩ <;> simp [List.getD, List.getElem?_eq_getElem hk, h]
theorem cnt_told (ss : List ByteArray) (i : Nat) (s : ByteArray) (hs : s ≠ ⟨#[]⟩) : cnt ss i s ≤ told ss i := by
  unfold cnt told
  exact countP_imp (fun x hx => by simp at hx ⊢; rw [hx]; exact hs) _

/-- What the end of the law's function asks. -/
def Good (n f : Int) (ss : List ByteArray) : Prop :=
  ((told ss ss.length : Int) < n - f → (most n f (n - f) ss).2.1 = false) ∧ (told ss ss.length = 0 → (most n f (f + 1) ss).2.1 = false) ∧
  ((most n f (n - f) ss).2.1 = true → (∃ i, i < ss.length ∧ ss.getD i ByteArray.empty ≠ ⟨#[]⟩ ∧ ss.getD i ByteArray.empty ≠ (most n f (n - f) ss).1 ∧ f < cnt ss ss.length (ss.getD i ByteArray.empty)) ∨
    ((most n f (f + 1) ss).2.1 = true ∧ (most n f (f + 1) ss).1 = (most n f (n - f) ss).1)) ∧ (most n f (n - f) ss).2.2 = 0

theorem good (n f : Nat) (ss : List ByteArray) (ht : table n f = true) (hn : (ss.length : Int) = n) : Good n f ss := by
  have hb := (table_iff n f).1 ht
  have e1 : ((n : Int) - (f : Int)) = ((n - f : Nat) : Int) := by omega
  have e2 : ((f : Int) + 1) = ((f + 1 : Nat) : Int) := by omega
  have hS := most_ok n f (n - f) ss ht hn (by omega)
  have hR := most_ok n f (f + 1) ss ht hn (by omega)
  unfold Good
  rw [e1, e2]
  refine ⟨fun h => ?_, fun h => ?_, fun h => ?_, ?_⟩
  · rcases hS with ⟨x, hx, hx'⟩ | ⟨hx, _⟩ <;> rw [hx]
    have h1 := (hx' x).2 rfl
    have h2 := cnt_told ss ss.length x h1.1
    have h3 := h1.2
    omega
  · rcases hR with ⟨x, hx, hx'⟩ | ⟨hx, _⟩ <;> rw [hx]
    have h1 := (hx' x).2 rfl
    have h2 := cnt_told ss ss.length x h1.1
    have h3 := h1.2
    omega
  · rcases hS with ⟨x, hx, hx'⟩ | ⟨hx, _⟩
    · rw [hx]
      have h1 := (hx' x).2 rfl
      by_cases hu : ∀ s, Has ss (f + 1) ss.length s → s = x
      · right
        have hxr : Has ss (f + 1) ss.length x := ⟨h1.1, by have := h1.2; omega⟩
        rcases hR with ⟨y, hy, hy'⟩ | ⟨hy, hy'⟩
        · rw [hy]
          exact ⟨rfl, ((hy' x).1 hxr).symm⟩
        · exact absurd (fun s => ⟨hu s, fun e => e ▸ hxr⟩) (hy' x)
      · left
        obtain ⟨s, hs⟩ := Classical.not_forall.1 hu
        obtain ⟨hs1, hs2⟩ := Classical.not_imp.1 hs
        obtain ⟨i, hi, rfl⟩ := has_mem (by omega) hs1
        exact ⟨i, hi, hs1.1, hs2, by have := hs1.2; omega⟩
    · rw [hx] at h
      cases h
  · rcases hS with ⟨x, hx, hx'⟩ | ⟨hx, _⟩ <;> rw [hx]

theorem few_l1 (n f : Nat) (ss : List ByteArray) (hn : n ≤ 10) (hf : f ≤ n) (hss : ss.length = n) (hg : Good n f ss) (d : Nat) : ∀ (k i o : Nat), i + d = n → 3 * n + d < k → o ≤ i →
    ((∃ j, j < i ∧ ss.getD j ByteArray.empty ≠ ⟨#[]⟩ ∧ ss.getD j ByteArray.empty ≠ (most n f ((n : Int) - f) ss).1 ∧ f < cnt ss ss.length (ss.getD j ByteArray.empty)) → 0 < o) →
    wardmotelaw16_CastFew.l1 k n f ss (told ss n : Nat) (most n f ((n : Int) - f) ss).2.1 (most n f ((f : Int) + 1) ss).1 (most n f ((f : Int) + 1) ss).2.1 (most n f ((n : Int) - f) ss).1 (most n f ((n : Int) - f) ss).2.1 (most n f ((n : Int) - f) ss).2.2 (o : Nat) ss (n : Nat) i = some true := by
  induction d with
  | zero =>
    intro k i o hi hk ho hex
    obtain ⟨k, rfl⟩ : ∃ m, k = m + 1 := ⟨k - 1, by omega⟩
    rw [wardmotelaw16_CastFew.l1, if_neg (by omega)]
    have e1 : wrap64 ((n : Int) - (f : Int)) = (n : Int) - f := by unfold wrap64; omega
    obtain ⟨g1, g2, g3, g4⟩ := hg
    obtain rfl : i = n := by omega
    rw [e1, g4]
    rw [hss] at g1 g2
    generalize hE : (most i f ((i : Int) - f) ss).2.1 = E at *
    generalize hR : (most i f ((f : Int) + 1) ss).2.1 = R at *
    by_cases t1 : (told ss i : Int) < (i : Int) - f
    · rw [if_pos t1, g1 t1, if_neg (by decide), if_neg (by decide)]
      by_cases t2 : (told ss i : Int) = 0
      · rw [if_pos t2, g2 (by omega), if_neg (by decide), if_pos rfl, four_true]; rfl
      · rw [if_neg t2, if_pos rfl, four_true]; rfl
    · rw [if_neg t1]
      have hend : (if E = true then if (o : Int) > 0 then wardmotelaw16_four.f.bind fun t => some t else if R = true then (if (most i f ((f : Int) + 1) ss).1.toList = (most i f ((i : Int) - f) ss).1.toList then wardmotelaw16_four.f.bind fun t => some t else some false) else some false else wardmotelaw16_four.f.bind fun t => some t) = some true := by
        rw [four_true]
        by_cases hE1 : E = true
        · rw [if_pos hE1]
          by_cases ho1 : (o : Int) > 0
          · rw [if_pos ho1]; rfl
          · rw [if_neg ho1]
            rcases g3 hE1 with h | ⟨h1, h2⟩
            · obtain ⟨j, j1, j2, j3, j4⟩ := h
              have := hex ⟨j, by omega, j2, j3, by omega⟩
              omega
            · rw [if_pos h1, h2, if_pos rfl]; rfl
        · rw [if_neg hE1]; rfl
      by_cases t2 : (told ss i : Int) = 0
      · rw [if_pos t2]
        have hR0 := g2 (by omega)
        rw [hR0] at hend ⊢
        rw [if_neg (by decide), if_pos rfl]
        simpa using hend
      · rw [if_neg t2, if_pos rfl]
        exact hend
  | succ d ih =>
    intro k i o hi hk ho hex
    obtain ⟨k, rfl⟩ : ∃ m, k = m + 1 := ⟨k - 1, by omega⟩
    have e1 : wrap64 ((i : Int) + 1) = ((i + 1 : Nat) : Int) := by unfold wrap64; omega
    have e2 : wrap64 ((o : Int) + 1) = ((o + 1 : Nat) : Int) := by unfold wrap64; omega
    rw [wardmotelaw16_CastFew.l1, if_pos (by omega), if_pos (by omega), if_pos (by omega), rd_getD, e1, e2]
    have hskip : (ss.getD i ByteArray.empty = ⟨#[]⟩ ∨ ss.getD i ByteArray.empty = (most n f ((n : Int) - f) ss).1 ∨ ¬ f < cnt ss ss.length (ss.getD i ByteArray.empty)) →
        ((∃ j, j < i + 1 ∧ ss.getD j ByteArray.empty ≠ ⟨#[]⟩ ∧ ss.getD j ByteArray.empty ≠ (most n f ((n : Int) - f) ss).1 ∧ f < cnt ss ss.length (ss.getD j ByteArray.empty)) → 0 < o) := by
      rintro h ⟨j, hj, j1, j2, j3⟩
      by_cases e : j = i
      · subst e
        rcases h with h | h | h
        · exact absurd h j1
        · exact absurd h j2
        · exact absurd j3 h
      · exact hex ⟨j, by omega, j1, j2, j3⟩
    by_cases h0 : (ss.getD i ByteArray.empty).toList = []
    · rw [if_pos h0]
      exact ih k (i + 1) o (by omega) (by omega) (by omega) (hskip (.inl ((toList_nil _).1 h0)))
    · rw [if_neg h0]
      by_cases h1 : (ss.getD i ByteArray.empty).toList = (most n f ((n : Int) - f) ss).1.toList
      · rw [if_pos h1]
        exact ih k (i + 1) o (by omega) (by omega) (by omega) (hskip (.inr (.inl (toList_inj.1 h1))))
      · rw [if_neg h1, count_eq ss _ (by omega) k (by omega)]
        simp only [Option.bind_some]
        by_cases h2 : ((cnt ss ss.length (ss.getD i ByteArray.empty) : Nat) : Int) > f
        · rw [if_pos h2]
          exact ih k (i + 1) (o + 1) (by omega) (by omega) (by omega) (fun _ => by omega)
        · rw [if_neg h2]
          exact ih k (i + 1) o (by omega) (by omega) (by omega) (hskip (.inr (.inr (by omega))))

theorem few_l0 (n f : Nat) (ss : List ByteArray) (hn : n ≤ 10) (hf : f ≤ n) (hss : ss.length = n) (hg : Good n f ss) (hz : ∀ s ∈ ss, s.size ≤ 140737488351232) (d : Nat) : ∀ (k i : Nat), i + d = n → 6 * n + d + 2 < k →
    wardmotelaw16_CastFew.l0 k n f ss (told ss i : Nat) ss (n : Nat) i = some true := by
  induction d with
  | zero =>
    intro k i hi hk
    obtain ⟨k, rfl⟩ : ∃ m, k = m + 1 := ⟨k - 1, by omega⟩
    obtain rfl : i = n := by omega
    have e1 : wrap64 ((i : Int) - (f : Int)) = (i : Int) - f := by unfold wrap64; omega
    have e2 : wrap64 ((f : Int) + 1) = (f : Int) + 1 := by unfold wrap64; omega
    rw [wardmotelaw16_CastFew.l0, if_neg (by omega)]
    simp only [cast_Echoed.f, cast_Ready.f, cast_Sure.f, castMost_eq _ _ _ hz, Option.bind_some, e1, e2]
    have := few_l1 i f ss hn hf hss hg i k 0 0 (by omega) (by omega) (by omega) (fun ⟨j, hj, _⟩ => by omega)
    rw [← hss] at this ⊢
    exact this
  | succ d ih =>
    intro k i hi hk
    obtain ⟨k, rfl⟩ : ∃ m, k = m + 1 := ⟨k - 1, by omega⟩
    have h1 := told_le ss i
    have h2 := told_succ ss i (by omega)
    have e1 : wrap64 ((i : Int) + 1) = ((i + 1 : Nat) : Int) := by unfold wrap64; omega
    have e2 : wrap64 (((told ss i : Nat) : Int) + 1) = ((told ss i + 1 : Nat) : Int) := by unfold wrap64; omega
    rw [wardmotelaw16_CastFew.l0, if_pos (by omega), if_pos (by omega), if_pos (by omega), rd_getD, e1, e2]
    by_cases h0 : (ss.getD i ByteArray.empty).toList = []
    · rw [if_pos h0]
      rw [if_pos ((toList_nil _).1 h0)] at h2
      have : told ss i = told ss (i + 1) := by omega
      rw [this]
      exact ih k (i + 1) (by omega) (by omega)
    · rw [if_neg h0]
      rw [if_neg (fun e => h0 ((toList_nil _).2 e))] at h2
      rw [← h2]
      exact ih k (i + 1) (by omega) (by omega)

theorem CastFew (a0 a1 : Int) (l2 : List ByteArray) (w0 : (Lit.int .i64 a0).wf = true) (w1 : (Lit.int .i64 a1).wf = true) (y2 : l2.length * 16 ≤ 140737488351232) (z2 : ∀ s ∈ l2, s.size ≤ 140737488351232) :
    ∃ k, wardmotelaw16_CastFew.f k a0 a1 l2 = some true := by
  refine ⟨101, ?_⟩
  unfold wardmotelaw16_CastFew.f
  rw [refTable_eq]
  simp only [Option.bind_some]
  by_cases ht : table a0 a1 = true
  · rw [if_pos ht]
    have hb := (table_iff a0 a1).1 ht
    obtain ⟨n, rfl⟩ := Int.eq_ofNat_of_zero_le (show 0 ≤ a0 by omega)
    obtain ⟨f, rfl⟩ := Int.eq_ofNat_of_zero_le (show 0 ≤ a1 by omega)
    by_cases hl : (l2.length : Int) = n
    · rw [bne_eq_false_iff_eq.2 hl, wardmotelaw16_CastFew.j0, if_neg (by decide), hl]
      exact few_l0 n f l2 (by omega) (by omega) (by omega) (good n f l2 ht hl) z2 n 100 0 (by omega) (by omega)
    · rw [bne_iff_ne.2 hl, wardmotelaw16_CastFew.j0, if_pos rfl, four_true]; rfl
  · rw [if_neg ht, wardmotelaw16_CastFew.j0, if_pos rfl, four_true]; rfl
end Go.Proofs.Ytampdabniahncaa.Pure
