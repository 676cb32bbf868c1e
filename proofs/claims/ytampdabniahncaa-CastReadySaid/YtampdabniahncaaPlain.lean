/- Plain facts on votes: what 'most' answers. Nothing of the program's run in sight. -/
import Derived.Test.YtampdabniahncaaPCastx
namespace Go.Proofs.Ytampdabniahncaa.Plain
open Go.RowKit Go.Proofs.Ytampdabniahncaa Go.Proofs.Ytampdabniahncaa.PCast Go.Proofs.YtampdabniahncaaW.PrintWords Go.Proofs.YtampdabniahncaaW.PrintLast

theorem toList_nil (s : ByteArray) : s.toList = [] ↔ s = ⟨#[]⟩ := by
  rw [ByteArray.toList_eq]
  constructor
  · intro h
    exact Go.WideShapes.bytes_inj (by simpa using h)
  · rintro rfl; rfl
theorem toList_inj {s t : ByteArray} : s.toList = t.toList ↔ s = t := by
  rw [ByteArray.toList_eq, ByteArray.toList_eq]
  exact ⟨fun h => Go.WideShapes.bytes_inj h, fun h => by rw [h]⟩
theorem empty_mk : ByteArray.empty = ⟨#[]⟩ := rfl

theorem four_true : wardmotelaw16_four.f = some true := by
  simp only [wardmotelaw16_four.f, ByteArray.toList_eq]
  decide +kernel

/-- s has at least so many of the first k votes, and is not the empty one. -/
def Has (ss : List ByteArray) (least k : Nat) (s : ByteArray) : Prop := s ≠ ⟨#[]⟩ ∧ least ≤ cnt ss k s

theorem cnt_zero (ss : List ByteArray) (s : ByteArray) : cnt ss 0 s = 0 := by simp [cnt]

theorem pick_ok (ss : List ByteArray) (least : Nat) (hl : 1 ≤ least) : ∀ k, k ≤ ss.length →
    ((pick least ss k).2 = 0 ∧ ∀ s, ¬ Has ss least k s) ∨
    ((pick least ss k).2 = 1 ∧ ∀ s, Has ss least k s ↔ s = (pick least ss k).1) ∨
    (2 ≤ (pick least ss k).2 ∧ ∃ s t, s ≠ t ∧ Has ss least k s ∧ Has ss least k t)
  | 0, _ => by
    refine .inl ⟨rfl, fun s h => ?_⟩
    have := h.2
    rw [cnt_zero] at this
    omega
  | k + 1, hk => by
    have ih := pick_ok ss least hl k (by omega)
    generalize hv : ss.getD k ByteArray.empty = v
    have hc : ∀ s, cnt ss (k + 1) s = cnt ss k s + if v = s then 1 else 0 := fun s => by rw [cnt_succ ss k (by omega), hv]
    have hother : ∀ s, s ≠ v → (Has ss least (k + 1) s ↔ Has ss least k s) := fun s hs => by
      unfold Has
      rw [hc s, if_neg (fun e => hs e.symm)]
      rfl
    by_cases hit : ¬ v.toList = [] ∧ (cnt ss (k + 1) v : Int) = least
    · have hp : pick least ss (k + 1) = (v, (pick least ss k).2 + 1) := by rw [pick, hv, if_pos hit]
      have hne : v ≠ ⟨#[]⟩ := fun e => hit.1 ((toList_nil v).2 e)
      have hcv : cnt ss (k + 1) v = least := by omega
      have hold : ¬ Has ss least k v := fun h => by
        have := h.2
        have := hc v
        rw [if_pos rfl] at this
        omega
      have hnew : Has ss least (k + 1) v := ⟨hne, by omega⟩
      rw [hp]
      rcases ih with ⟨h0, h1⟩ | ⟨h0, h1⟩ | ⟨h0, s, t, hst, hs, ht⟩
      · refine .inr (.inl ⟨by simp [h0], fun s => ⟨fun h => ?_, fun h => h ▸ hnew⟩⟩)
        apply Classical.byContradiction
        intro e
        exact h1 s ((hother s e).1 h)
      · refine .inr (.inr ⟨by simp [h0], v, (pick least ss k).1, ?_, hnew, ?_⟩)
        · rintro e
          exact hold ((h1 v).2 e)
        · refine (hother _ ?_).2 ((h1 _).2 rfl)
          intro e
          exact hold (e ▸ (h1 _).2 rfl)
      · refine .inr (.inr ⟨by simp; omega, s, t, hst, ?_, ?_⟩)
        · exact (hother s (fun e => hold (e ▸ hs))).2 hs
        · exact (hother t (fun e => hold (e ▸ ht))).2 ht
    · have hp : pick least ss (k + 1) = pick least ss k := by rw [pick, hv, if_neg hit]
      have hsame : ∀ s, Has ss least (k + 1) s ↔ Has ss least k s := by
        intro s
        by_cases hs : s = v
        · subst hs
          unfold Has
          have h1 := hc s
          rw [if_pos rfl] at h1
          constructor
          · rintro ⟨a, b⟩
            refine ⟨a, ?_⟩
            have : ¬ cnt ss (k + 1) s = least := fun e => hit ⟨fun e' => a ((toList_nil s).1 e'), by rw [e]⟩
            omega
          · rintro ⟨a, b⟩
            exact ⟨a, by omega⟩
        · exact hother s hs
      rw [hp]
      rcases ih with ⟨h0, h1⟩ | ⟨h0, h1⟩ | ⟨h0, s, t, hst, hs, ht⟩
      · exact .inl ⟨h0, fun s h => h1 s ((hsame s).1 h)⟩
      · exact .inr (.inl ⟨h0, fun s => (hsame s).trans (h1 s)⟩)
      · exact .inr (.inr ⟨h0, s, t, hst, (hsame s).2 hs, (hsame t).2 ht⟩)

/-- What 'most' answers of a table's votes: the one that has enough; else nothing. -/
theorem most_ok (n f : Int) (least : Nat) (ss : List ByteArray) (ht : table n f = true) (hn : (ss.length : Int) = n) (hl : 1 ≤ least) :
    (∃ x, most n f least ss = (x, true, 0) ∧ ∀ s, Has ss least ss.length s ↔ s = x) ∨
    (most n f least ss = (⟨#[]⟩, false, 0) ∧ ∀ x, ¬ ∀ s, Has ss least ss.length s ↔ s = x) := by
  unfold most
  rw [if_pos ⟨ht, hn⟩]
  rcases pick_ok ss least hl ss.length (Nat.le_refl _) with ⟨h0, h1⟩ | ⟨h0, h1⟩ | ⟨h0, s, t, hst, hs, ht⟩
  · rw [if_neg (by omega)]
    exact .inr ⟨rfl, fun x h => h1 x ((h x).2 rfl)⟩
  · rw [if_pos h0]
    exact .inl ⟨_, rfl, h1⟩
  · rw [if_neg (by omega)]
    exact .inr ⟨rfl, fun x h => hst (((h s).1 hs).trans ((h t).1 ht).symm)⟩

theorem table_iff (n f : Int) : table n f = true ↔ 1 ≤ n ∧ n ≤ 10 ∧ 0 ≤ f ∧ f < n ∧ 3 * f < n := by simp [table]


/-- What a call answers where so many votes are asked for. -/
def Ans (ss : List ByteArray) (least : Nat) (r : ByteArray × Bool × Int) : Prop :=
  (∃ x, r = (x, true, 0) ∧ ∀ s, Has ss least ss.length s ↔ s = x) ∨ (r = (⟨#[]⟩, false, 0) ∧ ∀ x, ¬ ∀ s, Has ss least ss.length s ↔ s = x)
theorem Ans.unique {ss : List ByteArray} {least : Nat} {r r' : ByteArray × Bool × Int} (h : Ans ss least r) (h' : Ans ss least r') : r = r' := by
  rcases h with ⟨x, rfl, hx⟩ | ⟨rfl, hx⟩ <;> rcases h' with ⟨y, rfl, hy⟩ | ⟨rfl, hy⟩
  · rw [(hy x).1 ((hx x).2 rfl)]
  · exact absurd hx (hy x)
  · exact absurd hy (hx y)
  · rfl

theorem refTable_eq (a0 a1 : Int) : wardmoteref15_Table.f a0 a1 = some (table a0 a1) := by
  unfold wardmoteref15_Table.f table
  by_cases h1 : a0 ≥ 1
  · by_cases h2 : a0 ≤ 10
    · by_cases h3 : a1 ≥ 0
      · by_cases h4 : a1 ≤ 3
        · rw [if_pos h1, if_pos h2, if_pos h3, if_pos h4]
          congr 1
          rw [show wrap64 (3 * a1) = 3 * a1 by unfold wrap64; omega, decide_eq_decide]
          omega
        · rw [if_pos h1, if_pos h2, if_pos h3, if_neg h4]
          congr 1
          symm
          rw [decide_eq_false_iff_not]
          omega
      · rw [if_pos h1, if_pos h2, if_neg h3]
        congr 1
        symm
        rw [decide_eq_false_iff_not]
        omega
    · rw [if_pos h1, if_neg h2]
      congr 1
      symm
      rw [decide_eq_false_iff_not]
      omega
  · rw [if_neg h1]
    congr 1
    symm
    rw [decide_eq_false_iff_not]
    omega

theorem castTable_eq (a0 a1 : Int) : cast_Table.f a0 a1 = some (table a0 a1) := by
  unfold cast_Table.f table
  by_cases h1 : a0 ≥ 1
  · by_cases h2 : a0 ≤ 10
    · by_cases h3 : a1 ≥ 0
      · by_cases h4 : a1 < a0
        · rw [if_pos h1, if_pos h2, if_pos h3, if_pos h4]
          congr 1
          rw [show wrap64 (3 * a1) = 3 * a1 by unfold wrap64; omega, decide_eq_decide]
          omega
        · rw [if_pos h1, if_pos h2, if_pos h3, if_neg h4]
          congr 1
          symm
          rw [decide_eq_false_iff_not]
          omega
      · rw [if_pos h1, if_pos h2, if_neg h3]
        congr 1
        symm
        rw [decide_eq_false_iff_not]
        omega
    · rw [if_pos h1, if_neg h2]
      congr 1
      symm
      rw [decide_eq_false_iff_not]
      omega
  · rw [if_neg h1]
    congr 1
    symm
    rw [decide_eq_false_iff_not]
    omega

theorem rd_getD (ss : List ByteArray) (i : Nat) : rdOf ByteArray.empty ss (i : Int) = ss.getD i ByteArray.empty := by simp [rdOf]

theorem cnt_mono (ss : List ByteArray) (s : ByteArray) {i j : Nat} (h : i ≤ j) : cnt ss i s ≤ cnt ss j s := by
  unfold cnt
  have : ss.take i = (ss.take j).take i := by rw [List.take_take, Nat.min_eq_left h]
  rw [this]
  exact List.Sublist.countP_le (List.take_sublist _ _)

theorem count_l0 (ss : List ByteArray) (s : ByteArray) (hs : ss.length ≤ 1000000) (d : Nat) : ∀ (k i : Nat) , i + d = ss.length → d < k →
    wardmoteref16_Count.l0 k s (cnt ss i s : Nat) ss (ss.length : Int) i = some ((cnt ss ss.length s : Nat) : Int) := by
  induction d with
  | zero =>
    intro k i hi hk
    obtain ⟨k, rfl⟩ : ∃ m, k = m + 1 := ⟨k - 1, by omega⟩
    simp only [wardmoteref16_Count.l0]
    rw [if_neg (by omega)]
    obtain rfl : i = ss.length := by omega
    rfl
  | succ d ih =>
    intro k i hi hk
    obtain ⟨k, rfl⟩ : ∃ m, k = m + 1 := ⟨k - 1, by omega⟩
    have hc := cnt_succ ss i (by omega) s
    have hle := cnt_le ss i s
    have e1 : wrap64 ((i : Int) + 1) = ((i + 1 : Nat) : Int) := by unfold wrap64; omega
    have e2 : wrap64 (((cnt ss i s : Nat) : Int) + 1) = ((cnt ss i s + 1 : Nat) : Int) := by unfold wrap64; omega
    simp only [wardmoteref16_Count.l0]
    rw [if_pos (by omega), if_pos (by omega), if_pos (by omega), rd_getD, e1, e2]
    by_cases h : ss.getD i ByteArray.empty = s
    · rw [if_pos (toList_inj.2 h)]
      rw [if_pos h] at hc
      rw [← hc]
      exact ih k (i + 1) (by omega) (by omega)
    · rw [if_neg (fun e => h (toList_inj.1 e))]
      rw [if_neg h] at hc
      have hc' : cnt ss i s = cnt ss (i + 1) s := by omega
      rw [hc']
      exact ih k (i + 1) (by omega) (by omega)
theorem count_eq (ss : List ByteArray) (s : ByteArray) (hs : ss.length ≤ 1000000) (k : Nat) (hk : ss.length < k) : wardmoteref16_Count.f k ss s = some ((cnt ss ss.length s : Nat) : Int) := by
  unfold wardmoteref16_Count.f
  have := count_l0 ss s hs ss.length k 0 (by omega) hk
  rw [cnt_zero] at this
  exact this

theorem has_mem {ss : List ByteArray} {least : Nat} (hl : 1 ≤ least) {s : ByteArray} (h : Has ss least ss.length s) : ∃ i, i < ss.length ∧ ss.getD i ByteArray.empty = s := by
  have h2 := h.2
  unfold cnt at h2
  rw [List.take_length] at h2
  have : 0 < ss.countP (fun x => decide (x = s)) := by omega
  obtain ⟨x, hx, hxs⟩ := List.countP_pos_iff.1 this
  obtain ⟨i, hi, rfl⟩ := List.mem_iff_getElem.1 hx
  exact ⟨i, hi, by rw [List.getD, List.getElem?_eq_getElem hi]; exact of_decide_eq_true hxs⟩

/-- The reference's loop. -/
theorem ref_l0 (ss : List ByteArray) (least : Nat) (hl : 1 ≤ least) (hs : ss.length ≤ 1000000) (d : Nat) : ∀ (k i : Nat) (out : ByteArray), i + d = ss.length → 2 * d + ss.length + 2 ≤ k →
    ((out = ⟨#[]⟩ ∧ ∀ j, j < i → ¬ Has ss least ss.length (ss.getD j ByteArray.empty)) ∨ (Has ss least ss.length out ∧ ∀ j, j < i → Has ss least ss.length (ss.getD j ByteArray.empty) → ss.getD j ByteArray.empty = out)) →
    ∃ r, wardmoteref16_Most.l0 k (least : Int) ss out ss (ss.length : Int) i = some r ∧ Ans ss least r := by
  induction d with
  | zero =>
    intro k i out hi hk hinv
    obtain ⟨k, rfl⟩ : ∃ m, k = m + 1 := ⟨k - 1, by omega⟩
    obtain rfl : i = ss.length := by omega
    refine ⟨(out, (out.toList != ([] : List UInt8)), 0), by simp only [wardmoteref16_Most.l0]; rw [if_neg (by omega)], ?_⟩
    rcases hinv with ⟨rfl, h⟩ | ⟨ho, h⟩
    · refine .inr ⟨by rw [(toList_nil _).2 rfl]; rfl, fun x hx => ?_⟩
      obtain ⟨j, hj, e⟩ := has_mem hl ((hx x).2 rfl)
      exact h j hj (e ▸ (hx x).2 rfl)
    · refine .inl ⟨out, by rw [bne_iff_ne.2 (fun e => ho.1 ((toList_nil _).1 e))], fun s => ⟨fun hs => ?_, fun e => e ▸ ho⟩⟩
      obtain ⟨j, hj, rfl⟩ := has_mem hl hs
      exact h j hj hs
  | succ d ih =>
    intro k i out hi hk hinv
    obtain ⟨k, rfl⟩ : ∃ m, k = m + 2 := ⟨k - 2, by omega⟩
    have e1 : wrap64 ((i : Int) + 1) = ((i + 1 : Nat) : Int) := by unfold wrap64; omega
    generalize hv : ss.getD i ByteArray.empty = v at *
    have hnot : ¬ Has ss least ss.length v → ((out = ⟨#[]⟩ ∧ ∀ j, j < i + 1 → ¬ Has ss least ss.length (ss.getD j ByteArray.empty)) ∨ (Has ss least ss.length out ∧ ∀ j, j < i + 1 → Has ss least ss.length (ss.getD j ByteArray.empty) → ss.getD j ByteArray.empty = out)) := by
      intro hn
      rcases hinv with ⟨rfl, h⟩ | ⟨ho, h⟩
      · refine .inl ⟨rfl, fun j hj => ?_⟩
        by_cases e : j = i
        · rw [e, hv]; exact hn
        · exact h j (by omega)
      · refine .inr ⟨ho, fun j hj hh => ?_⟩
        by_cases e : j = i
        · rw [e, hv] at hh; exact absurd hh hn
        · exact h j (by omega) hh
    have goon : ((out = ⟨#[]⟩ ∧ ∀ j, j < i + 1 → ¬ Has ss least ss.length (ss.getD j ByteArray.empty)) ∨ (Has ss least ss.length out ∧ ∀ j, j < i + 1 → Has ss least ss.length (ss.getD j ByteArray.empty) → ss.getD j ByteArray.empty = out)) → ∃ r, wardmoteref16_Most.j2 (k + 1) (least : Int) ss out v ss (ss.length : Int) i true = some r ∧ Ans ss least r := by
      intro h
      rw [wardmoteref16_Most.j2, if_pos rfl, e1]
      exact ih k (i + 1) out (by omega) (by omega) h
    rw [wardmoteref16_Most.l0, if_pos (by omega), if_pos (by omega), if_pos (by omega), rd_getD, hv]
    by_cases h0 : v.toList = []
    · rw [if_pos h0]
      exact goon (hnot (fun h => h.1 ((toList_nil v).1 h0)))
    · rw [if_neg h0]
      have hv0 : v ≠ ⟨#[]⟩ := fun e => h0 ((toList_nil v).2 e)
      by_cases h1 : v = out
      · rw [if_pos (toList_inj.2 h1)]
        refine goon ?_
        rcases hinv with ⟨rfl, h⟩ | ⟨ho, h⟩
        · exact absurd h1 hv0
        · refine .inr ⟨ho, fun j hj hh => ?_⟩
          by_cases e : j = i
          · rw [e, hv]; exact h1
          · exact h j (by omega) hh
      · rw [if_neg (fun e => h1 (toList_inj.1 e)), count_eq ss v hs (k + 1) (by omega)]
        simp only [Option.bind_some]
        by_cases h2 : cnt ss ss.length v < least
        · rw [decide_eq_true (by omega)]
          exact goon (hnot (fun h => by have := h.2; omega))
        · rw [decide_eq_false (by omega)]
          have hh : Has ss least ss.length v := ⟨hv0, by omega⟩
          rw [wardmoteref16_Most.j2, if_neg (by decide)]
          rcases hinv with ⟨rfl, h⟩ | ⟨ho, h⟩
          · rw [if_pos ((toList_nil _).2 rfl), e1]
            refine ih k (i + 1) v (by omega) (by omega) (.inr ⟨hh, fun j hj hj' => ?_⟩)
            by_cases e : j = i
            · rw [e, hv]
            · exact absurd hj' (h j (by omega))
          · rw [if_neg (fun e => ho.1 ((toList_nil _).1 e))]
            exact ⟨_, rfl, .inr ⟨rfl, fun x hx => h1 (((hx v).1 hh).trans ((hx out).1 ho).symm)⟩⟩

/-- The reference. -/
theorem refMost_eq (n f : Int) (least : Nat) (ss : List ByteArray) (hl : table n f = true → 1 ≤ least) (hs : ss.length ≤ 1000000) (k : Nat) (hk : 3 * ss.length + 10 ≤ k) :
    wardmoteref16_Most.f k n f (least : Int) ss = some (most n f least ss) := by
  unfold wardmoteref16_Most.f
  rw [refTable_eq]
  simp only [Option.bind_some]
  obtain ⟨k, rfl⟩ : ∃ m, k = m + 1 := ⟨k - 1, by omega⟩
  by_cases ht : table n f = true
  · rw [if_pos ht]
    by_cases hn : (ss.length : Int) = n
    · rw [bne_eq_false_iff_eq.2 hn, wardmoteref16_Most.j0, if_neg (by decide)]
      obtain ⟨r, hr, ha⟩ := ref_l0 ss least (hl ht) hs ss.length k 0 ⟨#[]⟩ (by omega) (by omega) (.inl ⟨rfl, fun j hj => absurd hj (Nat.not_lt_zero j)⟩)
      have hr' : wardmoteref16_Most.l0 k (least : Int) ss ⟨#[]⟩ ss (ss.length : Int) 0 = some r := hr
      rw [hr', Ans.unique ha (most_ok n f least ss ht hn (hl ht))]
    · rw [bne_iff_ne.2 hn, wardmoteref16_Most.j0, if_pos rfl]
      simp [most, hn]
  · rw [if_neg ht, wardmoteref16_Most.j0, if_pos rfl]
    simp [most, ht]

theorem size_ok {ss : List ByteArray} (h : ∀ s ∈ ss, s.size ≤ 140737488351232) : ss.all (fun s => decide (s.size ≤ maxLen)) = true := by
  rw [List.all_eq_true]
  intro s hs
  have := h s hs
  exact decide_eq_true (Nat.le_trans this (by decide))
theorem castMost_eq (a0 a1 a2 : Int) {ss : List ByteArray} (h : ∀ s ∈ ss, s.size ≤ 140737488351232) : cast_most.f a0 a1 a2 ss = some (most a0 a1 a2 ss) := by
  unfold cast_most.f
  rw [if_pos (size_ok h)]

end Go.Proofs.Ytampdabniahncaa.Plain
