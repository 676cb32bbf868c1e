/- Heaps as lists: what container/heap's up and down make of a list. Plain. -/
import Derived.Test.YtmanlmhiiijlmaaProg
namespace Go.Proofs.Ytmanlmhiiijlmaa.HL
variable {α : Type} (d : α) (lt : α → α → Bool)
def g (l : List α) (i : Nat) : α := l.getD i d
def swap (l : List α) (i j : Nat) : List α := (l.set i (g d l j)).set j (g d l i)
theorem swap_len (l : List α) (i j : Nat) : (swap d l i j).length = l.length := by simp [swap]
theorem g_set (l : List α) (i k : Nat) (x : α) (hi : i < l.length) : g d (l.set i x) k = if k = i then x else g d l k := by
  unfold g
  rw [List.getD_eq_getElem?_getD, List.getElem?_set]
  by_cases h : i = k
  · subst h
    simp [hi]
  · rw [if_neg h, if_neg (fun e => h e.symm), List.getD_eq_getElem?_getD]
theorem g_swap (l : List α) (i j k : Nat) (hi : i < l.length) (hj : j < l.length) : g d (swap d l i j) k = if k = j then g d l i else if k = i then g d l j else g d l k := by
  unfold swap
  rw [g_set d _ _ _ _ (by simpa using hj)]
  split
  · rfl
  · rw [g_set d _ _ _ _ hi]
theorem swap_self (l : List α) (i : Nat) (hi : i < l.length) : swap d l i i = l := by
  unfold swap g
  rw [List.set_set, List.getD_eq_getElem?_getD, List.getElem?_eq_getElem hi]
  simp
theorem swap_perm (l : List α) (i j : Nat) (hi : i < l.length) (hj : j < l.length) : (swap d l i j).Perm l := by
  unfold swap g
  rw [List.getD_eq_getElem?_getD, List.getD_eq_getElem?_getD, List.getElem?_eq_getElem hi, List.getElem?_eq_getElem hj]
  exact List.set_set_perm hi hj
def par (k : Nat) : Nat := (k - 1) / 2
def IsHeap (l : List α) (n : Nat) : Prop := ∀ k, 0 < k → k < n → lt (g d l k) (g d l (par k)) = false
/-- Laws of an order: not the other way round; not greater goes on. -/
structure Ord : Prop where
  asym : ∀ a b, lt a b = true → lt b a = false
  trans : ∀ a b c, lt b a = false → lt c b = false → lt c a = false
theorem Ord.strict {lt : α → α → Bool} (o : Ord lt) {a b c : α} (h : lt a b = true) (k : lt c b = false) : lt c a = false := o.trans a b c (o.asym a b h) k
theorem Ord.strict' {lt : α → α → Bool} (o : Ord lt) {a b c : α} (h : lt b a = false) (k : lt b c = true) : lt c a = false := o.trans a b c h (o.asym b c k)
def up : Nat → List α → Nat → List α
  | 0, l, _ => l
  | f + 1, l, j => if j = 0 then l else if lt (g d l j) (g d l (par j)) then up f (swap d l (par j) j) (par j) else l
structure UpInv (l : List α) (n j : Nat) : Prop where
  rest : ∀ k, 0 < k → k < n → k ≠ j → lt (g d l k) (g d l (par k)) = false
  kids : ∀ k, 0 < k → k < n → par k = j → 0 < j → lt (g d l k) (g d l (par j)) = false
theorem par_lt {j : Nat} (h : 0 < j) : par j < j := by unfold par; omega
theorem up_step (o : Ord lt) {l : List α} {n j : Nat} (h : UpInv d lt l n j) (hn : n ≤ l.length) (hj : j < n) (h0 : 0 < j) (hlt : lt (g d l j) (g d l (par j)) = true) : UpInv d lt (swap d l (par j) j) n (par j) := by
  have hp := par_lt h0
  have G := fun k => g_swap d l (par j) j k (by omega) (by omega)
  refine ⟨fun k k0 kn kne => ?_, fun k k0 kn kp p0 => ?_⟩
  · by_cases e : k = j
    · subst e
      rw [G, G, if_pos rfl, if_neg (by omega), if_pos rfl]
      exact o.asym _ _ hlt
    · rw [G k, if_neg e, if_neg kne, G]
      by_cases e1 : par k = j
      · rw [if_pos e1]
        exact h.kids k k0 kn e1 h0
      · rw [if_neg e1]
        by_cases e2 : par k = par j
        · rw [if_pos e2]
          have := h.rest k k0 kn e
          rw [e2] at this
          exact o.strict hlt this
        · rw [if_neg e2]
          exact h.rest k k0 kn e
  · have hpp := par_lt p0
    rw [G (par (par j)), if_neg (by omega), if_neg (by omega), G]
    have hi := h.rest (par j) p0 (by omega) (by omega)
    by_cases e : k = j
    · rw [if_pos e]
      exact hi
    · rw [if_neg e, if_neg (by have := par_lt k0; omega)]
      have := h.rest k k0 kn e
      rw [kp] at this
      exact o.trans _ _ _ hi this
theorem up_end {l : List α} {n j : Nat} (h : UpInv d lt l n j) (he : j = 0 ∨ lt (g d l j) (g d l (par j)) = false) : IsHeap d lt l n := by
  intro k k0 kn
  by_cases e : k = j
  · subst e
    rcases he with he | he
    · omega
    · exact he
  · exact h.rest k k0 kn e
theorem up_heap (o : Ord lt) : ∀ (f : Nat) (l : List α) (n j : Nat), UpInv d lt l n j → n ≤ l.length → j < n → j < f → IsHeap d lt (up d lt f l j) n
  | 0, _, _, _, _, _, _, hf => by omega
  | f + 1, l, n, j, h, hn, hj, hf => by
    rw [up]
    by_cases h0 : j = 0
    · rw [if_pos h0]
      exact up_end d lt h (.inl h0)
    · rw [if_neg h0]
      by_cases hlt : lt (g d l j) (g d l (par j)) = true
      · rw [if_pos hlt]
        have hp := par_lt (Nat.pos_of_ne_zero h0)
        exact up_heap o f _ n _ (up_step d lt o h hn hj (Nat.pos_of_ne_zero h0) hlt) (by rw [swap_len]; exact hn) (by omega) (by omega)
      · rw [if_neg hlt]
        exact up_end d lt h (.inr (by simpa using hlt))
theorem up_perm : ∀ (f : Nat) (l : List α) (j : Nat), j < l.length → (up d lt f l j).Perm l
  | 0, _, _, _ => .refl _
  | f + 1, l, j, hj => by
    rw [up]
    split
    · exact .refl _
    · split
      · rename_i h0 _
        have hp := par_lt (Nat.pos_of_ne_zero h0)
        exact (up_perm f _ _ (by rw [swap_len]; omega)).trans (swap_perm d l _ _ (by omega) hj)
      · exact .refl _
theorem up_len : ∀ (f : Nat) (l : List α) (j : Nat), (up d lt f l j).length = l.length
  | 0, _, _ => rfl
  | f + 1, l, j => by
    rw [up]
    split
    · rfl
    · split
      · rw [up_len f, swap_len]
      · rfl
theorem up_more : ∀ (f f' : Nat) (l : List α) (j : Nat), j < f → j < f' → up d lt f l j = up d lt f' l j
  | 0, _, _, _, h, _ => by omega
  | f + 1, 0, _, _, _, h => by omega
  | f + 1, f' + 1, l, j, h, h' => by
    rw [up, up]
    by_cases h0 : j = 0
    · rw [if_pos h0, if_pos h0]
    · have hp := par_lt (Nat.pos_of_ne_zero h0)
      rw [if_neg h0, if_neg h0, up_more f f' _ _ (by omega) (by omega)]
/-- Which child is the lesser one. -/
def kid (l : List α) (n i : Nat) : Nat := if 2 * i + 2 < n ∧ lt (g d l (2 * i + 2)) (g d l (2 * i + 1)) = true then 2 * i + 2 else 2 * i + 1
def down : Nat → List α → Nat → Nat → List α × Nat
  | 0, l, _, i => (l, i)
  | f + 1, l, n, i => if n ≤ 2 * i + 1 then (l, i) else if lt (g d l (kid d lt l n i)) (g d l i) then down f (swap d l i (kid d lt l n i)) n (kid d lt l n i) else (l, i)
structure DownInv (l : List α) (n i : Nat) : Prop where
  rest : ∀ k, 0 < k → k < n → par k ≠ i → lt (g d l k) (g d l (par k)) = false
  kids : ∀ k, 0 < k → k < n → par k = i → 0 < i → lt (g d l k) (g d l (par i)) = false
theorem kid_lt {l : List α} {n i : Nat} (h : ¬ n ≤ 2 * i + 1) : kid d lt l n i < n ∧ i < kid d lt l n i ∧ par (kid d lt l n i) = i ∧ 0 < kid d lt l n i := by
  unfold kid par
  split <;> omega
theorem kid_least (o : Ord lt) {l : List α} {n i k : Nat} (k0 : 0 < k) (kn : k < n) (kp : par k = i) : lt (g d l k) (g d l (kid d lt l n i)) = false := by
  have hk : k = 2 * i + 1 ∨ k = 2 * i + 2 := by unfold par at kp; omega
  have irr : ∀ a, lt a a = false := fun a => by
    by_cases h : lt a a = true
    · exact o.asym a a h
    · simpa using h
  unfold kid
  split
  · rename_i h
    rcases hk with rfl | rfl
    · exact o.asym _ _ h.2
    · exact irr _
  · rename_i h
    rcases hk with rfl | rfl
    · exact irr _
    · by_cases hl : lt (g d l (2 * i + 2)) (g d l (2 * i + 1)) = true
      · exact absurd ⟨kn, hl⟩ h
      · simpa using hl
theorem down_step (o : Ord lt) {l : List α} {n i : Nat} (h : DownInv d lt l n i) (hn : n ≤ l.length) (hk : ¬ n ≤ 2 * i + 1) (hlt : lt (g d l (kid d lt l n i)) (g d l i) = true) : DownInv d lt (swap d l i (kid d lt l n i)) n (kid d lt l n i) := by
  obtain ⟨j1, j2, j3, j4⟩ := kid_lt d lt (l := l) hk
  have L := fun k (k0 : 0 < k) (kn : k < n) (kp : par k = i) => kid_least d lt o (l := l) k0 kn kp
  generalize kid d lt l n i = j at *
  have G := fun k => g_swap d l i j k (by omega) (by omega)
  refine ⟨fun k k0 kn kne => ?_, fun k k0 kn kp _ => ?_⟩
  · have hpk := par_lt k0
    rw [G (par k), if_neg kne]
    by_cases e : k = j
    · subst e
      rw [G, if_pos rfl, if_pos j3]
      exact o.asym _ _ hlt
    · rw [G k, if_neg e]
      by_cases e1 : k = i
      · subst e1
        rw [if_pos rfl, if_neg (by omega)]
        exact h.kids j j4 j1 j3 k0
      · rw [if_neg e1]
        by_cases e2 : par k = i
        · rw [if_pos e2]
          exact L k k0 kn e2
        · rw [if_neg e2]
          exact h.rest k k0 kn e2
  · have hpk := par_lt k0
    rw [j3, G i, if_neg (by omega), if_pos rfl, G k, if_neg (by omega), if_neg (by omega)]
    have := h.rest k k0 kn (by omega)
    rw [kp] at this
    exact this
theorem down_end (o : Ord lt) {l : List α} {n i : Nat} (h : DownInv d lt l n i) (he : n ≤ 2 * i + 1 ∨ lt (g d l (kid d lt l n i)) (g d l i) = false) : IsHeap d lt l n := by
  intro k k0 kn
  by_cases e : par k = i
  · rcases he with he | he
    · unfold par at e; omega
    · rw [e]
      exact o.trans _ _ _ he (kid_least d lt o k0 kn e)
  · exact h.rest k k0 kn e
theorem down_heap (o : Ord lt) : ∀ (f : Nat) (l : List α) (n i : Nat), DownInv d lt l n i → n ≤ l.length → n ≤ i + f → IsHeap d lt (down d lt f l n i).1 n
  | 0, l, n, i, h, hn, hf => by
    rw [down]
    exact down_end d lt o h (.inl (by omega))
  | f + 1, l, n, i, h, hn, hf => by
    rw [down]
    by_cases hk : n ≤ 2 * i + 1
    · rw [if_pos hk]
      exact down_end d lt o h (.inl hk)
    · rw [if_neg hk]
      by_cases hlt : lt (g d l (kid d lt l n i)) (g d l i) = true
      · rw [if_pos hlt]
        have := (kid_lt d lt (l := l) hk).2.1
        exact down_heap o f _ n _ (down_step d lt o h hn hk hlt) (by rw [swap_len]; exact hn) (by omega)
      · rw [if_neg hlt]
        exact down_end d lt o h (.inr (by simpa using hlt))
theorem down_perm : ∀ (f : Nat) (l : List α) (n i : Nat), n ≤ l.length → (down d lt f l n i).1.Perm l
  | 0, _, _, _, _ => .refl _
  | f + 1, l, n, i, hn => by
    rw [down]
    split
    · exact .refl _
    · split
      · rename_i hk _
        obtain ⟨j1, j2, -, -⟩ := kid_lt d lt (l := l) hk
        exact (down_perm f _ n _ (by rw [swap_len]; exact hn)).trans (swap_perm d l _ _ (by omega) (by omega))
      · exact .refl _
theorem down_len : ∀ (f : Nat) (l : List α) (n i : Nat), (down d lt f l n i).1.length = l.length
  | 0, _, _, _ => rfl
  | f + 1, l, n, i => by
    rw [down]
    split
    · rfl
    · split
      · rw [down_len f, swap_len]
      · rfl
theorem down_ge : ∀ (f : Nat) (l : List α) (n i : Nat), i ≤ (down d lt f l n i).2
  | 0, _, _, _ => Nat.le_refl _
  | f + 1, l, n, i => by
    rw [down]
    split
    · exact Nat.le_refl _
    · split
      · rename_i hk _
        exact Nat.le_trans (Nat.le_of_lt (kid_lt d lt (l := l) hk).2.1) (down_ge f _ n _)
      · exact Nat.le_refl _
/-- What lies from n on stays. -/
theorem down_far : ∀ (f : Nat) (l : List α) (n i k : Nat), n ≤ l.length → n ≤ k → g d (down d lt f l n i).1 k = g d l k
  | 0, _, _, _, _, _, _ => rfl
  | f + 1, l, n, i, k, hn, hk => by
    rw [down]
    split
    · rfl
    · split
      · rename_i hc _
        obtain ⟨j1, j2, -, -⟩ := kid_lt d lt (l := l) hc
        rw [down_far f _ n _ k (by rw [swap_len]; exact hn) hk, g_swap d l _ _ _ (by omega) (by omega), if_neg (by omega), if_neg (by omega)]
      · rfl
theorem up_far : ∀ (f : Nat) (l : List α) (j k : Nat), j < l.length → j < k → g d (up d lt f l j) k = g d l k
  | 0, _, _, _, _, _ => rfl
  | f + 1, l, j, k, hj, hk => by
    rw [up]
    split
    · rfl
    · split
      · rename_i h0 _
        have hp := par_lt (Nat.pos_of_ne_zero h0)
        rw [up_far f _ _ k (by rw [swap_len]; omega) (by omega), g_swap d l _ _ _ (by omega) hj, if_neg (by omega), if_neg (by omega)]
      · rfl
/-- A heap but for one place, into which something was put. -/
structure FixInv (l : List α) (n i : Nat) : Prop where
  rest : ∀ k, 0 < k → k < n → k ≠ i → par k ≠ i → lt (g d l k) (g d l (par k)) = false
  kids : ∀ k, 0 < k → k < n → par k = i → 0 < i → lt (g d l k) (g d l (par i)) = false
/-- down, and up where down moved nothing. -/
def fix (f : Nat) (l : List α) (n i : Nat) : List α := if i < (down d lt f l n i).2 then (down d lt f l n i).1 else up d lt f (down d lt f l n i).1 i
theorem fix_heap (o : Ord lt) (f : Nat) {l : List α} {n i : Nat} (h : FixInv d lt l n i) (hn : n ≤ l.length) (hi : i < n) (hf : n ≤ f) : IsHeap d lt (fix d lt f l n i) n := by
  obtain ⟨f, rfl⟩ : ∃ m, f = m + 1 := ⟨f - 1, by omega⟩
  have stay : (n ≤ 2 * i + 1 ∨ lt (g d l (kid d lt l n i)) (g d l i) = false) → UpInv d lt l n i := by
    intro he
    refine ⟨fun k k0 kn kne => ?_, h.kids⟩
    by_cases e : par k = i
    · rcases he with he | he
      · unfold par at e; omega
      · rw [e]
        exact o.trans _ _ _ he (kid_least d lt o k0 kn e)
    · exact h.rest k k0 kn kne e
  unfold fix
  by_cases hk : n ≤ 2 * i + 1
  · have e : down d lt (f + 1) l n i = (l, i) := by rw [down, if_pos hk]
    rw [e, if_neg (Nat.lt_irrefl _)]
    exact up_heap d lt o _ l n i (stay (.inl hk)) hn hi (by omega)
  · by_cases hlt : lt (g d l (kid d lt l n i)) (g d l i) = true
    · have e : down d lt (f + 1) l n i = down d lt f (swap d l i (kid d lt l n i)) n (kid d lt l n i) := by rw [down, if_neg hk, if_pos hlt]
      obtain ⟨j1, j2, j3, j4⟩ := kid_lt d lt (l := l) hk
      have hge := down_ge d lt f (swap d l i (kid d lt l n i)) n (kid d lt l n i)
      rw [e, if_pos (by omega)]
      have hD : DownInv d lt l n i := ⟨fun k k0 kn kne => by
        by_cases e : k = i
        · subst e
          exact o.strict' (h.kids _ j4 j1 j3 k0) hlt
        · exact h.rest k k0 kn e kne, h.kids⟩
      exact down_heap d lt o f _ n _ (down_step d lt o hD hn hk hlt) (by rw [swap_len]; exact hn) (by omega)
    · have e : down d lt (f + 1) l n i = (l, i) := by rw [down, if_neg hk, if_neg hlt]
      rw [e, if_neg (Nat.lt_irrefl _)]
      exact up_heap d lt o _ l n i (stay (.inr (by simpa using hlt))) hn hi (by omega)
theorem fix_perm (f : Nat) {l : List α} {n i : Nat} (hn : n ≤ l.length) (hi : i < n) : (fix d lt f l n i).Perm l := by
  unfold fix
  split
  · exact down_perm d lt f l n i hn
  · exact (up_perm d lt f _ i (by rw [down_len]; omega)).trans (down_perm d lt f l n i hn)
theorem fix_len (f : Nat) (l : List α) (n i : Nat) : (fix d lt f l n i).length = l.length := by
  unfold fix
  split
  · exact down_len d lt f l n i
  · rw [up_len, down_len]
theorem fix_far (f : Nat) {l : List α} {n i k : Nat} (hn : n ≤ l.length) (hi : i < n) (hk : n ≤ k) : g d (fix d lt f l n i) k = g d l k := by
  unfold fix
  split
  · exact down_far d lt f l n i k hn hk
  · rw [up_far d lt f _ i k (by rw [down_len]; omega) (by omega), down_far d lt f l n i k hn hk]
/-- The first of a heap is none's greater. -/
theorem heap_min (o : Ord lt) {l : List α} {n : Nat} (h : IsHeap d lt l n) : ∀ k, k < n → lt (g d l k) (g d l 0) = false := by
  have irr : ∀ a, lt a a = false := fun a => by
    by_cases h : lt a a = true
    · exact o.asym a a h
    · simpa using h
  intro k
  induction k using Nat.strongRecOn with
  | _ k ih =>
    intro hk
    by_cases k0 : k = 0
    · rw [k0]; exact irr _
    · have hp := par_lt (Nat.pos_of_ne_zero k0)
      exact o.trans _ _ _ (ih _ hp (by omega)) (h k (Nat.pos_of_ne_zero k0) hk)
end Go.Proofs.Ytmanlmhiiijlmaa.HL
