/- Plain facts on what nodes tell: who fails, what one node hears. Nothing of the program's run in sight. -/
import Derived.Test.YtampdabniahncaaPlain
namespace Go.Proofs.Ytampdabniahncaa.Plain
open Go.RowKit Go.Proofs.Ytampdabniahncaa Go.Proofs.Ytampdabniahncaa.PCast Go.Proofs.YtampdabniahncaaW.PrintWords Go.Proofs.YtampdabniahncaaW.PrintLast

/-- Is bit i of set 1? -/
def bit (set : Int) (i : Nat) : Bool := decide (Go.bits .and .i64 (shr .i64 set (IntKind.u64.wrap (i : Int))) 1 = 1)
/-- How many of the first i bits are. -/
def nb (set : Int) : Nat → Nat
  | 0 => 0
  | i + 1 => nb set i + if bit set i then 1 else 0
def isbad (set f : Int) (i : Nat) : Bool := bit set i && decide ((nb set (i + 1) : Int) ≤ f)
theorem nb_le (set : Int) : ∀ i, nb set i ≤ i
  | 0 => Nat.le_refl _
  | i + 1 => by
    have := nb_le set i
    unfold nb
    split <;> omega

theorem bad_l0 (set f : Int) (i : Nat) (hi : i ≤ 1000) (d : Nat) : ∀ (k j : Nat), j + d = i + 1 → d < k →
    wardmotelaw16_bad.l0 k set f i (nb set j : Nat) j = some (isbad set f i) := by
  have hu : ∀ x : Nat, 0 ≤ IntKind.u64.wrap (x : Int) := fun x => by simp [IntKind.wrap, IntKind.signed, IntKind.bits]; omega
  induction d with
  | zero =>
    intro k j hj hk
    obtain ⟨k, rfl⟩ : ∃ m, k = m + 1 := ⟨k - 1, by omega⟩
    rw [wardmotelaw16_bad.l0, if_neg (by omega), if_pos (hu i)]
    obtain rfl : j = i + 1 := by omega
    unfold isbad
    by_cases h : Go.bits .and .i64 (shr .i64 set (IntKind.u64.wrap (i : Int))) 1 = 1
    · rw [if_pos h]
      simp [bit, h]
    · rw [if_neg h]
      simp [bit, h]
  | succ d ih =>
    intro k j hj hk
    obtain ⟨k, rfl⟩ : ∃ m, k = m + 1 := ⟨k - 1, by omega⟩
    have h1 := nb_le set j
    have e1 : wrap64 ((j : Int) + 1) = ((j + 1 : Nat) : Int) := by unfold wrap64; omega
    have e2 : wrap64 (((nb set j : Nat) : Int) + 1) = ((nb set j + 1 : Nat) : Int) := by unfold wrap64; omega
    rw [wardmotelaw16_bad.l0, if_pos (by omega), if_pos (hu j), e1, e2]
    have h2 := ih k (j + 1) (by omega) (by omega)
    by_cases h : Go.bits .and .i64 (shr .i64 set (IntKind.u64.wrap (j : Int))) 1 = 1
    · rw [if_pos h]
      have : nb set (j + 1) = nb set j + 1 := by simp [nb, bit, h]
      rw [← this]
      exact h2
    · rw [if_neg h]
      have : nb set (j + 1) = nb set j := by simp [nb, bit, h]
      rw [← this]
      exact h2
theorem bad_eq (set f : Int) (i : Nat) (hi : i ≤ 1000) (k : Nat) (hk : i + 1 < k) : wardmotelaw16_bad.f k set f i = some (isbad set f i) := bad_l0 set f i hi (i + 1) k 0 (by omega) hk

/-- At most f fail. -/
theorem bad_few (set f : Int) (hf : 0 ≤ f) : ∀ n, ((List.range n).countP (isbad set f) : Int) ≤ f ∧ (List.range n).countP (isbad set f) ≤ nb set n
  | 0 => ⟨by simpa using hf, by simp⟩
  | n + 1 => by
    obtain ⟨h1, h2⟩ := bad_few set f hf n
    rw [List.range_succ, List.countP_append]
    simp only [List.countP_cons, List.countP_nil, Nat.zero_add]
    by_cases h : isbad set f n = true
    · rw [if_pos h]
      have hb : bit set n = true ∧ (nb set (n + 1) : Int) ≤ f := by simpa [isbad] using h
      have hn : nb set (n + 1) = nb set n + 1 := by simp [nb, hb.1]
      omega
    · rw [if_neg h]
      have hn : nb set n ≤ nb set (n + 1) := by rw [nb]; omega
      omega

/-- What node i tells, as it is heard. -/
def vote (set f : Int) (H other : List ByteArray) (i : Nat) : ByteArray := if isbad set f i then other.getD i ⟨#[]⟩ else H.getD i ⟨#[]⟩
def heard (n : Nat) (set f : Int) (H other : List ByteArray) : List ByteArray := (List.range n).map (vote set f H other)
theorem heard_length (n : Nat) (set f : Int) (H other : List ByteArray) : (heard n set f H other).length = n := by simp [heard]
theorem heard_succ (n : Nat) (set f : Int) (H other : List ByteArray) : heard (n + 1) set f H other = heard n set f H other ++ [vote set f H other n] := by simp [heard, List.range_succ]

theorem votes_l0 (set f : Int) (H A B other : List ByteArray) (n : Nat) (hn : n ≤ 1000) (d : Nat) : ∀ (k i : Nat), i + d = n → n + d + 2 < k →
    wardmotelaw16_votes.l0 k n f other (heard i set f H other) i set H A B = some (heard n set f H other) := by
  induction d with
  | zero =>
    intro k i hi hk
    obtain ⟨k, rfl⟩ : ∃ m, k = m + 1 := ⟨k - 1, by omega⟩
    rw [wardmotelaw16_votes.l0, if_neg (by omega)]
    obtain rfl : i = n := by omega
    rfl
  | succ d ih =>
    intro k i hi hk
    obtain ⟨k, rfl⟩ : ∃ m, k = m + 1 := ⟨k - 1, by omega⟩
    have e1 : wrap64 ((i : Int) + 1) = ((i + 1 : Nat) : Int) := by unfold wrap64; omega
    have h2 := ih k (i + 1) (by omega) (by omega)
    have hl : (heard i set f H other).length < 8796093022208 := by rw [heard_length]; omega
    rw [wardmotelaw16_votes.l0, if_pos (by omega), bad_eq set f i (by omega) k (by omega)]
    simp only [Option.bind_some]
    rw [heard_succ] at h2
    by_cases h : isbad set f i = true
    · rw [if_pos h]
      by_cases hb : (i : Int) < (other.length : Int)
      · have hv : vote set f H other i = rdOf ByteArray.empty other (i : Int) := by rw [vote, if_pos h, rd_getD]; rfl
        rw [if_pos hb, if_pos (by omega), if_pos hl, e1, ← hv]
        exact h2
      · have hv : vote set f H other i = ⟨#[]⟩ := by rw [vote, if_pos h, List.getD, List.getElem?_eq_none (by omega)]; rfl
        rw [if_neg hb, if_pos hl, e1, ← hv]
        exact h2
    · rw [if_neg h]
      by_cases hb : (i : Int) < (H.length : Int)
      · have hv : vote set f H other i = rdOf ByteArray.empty H (i : Int) := by rw [vote, if_neg h, rd_getD]; rfl
        rw [if_pos hb, if_pos (by omega), if_pos hl, e1, ← hv]
        exact h2
      · have hv : vote set f H other i = ⟨#[]⟩ := by rw [vote, if_neg h, List.getD, List.getElem?_eq_none (by omega)]; rfl
        rw [if_neg hb, if_pos hl, e1, ← hv]
        exact h2
theorem votes_eq (set f : Int) (H A B other : List ByteArray) (n : Nat) (hn : n ≤ 1000) (k : Nat) (hk : 2 * n + 2 < k) :
    wardmotelaw16_votes.f k n f set H A B other = some (heard n set f H other) := votes_l0 set f H A B other n hn n k 0 (by omega) (by omega)

theorem heard_size {n : Nat} {set f : Int} {H other : List ByteArray} (hH : ∀ s ∈ H, s.size ≤ 140737488351232) (hO : ∀ s ∈ other, s.size ≤ 140737488351232) : ∀ s ∈ heard n set f H other, s.size ≤ 140737488351232 := by
  intro s hs
  simp only [heard, List.mem_map, List.mem_range] at hs
  obtain ⟨i, _, rfl⟩ := hs
  have hg : ∀ l : List ByteArray, (∀ s ∈ l, s.size ≤ 140737488351232) → (l.getD i ⟨#[]⟩).size ≤ 140737488351232 := by
    intro l hl
    by_cases h : i < l.length
    · rw [List.getD, List.getElem?_eq_getElem h]
      exact hl _ (List.getElem_mem h)
    · rw [List.getD, List.getElem?_eq_none (by omega)]
      exact Nat.zero_le _
  unfold vote
  split
  · exact hg _ hO
  · exact hg _ hH

theorem cnt_heard (n : Nat) (set f : Int) (H other : List ByteArray) (s : ByteArray) : cnt (heard n set f H other) n s = (List.range n).countP (fun i => decide (vote set f H other i = s)) := by
  unfold cnt
  rw [List.take_of_length_le (by rw [heard_length]; exact Nat.le_refl _)]
  unfold heard
  rw [List.countP_map]
  rfl

/-! ### counting -/
theorem countP_or {α : Type} {p q r : α → Bool} (h : ∀ x, p x = true → q x = true ∨ r x = true) : ∀ l : List α, l.countP p ≤ l.countP q + l.countP r
  | [] => by simp
  | x :: l => by
    have ih := countP_or h l
    have := h x
    simp only [List.countP_cons]
    cases hp : p x <;> cases hq : q x <;> cases hr : r x <;> simp_all <;> omega
theorem countP_apart {α : Type} {p q r : α → Bool} (h1 : ∀ x, p x = true → q x = false ∧ r x = false) (h2 : ∀ x, q x = true → r x = false) : ∀ l : List α, l.countP p + l.countP q + l.countP r ≤ l.length
  | [] => by simp
  | x :: l => by
    have ih := countP_apart h1 h2 l
    have a := h1 x
    have b := h2 x
    simp only [List.countP_cons, List.length_cons]
    cases hp : p x <;> cases hq : q x <;> cases hr : r x <;> simp_all <;> omega
theorem countP_imp {α : Type} {p q : α → Bool} (h : ∀ x, p x = true → q x = true) (l : List α) : l.countP p ≤ l.countP q := List.countP_mono_left (fun x _ => h x)

/-- Those that do as told, and tell s. -/
def tells (set f : Int) (H : List ByteArray) (s : ByteArray) (i : Nat) : Bool := !isbad set f i && decide (H.getD i ⟨#[]⟩ = s)
theorem vote_some (set f : Int) (H other : List ByteArray) (s : ByteArray) (i : Nat) (h : decide (vote set f H other i = s) = true) : tells set f H s i = true ∨ isbad set f i = true := by
  unfold tells
  unfold vote at h
  cases hb : isbad set f i <;> simp_all
theorem tells_vote (set f : Int) (H other : List ByteArray) (s : ByteArray) (i : Nat) (h : tells set f H s i = true) : decide (vote set f H other i = s) = true := by
  unfold tells at h
  unfold vote
  cases hb : isbad set f i <;> simp_all

end Go.Proofs.Ytampdabniahncaa.Plain
