/- The sum of three letters, reckoned. No program in sight. -/
import Derived.Test.YtniglpcmjkfhdaaDoorSha
namespace Go.Proofs.YtniglpcmjkfhdaaDoor.Sha

/-- Sixteen words of the schedule, and the next sixteen. -/
def next16 (v : List Nat) : List Nat := v.drop 1 ++ [(sm1 (v.getD 14 0) + v.getD 9 0 + sm0 (v.getD 1 0) + v.getD 0 0) % M]
def win (l : Nat → Nat) : Nat → List Nat
  | 0 => (List.range 16).map l
  | t + 1 => next16 (win l t)
theorem win_len (l : Nat → Nat) : ∀ t, (win l t).length = 16
  | 0 => by simp [win]
  | t + 1 => by simp [win, next16, win_len l t]
theorem win_get (l : Nat → Nat) (t : Nat) : ∀ i, i < 16 → (win l t).getD i 0 = W l (t + i) := by
  induction t with
  | zero =>
    intro i h
    rw [Nat.zero_add, W_lo l h, win, List.getD_eq_getElem?_getD, List.getElem?_map, List.getElem?_range h]
    rfl
  | succ t ih =>
    intro i h
    have hl := win_len l t
    have e14 := ih 14 (by omega)
    have e9 := ih 9 (by omega)
    have e1 := ih 1 (by omega)
    have e0 : (win l t).getD 0 0 = W l t := ih 0 (by omega)
    rw [win, next16, e14, e9, e1, e0, ← W_hi, List.getD_eq_getElem?_getD]
    generalize hz : W l (t + 16) = z
    by_cases e : i = 15
    · rw [List.getElem?_append_right (by rw [List.length_drop, hl]; omega), List.length_drop, hl, e, show t + 1 + 15 = t + 16 by omega, hz]
      rfl
    · rw [List.getElem?_append_left (by rw [List.length_drop, hl]; omega), List.getElem?_drop, ← List.getD_eq_getElem?_getD, ih (1 + i) (by omega), show t + (1 + i) = t + 1 + i by omega]
def go (x : Eight) (v : List Nat) (t : Nat) : Nat → Eight
  | 0 => x
  | n + 1 => go (rnd x (kk t) (v.getD 0 0)) (next16 v) (t + 1) n
theorem go_st (x : Eight) (l : Nat → Nat) : ∀ n t, go (st x l t) (win l t) t n = st x l (t + n)
  | 0, _ => rfl
  | n + 1, t => by
    have h := go_st x l n (t + 1)
    rw [st, win] at h
    rw [go, win_get l t 0 (by omega), Nat.add_zero, h, show t + 1 + n = t + (n + 1) by omega]
theorem comp_go (x : Eight) (b : Nat → Nat) : comp x b = plus x (go x ((List.range 16).map (word b)) 0 64) := by
  rw [comp, show 64 = 0 + 64 from rfl, ← go_st]
  rfl
def abcPad : List Nat := [97, 98, 99, 128, 0, 0, 0, 0, 0, 0, 0, 0, 0, 0, 0, 0, 0, 0, 0, 0, 0, 0, 0, 0, 0, 0, 0, 0, 0, 0, 0, 0, 0, 0, 0, 0, 0, 0, 0, 0, 0, 0, 0, 0, 0, 0, 0, 0, 0, 0, 0, 0, 0, 0, 0, 0, 0, 0, 0, 0, 0, 0, 0, 24]
theorem abc_pad (i : Nat) (h : i < 64) : padded ⟨#[97, 98, 99]⟩ i = abcPad.getD i 0 := by
  have h3 : (⟨#[97, 98, 99]⟩ : ByteArray).size = 3 := rfl
  have hl : (⟨#[97, 98, 99]⟩ : ByteArray).toList = [97, 98, 99] := by rw [ByteArray.toList_eq]
  unfold padded by8
  rw [h3, hl, show blocks 3 = 1 from rfl]
  exact (by decide +kernel : ∀ i, i < 64 → (if i < 3 then (([97, 98, 99] : List UInt8).getD i 0).toNat else if i = 3 then 128 else 8 * 3 / 256 ^ (64 * 1 - 1 - i) % 256) = abcPad.getD i 0) i h
def abcWords : List Nat := (List.range 16).map (word (fun i => abcPad.getD i 0))
theorem abc_sum : sum ⟨#[97, 98, 99]⟩ = plus init (go init abcWords 0 64) := by
  show many init (padded ⟨#[97, 98, 99]⟩) 1 = _
  rw [many_eq init 1 (c := fun i => abcPad.getD i 0) (fun i hi => abc_pad i hi)]
  rw [many, many, comp_go]
  simp only [Nat.mul_zero, Nat.zero_add]
  rfl
theorem abc_hash : hash ⟨#[97, 98, 99]⟩ = ⟨#[186, 120, 22, 191, 143, 1, 207, 234, 65, 65, 64, 222, 93, 174, 34, 35, 176, 3, 97, 163, 150, 23, 122, 156, 180, 16, 255, 97, 242, 0, 21, 173]⟩ := by
  rw [hash, abc_sum]
  decide +kernel
end Go.Proofs.YtniglpcmjkfhdaaDoor.Sha
