/- A number's bytes, plainly; the reference's Number; lists held against each other. -/
import Derived.Test.YtmlfheagbfaoaaaDoorPDgx
import Derived.Test.YtmlfheagbfaoaaaDoorWMore
import Derived.Lib.SmallJoins
namespace Go.Proofs.YtmlfheagbfaoaaaDoor
open Go.RowKit Go.Proofs.YtmlfheagbfaoaaaDoorW.PrintWords Go.Proofs.YtmlfheagbfaoaaaDoorW.PrintMore Go.Lib

/-- The lowest i bytes of a number, the highest first. -/
def beL (n : Nat) : Nat → List UInt8
  | 0 => []
  | i + 1 => UInt8.ofNat (n / 256 ^ i) :: beL n i
theorem beL_length (n : Nat) : ∀ i, (beL n i).length = i
  | 0 => rfl
  | i + 1 => by rw [beL, List.length_cons, beL_length n i]
theorem ofNat_inj {a b : Nat} (h : UInt8.ofNat a = UInt8.ofNat b) : a % 256 = b % 256 := by
  have := congrArg UInt8.toNat h
  simpa using this
theorem beL_inj (n m : Nat) : ∀ i, beL n i = beL m i → n % 256 ^ i = m % 256 ^ i
  | 0, _ => by simp [Nat.mod_one]
  | i + 1, h => by
    rw [beL, beL, List.cons.injEq] at h
    have h1 := ofNat_inj h.1
    have h2 := beL_inj n m i h.2
    rw [Nat.pow_succ, Nat.mod_mul, Nat.mod_mul, h1, h2]
def beB (n i : Nat) : ByteArray := ⟨(beL n i).toArray⟩
theorem beB_size (n i : Nat) : (beB n i).size = i := by
  show (beL n i).toArray.size = i
  rw [List.size_toArray, beL_length]
theorem bytes_ext {a b : ByteArray} (h : a.data.toList = b.data.toList) : a = b := Go.WideShapes.bytes_inj h
theorem data_app (a b : ByteArray) : (a ++ b).data.toList = a.data.toList ++ b.data.toList := Go.Joins.data_append a b
theorem app_assoc (a b c : ByteArray) : a ++ b ++ c = a ++ (b ++ c) := bytes_ext (by simp only [data_app, List.append_assoc])
theorem app_empty (a : ByteArray) : a ++ (⟨#[]⟩ : ByteArray) = a := bytes_ext (by rw [data_app]; simp)
theorem app_size (a b : ByteArray) : (a ++ b).size = a.size + b.size := by simp
theorem sizeL (a : ByteArray) : a.data.toList.length = a.size := by simp
theorem str_nums (xs : List Int) : strOfNums xs = ⟨(xs.map fun n => UInt8.ofNat n.toNat).toArray⟩ := rfl
theorem byte_mod (m : Nat) : UInt8.ofNat (((m : Int) % 256).toNat) = UInt8.ofNat m := UInt8.toNat_inj.1 (by simp; omega)
theorem Number_l0 (n size : Nat) (hn : n < 9223372036854775808) (hs : size ≤ 8) : ∀ (d i k : Nat), i + d = size → d < k →
    PDg.wardmoteref05_Number.l0 k ((n / 256 ^ i : Nat) : Int) (size : Int) (beB n i) (i : Int) = some (beB n size)
  | 0, i, k, h, hk => by
    obtain ⟨k, rfl⟩ : ∃ m, k = m + 1 := ⟨k - 1, by omega⟩
    obtain rfl : i = size := by omega
    rw [PDg.wardmoteref05_Number.l0, if_neg (by omega)]
  | d + 1, i, k, h, hk => by
    obtain ⟨k, rfl⟩ : ∃ m, k = m + 1 := ⟨k - 1, by omega⟩
    have hm : n / 256 ^ i < 9223372036854775808 := Nat.lt_of_le_of_lt (Nat.div_le_self _ _) hn
    have e1 : wrap64 (Int.tdiv ((n / 256 ^ i : Nat) : Int) 256) = ((n / 256 ^ (i + 1) : Nat) : Int) := by
      rw [Nat.pow_succ, ← Nat.div_div_eq_div_mul]
      generalize n / 256 ^ i = m at *
      rw [Int.tdiv_eq_ediv_of_nonneg (by omega)]
      unfold wrap64
      omega
    have e2 : strOfNums [((n / 256 ^ i : Nat) : Int) % 256] ++ beB n i = beB n (i + 1) := by
      apply bytes_ext
      rw [data_app]
      show [UInt8.ofNat (((n / 256 ^ i : Nat) : Int) % 256).toNat] ++ beL n i = beL n (i + 1)
      rw [beL, List.singleton_append]
      rw [byte_mod]
    have e3 : (strOfNums [((n / 256 ^ i : Nat) : Int) % 256]).size = 1 := rfl
    rw [PDg.wardmoteref05_Number.l0, if_pos (by omega)]
    simp only [Option.bind_some]
    rw [if_pos (by rw [e3, beB_size]; omega), e1, e2, show wrap64 ((i : Int) + 1) = ((i + 1 : Nat) : Int) by unfold wrap64; omega]
    exact Number_l0 n size hn hs d (i + 1) k (by omega) (by omega)
theorem Number_f (n size : Nat) (hn : n < 9223372036854775808) (hs : size ≤ 8) (k : Nat) (hk : size < k) : PDg.wardmoteref05_Number.f k (n : Int) (size : Int) = some (beB n size) := by
  have := Number_l0 n size hn hs size 0 k (by omega) hk
  rwa [Nat.pow_zero, Nat.div_one] at this
theorem rd_at (l : List ByteArray) (i : Nat) (hi : i < l.length) : rdOf ByteArray.empty l (i : Int) = l[i] := by
  unfold rdOf
  rw [Int.toNat_natCast, List.getD_eq_getElem?_getD, List.getElem?_eq_getElem hi]
  rfl
theorem Texts_l0 (l m : List ByteArray) (hl : l.length ≤ 140737488355328) : ∀ (d i k : Nat), i + d = l.length → d < k → l.take i = m.take i → (i ≤ m.length) →
    PDg.wardmoteplain_Texts.l0 k l m (l.length : Int) (i : Int) = some (decide (l = m))
  | 0, i, k, h, hk, ht, hm => by
    obtain ⟨k, rfl⟩ : ∃ m, k = m + 1 := ⟨k - 1, by omega⟩
    rw [PDg.wardmoteplain_Texts.l0, if_neg (by omega)]
    rw [List.take_of_length_le (by omega)] at ht
    refine congrArg some ?_
    rw [Bool.eq_iff_iff, beq_iff_eq, decide_eq_true_eq]
    constructor
    · intro e
      rw [List.take_of_length_le (by omega)] at ht
      exact ht
    · intro e
      rw [e]
  | d + 1, i, k, h, hk, ht, hm => by
    obtain ⟨k, rfl⟩ : ∃ m, k = m + 1 := ⟨k - 1, by omega⟩
    have hi : i < l.length := by omega
    rw [PDg.wardmoteplain_Texts.l0, if_pos (by omega)]
    by_cases h1 : (i : Int) ≥ (m.length : Int)
    · rw [if_pos h1, decide_eq_false (fun e => by rw [e] at hi; omega)]
    · have hi2 : i < m.length := by omega
      rw [if_neg h1, if_pos (by omega), if_pos (by omega), if_pos (by omega), rd_at l i hi, rd_at m i hi2]
      by_cases h2 : l[i] = m[i]
      · rw [if_pos (by rw [h2]), show wrap64 ((i : Int) + 1) = ((i + 1 : Nat) : Int) by unfold wrap64; omega]
        exact Texts_l0 l m hl d (i + 1) k (by omega) (by omega) (by rw [List.take_add_one, List.take_add_one, ht, List.getElem?_eq_getElem hi, List.getElem?_eq_getElem hi2, h2]) (by omega)
      · rw [if_neg (fun e => h2 (bytes_ext (by rwa [ByteArray.toList_eq, ByteArray.toList_eq] at e)))]
        refine congrArg some (decide_eq_false (fun e => h2 ?_)).symm
        subst e
        rfl
theorem Texts_f (l m : List ByteArray) (hl : l.length ≤ 140737488355328) (k : Nat) (hk : l.length < k) : PDg.wardmoteplain_Texts.f k l m = some (decide (l = m)) :=
  Texts_l0 l m hl l.length 0 k (by omega) hk rfl (Nat.zero_le _)
end Go.Proofs.YtmlfheagbfaoaaaDoor
