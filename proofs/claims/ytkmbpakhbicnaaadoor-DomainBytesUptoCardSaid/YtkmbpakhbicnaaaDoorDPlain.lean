/- What domain hashes, plainly: a number's bytes, the tag, the parts; and that unlike things are unlike text. -/
import Derived.Test.YtkmbpakhbicnaaaDoorPDgx
import Derived.Test.YtkmbpakhbicnaaaDoorWMore
import Derived.Lib.SmallJoins
namespace Go.Proofs.YtkmbpakhbicnaaaDoor
open Go.RowKit Go.Proofs.YtkmbpakhbicnaaaDoorW.PrintWords Go.Proofs.YtkmbpakhbicnaaaDoorW.PrintMore Go.Lib

/-- The lowest i bytes of a number, the highest first. -/
def beL (n : Nat) : Nat → List UInt8
  | 0 => []
  | i + 1 => UInt8.ofNat (n / 256 ^ i) :: beL n i
theorem beL_length (n : Nat) : ∀ i, (beL n i).length = i
  | 0 => rfl
  | i + 1 => by rw [beL, List.length_cons, beL_length n i]
theorem ofNat_inj {a b : Nat} (h : UInt8.ofNat a = UInt8.ofNat b) : a % 256 = b % 256 := by
  have := congrArg UInt8.toNat h
  simpa using this
theorem beL_inj (n m : Nat) : ∀ i, beL n i = beL m i → n % 256 ^ i = m % 256 ^ i
  | 0, _ => by simp [Nat.mod_one]
  | i + 1, h => by
    rw [beL, beL, List.cons.injEq] at h
    have h1 := ofNat_inj h.1
    have h2 := beL_inj n m i h.2
    rw [Nat.pow_succ, Nat.mod_mul, Nat.mod_mul, h1, h2]
def beB (n i : Nat) : ByteArray := ⟨(beL n i).toArray⟩
theorem beB_size (n i : Nat) : (beB n i).size = i := by
  show (beL n i).toArray.size = i
  rw [List.size_toArray, beL_length]
theorem bytes_ext {a b : ByteArray} (h : a.data.toList = b.data.toList) : a = b := Go.WideShapes.bytes_inj h
def partsB : List ByteArray → ByteArray
  | [] => ⟨#[]⟩
  | p :: r => beB p.size 4 ++ p ++ partsB r
def hashedB (tag : ByteArray) (l : List ByteArray) : ByteArray := beB tag.size 1 ++ tag ++ partsB l
theorem data_app (a b : ByteArray) : (a ++ b).data.toList = a.data.toList ++ b.data.toList := Go.Joins.data_append a b
theorem app_assoc (a b c : ByteArray) : a ++ b ++ c = a ++ (b ++ c) := bytes_ext (by simp only [data_app, List.append_assoc])
theorem app_empty (a : ByteArray) : a ++ (⟨#[]⟩ : ByteArray) = a := bytes_ext (by rw [data_app]; simp)
theorem app_size (a b : ByteArray) : (a ++ b).size = a.size + b.size := by simp
theorem sizeL (a : ByteArray) : a.data.toList.length = a.size := by simp
theorem partsB_inj : ∀ (l m : List ByteArray), (∀ p ∈ l, p.size < 4294967296) → (∀ p ∈ m, p.size < 4294967296) → partsB l = partsB m → l = m
  | [], [], _, _, _ => rfl
  | [], p :: r, _, _, h => by
    have := congrArg ByteArray.size h
    rw [partsB, partsB, app_size, app_size, beB_size] at this
    have h0 : (⟨#[]⟩ : ByteArray).size = 0 := rfl
    omega
  | p :: r, [], _, _, h => by
    have := congrArg ByteArray.size h
    rw [partsB, partsB, app_size, app_size, beB_size] at this
    have h0 : (⟨#[]⟩ : ByteArray).size = 0 := rfl
    omega
  | p :: r, q :: s, hl, hm, h => by
    have h1 := congrArg (fun b : ByteArray => b.data.toList) h
    simp only [partsB, data_app, List.append_assoc] at h1
    have h2 := List.append_inj h1 (by rw [sizeL, sizeL, beB_size, beB_size])
    have h3 : p.size = q.size := by
      have := beL_inj p.size q.size 4 (by simpa [beB] using h2.1)
      rwa [Nat.mod_eq_of_lt (hl p List.mem_cons_self), Nat.mod_eq_of_lt (hm q List.mem_cons_self)] at this
    have h4 := List.append_inj h2.2 (by rw [sizeL, sizeL, h3])
    rw [bytes_ext h4.1, partsB_inj r s (fun x hx => hl x (List.mem_cons_of_mem _ hx)) (fun x hx => hm x (List.mem_cons_of_mem _ hx)) (bytes_ext h4.2)]
theorem hashedB_inj (s t : ByteArray) (l m : List ByteArray) (hs : s.size ≤ 40) (ht : t.size ≤ 40) (hl : ∀ p ∈ l, p.size < 4294967296) (hm : ∀ p ∈ m, p.size < 4294967296) :
    hashedB s l = hashedB t m ↔ s = t ∧ l = m := by
  refine ⟨fun h => ?_, fun h => by rw [h.1, h.2]⟩
  have h1 := congrArg (fun b : ByteArray => b.data.toList) h
  simp only [hashedB, data_app, List.append_assoc] at h1
  have h2 := List.append_inj h1 (by rw [sizeL, sizeL, beB_size, beB_size])
  have h3 : s.size = t.size := by
    have := beL_inj s.size t.size 1 (by simpa [beB] using h2.1)
    rwa [Nat.mod_eq_of_lt (by omega), Nat.mod_eq_of_lt (by omega)] at this
  have h4 := List.append_inj h2.2 (by rw [sizeL, sizeL, h3])
  exact ⟨bytes_ext h4.1, partsB_inj l m hl hm (bytes_ext h4.2)⟩
/-- How many bytes parts have. -/
def total : List ByteArray → Nat
  | [] => 0
  | p :: r => p.size + total r
theorem total_le {p : ByteArray} : ∀ {l : List ByteArray}, p ∈ l → p.size ≤ total l
  | q :: r, h => by
    rcases List.mem_cons.1 h with rfl | h
    · rw [total]; omega
    · have := total_le h; rw [total]; omega
theorem partsB_size : ∀ l : List ByteArray, (partsB l).size = 4 * l.length + total l
  | [] => rfl
  | p :: r => by
    have := partsB_size r
    rw [partsB, ← sizeL, data_app, data_app, List.length_append, List.length_append, sizeL, sizeL, sizeL, beB_size, this, List.length_cons, total]
    omega
theorem hashedB_size (s : ByteArray) (l : List ByteArray) : (hashedB s l).size = 1 + s.size + 4 * l.length + total l := by
  rw [hashedB, ← sizeL, data_app, data_app, List.length_append, List.length_append, sizeL, sizeL, sizeL, beB_size, partsB_size]
  omega

/-! The program's and the reference's number, what is hashed, lists held against each other. -/
theorem str_nums (xs : List Int) : strOfNums xs = ⟨(xs.map fun n => UInt8.ofNat n.toNat).toArray⟩ := rfl
theorem shr_byte (n i : Nat) (hi : i < 8) : (shr .i64 (n : Int) (wrap64 (8 * (i : Int)))) % 256 = ((n / 256 ^ i % 256 : Nat) : Int) := by
  have e : wrap64 (8 * (i : Int)) = ((8 * i : Nat) : Int) := by unfold wrap64; omega
  rw [e]
  unfold shr
  have e2 : (2 : Int) ^ (8 * i) = ((256 ^ i : Nat) : Int) := by
    rw [show (256 : Nat) = 2 ^ 8 from rfl, ← Nat.pow_mul]
    push_cast
    rfl
  rw [Int.toNat_natCast, Nat.min_eq_left (by show 8 * i ≤ 64; omega), e2, ← Int.natCast_ediv]
  generalize n / 256 ^ i = m
  omega
theorem byte_mod (m : Nat) : UInt8.ofNat (((m : Int) % 256).toNat) = UInt8.ofNat m := UInt8.toNat_inj.1 (by simp; omega)
theorem number_l0 (n : Nat) : ∀ (i k : Nat) (xs : List Int), i ≤ 8 → i < k → xs.length + i ≤ 64 →
    PDg.domain_number.l0 k (n : Int) xs ((i : Int) - 1) = some ⟨((xs.map fun n => UInt8.ofNat n.toNat) ++ beL n i).toArray⟩
  | 0, k, xs, _, hk, _ => by
    obtain ⟨k, rfl⟩ : ∃ m, k = m + 1 := ⟨k - 1, by omega⟩
    rw [PDg.domain_number.l0, if_neg (by omega), str_nums, beL, List.append_nil]
  | i + 1, k, xs, hi, hk, hx => by
    obtain ⟨k, rfl⟩ : ∃ m, k = m + 1 := ⟨k - 1, by omega⟩
    have e : ((i + 1 : Nat) : Int) - 1 = (i : Int) := by omega
    rw [e, PDg.domain_number.l0, if_pos (by omega), if_pos (by unfold wrap64; omega), if_pos (by omega), shr_byte n i (by omega), show wrap64 ((i : Int) - 1) = (i : Int) - 1 by unfold wrap64; omega]
    rw [number_l0 n i k _ (by omega) (by omega) (by simp; omega), beL]
    simp only [List.map_append, List.map_cons, List.map_nil, List.append_assoc, List.cons_append, List.nil_append, Int.toNat_natCast]
    rw [show UInt8.ofNat (n / 256 ^ i % 256) = UInt8.ofNat (n / 256 ^ i) from UInt8.toNat_inj.1 (by simp)]
theorem number_f (n i : Nat) (hi : i ≤ 8) (k : Nat) (hk : i < k) : PDg.domain_number.f k (n : Int) (i : Int) = some (beB n i) := by
  unfold PDg.domain_number.f
  rw [show wrap64 ((i : Int) - 1) = (i : Int) - 1 by unfold wrap64; omega, number_l0 n i k [] hi hk (by simp; omega)]
  rfl
theorem Number_l0 (n size : Nat) (hn : n < 9223372036854775808) (hs : size ≤ 8) : ∀ (d i k : Nat), i + d = size → d < k →
    PDg.wardmoteref05_Number.l0 k ((n / 256 ^ i : Nat) : Int) (size : Int) (beB n i) (i : Int) = some (beB n size)
  | 0, i, k, h, hk => by
    obtain ⟨k, rfl⟩ : ∃ m, k = m + 1 := ⟨k - 1, by omega⟩
    obtain rfl : i = size := by omega
    rw [PDg.wardmoteref05_Number.l0, if_neg (by omega)]
  | d + 1, i, k, h, hk => by
    obtain ⟨k, rfl⟩ : ∃ m, k = m + 1 := ⟨k - 1, by omega⟩
    have hm : n / 256 ^ i < 9223372036854775808 := Nat.lt_of_le_of_lt (Nat.div_le_self _ _) hn
    have e1 : wrap64 (Int.tdiv ((n / 256 ^ i : Nat) : Int) 256) = ((n / 256 ^ (i + 1) : Nat) : Int) := by
      rw [Nat.pow_succ, ← Nat.div_div_eq_div_mul]
      generalize n / 256 ^ i = m at *
      rw [Int.tdiv_eq_ediv_of_nonneg (by omega)]
      unfold wrap64
      omega
    have e2 : strOfNums [((n / 256 ^ i : Nat) : Int) % 256] ++ beB n i = beB n (i + 1) := by
      apply bytes_ext
      rw [data_app]
      show [UInt8.ofNat (((n / 256 ^ i : Nat) : Int) % 256).toNat] ++ beL n i = beL n (i + 1)
      rw [beL, List.singleton_append]
      rw [byte_mod]
    have e3 : (strOfNums [((n / 256 ^ i : Nat) : Int) % 256]).size = 1 := rfl
    rw [PDg.wardmoteref05_Number.l0, if_pos (by omega)]
    simp only [Option.bind_some]
    rw [if_pos (by rw [e3, beB_size]; omega), e1, e2, show wrap64 ((i : Int) + 1) = ((i + 1 : Nat) : Int) by unfold wrap64; omega]
    exact Number_l0 n size hn hs d (i + 1) k (by omega) (by omega)
theorem Number_f (n size : Nat) (hn : n < 9223372036854775808) (hs : size ≤ 8) (k : Nat) (hk : size < k) : PDg.wardmoteref05_Number.f k (n : Int) (size : Int) = some (beB n size) := by
  have := Number_l0 n size hn hs size 0 k (by omega) hk
  rwa [Nat.pow_zero, Nat.div_one] at this
theorem rd_at (l : List ByteArray) (i : Nat) (hi : i < l.length) : rdOf ByteArray.empty l (i : Int) = l[i] := by
  unfold rdOf
  rw [Int.toNat_natCast, List.getD_eq_getElem?_getD, List.getElem?_eq_getElem hi]
  rfl
theorem total_drop (l : List ByteArray) (i : Nat) (hi : i < l.length) : total (l.drop i) = l[i].size + total (l.drop (i + 1)) := by
  rw [List.drop_eq_getElem_cons hi]
  rfl
theorem partsB_drop (l : List ByteArray) (i : Nat) (hi : i < l.length) : partsB (l.drop i) = beB l[i].size 4 ++ l[i] ++ partsB (l.drop (i + 1)) := by
  rw [List.drop_eq_getElem_cons hi]
  rfl
theorem Hashed_l0 (l : List ByteArray) (hl : l.length ≤ 140737488355328) : ∀ (d i k : Nat) (x : ByteArray), i + d = l.length → d + 5 < k → x.size + 4 * d + total (l.drop i) ≤ 4611686018427387904 →
    PDg.wardmoteref05_Hashed.l0 k x l (l.length : Int) (i : Int) = some (x ++ partsB (l.drop i))
  | 0, i, k, x, h, hk, _ => by
    obtain ⟨k, rfl⟩ : ∃ m, k = m + 1 := ⟨k - 1, by omega⟩
    rw [PDg.wardmoteref05_Hashed.l0, if_neg (by omega), List.drop_of_length_le (by omega), partsB, app_empty]
  | d + 1, i, k, x, h, hk, hz => by
    obtain ⟨k, rfl⟩ : ∃ m, k = m + 1 := ⟨k - 1, by omega⟩
    have hi : i < l.length := by omega
    rw [total_drop l i hi] at hz
    rw [PDg.wardmoteref05_Hashed.l0, if_pos (by omega), if_pos (by omega), if_pos (by omega), rd_at l i hi, show (4 : Int) = ((4 : Nat) : Int) from rfl, Number_f l[i].size 4 (by omega) (by omega) k (by omega)]
    simp only [Option.bind_some]
    rw [if_pos (by rw [beB_size]; omega), if_pos (by rw [app_size, beB_size]; omega), show wrap64 ((i : Int) + 1) = ((i + 1 : Nat) : Int) by unfold wrap64; omega]
    rw [Hashed_l0 l hl d (i + 1) k _ (by omega) (by omega) (by rw [app_size, app_size, beB_size]; omega), partsB_drop l i hi]
    simp only [app_assoc]
theorem Hashed_f (s : ByteArray) (l : List ByteArray) (hs : s.size ≤ 1099511627776) (hz : 4 * l.length + total l ≤ 1099511627776) (k : Nat) (hk : l.length + 5 < k) : PDg.wardmoteref05_Hashed.f k s l = some (hashedB s l) := by
  unfold PDg.wardmoteref05_Hashed.f
  rw [show (1 : Int) = ((1 : Nat) : Int) from rfl, Number_f s.size 1 (by omega) (by omega) k (by omega)]
  simp only [Option.bind_some]
  rw [if_pos (by rw [beB_size]; omega)]
  have := Hashed_l0 l (by omega) l.length 0 k (beB s.size 1 ++ s) (by omega) hk (by rw [app_size, beB_size, List.drop_zero]; omega)
  rw [List.drop_zero] at this
  exact this
theorem large_l0 (l : List ByteArray) (hl : l.length ≤ 140737488355328) : ∀ (d i k x : Nat), i + d = l.length → d < k → x + total (l.drop i) ≤ 4611686018427387904 →
    PDg.wardmotelaw05_large.l0 k (x : Int) l (l.length : Int) (i : Int) = some (decide (((x + total (l.drop i) : Nat) : Int) > 20000))
  | 0, i, k, x, h, hk, _ => by
    obtain ⟨k, rfl⟩ : ∃ m, k = m + 1 := ⟨k - 1, by omega⟩
    rw [PDg.wardmotelaw05_large.l0, if_neg (by omega), List.drop_of_length_le (by omega), total, Nat.add_zero]
  | d + 1, i, k, x, h, hk, hz => by
    obtain ⟨k, rfl⟩ : ∃ m, k = m + 1 := ⟨k - 1, by omega⟩
    have hi : i < l.length := by omega
    rw [total_drop l i hi] at hz ⊢
    rw [PDg.wardmotelaw05_large.l0, if_pos (by omega), if_pos (by omega), if_pos (by omega), rd_at l i hi, show wrap64 ((i : Int) + 1) = ((i + 1 : Nat) : Int) by unfold wrap64; omega, show wrap64 ((x : Int) + (l[i].size : Int)) = ((x + l[i].size : Nat) : Int) by unfold wrap64; omega]
    rw [large_l0 l hl d (i + 1) k _ (by omega) (by omega) (by omega), Nat.add_assoc]
theorem large_f (s : ByteArray) (l : List ByteArray) (hl : l.length ≤ 140737488355328) (hz : s.size + total l ≤ 4611686018427387904) (k : Nat) (hk : l.length < k) : PDg.wardmotelaw05_large.f k l s = some (decide (((s.size + total l : Nat) : Int) > 20000)) := by
  have := large_l0 l hl l.length 0 k s.size (by omega) hk (by rw [List.drop_zero]; exact hz)
  rw [List.drop_zero] at this
  exact this
theorem Texts_l0 (l m : List ByteArray) (hl : l.length ≤ 140737488355328) : ∀ (d i k : Nat), i + d = l.length → d < k → l.take i = m.take i → (i ≤ m.length) →
    PDg.wardmoteplain_Texts.l0 k l m (l.length : Int) (i : Int) = some (decide (l = m))
  | 0, i, k, h, hk, ht, hm => by
    obtain ⟨k, rfl⟩ : ∃ m, k = m + 1 := ⟨k - 1, by omega⟩
    rw [PDg.wardmoteplain_Texts.l0, if_neg (by omega)]
    rw [List.take_of_length_le (by omega)] at ht
    refine congrArg some ?_
    rw [Bool.eq_iff_iff, beq_iff_eq, decide_eq_true_eq]
    constructor
    · intro e
      rw [List.take_of_length_le (by omega)] at ht
      exact ht
    · intro e
      rw [e]
  | d + 1, i, k, h, hk, ht, hm => by
    obtain ⟨k, rfl⟩ : ∃ m, k = m + 1 := ⟨k - 1, by omega⟩
    have hi : i < l.length := by omega
    rw [PDg.wardmoteplain_Texts.l0, if_pos (by omega)]
    by_cases h1 : (i : Int) ≥ (m.length : Int)
    · rw [if_pos h1, decide_eq_false (fun e => by rw [e] at hi; omega)]
    · have hi2 : i < m.length := by omega
      rw [if_neg h1, if_pos (by omega), if_pos (by omega), if_pos (by omega), rd_at l i hi, rd_at m i hi2]
      by_cases h2 : l[i] = m[i]
      · rw [if_pos (by rw [h2]), show wrap64 ((i : Int) + 1) = ((i + 1 : Nat) : Int) by unfold wrap64; omega]
        exact Texts_l0 l m hl d (i + 1) k (by omega) (by omega) (by rw [List.take_add_one, List.take_add_one, ht, List.getElem?_eq_getElem hi, List.getElem?_eq_getElem hi2, h2]) (by omega)
      · rw [if_neg (fun e => h2 (bytes_ext (by rwa [ByteArray.toList_eq, ByteArray.toList_eq] at e)))]
        refine congrArg some (decide_eq_false (fun e => h2 ?_)).symm
        subst e
        rfl
theorem Texts_f (l m : List ByteArray) (hl : l.length ≤ 140737488355328) (k : Nat) (hk : l.length < k) : PDg.wardmoteplain_Texts.f k l m = some (decide (l = m)) :=
  Texts_l0 l m hl l.length 0 k (by omega) hk rfl (Nat.zero_le _)
theorem Tag_f (s : ByteArray) : PDg.wardmoteref05_Tag.f s = some (decide (1 ≤ s.size ∧ s.size ≤ 40)) := by
  unfold PDg.wardmoteref05_Tag.f
  by_cases h : 1 ≤ s.size
  · rw [if_pos (by omega)]
    refine congrArg some ?_
    rw [decide_eq_decide]
    omega
  · rw [if_neg (by omega), decide_eq_false (by omega)]
theorem wrong_f (s : ByteArray) : PDg.domain_wrong.f s = some (decide (¬ (1 ≤ s.size ∧ s.size ≤ 40))) := by
  unfold PDg.domain_wrong.f
  have e : s.toList = [] ↔ s.size = 0 := by
    rw [ByteArray.toList_eq, ← List.length_eq_zero_iff, sizeL]
  by_cases h : s.toList = []
  · rw [if_pos h, decide_eq_true (by have := e.1 h; omega)]
  · rw [if_neg h]
    refine congrArg some ?_
    rw [decide_eq_decide]
    have : s.size ≠ 0 := fun h' => h (e.2 h')
    omega
end Go.Proofs.YtkmbpakhbicnaaaDoor
