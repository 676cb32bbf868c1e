/- The sum of a text, plainly: words below 2^32, the schedule, a round, a block; and that the two programs' words agree (choose, most, turns). No program in sight. -/
import Derived.Test.YtkmbpakhbicnaaaDoorWMore
namespace Go.Proofs.YtkmbpakhbicnaaaDoor.Sha
open Go.RowKit Go.Proofs.YtkmbpakhbicnaaaDoorW.PrintWords Go.Proofs.YtkmbpakhbicnaaaDoorW.PrintMore

abbrev M : Nat := 4294967296
def rot (x n : Nat) : Nat := x / 2 ^ n + x % 2 ^ n * 2 ^ (32 - n)
def big1 (x : Nat) : Nat := rot x 6 ^^^ rot x 11 ^^^ rot x 25
def big0 (x : Nat) : Nat := rot x 2 ^^^ rot x 13 ^^^ rot x 22
def sm0 (x : Nat) : Nat := rot x 7 ^^^ rot x 18 ^^^ x / 8
def sm1 (x : Nat) : Nat := rot x 17 ^^^ rot x 19 ^^^ x / 1024
def ch (e f g : Nat) : Nat := g ^^^ (e &&& (f ^^^ g))
def maj (a b c : Nat) : Nat := (a &&& b) ||| (c &&& (a ||| b))

theorem rot_lt (x n : Nat) (hx : x < M) (hn : 0 < n) (hn' : n < 32) : rot x n < M := by
  have h1 : x / 2 ^ n < 2 ^ (32 - n) := by
    apply Nat.div_lt_of_lt_mul
    rw [← Nat.pow_add, show n + (32 - n) = 32 by omega]
    exact hx
  have h2 : x % 2 ^ n + 1 ≤ 2 ^ n := Nat.mod_lt _ (Nat.two_pow_pos n)
  have h3 : (x % 2 ^ n + 1) * 2 ^ (32 - n) ≤ 2 ^ n * 2 ^ (32 - n) := Nat.mul_le_mul_right _ h2
  rw [← Nat.pow_add, show n + (32 - n) = 32 by omega, Nat.add_mul, Nat.one_mul] at h3
  unfold rot
  show _ < 2 ^ 32
  omega
theorem xor_lt {x y : Nat} (hx : x < M) (hy : y < M) : x ^^^ y < M := Nat.xor_lt_two_pow (n := 32) hx hy
theorem and_lt {x y : Nat} (hy : y < M) : x &&& y < M := Nat.and_lt_two_pow (n := 32) _ hy
theorem or_lt {x y : Nat} (hx : x < M) (hy : y < M) : x ||| y < M := Nat.or_lt_two_pow (n := 32) hx hy
theorem big1_lt {x : Nat} (hx : x < M) : big1 x < M := xor_lt (xor_lt (rot_lt _ _ hx (by decide) (by decide)) (rot_lt _ _ hx (by decide) (by decide))) (rot_lt _ _ hx (by decide) (by decide))
theorem big0_lt {x : Nat} (hx : x < M) : big0 x < M := xor_lt (xor_lt (rot_lt _ _ hx (by decide) (by decide)) (rot_lt _ _ hx (by decide) (by decide))) (rot_lt _ _ hx (by decide) (by decide))
theorem sm0_lt {x : Nat} (hx : x < M) : sm0 x < M := xor_lt (xor_lt (rot_lt _ _ hx (by decide) (by decide)) (rot_lt _ _ hx (by decide) (by decide))) (by have : x / 8 ≤ x := Nat.div_le_self _ _; omega)
theorem sm1_lt {x : Nat} (hx : x < M) : sm1 x < M := xor_lt (xor_lt (rot_lt _ _ hx (by decide) (by decide)) (rot_lt _ _ hx (by decide) (by decide))) (by have : x / 1024 ≤ x := Nat.div_le_self _ _; omega)
theorem ch_lt {e f g : Nat} (hf : f < M) (hg : g < M) : ch e f g < M := xor_lt hg (and_lt (xor_lt hf hg))
theorem maj_lt {a b c : Nat} (ha : a < M) (hb : b < M) : maj a b c < M := or_lt (and_lt hb) (and_lt (or_lt ha hb))

/-- The reference's choose. -/
theorem ch_ref (e f g : Nat) (he : e < M) (hf : f < M) (hg : g < M) : (e &&& f) ^^^ ((M - 1 - e) &&& g) = ch e f g := by
  apply Nat.eq_of_testBit_eq
  intro i
  have hm : (M - 1 - e).testBit i = (decide (i < 32) && !e.testBit i) := by
    have := Nat.testBit_two_pow_sub_succ (n := 32) (x := e) he i
    rwa [show 2 ^ 32 - (e + 1) = M - 1 - e by show 4294967296 - (e + 1) = 4294967296 - 1 - e; omega] at this
  unfold ch
  rw [Nat.testBit_xor, Nat.testBit_and, Nat.testBit_and, hm, Nat.testBit_xor, Nat.testBit_and, Nat.testBit_xor]
  by_cases hi : i < 32
  · rw [decide_eq_true hi]
    cases e.testBit i <;> cases f.testBit i <;> cases g.testBit i <;> rfl
  · have hz : ∀ z, z < M → z.testBit i = false := fun z hz => Nat.testBit_lt_two_pow (Nat.lt_of_lt_of_le hz (Nat.pow_le_pow_right (n := 2) (by decide) (Nat.le_of_not_lt hi)))
    rw [hz e he, hz f hf, hz g hg, decide_eq_false hi]
    rfl
/-- The reference's most. -/
theorem maj_ref (a b c : Nat) : (a &&& b) ^^^ (a &&& c) ^^^ (b &&& c) = maj a b c := by
  apply Nat.eq_of_testBit_eq
  intro i
  unfold maj
  simp only [Nat.testBit_xor, Nat.testBit_and, Nat.testBit_or]
  cases a.testBit i <;> cases b.testBit i <;> cases c.testBit i <;> rfl

structure Eight where
  a : Nat
  b : Nat
  c : Nat
  d : Nat
  e : Nat
  f : Nat
  g : Nat
  h : Nat
def Eight.get (x : Eight) : Nat → Nat
  | 0 => x.a | 1 => x.b | 2 => x.c | 3 => x.d | 4 => x.e | 5 => x.f | 6 => x.g | _ => x.h
def Eight.ok (x : Eight) : Prop := ∀ i, x.get i < M
def up (x : Eight) (k w : Nat) : Nat := (x.h + big1 x.e + ch x.e x.f x.g + k + w) % M
def rnd (x : Eight) (k w : Nat) : Eight :=
  ⟨(up x k w + big0 x.a + maj x.a x.b x.c) % M, x.a, x.b, x.c, (x.d + up x k w) % M, x.e, x.f, x.g⟩
theorem Eight.ok.lt {x : Eight} (h : x.ok) : x.a < M ∧ x.b < M ∧ x.c < M ∧ x.d < M ∧ x.e < M ∧ x.f < M ∧ x.g < M ∧ x.h < M :=
  ⟨h 0, h 1, h 2, h 3, h 4, h 5, h 6, h 7⟩
theorem Eight.ok_of {x : Eight} (h : x.a < M ∧ x.b < M ∧ x.c < M ∧ x.d < M ∧ x.e < M ∧ x.f < M ∧ x.g < M ∧ x.h < M) : x.ok := by
  obtain ⟨h0, h1, h2, h3, h4, h5, h6, h7⟩ := h
  intro i
  match i with
  | 0 => exact h0
  | 1 => exact h1
  | 2 => exact h2
  | 3 => exact h3
  | 4 => exact h4
  | 5 => exact h5
  | 6 => exact h6
  | (_ + 7) => exact h7
theorem up_lt (x : Eight) (k w : Nat) : up x k w < M := Nat.mod_lt _ (by decide)
theorem rnd_ok {x : Eight} (h : x.ok) (k w : Nat) : (rnd x k w).ok := by
  obtain ⟨h0, h1, h2, h3, h4, h5, h6, h7⟩ := h.lt
  exact Eight.ok_of ⟨Nat.mod_lt _ (by decide), h0, h1, h2, Nat.mod_lt _ (by decide), h4, h5, h6⟩

/-- The constants of the rounds. -/
def ks : List Nat := [1116352408, 1899447441, 3049323471, 3921009573, 961987163, 1508970993, 2453635748, 2870763221, 3624381080, 310598401, 607225278, 1426881987, 1925078388, 2162078206, 2614888103, 3248222580, 3835390401, 4022224774, 264347078, 604807628, 770255983, 1249150122, 1555081692, 1996064986, 2554220882, 2821834349, 2952996808, 3210313671, 3336571891, 3584528711, 113926993, 338241895, 666307205, 773529912, 1294757372, 1396182291, 1695183700, 1986661051, 2177026350, 2456956037, 2730485921, 2820302411, 3259730800, 3345764771, 3516065817, 3600352804, 4094571909, 275423344, 430227734, 506948616, 659060556, 883997877, 958139571, 1322822218, 1537002063, 1747873779, 1955562222, 2024104815, 2227730452, 2361852424, 2428436474, 2756734187, 3204031479, 3329325298]
def kk (t : Nat) : Nat := ks.getD t 0
theorem kk_lt (t : Nat) : kk t < M := by
  by_cases h : t < 64
  · exact (by decide : ∀ t, t < 64 → kk t < M) t h
  · unfold kk
    rw [List.getD_eq_getElem?_getD, List.getElem?_eq_none (by show 64 ≤ t; omega)]
    decide

/-- The schedule of sixteen words. -/
def W (l : Nat → Nat) (t : Nat) : Nat :=
  if t < 16 then l t else (sm1 (W l (t - 2)) + W l (t - 7) + sm0 (W l (t - 15)) + W l (t - 16)) % M
termination_by t
theorem W_lo (l : Nat → Nat) {t : Nat} (h : t < 16) : W l t = l t := by rw [W, if_pos h]
theorem W_hi (l : Nat → Nat) (t : Nat) : W l (t + 16) = (sm1 (W l (t + 14)) + W l (t + 9) + sm0 (W l (t + 1)) + W l t) % M := by
  rw [W, if_neg (by omega)]
  rfl
theorem W_lt (l : Nat → Nat) (hl : ∀ i, i < 16 → l i < M) (t : Nat) : W l t < M := by
  by_cases h : t < 16
  · rw [W_lo l h]; exact hl t h
  · rw [show t = (t - 16) + 16 by omega, W_hi]
    exact Nat.mod_lt _ (by decide)

/-- The state behind t rounds. -/
def st (x : Eight) (l : Nat → Nat) : Nat → Eight
  | 0 => x
  | t + 1 => rnd (st x l t) (kk t) (W l t)
theorem st_ok {x : Eight} (h : x.ok) (l : Nat → Nat) : ∀ t, (st x l t).ok
  | 0 => h
  | t + 1 => rnd_ok (st_ok h l t) _ _
def plus (x y : Eight) : Eight := ⟨(x.a + y.a) % M, (x.b + y.b) % M, (x.c + y.c) % M, (x.d + y.d) % M, (x.e + y.e) % M, (x.f + y.f) % M, (x.g + y.g) % M, (x.h + y.h) % M⟩
theorem plus_ok (x y : Eight) : (plus x y).ok := Eight.ok_of ⟨Nat.mod_lt _ (by decide), Nat.mod_lt _ (by decide), Nat.mod_lt _ (by decide), Nat.mod_lt _ (by decide), Nat.mod_lt _ (by decide), Nat.mod_lt _ (by decide), Nat.mod_lt _ (by decide), Nat.mod_lt _ (by decide)⟩
theorem plus_get (x y : Eight) (i : Nat) : (plus x y).get i = (x.get i + y.get i) % M := by
  match i with
  | 0 => rfl
  | 1 => rfl
  | 2 => rfl
  | 3 => rfl
  | 4 => rfl
  | 5 => rfl
  | 6 => rfl
  | (_ + 7) => rfl

/-- The first m of the bytes b 4j .., as one number. -/
def pw (b : Nat → Nat) (j : Nat) : Nat → Nat
  | 0 => 0
  | m + 1 => pw b j m * 256 + b (4 * j + m)
def word (b : Nat → Nat) (j : Nat) : Nat := pw b j 4
theorem pw_lt {b : Nat → Nat} (j : Nat) : ∀ m, (∀ i, i < m → b (4 * j + i) < 256) → pw b j m < 256 ^ m
  | 0, _ => by simp [pw]
  | m + 1, h => by
    have h1 := pw_lt j m (fun i hi => h i (by omega))
    have h2 := h m (by omega)
    rw [pw, Nat.pow_succ]
    omega
theorem pw_eq {b c : Nat → Nat} (j : Nat) : ∀ m, (∀ i, i < m → b (4 * j + i) = c (4 * j + i)) → pw b j m = pw c j m
  | 0, _ => rfl
  | m + 1, h => by rw [pw, pw, pw_eq j m (fun i hi => h i (by omega)), h m (by omega)]
/-- Behind a block of 64 bytes. -/
def comp (x : Eight) (b : Nat → Nat) : Eight := plus x (st x (word b) 64)
/-- Behind the first n blocks of b. -/
def many (x : Eight) (b : Nat → Nat) : Nat → Eight
  | 0 => x
  | n + 1 => comp (many x b n) (fun i => b (64 * n + i))
theorem W_eq {l m : Nat → Nat} (h : ∀ i, i < 16 → l i = m i) (t : Nat) : W l t = W m t := by
  induction t using Nat.strongRecOn with
  | _ t ih =>
    by_cases ht : t < 16
    · rw [W_lo l ht, W_lo m ht, h t ht]
    · rw [show t = (t - 16) + 16 by omega, W_hi, W_hi, ih _ (by omega), ih _ (by omega), ih _ (by omega), ih _ (by omega)]
theorem st_eq {l m : Nat → Nat} (x : Eight) (h : ∀ i, i < 16 → l i = m i) : ∀ t, st x l t = st x m t
  | 0 => rfl
  | t + 1 => by rw [st, st, st_eq x h t, W_eq h]
theorem comp_eq (x : Eight) {b c : Nat → Nat} (h : ∀ i, i < 64 → b i = c i) : comp x b = comp x c := by
  unfold comp
  rw [st_eq (l := word b) (m := word c) x (fun i hi => pw_eq i 4 (fun k hk => h _ (by omega)))]
theorem many_eq (x : Eight) {b c : Nat → Nat} : ∀ n, (∀ i, i < 64 * n → b i = c i) → many x b n = many x c n
  | 0, _ => rfl
  | n + 1, h => by rw [many, many, many_eq x n (fun i hi => h i (by omega)), comp_eq _ (fun i hi => h _ (by omega))]
theorem many_ok {x : Eight} (h : x.ok) (b : Nat → Nat) : ∀ n, (many x b n).ok
  | 0 => h
  | _ + 1 => plus_ok _ _
theorem many_add (x : Eight) (b : Nat → Nat) (n : Nat) : ∀ m, many x b (n + m) = many (many x b n) (fun i => b (64 * n + i)) m
  | 0 => rfl
  | m + 1 => by
    rw [show n + (m + 1) = (n + m) + 1 by omega, many, many, many_add x b n m]
    exact comp_eq _ (fun i _ => by rw [Nat.mul_add, Nat.add_assoc])
def init : Eight := ⟨1779033703, 3144134277, 1013904242, 2773480762, 1359893119, 2600822924, 528734635, 1541459225⟩
theorem init_ok : init.ok := Eight.ok_of (by decide)

/-- A byte of s. -/
def by8 (s : ByteArray) (i : Nat) : Nat := (s.toList.getD i 0).toNat
theorem by8_lt (s : ByteArray) (i : Nat) : by8 s i < 256 := UInt8.toNat_lt _
/-- How many blocks a text of n bytes takes with its end. -/
def blocks (n : Nat) : Nat := (n + 72) / 64
/-- The text with its end: 128, then nothing, then eight bytes: how many bits. -/
def padded (s : ByteArray) (i : Nat) : Nat :=
  if i < s.size then by8 s i else if i = s.size then 128 else 8 * s.size / 256 ^ (64 * blocks s.size - 1 - i) % 256
def sum (s : ByteArray) : Eight := many init (padded s) (blocks s.size)
/-- The 32 bytes of eight words. -/
def outs (x : Eight) : List UInt8 := (List.range 32).map fun i => UInt8.ofNat (x.get (i / 4) / 256 ^ (3 - i % 4))
def hash (s : ByteArray) : ByteArray := ⟨(outs (sum s)).toArray⟩
theorem hash_size (s : ByteArray) : (hash s).size = 32 := by
  show (outs (sum s)).toArray.size = 32
  rw [List.size_toArray, outs, List.length_map, List.length_range]

/-! Numbers as the program has them. -/
theorem u32_wrap (n : Int) : IntKind.u32.wrap n = n % 4294967296 := IntKind.wrap_u32 n
theorem u32_nat (n : Nat) : IntKind.u32.wrap (n : Int) = ((n % M : Nat) : Int) := by
  rw [u32_wrap]
  show _ = ((n % 4294967296 : Nat) : Int)
  omega
theorem i64_nat {n : Nat} (h : n < 9223372036854775808) : wrap64 (n : Int) = (n : Int) := by unfold wrap64; omega
theorem bits32 (a b : Nat) (ha : a < M) (hb : b < M) :
    Go.bits .xor .u32 a b = ((a ^^^ b : Nat) : Int) ∧ Go.bits .and .u32 a b = ((a &&& b : Nat) : Int) ∧ Go.bits .or .u32 a b = ((a ||| b : Nat) : Int) := by
  have ha' : a % 2 ^ 32 = a := Nat.mod_eq_of_lt ha
  have hb' : b % 2 ^ 32 = b := Nat.mod_eq_of_lt hb
  have h1 : IntKind.u32.bits = 32 := rfl
  have hw : ∀ n : Nat, n < M → IntKind.u32.wrap (n : Int) = (n : Int) := fun n hn => by rw [u32_nat, Nat.mod_eq_of_lt hn]
  refine ⟨?_, ?_, ?_⟩
  · simp only [Go.bits, h1, BitVec.ofInt_natCast, BitVec.toNat_xor, BitVec.toNat_ofNat, ha', hb']
    exact hw _ (xor_lt ha hb)
  · simp only [Go.bits, h1, BitVec.ofInt_natCast, BitVec.toNat_and, BitVec.toNat_ofNat, ha', hb']
    exact hw _ (and_lt hb)
  · simp only [Go.bits, h1, BitVec.ofInt_natCast, BitVec.toNat_or, BitVec.toNat_ofNat, ha', hb']
    exact hw _ (or_lt ha hb)
theorem bits64 (a b : Nat) (ha : a < M) (hb : b < M) :
    Go.bits .xor .i64 a b = ((a ^^^ b : Nat) : Int) ∧ Go.bits .and .i64 a b = ((a &&& b : Nat) : Int) ∧ Go.bits .or .i64 a b = ((a ||| b : Nat) : Int) := by
  have hM : M ≤ 2 ^ 64 := by decide
  have ha' : a % 2 ^ 64 = a := Nat.mod_eq_of_lt (by omega)
  have hb' : b % 2 ^ 64 = b := Nat.mod_eq_of_lt (by omega)
  have h1 : IntKind.i64.bits = 64 := rfl
  have hw : ∀ n : Nat, n < M → IntKind.i64.wrap (n : Int) = (n : Int) := fun n hn => by
    rw [IntKind.wrap_i64]
    have : n < 4294967296 := hn
    omega
  refine ⟨?_, ?_, ?_⟩
  · simp only [Go.bits, h1, BitVec.ofInt_natCast, BitVec.toNat_xor, BitVec.toNat_ofNat, ha', hb']
    exact hw _ (xor_lt ha hb)
  · simp only [Go.bits, h1, BitVec.ofInt_natCast, BitVec.toNat_and, BitVec.toNat_ofNat, ha', hb']
    exact hw _ (and_lt hb)
  · simp only [Go.bits, h1, BitVec.ofInt_natCast, BitVec.toNat_or, BitVec.toNat_ofNat, ha', hb']
    exact hw _ (or_lt ha hb)

end Go.Proofs.YtkmbpakhbicnaaaDoor.Sha
