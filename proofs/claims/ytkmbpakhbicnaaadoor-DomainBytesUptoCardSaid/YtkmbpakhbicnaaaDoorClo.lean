/- The walks of digest: turns, the closure of a block, the next word of the schedule. -/
import Derived.Test.YtkmbpakhbicnaaaDoorPDgx
import Derived.Test.YtkmbpakhbicnaaaDoorSha
import Derived.Lib.Hide
import Derived.Lib.SmallJoins
import Derived.Outline
import Derived.BigQuiet
import Derived.Deep.QuietTactic
import Derived.Test.YtkmbpakhbicnaaaDoorQuietLast
namespace Go.Proofs.YtkmbpakhbicnaaaDoor
open Go.RowKit Go.Proofs.YtkmbpakhbicnaaaDoorW.PrintWords Go.Proofs.YtkmbpakhbicnaaaDoorW.PrintMore Go.Lib

theorem or_add (x n : Nat) (hx : x < Sha.M) (hn : 0 < n) (hn' : n < 32) : (x * 2 ^ (32 - n) % Sha.M) ||| (x / 2 ^ n) = Sha.rot x n := by
  have hp : 2 ^ n * 2 ^ (32 - n) = Sha.M := by rw [← Nat.pow_add, show n + (32 - n) = 32 by omega]
  have h1 : x / 2 ^ n < 2 ^ (32 - n) := Nat.div_lt_of_lt_mul (by rw [hp]; exact hx)
  have h2 : x * 2 ^ (32 - n) % Sha.M = 2 ^ (32 - n) * (x % 2 ^ n) := by rw [← hp, Nat.mul_comm (2 ^ n), Nat.mul_comm x, Nat.mul_mod_mul_left]
  rw [h2, ← Nat.two_pow_add_eq_or_of_lt h1]
  unfold Sha.rot
  rw [Nat.mul_comm, Nat.add_comm]
theorem rot_f (x n : Nat) (hx : x < Sha.M) (hn : 0 < n) (hn' : n < 32) : PDg.bits_RotateLeft32.f x (wrap64 (-(n : Int))) = some ((Sha.rot x n : Nat) : Int) := by
  have e1 : Go.bits .and .u64 (IntKind.u64.wrap (wrap64 (-(n : Int)))) 31 = ((32 - n : Nat) : Int) := by
    have : wrap64 (-(n : Int)) = -(n : Int) := by unfold wrap64; omega
    rw [this]
    exact (by decide +kernel : ∀ n : Fin 32, 0 < n.1 → Go.bits .and .u64 (IntKind.u64.wrap (-(n.1 : Int))) 31 = ((32 - n.1 : Nat) : Int)) ⟨n, hn'⟩ hn
  have e2 : IntKind.u64.wrap (32 - ((32 - n : Nat) : Int)) = (n : Int) := by simp [IntKind.wrap, IntKind.signed, IntKind.bits]; omega
  unfold PDg.bits_RotateLeft32.f
  rw [e1, e2, if_pos (by omega), if_pos (by omega)]
  have e3 : shl .u32 (x : Int) ((32 - n : Nat) : Int) = ((x * 2 ^ (32 - n) % Sha.M : Nat) : Int) := by
    unfold shl
    rw [Int.toNat_natCast, Nat.min_eq_left (by show 32 - n ≤ 32; omega), ← Sha.u32_nat, Int.natCast_mul]
    rfl
  have e4 : shr .u32 (x : Int) (n : Int) = ((x / 2 ^ n : Nat) : Int) := by
    unfold shr
    rw [Int.toNat_natCast, Nat.min_eq_left (by show n ≤ 32; omega)]
    rfl
  rw [e3, e4, (Sha.bits32 _ _ (Nat.mod_lt _ (by decide)) (Nat.lt_of_le_of_lt (Nat.div_le_self _ _) hx)).2.2, or_add x n hx hn hn']
theorem spread_f (x a b c : Nat) (hx : x < Sha.M) (ha : 0 < a ∧ a < 32) (hb : 0 < b ∧ b < 32) (hc : 0 < c ∧ c < 32) :
    PDg.digest_spread.f x a b c false = some ((Sha.rot x a ^^^ Sha.rot x b ^^^ Sha.rot x c : Nat) : Int) ∧
    PDg.digest_spread.f x a b c true = some ((Sha.rot x a ^^^ Sha.rot x b ^^^ x / 2 ^ c : Nat) : Int) := by
  have ra := Sha.rot_lt x a hx ha.1 ha.2
  have rb := Sha.rot_lt x b hx hb.1 hb.2
  have rc := Sha.rot_lt x c hx hc.1 hc.2
  have e4 : shr .u32 (x : Int) (c : Int) = ((x / 2 ^ c : Nat) : Int) := by
    unfold shr
    rw [Int.toNat_natCast, Nat.min_eq_left (by show c ≤ 32; omega)]
    rfl
  unfold PDg.digest_spread.f
  rw [rot_f x a hx ha.1 ha.2, rot_f x b hx hb.1 hb.2, rot_f x c hx hc.1 hc.2]
  simp only [Option.bind_some, if_true, Bool.false_eq_true, if_false]
  rw [if_pos (by omega), e4, (Sha.bits32 _ _ ra rb).1, (Sha.bits32 _ _ (Sha.xor_lt ra rb) rc).1, (Sha.bits32 _ _ (Sha.xor_lt ra rb) (Nat.lt_of_le_of_lt (Nat.div_le_self _ _) hx)).1]
  exact ⟨rfl, rfl⟩
theorem sp_sm1 (w : World) (x r : Nat) (hx : x < Sha.M) (hr : r = Sha.sm1 x) :
    Calls Tryd.prog 46 #[.int .u32 (x : Int), .int .i64 17, .int .i64 19, .int .i64 10, .bool true] w fun e w' => e = .returned (.int .u32 (r : Int)) ∧ ∃ m, w' = w.drewN m := by
  subst hr
  exact (PDg.digest_spread.calls _ 17 19 10 _ _ w (spread_f x 17 19 10 hx (by decide) (by decide) (by decide)).2).mono fun _ _ h => ⟨h.1, h.2.out⟩
theorem sp_sm0 (w : World) (x r : Nat) (hx : x < Sha.M) (hr : r = Sha.sm0 x) :
    Calls Tryd.prog 46 #[.int .u32 (x : Int), .int .i64 7, .int .i64 18, .int .i64 3, .bool true] w fun e w' => e = .returned (.int .u32 (r : Int)) ∧ ∃ m, w' = w.drewN m := by
  subst hr
  exact (PDg.digest_spread.calls _ 7 18 3 _ _ w (spread_f x 7 18 3 hx (by decide) (by decide) (by decide)).2).mono fun _ _ h => ⟨h.1, h.2.out⟩
theorem sp_big1 (w : World) (x r : Nat) (hx : x < Sha.M) (hr : r = Sha.big1 x) :
    Calls Tryd.prog 46 #[.int .u32 (x : Int), .int .i64 6, .int .i64 11, .int .i64 25, .bool false] w fun e w' => e = .returned (.int .u32 (r : Int)) ∧ ∃ m, w' = w.drewN m := by
  subst hr
  exact (PDg.digest_spread.calls _ 6 11 25 _ _ w (spread_f x 6 11 25 hx (by decide) (by decide) (by decide)).1).mono fun _ _ h => ⟨h.1, h.2.out⟩
theorem sp_big0 (w : World) (x r : Nat) (hx : x < Sha.M) (hr : r = Sha.big0 x) :
    Calls Tryd.prog 46 #[.int .u32 (x : Int), .int .i64 2, .int .i64 13, .int .i64 22, .bool false] w fun e w' => e = .returned (.int .u32 (r : Int)) ∧ ∃ m, w' = w.drewN m := by
  subst hr
  exact (PDg.digest_spread.calls _ 2 13 22 _ _ w (spread_f x 2 13 22 hx (by decide) (by decide) (by decide)).1).mono fun _ _ h => ⟨h.1, h.2.out⟩
theorem and7 (n : Nat) (h : n < 4294967296) : Go.bits .and .i64 (n : Int) 7 = ((n % 8 : Nat) : Int) := by
  rw [show (7 : Int) = ((7 : Nat) : Int) from rfl, (Sha.bits64 n 7 h (by decide)).2.1, show (7 : Nat) = 2 ^ 3 - 1 from rfl, Nat.and_two_pow_sub_one_eq_mod]
theorem and15 (n : Nat) (h : n < 4294967296) : Go.bits .and .i64 (n : Int) 15 = ((n % 16 : Nat) : Int) := by
  rw [show (15 : Int) = ((15 : Nat) : Int) from rfl, (Sha.bits64 n 15 h (by decide)).2.1, show (15 : Nat) = 2 ^ 4 - 1 from rfl, Nat.and_two_pow_sub_one_eq_mod]

theorem at_any (w : World) (gs gt i t : Nat) (hi : i < 8) (ht : t ≤ 64) (h : w.cell? ⟨gt, 0, none⟩ = some (.int .i64 (t : Int))) :
    Calls Tryd.prog 45 #[.int .i64 (i : Int), .pointer (some ⟨gs, 0, none⟩), .pointer (some ⟨gt, 0, none⟩)] w fun e w' => e = .returned (.pointer (some ⟨gs, (i + 64 - t) % 8, none⟩)) ∧ w' = w := by
  obtain ⟨m, hm⟩ : ∃ m : Nat, m = (i + 64 - t) % 8 := ⟨_, rfl⟩
  have e3 : Go.bits .and .i64 ((i : Int) + 64 - (t : Int)) 7 = (m : Int) := by
    rw [hm, ← and7 (i + 64 - t) (by omega)]
    congr 1
    omega
  have hm8 : m < 8 := by omega
  rw [← hm]
  replace hm := Lib.hid hm
  go_enter Tryd.func45, Tryd.ntmps45
  go_wp2
  go_ret
  exact ⟨rfl, rfl⟩

/-- The sixteen words of block g. -/
def Words (w : World) (g : Nat) (f : Nat → Nat) : Prop := ∀ i, i < 16 → w.cell? ⟨g, i, none⟩ = some (.int .u32 (f i : Int))
theorem cell_ne {w : World} {a b : Addr} {v u : Value} (h : a ≠ b) (hc : w.cell? b = some u) : (w.setCell a v).cell? b = some u := by
  rw [World.cell?_setCell_other (h := h)]
  exact hc
theorem next_sum (s0 s2 y1 y3 : Nat) : ((s0 : Int) + ((y1 : Int) + (s2 : Int) + (y3 : Int))) % 4294967296 = (((y1 + s2 + y3 + s0) % Sha.M : Nat) : Int) := by
  show _ = (((y1 + s2 + y3 + s0) % 4294967296 : Nat) : Int)
  omega
set_option maxHeartbeats 4000000 in
set_option maxRecDepth 100000 in
theorem next_any (w : World) (g t : Nat) (f : Nat → Nat) (ht : t < 64) (hf : ∀ i, f i < Sha.M)
    (hb : ∃ cs, w.heap[g]? = some (.cells cs 93 (0, 0)))
    (h : ∀ i, i < 16 → w.cell? ⟨g, i, none⟩ = some (.int .u32 (f i : Int))) :
    Calls Tryd.prog 47 #[.pointer (some ⟨g, 0, none⟩), .int .i64 (t : Int)] w fun e w' => e = .returned (.int .u32 (f (t % 16) : Int)) ∧
      ∃ n, w' = (w.drewN n).setCell ⟨g, t % 16, none⟩ (.int .u32 (((Sha.sm1 (f ((t + 14) % 16)) + f ((t + 9) % 16) + Sha.sm0 (f ((t + 1) % 16)) + f (t % 16)) % Sha.M : Nat) : Int)) := by
  obtain ⟨cs, hb⟩ := hb
  have hfz : w.frozen? ⟨g, t % 16, none⟩ = false := Go.Joins.unfrozen_of_block hb _
  obtain ⟨a0, ha0⟩ : ∃ m : Nat, m = t % 16 := ⟨_, rfl⟩
  obtain ⟨a1, ha1⟩ : ∃ m : Nat, m = (t + 14) % 16 := ⟨_, rfl⟩
  obtain ⟨a2, ha2⟩ : ∃ m : Nat, m = (t + 9) % 16 := ⟨_, rfl⟩
  obtain ⟨a3, ha3⟩ : ∃ m : Nat, m = (t + 1) % 16 := ⟨_, rfl⟩
  rw [← ha0, ← ha1, ← ha2, ← ha3]
  rw [← ha0] at hfz
  have e0 : Go.bits .and .i64 (t : Int) 15 = (a0 : Int) := by rw [ha0, ← and15 t (by omega)]
  have e1 : Go.bits .and .i64 ((t : Int) + 14) 15 = (a1 : Int) := by rw [ha1, ← and15 (t + 14) (by omega)]; rfl
  have e2 : Go.bits .and .i64 ((t : Int) + 9) 15 = (a2 : Int) := by rw [ha2, ← and15 (t + 9) (by omega)]; rfl
  have e3 : Go.bits .and .i64 ((t : Int) + 1) 15 = (a3 : Int) := by rw [ha3, ← and15 (t + 1) (by omega)]; rfl
  have l0 : a0 < 16 := by omega
  have l1 : a1 < 16 := by omega
  have l2 : a2 < 16 := by omega
  have l3 : a3 < 16 := by omega
  have t1 : IntKind.i64.wrap ((t : Int) + 14) = (t : Int) + 14 := by rw [IntKind.wrap_i64]; omega
  have t2 : IntKind.i64.wrap ((t : Int) + 9) = (t : Int) + 9 := by rw [IntKind.wrap_i64]; omega
  have t3 : IntKind.i64.wrap ((t : Int) + 1) = (t : Int) + 1 := by rw [IntKind.wrap_i64]; omega
  have m0 : (0 : Int) ≤ (a0 : Int) := by omega
  have m1 : (0 : Int) ≤ (a1 : Int) := by omega
  have m2 : (0 : Int) ≤ (a2 : Int) := by omega
  have m3 : (0 : Int) ≤ (a3 : Int) := by omega
  have n0 : (a0 : Int) < 16 := by omega
  have n1 : (a1 : Int) < 16 := by omega
  have n2 : (a2 : Int) < 16 := by omega
  have n3 : (a3 : Int) < 16 := by omega
  have x1 : (⟨g, a0, none⟩ : Addr) ≠ ⟨g, a1, none⟩ := by simp only [ne_eq, Addr.mk.injEq, true_and, and_true]; omega
  have x2 : (⟨g, a0, none⟩ : Addr) ≠ ⟨g, a2, none⟩ := by simp only [ne_eq, Addr.mk.injEq, true_and, and_true]; omega
  have x3 : (⟨g, a0, none⟩ : Addr) ≠ ⟨g, a3, none⟩ := by simp only [ne_eq, Addr.mk.injEq, true_and, and_true]; omega
  obtain ⟨s0, hs0⟩ : ∃ s : Nat, s = f a0 := ⟨_, rfl⟩
  obtain ⟨s1, hs1⟩ : ∃ s : Nat, s = f a1 := ⟨_, rfl⟩
  obtain ⟨s2, hs2⟩ : ∃ s : Nat, s = f a2 := ⟨_, rfl⟩
  obtain ⟨s3, hs3⟩ : ∃ s : Nat, s = f a3 := ⟨_, rfl⟩
  rw [← hs0, ← hs1, ← hs2, ← hs3]
  have f0 : s0 < Sha.M := hs0 ▸ hf _
  have f1 : s1 < Sha.M := by rw [hs1]; exact hf _
  have f2 : s2 < Sha.M := by rw [hs2]; exact hf _
  have f3 : s3 < Sha.M := by rw [hs3]; exact hf _
  have c0 : w.cell? ⟨g, a0, none⟩ = some (.int .u32 (s0 : Int)) := by rw [hs0]; exact h a0 l0
  have c1 : w.cell? ⟨g, a1, none⟩ = some (.int .u32 (s1 : Int)) := by rw [hs1]; exact h a1 l1
  have c2 : w.cell? ⟨g, a2, none⟩ = some (.int .u32 (s2 : Int)) := by rw [hs2]; exact h a2 l2
  have c3 : w.cell? ⟨g, a3, none⟩ = some (.int .u32 (s3 : Int)) := by rw [hs3]; exact h a3 l3
  obtain ⟨y1, hy1⟩ : ∃ y : Nat, y = Sha.sm1 s1 := ⟨_, rfl⟩
  obtain ⟨y3, hy3⟩ : ∃ y : Nat, y = Sha.sm0 s3 := ⟨_, rfl⟩
  rw [← hy1, ← hy3]
  have C1 := Lib.hid (fun w => sp_sm1 w s1 y1 f1 hy1)
  have C3 := Lib.hid (fun w => sp_sm0 w s3 y3 f3 hy3)
  have y1l : y1 < Sha.M := by rw [hy1]; exact Sha.sm1_lt f1
  have y3l : y3 < Sha.M := by rw [hy3]; exact Sha.sm0_lt f3
  clear h hb
  replace ha0 := Lib.hid ha0
  replace ha1 := Lib.hid ha1
  replace ha2 := Lib.hid ha2
  replace ha3 := Lib.hid ha3
  replace hs0 := Lib.hid hs0
  replace hs1 := Lib.hid hs1
  replace hs2 := Lib.hid hs2
  replace hs3 := Lib.hid hs3
  replace hy1 := Lib.hid hy1
  replace hy3 := Lib.hid hy3
  replace f0 := Lib.hid f0
  replace f1 := Lib.hid f1
  replace f2 := Lib.hid f2
  replace f3 := Lib.hid f3
  replace y1l := Lib.hid y1l
  replace y3l := Lib.hid y3l
  replace hf := Lib.hid hf
  go_enter Tryd.func47, Tryd.ntmps47
  go_wp2
  refine wp_region_quiet_last_lit 34 _ (by rfl) (by kernel_rfl) (by kernel_rfl) rfl (by kernel_rfl) (by kernel_rfl) (by kernel_rfl) (by kernel_rfl) ?_
  simp only [List.take_succ_cons, List.take_zero]
  repeat (go_big_quiet_step ((go_at_call 46; first | (with_reducible exact Calls.quiet_of (C1.out _)) | (with_reducible exact Calls.quiet_of (C3.out _)))))
  refine wpQuiet_nil ?_
  rintro _ ⟨nq, rfl⟩
  go_simp
  go_wp2
  go_ret
  exact ⟨rfl, nq, congrArg (World.setCell _ _) (congrArg (Value.int _) (next_sum s0 s2 y1 y3))⟩
end Go.Proofs.YtkmbpakhbicnaaaDoor
