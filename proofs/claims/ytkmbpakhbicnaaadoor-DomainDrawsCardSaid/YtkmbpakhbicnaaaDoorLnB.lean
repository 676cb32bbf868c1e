/- limb.Mod: a remainder, bit by bit.
A product limb by limb: its numbers, and its place in memory.
limb.Mul: a product.
The reference's Times: a product.
limb.NewMont: it comes to an end.
The reference's field: its constants, Zero, Has.
The reference's Reduce: what is above 2^256 folded back. -/
import Derived.Test.YtkmbpakhbicnaaaDoorLnA
import Derived.Deep.RegionWith
import Derived.Deep.RegionHeld3
namespace Go.Proofs.YtkmbpakhbicnaaaDoor
open Go.RowKit Go.Proofs.YtkmbpakhbicnaaaDoorW.PrintWords Go.Lib
namespace Lm
abbrev four (W : World) (R : Nat) (v0 v1 v2 v3 : Value) : World := (((W.setCell ⟨R, 0, none⟩ v0).setCell ⟨R, 1, none⟩ v1).setCell ⟨R, 2, none⟩ v2).setCell ⟨R, 3, none⟩ v3
/-- The middle of Mod: its arguments, its result's place, what remains so far. -/
structure MS (w wr : World) (W m R : Nat) : Prop where
  below : Below w.heap.size w wr
  a : wr.heap[w.heap.size]? = some (.cells #[u (lm W 0), u (lm W 1), u (lm W 2), u (lm W 3), u (lm W 4), u (lm W 5), u (lm W 6), u (lm W 7)] 64 (0, 0))
  m : wr.heap[w.heap.size + 1]? = some (.cells #[u (lm m 0), u (lm m 1), u (lm m 2), u (lm m 3)] 38 (0, 0))
  z : wr.heap[w.heap.size + 1 + 1]? = some (.cells #[.int .u64 0, .int .u64 0, .int .u64 0, .int .u64 0] 38 (0, 0))
  r : wr.heap[w.heap.size + 1 + 1 + 1]? = some (.cells #[u (lm R 0), u (lm R 1), u (lm R 2), u (lm R 3)] 38 (0, 0))
theorem MS.move {w wr w2 : World} {W m R : Nat} (h : MS w wr W m R) (hb : Below wr.heap.size wr w2) : MS w w2 W m R := by
  have lt : ∀ (k : Nat) (o : Obj), wr.heap[k]? = some o → k < wr.heap.size := fun k o e => (Array.getElem?_eq_some_iff.1 e).1
  exact ⟨below_then h.below h.below.size hb, (hb.block _ (lt _ _ h.a)).trans h.a, (hb.block _ (lt _ _ h.m)).trans h.m, (hb.block _ (lt _ _ h.z)).trans h.z, (hb.block _ (lt _ _ h.r)).trans h.r⟩
theorem MS.put {w wr : World} {W m R : Nat} (h : MS w wr W m R) (R' : Nat) : MS w (four wr (w.heap.size + 1 + 1 + 1) (u (lm R' 0)) (u (lm R' 1)) (u (lm R' 2)) (u (lm R' 3))) W m R' := by
  have far : ∀ k, k ≠ w.heap.size + 1 + 1 + 1 → (four wr (w.heap.size + 1 + 1 + 1) (u (lm R' 0)) (u (lm R' 1)) (u (lm R' 2)) (u (lm R' 3))).heap[k]? = wr.heap[k]? := fun k hk =>
    (Below.heap_setCell _ ⟨w.heap.size + 1 + 1 + 1, 3, none⟩ _ k hk).trans ((Below.heap_setCell _ ⟨w.heap.size + 1 + 1 + 1, 2, none⟩ _ k hk).trans ((Below.heap_setCell _ ⟨w.heap.size + 1 + 1 + 1, 1, none⟩ _ k hk).trans (Below.heap_setCell _ ⟨w.heap.size + 1 + 1 + 1, 0, none⟩ _ k hk)))
  exact ⟨below_four h.below _ (by omega) _ _ _ _, (far _ (by omega)).trans h.a, (far _ (by omega)).trans h.m, (far _ (by omega)).trans h.z, four_set h.r rfl _ _ _ _⟩
theorem MS.put0 {w wr : World} {W m R : Nat} (h : MS w wr W m R) (b : Nat) (hR : R % 2 = 0) (hb : b ≤ 1) : MS w (wr.setCell ⟨w.heap.size + 1 + 1 + 1, 0, none⟩ (u (lm R 0 + b))) W m (R + b) := by
  have far : ∀ k, k ≠ w.heap.size + 1 + 1 + 1 → (wr.setCell ⟨w.heap.size + 1 + 1 + 1, 0, none⟩ (u (lm R 0 + b))).heap[k]? = wr.heap[k]? := fun k hk => Below.heap_setCell _ ⟨w.heap.size + 1 + 1 + 1, 0, none⟩ _ k hk
  obtain ⟨e0, e1⟩ := lm_even R b hR hb
  refine ⟨below_set h.below _ _ (by simp; omega), (far _ (by omega)).trans h.a, (far _ (by omega)).trans h.m, (far _ (by omega)).trans h.z, ?_⟩
  rw [e0, e1 0, e1 1, e1 2]
  exact Go.Joins.block_setCell h.r _
theorem MS.drew {w wr : World} {W m R : Nat} (h : MS w wr W m R) : MS w wr.drew W m R := ⟨h.below.drew, h.a, h.m, h.z, h.r⟩
theorem MS.limb {w wr : World} {W m R : Nat} (h : MS w wr W m R) : ∀ j, j < 8 → wr.cell? ⟨w.heap.size, j, none⟩ = some (u (lm W j))
  | 0, _ => Go.Joins.cell_of_block h.a 0
  | 1, _ => Go.Joins.cell_of_block h.a 1
  | 2, _ => Go.Joins.cell_of_block h.a 2
  | 3, _ => Go.Joins.cell_of_block h.a 3
  | 4, _ => Go.Joins.cell_of_block h.a 4
  | 5, _ => Go.Joins.cell_of_block h.a 5
  | 6, _ => Go.Joins.cell_of_block h.a 6
  | 7, _ => Go.Joins.cell_of_block h.a 7
  | n + 8, h => by omega
set_option exponentiation.threshold 600 in
set_option maxRecDepth 100000 in
set_option maxHeartbeats 4000000 in
theorem mod_any (w : World) (W m : Nat) (hW : W < B8) (hm0 : 0 < m) (hm : m < B4) :
    Calls Tryd.prog 41 #[wideV W, numV m] w fun e w' => e = .returned (.tuple #[numV (W % m), .int .i64 0]) ∧ Below w.heap.size w w' := by
  obtain ⟨g0, g1, g2, g3⟩ := alloc4_at w #[u (lm W 0), u (lm W 1), u (lm W 2), u (lm W 3), u (lm W 4), u (lm W 5), u (lm W 6), u (lm W 7)] #[u (lm m 0), u (lm m 1), u (lm m 2), u (lm m 3)] #[.int .u64 0, .int .u64 0, .int .u64 0, .int .u64 0] #[.int .u64 0, .int .u64 0, .int .u64 0, .int .u64 0] 64 38 38 38
  obtain ⟨k1, k2⟩ := alloc4 w (.cells #[u (lm W 0), u (lm W 1), u (lm W 2), u (lm W 3), u (lm W 4), u (lm W 5), u (lm W 6), u (lm W 7)] 64) (.cells #[u (lm m 0), u (lm m 1), u (lm m 2), u (lm m 3)] 38) (.cells #[.int .u64 0, .int .u64 0, .int .u64 0, .int .u64 0] 38) (.cells #[.int .u64 0, .int .u64 0, .int .u64 0, .int .u64 0] 38) _ rfl
  have st0 : MS w _ W m 0 := ⟨k1, g0, g1, g2, g3⟩
  have EQ : ∀ X, (Op.equalIn 10000 38 (.agg #[u (lm m 0), u (lm m 1), u (lm m 2), u (lm m 3)]) (.agg #[.int .u64 0, .int .u64 0, .int .u64 0, .int .u64 0])).run Tryd.prog X = .ok false X := fun X => by
    have := eqV hm (b := 0) (by decide) X
    rw [show decide (m = 0) = false by simp; omega] at this
    exact this
  replace st0 := Lib.hid st0
  clear g0 g1 g2 g3 k1 k2
  go_enter Tryd.func41, Tryd.ntmps41
  go_wp2_with fail
  go_loopg [7] 8 (fun gk v7 wr => ∃ k : Nat, k ≤ 8 ∧ gk = k ∧ v7 = .int .i64 (64 * (k : Int) - 1) ∧ W < 2 ^ (64 * k) ∧ MS w wr W m 0)
  case atStart => exact ⟨8, by omega, rfl, rfl, hW, st0.out⟩
  case round =>
    clear st0
    obtain ⟨k, hk, hgk, rfl, hWk, hS⟩ := hrel
    replace hWk := Lib.hid hWk
    rcases (show k = 0 ∨ ∃ i, k = i + 1 from by cases k with | zero => exact .inl rfl | succ n => exact .inr ⟨n, rfl⟩) with hk0 | ⟨k', hk1⟩
    · subst hk0
      replace hS := Lib.hid hS
      rw [show 64 * ((0 : Nat) : Int) - 1 = -1 by rfl]
      go_wp2_with fail
      go_loopg [8] 0 (fun gk v8 wz => ∃ n : Nat, n ≤ 512 ∧ gk = n ∧ v8 = .int .i64 ((n : Int) - 1) ∧ MS w wz W m (W / 2 ^ n % m))
      case atStart => exact ⟨0, by omega, rfl, congrArg (Value.int .i64) rfl, by rw [Nat.div_eq_of_lt hWk.out, Nat.zero_mod]; exact hS.out⟩
      case round =>
        obtain ⟨n, hn, hgn, rfl, hS2⟩ := hrel
        rcases (show n = 0 ∨ ∃ i, n = i + 1 from by cases n with | zero => exact .inl rfl | succ n => exact .inr ⟨n, rfl⟩) with hn0 | ⟨i, hn1⟩
        · subst hn0
          rw [Nat.pow_zero, Nat.div_one] at hS2
          obtain ⟨x0, x1, x2, x3⟩ := cell4 hS2.r
          obtain ⟨y0, y1, y2, y3⟩ := cell4 hS2.z
          obtain ⟨z0, z1, z2, z3⟩ := free4 hS2.z
          obtain ⟨p0, p1, p2, p3⟩ := cell4 (four_set hS2.z rfl (u (lm (W % m) 0)) (u (lm (W % m) 1)) (u (lm (W % m) 2)) (u (lm (W % m) 3)))
          have hB := below_four hS2.below (w.heap.size + 1 + 1) (by omega) (u (lm (W % m) 0)) (u (lm (W % m) 1)) (u (lm (W % m) 2)) (u (lm (W % m) 3))
          replace hB := Lib.hid hB
          replace hS2 := Lib.hid hS2
          go_wp2
          refine bodyPost_ret (v := .tuple #[numV (W % m), .int .i64 0]) (by simp [results, Tryd.results41, go_sem, p0, p1, p2, p3]) rfl ⟨rfl, hB.out⟩
        · subst hn1
          obtain ⟨hst1, hst2⟩ := mod_step W m i hm0
          obtain ⟨R, hR⟩ : ∃ R, R = W / 2 ^ (i + 1) % m := ⟨_, rfl⟩
          have hRm : R < m := by rw [hR]; exact Nat.mod_lt _ hm0
          obtain ⟨j, hj⟩ : ∃ j, j = i / 64 := ⟨_, rfl⟩
          obtain ⟨r, hr⟩ : ∃ r, r = i % 64 := ⟨_, rfl⟩
          have hj8 : j < 8 := by omega
          have hr64 : r < 64 := by omega
          obtain ⟨b, hb⟩ : ∃ b, b = W / 2 ^ i % 2 := ⟨_, rfl⟩
          have hb1 : b ≤ 1 := by omega
          rw [← hR] at hst1 hst2 hS2
          rw [← hb] at hst1 hst2
          have hbit : lm W j / 2 ^ r % 2 = b := by rw [lm_bit j W r hr64, hb, show 64 * j + r = i by omega]
          have hd : (i : Int) / 64 = (j : Int) := by omega
          have hmm : (i : Int) % 64 = (r : Int) := by omega
          obtain ⟨q, hq⟩ : ∃ q, q = lm W j / 2 ^ r := ⟨_, rfl⟩
          rw [← hq] at hbit
          have hq2 : q < 18446744073709551616 := by rw [hq]; exact Nat.lt_of_le_of_lt (Nat.div_le_self _ _) (lm_lt j W)
          have hsh : (lm W j : Int) / 2 ^ r = (q : Int) := by rw [hq]; simp
          have han := and_bit q hq2
          rw [hbit] at han
          obtain ⟨hR4, hX2e, hX34, hle1, hsel, hres⟩ := mod_nums R b m hRm hm hb1
          have C1 := fun X => add_any X (lm R) (lm R) (fun i => lm_lt i R) (fun i => lm_lt i R)
          rw [(addN hR4 hR4).1, (addN hR4 hR4).2] at C1
          have C2 := fun X => sub_any X (lm ((R + R) % B4 + b)) (lm m)
          rw [(subN hX34 hm).1, (subN hX34 hm).2] at C2
          rw [← hst2] at hres
          have C3 := fun X => select_any X (decide (m ≤ 2 * R + b)) (lm (((R + R) % B4 + b + B4 - m) % B4)) (lm ((R + R) % B4 + b)) (fun i => lm_lt i _) (fun i => lm_lt i _)
          rw [hres] at C3
          have hor := or_bit (lm ((R + R) % B4) 0) b (by simp only [lm]; omega) (lm_lt 0 _) hb1
          have hov : (lm R 3 : Int) / 9223372036854775808 = ((lm R 3 / 9223372036854775808 : Nat) : Int) := by simp
          obtain ⟨X2, hX2⟩ : ∃ X2, X2 = (R + R) % B4 := ⟨_, rfl⟩
          rw [← hX2] at C1 C2 C3 hX2e hX34 hle1 hsel hor
          obtain ⟨X3, hX3⟩ : ∃ X3, X3 = X2 + b := ⟨_, rfl⟩
          rw [← hX3] at C2 C3 hX34 hle1 hsel
          obtain ⟨D, hD⟩ : ∃ D, D = (X3 + B4 - m) % B4 := ⟨_, rfl⟩
          rw [← hD] at C2 C3
          obtain ⟨le, hle⟩ : ∃ le, le = if X3 < m then 1 else 0 := ⟨_, rfl⟩
          rw [← hle] at C2 hle1 hsel
          obtain ⟨bt, hbt⟩ : ∃ bt, bt = decide (m ≤ 2 * R + b) := ⟨_, rfl⟩
          rw [← hbt] at C3 hsel
          obtain ⟨o, ho⟩ : ∃ o, o = lm R 3 / 9223372036854775808 := ⟨_, rfl⟩
          rw [← ho] at hov hsel
          obtain ⟨R', hR'⟩ : ∃ R', R' = W / 2 ^ i % m := ⟨_, rfl⟩
          rw [← hR'] at C3
          obtain ⟨cy, hcy⟩ : ∃ cy, cy = (R + R) / B4 := ⟨_, rfl⟩
          rw [← hcy] at C1
          obtain ⟨x0, x1, x2, x3⟩ := cell4 hS2.r
          obtain ⟨z0, z1, z2, z3⟩ := free4 hS2.r
          have q1 : (0 : Int) ≤ (i : Int) := by omega
          replace hS2 := Lib.hid hS2
          replace C1 := Lib.hid C1
          replace C2 := Lib.hid C2
          replace C3 := Lib.hid C3
          replace hst1 := Lib.hid hst1
          replace hst2 := Lib.hid hst2
          replace hres := Lib.hid hres
          replace hR' := Lib.hid hR'
          replace hbt := Lib.hid hbt
          replace hle := Lib.hid hle
          replace hD := Lib.hid hD
          replace hX3 := Lib.hid hX3
          replace hX2 := Lib.hid hX2
          replace hX2e := Lib.hid hX2e
          replace hX34 := Lib.hid hX34
          replace ho := Lib.hid ho
          replace hcy := Lib.hid hcy
          replace hq := Lib.hid hq
          replace hb := Lib.hid hb
          replace hj := Lib.hid hj
          replace hr := Lib.hid hr
          replace hR := Lib.hid hR
          replace hbit := Lib.hid hbit
          replace hgn := Lib.hid hgn
          replace hR4 := Lib.hid hR4
          replace hW := Lib.hid hW
          replace hm := Lib.hid hm
          rw [show ((i + 1 : Nat) : Int) - 1 = (i : Int) by omega]
          go_wp2_with fail
          refine (C1.out _).mono ?_
          rintro e w2 ⟨rfl, hb2⟩
          have S2 := hS2.out.move hb2
          obtain ⟨f0, f1, f2, f3⟩ := free4 S2.r
          obtain ⟨k0, k1, k2, k3⟩ := cell4 S2.r
          obtain ⟨W3, hW3⟩ : ∃ W3, W3 = (((w2.setCell ⟨w.heap.size + 1 + 1 + 1, 0, none⟩ (.int .u64 (lm X2 0 : Nat))).setCell ⟨w.heap.size + 1 + 1 + 1, 1, none⟩ (.int .u64 (lm X2 1 : Nat))).setCell ⟨w.heap.size + 1 + 1 + 1, 2, none⟩ (.int .u64 (lm X2 2 : Nat))).setCell ⟨w.heap.size + 1 + 1 + 1, 3, none⟩ (.int .u64 (lm X2 3 : Nat)) := ⟨_, rfl⟩
          have S3 : MS w W3 W m X2 := by rw [hW3]; exact S2.put X2
          replace hb2 := Lib.hid hb2
          replace S2 := Lib.hid S2
          replace hW3 := Lib.hid hW3
          go_wp2_with fail
          rw [← hW3.out]
          have S4 := (S3.put0 b hX2e.out hb1).drew
          have c0 := S3.limb j hj8
          have c1 : W3.cell? ⟨w.heap.size + 1 + 1 + 1, 0, none⟩ = some (u (lm X2 0)) := Go.Joins.cell_of_block S3.r 0
          have c2 : W3.frozen? ⟨w.heap.size + 1 + 1 + 1, 0, none⟩ = false := Go.Joins.unfrozen_of_block S3.r 0
          obtain ⟨W4, hW4⟩ : ∃ W4, W4 = (W3.setCell ⟨w.heap.size + 1 + 1 + 1, 0, none⟩ (.int .u64 ((lm X2 0 + b : Nat)))).drew := ⟨_, rfl⟩
          rw [← hW4] at S4
          rw [← hX3.out] at S4
          replace hW4 := Lib.hid hW4
          replace S3 := Lib.hid S3
          obtain ⟨l0, hl0⟩ : ∃ l0, l0 = lm X2 0 + b := ⟨_, rfl⟩
          rw [← hl0] at hor hW4
          replace hl0 := Lib.hid hl0
          go_region
          rw [← hW4.out]
          clear c0 c1 c2 f0 f1 f2 f3 k0 k1 k2 k3 x0 x1 x2 x3 z0 z1 z2 z3
          obtain ⟨x0, x1, x2, x3⟩ := cell4 S4.r
          obtain ⟨y0, y1, y2, y3⟩ := cell4 S4.m
          have S4' := Lib.hid S4
          clear S4
          go_wp2_with fail
          refine (C2.out _).mono ?_
          rintro e w5 ⟨rfl, hb5⟩
          have S5 := S4'.out.move hb5
          have b6 := (Below.refl _ w5).alloc (Nat.le_refl _) (.cells #[u (lm D 0), u (lm D 1), u (lm D 2), u (lm D 3)] 38)
          have S6 := S5.move b6
          have n6 : (w5.alloc (.cells #[u (lm D 0), u (lm D 1), u (lm D 2), u (lm D 3)] 38)).heap[w5.heap.size]? = some (.cells #[u (lm D 0), u (lm D 1), u (lm D 2), u (lm D 3)] 38 (0, 0)) := heap_alloc_new w5 _
          obtain ⟨d0, d1, d2, d3⟩ := cell4 n6
          obtain ⟨e0, e1, e2, e3⟩ := cell4 S6.r
          replace hb5 := Lib.hid hb5
          replace b6 := Lib.hid b6
          replace S5 := Lib.hid S5
          replace S6 := Lib.hid S6
          replace n6 := Lib.hid n6
          clear x0 x1 x2 x3 y0 y1 y2 y3
          go_wp2_with fail
          refine (C3.out _).mono ?_
          rintro e w7 ⟨rfl, hb7⟩
          have S7 := S6.out.move hb7
          obtain ⟨z0, z1, z2, z3⟩ := free4 S7.r
          obtain ⟨x0, x1, x2, x3⟩ := cell4 S7.r
          have S8 := S7.put R'
          replace hb7 := Lib.hid hb7
          replace S7 := Lib.hid S7
          replace S8 := Lib.hid S8
          clear d0 d1 d2 d3 e0 e1 e2 e3
          go_wp2
          go_roundg i
          case measure => have := hgn.out; omega
          case rel => exact ⟨i, by omega, rfl, by rfl, by rw [← hR'.out]; exact S8.out⟩

    · subst hk1
      obtain ⟨k, rfl⟩ : ∃ k, k = k' := ⟨_, rfl⟩
      have c := hS.limb k (Nat.lt_of_succ_le hk)
      obtain ⟨t, ht⟩ : ∃ t : Nat, t = 64 * k + 63 := ⟨_, rfl⟩
      have hd : (t : Int) / 64 = (k : Int) := by omega
      have t0 : (0 : Int) ≤ (t : Int) := by omega
      have t1 : decide ((0 : Int) ≤ (t : Int)) = true := by simp
      have t2 : t < 512 := by omega
      rw [show 64 * ((k + 1 : Nat) : Int) - 1 = (t : Int) by omega]
      replace ht := Lib.hid ht
      by_cases hz : lm W k = 0
      · have hWk2 := lm_top hWk.out hz
        have q1 : ((lm W k : Int) == 0) = true := by simp [hz]
        have q2 : (lm W k == 0) = true := by simp [hz]
        rw [hz] at c
        replace hWk2 := Lib.hid hWk2
        replace hS := Lib.hid hS
        clear hz q1 q2
        go_wp2_with fail
        go_roundg k
        case measure => omega
        case rel => exact ⟨k, by omega, rfl, congrArg (Value.int .i64) (by have := ht.out; omega), hWk2.out, hS.out⟩
      · have q1 : ((lm W k : Int) == 0) = false := by simp [hz]
        have q2 : (lm W k == 0) = false := by simp [hz]
        replace hS := Lib.hid hS
        replace hgk := Lib.hid hgk
        clear hz
        go_wp2_with fail
        go_loopg [8] (64 * (k + 1)) (fun gk v8 wz => ∃ n : Nat, n ≤ 512 ∧ gk = n ∧ v8 = .int .i64 ((n : Int) - 1) ∧ MS w wz W m (W / 2 ^ n % m))
        case atStart => exact ⟨(64 * (k + 1)), by omega, rfl, congrArg (Value.int .i64) (by have := ht.out; omega), by rw [Nat.div_eq_of_lt hWk.out, Nat.zero_mod]; exact hS.out⟩
        case round =>
          obtain ⟨n, hn, hgn, rfl, hS2⟩ := hrel
          rcases (show n = 0 ∨ ∃ i, n = i + 1 from by cases n with | zero => exact .inl rfl | succ n => exact .inr ⟨n, rfl⟩) with hn0 | ⟨i, hn1⟩
          · subst hn0
            rw [Nat.pow_zero, Nat.div_one] at hS2
            obtain ⟨x0, x1, x2, x3⟩ := cell4 hS2.r
            obtain ⟨y0, y1, y2, y3⟩ := cell4 hS2.z
            obtain ⟨z0, z1, z2, z3⟩ := free4 hS2.z
            obtain ⟨p0, p1, p2, p3⟩ := cell4 (four_set hS2.z rfl (u (lm (W % m) 0)) (u (lm (W % m) 1)) (u (lm (W % m) 2)) (u (lm (W % m) 3)))
            have hB := below_four hS2.below (w.heap.size + 1 + 1) (by omega) (u (lm (W % m) 0)) (u (lm (W % m) 1)) (u (lm (W % m) 2)) (u (lm (W % m) 3))
            replace hB := Lib.hid hB
            replace hS2 := Lib.hid hS2
            go_wp2
            refine bodyPost_ret (v := .tuple #[numV (W % m), .int .i64 0]) (by simp [results, Tryd.results41, go_sem, p0, p1, p2, p3]) rfl ⟨rfl, hB.out⟩
          · subst hn1
            obtain ⟨hst1, hst2⟩ := mod_step W m i hm0
            obtain ⟨R, hR⟩ : ∃ R, R = W / 2 ^ (i + 1) % m := ⟨_, rfl⟩
            have hRm : R < m := by rw [hR]; exact Nat.mod_lt _ hm0
            obtain ⟨j, hj⟩ : ∃ j, j = i / 64 := ⟨_, rfl⟩
            obtain ⟨r, hr⟩ : ∃ r, r = i % 64 := ⟨_, rfl⟩
            have hj8 : j < 8 := by omega
            have hr64 : r < 64 := by omega
            obtain ⟨b, hb⟩ : ∃ b, b = W / 2 ^ i % 2 := ⟨_, rfl⟩
            have hb1 : b ≤ 1 := by omega
            rw [← hR] at hst1 hst2 hS2
            rw [← hb] at hst1 hst2
            have hbit : lm W j / 2 ^ r % 2 = b := by rw [lm_bit j W r hr64, hb, show 64 * j + r = i by omega]
            have hd : (i : Int) / 64 = (j : Int) := by omega
            have hmm : (i : Int) % 64 = (r : Int) := by omega
            obtain ⟨q, hq⟩ : ∃ q, q = lm W j / 2 ^ r := ⟨_, rfl⟩
            rw [← hq] at hbit
            have hq2 : q < 18446744073709551616 := by rw [hq]; exact Nat.lt_of_le_of_lt (Nat.div_le_self _ _) (lm_lt j W)
            have hsh : (lm W j : Int) / 2 ^ r = (q : Int) := by rw [hq]; simp
            have han := and_bit q hq2
            rw [hbit] at han
            obtain ⟨hR4, hX2e, hX34, hle1, hsel, hres⟩ := mod_nums R b m hRm hm hb1
            have C1 := fun X => add_any X (lm R) (lm R) (fun i => lm_lt i R) (fun i => lm_lt i R)
            rw [(addN hR4 hR4).1, (addN hR4 hR4).2] at C1
            have C2 := fun X => sub_any X (lm ((R + R) % B4 + b)) (lm m)
            rw [(subN hX34 hm).1, (subN hX34 hm).2] at C2
            rw [← hst2] at hres
            have C3 := fun X => select_any X (decide (m ≤ 2 * R + b)) (lm (((R + R) % B4 + b + B4 - m) % B4)) (lm ((R + R) % B4 + b)) (fun i => lm_lt i _) (fun i => lm_lt i _)
            rw [hres] at C3
            have hor := or_bit (lm ((R + R) % B4) 0) b (by simp only [lm]; omega) (lm_lt 0 _) hb1
            have hov : (lm R 3 : Int) / 9223372036854775808 = ((lm R 3 / 9223372036854775808 : Nat) : Int) := by simp
            obtain ⟨X2, hX2⟩ : ∃ X2, X2 = (R + R) % B4 := ⟨_, rfl⟩
            rw [← hX2] at C1 C2 C3 hX2e hX34 hle1 hsel hor
            obtain ⟨X3, hX3⟩ : ∃ X3, X3 = X2 + b := ⟨_, rfl⟩
            rw [← hX3] at C2 C3 hX34 hle1 hsel
            obtain ⟨D, hD⟩ : ∃ D, D = (X3 + B4 - m) % B4 := ⟨_, rfl⟩
            rw [← hD] at C2 C3
            obtain ⟨le, hle⟩ : ∃ le, le = if X3 < m then 1 else 0 := ⟨_, rfl⟩
            rw [← hle] at C2 hle1 hsel
            obtain ⟨bt, hbt⟩ : ∃ bt, bt = decide (m ≤ 2 * R + b) := ⟨_, rfl⟩
            rw [← hbt] at C3 hsel
            obtain ⟨o, ho⟩ : ∃ o, o = lm R 3 / 9223372036854775808 := ⟨_, rfl⟩
            rw [← ho] at hov hsel
            obtain ⟨R', hR'⟩ : ∃ R', R' = W / 2 ^ i % m := ⟨_, rfl⟩
            rw [← hR'] at C3
            obtain ⟨cy, hcy⟩ : ∃ cy, cy = (R + R) / B4 := ⟨_, rfl⟩
            rw [← hcy] at C1
            obtain ⟨x0, x1, x2, x3⟩ := cell4 hS2.r
            obtain ⟨z0, z1, z2, z3⟩ := free4 hS2.r
            have q1 : (0 : Int) ≤ (i : Int) := by omega
            replace hS2 := Lib.hid hS2
            replace C1 := Lib.hid C1
            replace C2 := Lib.hid C2
            replace C3 := Lib.hid C3
            replace hst1 := Lib.hid hst1
            replace hst2 := Lib.hid hst2
            replace hres := Lib.hid hres
            replace hR' := Lib.hid hR'
            replace hbt := Lib.hid hbt
            replace hle := Lib.hid hle
            replace hD := Lib.hid hD
            replace hX3 := Lib.hid hX3
            replace hX2 := Lib.hid hX2
            replace hX2e := Lib.hid hX2e
            replace hX34 := Lib.hid hX34
            replace ho := Lib.hid ho
            replace hcy := Lib.hid hcy
            replace hq := Lib.hid hq
            replace hb := Lib.hid hb
            replace hj := Lib.hid hj
            replace hr := Lib.hid hr
            replace hR := Lib.hid hR
            replace hbit := Lib.hid hbit
            replace hgn := Lib.hid hgn
            replace hR4 := Lib.hid hR4
            replace hW := Lib.hid hW
            replace hm := Lib.hid hm
            rw [show ((i + 1 : Nat) : Int) - 1 = (i : Int) by omega]
            go_wp2_with fail
            refine (C1.out _).mono ?_
            rintro e w2 ⟨rfl, hb2⟩
            have S2 := hS2.out.move hb2
            obtain ⟨f0, f1, f2, f3⟩ := free4 S2.r
            obtain ⟨k0, k1, k2, k3⟩ := cell4 S2.r
            obtain ⟨W3, hW3⟩ : ∃ W3, W3 = (((w2.setCell ⟨w.heap.size + 1 + 1 + 1, 0, none⟩ (.int .u64 (lm X2 0 : Nat))).setCell ⟨w.heap.size + 1 + 1 + 1, 1, none⟩ (.int .u64 (lm X2 1 : Nat))).setCell ⟨w.heap.size + 1 + 1 + 1, 2, none⟩ (.int .u64 (lm X2 2 : Nat))).setCell ⟨w.heap.size + 1 + 1 + 1, 3, none⟩ (.int .u64 (lm X2 3 : Nat)) := ⟨_, rfl⟩
            have S3 : MS w W3 W m X2 := by rw [hW3]; exact S2.put X2
            replace hb2 := Lib.hid hb2
            replace S2 := Lib.hid S2
            replace hW3 := Lib.hid hW3
            go_wp2_with fail
            rw [← hW3.out]
            have S4 := (S3.put0 b hX2e.out hb1).drew
            have c0 := S3.limb j hj8
            have c1 : W3.cell? ⟨w.heap.size + 1 + 1 + 1, 0, none⟩ = some (u (lm X2 0)) := Go.Joins.cell_of_block S3.r 0
            have c2 : W3.frozen? ⟨w.heap.size + 1 + 1 + 1, 0, none⟩ = false := Go.Joins.unfrozen_of_block S3.r 0
            obtain ⟨W4, hW4⟩ : ∃ W4, W4 = (W3.setCell ⟨w.heap.size + 1 + 1 + 1, 0, none⟩ (.int .u64 ((lm X2 0 + b : Nat)))).drew := ⟨_, rfl⟩
            rw [← hW4] at S4
            rw [← hX3.out] at S4
            replace hW4 := Lib.hid hW4
            replace S3 := Lib.hid S3
            obtain ⟨l0, hl0⟩ : ∃ l0, l0 = lm X2 0 + b := ⟨_, rfl⟩
            rw [← hl0] at hor hW4
            replace hl0 := Lib.hid hl0
            go_region
            rw [← hW4.out]
            clear c0 c1 c2 f0 f1 f2 f3 k0 k1 k2 k3 x0 x1 x2 x3 z0 z1 z2 z3
            obtain ⟨x0, x1, x2, x3⟩ := cell4 S4.r
            obtain ⟨y0, y1, y2, y3⟩ := cell4 S4.m
            have S4' := Lib.hid S4
            clear S4
            go_wp2_with fail
            refine (C2.out _).mono ?_
            rintro e w5 ⟨rfl, hb5⟩
            have S5 := S4'.out.move hb5
            have b6 := (Below.refl _ w5).alloc (Nat.le_refl _) (.cells #[u (lm D 0), u (lm D 1), u (lm D 2), u (lm D 3)] 38)
            have S6 := S5.move b6
            have n6 : (w5.alloc (.cells #[u (lm D 0), u (lm D 1), u (lm D 2), u (lm D 3)] 38)).heap[w5.heap.size]? = some (.cells #[u (lm D 0), u (lm D 1), u (lm D 2), u (lm D 3)] 38 (0, 0)) := heap_alloc_new w5 _
            obtain ⟨d0, d1, d2, d3⟩ := cell4 n6
            obtain ⟨e0, e1, e2, e3⟩ := cell4 S6.r
            replace hb5 := Lib.hid hb5
            replace b6 := Lib.hid b6
            replace S5 := Lib.hid S5
            replace S6 := Lib.hid S6
            replace n6 := Lib.hid n6
            clear x0 x1 x2 x3 y0 y1 y2 y3
            go_wp2_with fail
            refine (C3.out _).mono ?_
            rintro e w7 ⟨rfl, hb7⟩
            have S7 := S6.out.move hb7
            obtain ⟨z0, z1, z2, z3⟩ := free4 S7.r
            obtain ⟨x0, x1, x2, x3⟩ := cell4 S7.r
            have S8 := S7.put R'
            replace hb7 := Lib.hid hb7
            replace S7 := Lib.hid S7
            replace S8 := Lib.hid S8
            clear d0 d1 d2 d3 e0 e1 e2 e3
            go_wp2
            go_roundg i
            case measure => have := hgn.out; omega
            case rel => exact ⟨i, by omega, rfl, by rfl, by rw [← hR'.out]; exact S8.out⟩

end Lm
end Go.Proofs.YtkmbpakhbicnaaaDoor
namespace Go.Proofs.YtkmbpakhbicnaaaDoor
open Go.RowKit Go.Proofs.YtkmbpakhbicnaaaDoorW.PrintWords Go.Lib
namespace Lm
/-- One limb put into others. -/
def upd (f : Nat → Nat) (k v : Nat) : Nat → Nat := fun n => if n = k then v else f n
theorem upd_self (f : Nat → Nat) (k v : Nat) : upd f k v k = v := by simp [upd]
theorem upd_far (f : Nat → Nat) (k v n : Nat) (h : n ≠ k) : upd f k v n = f n := by simp [upd, h]
theorem upd_lt {f : Nat → Nat} (h : ∀ n, f n < 18446744073709551616) (k v : Nat) (hv : v < 18446744073709551616) : ∀ n, upd f k v n < 18446744073709551616 := fun n => by
  unfold upd
  split
  · exact hv
  · exact h n
theorem val8_upd (f : Nat → Nat) (k v : Nat) (hk : k < 8) : val8 (upd f k v) + f k * 18446744073709551616 ^ k = val8 f + v * 18446744073709551616 ^ k := by
  match k, hk with
  | 0, _ => simp [val8, upd]; omega
  | 1, _ => simp [val8, upd]; omega
  | 2, _ => simp [val8, upd]; omega
  | 3, _ => simp [val8, upd]; omega
  | 4, _ => simp [val8, upd]; omega
  | 5, _ => simp [val8, upd]; omega
  | 6, _ => simp [val8, upd]; omega
  | 7, _ => simp [val8, upd]; omega
theorem mul_nums (x y f c : Nat) (hx : x < 18446744073709551616) (hy : y < 18446744073709551616) (hf : f < 18446744073709551616) (hc : c < 18446744073709551616) :
    x * y / 18446744073709551616 + (x * y % 18446744073709551616 + f) / 18446744073709551616 < 18446744073709551616 ∧
    x * y / 18446744073709551616 + (x * y % 18446744073709551616 + f) / 18446744073709551616 + ((x * y % 18446744073709551616 + f) % 18446744073709551616 + c) / 18446744073709551616 < 18446744073709551616 ∧
    ((x * y % 18446744073709551616 + f) % 18446744073709551616 + c) % 18446744073709551616 + 18446744073709551616 * (x * y / 18446744073709551616 + (x * y % 18446744073709551616 + f) / 18446744073709551616 + ((x * y % 18446744073709551616 + f) % 18446744073709551616 + c) / 18446744073709551616) = x * y + f + c := by
  have h : x * y ≤ 18446744073709551615 * 18446744073709551615 := Nat.mul_le_mul (by omega) (by omega)
  generalize x * y = p at *
  omega
theorem lm_pow (j n : Nat) : lm n j = n / 18446744073709551616 ^ j % 18446744073709551616 := by
  rw [lm_eq, show (18446744073709551616 : Nat) = 2 ^ 64 by rfl, ← Nat.pow_mul]
theorem mod_next (b j : Nat) : b % 18446744073709551616 ^ (j + 1) = b % 18446744073709551616 ^ j + lm b j * 18446744073709551616 ^ j := by
  rw [Nat.mod_pow_succ, lm_pow, Nat.mul_comm]
theorem inner_step {V V' A x b i j c c' t fk : Nat} (h : V + c * 18446744073709551616 ^ (i + j) = A + x * (b % 18446744073709551616 ^ j) * 18446744073709551616 ^ i)
    (ht : t + 18446744073709551616 * c' = x * lm b j + fk + c) (hV : V' + fk * 18446744073709551616 ^ (i + j) = V + t * 18446744073709551616 ^ (i + j)) :
    V' + c' * 18446744073709551616 ^ (i + (j + 1)) = A + x * (b % 18446744073709551616 ^ (j + 1)) * 18446744073709551616 ^ i := by
  rw [mod_next, ← Nat.add_assoc, Nat.pow_succ]
  have e : x * (lm b j * 18446744073709551616 ^ j) * 18446744073709551616 ^ i = x * lm b j * 18446744073709551616 ^ (i + j) := by
    rw [Nat.pow_add, Nat.mul_comm (18446744073709551616 ^ i), Nat.mul_assoc, Nat.mul_assoc, Nat.mul_assoc]
  rw [Nat.mul_add, Nat.add_mul, e]
  generalize 18446744073709551616 ^ (i + j) = Q at *
  have h2 : (t + 18446744073709551616 * c') * Q = (x * lm b j + fk + c) * Q := by rw [ht]
  rw [Nat.add_mul, Nat.add_mul, Nat.add_mul] at h2
  have h3 : c' * (Q * 18446744073709551616) = 18446744073709551616 * c' * Q := by rw [Nat.mul_comm Q, ← Nat.mul_assoc, Nat.mul_comm c']
  rw [h3]
  omega
theorem outer_step {V V' a b i c : Nat} (hb : b < B4) (h : V + c * 18446744073709551616 ^ (i + 4) = (a % 18446744073709551616 ^ i) * b + lm a i * (b % 18446744073709551616 ^ 4) * 18446744073709551616 ^ i)
    (hV : V' + 0 * 18446744073709551616 ^ (i + 4) = V + c * 18446744073709551616 ^ (i + 4)) : V' = (a % 18446744073709551616 ^ (i + 1)) * b := by
  rw [mod_next, Nat.add_mul]
  have e : b % 18446744073709551616 ^ 4 = b := Nat.mod_eq_of_lt hb
  rw [e] at h
  have e2 : lm a i * 18446744073709551616 ^ i * b = lm a i * b * 18446744073709551616 ^ i := by rw [Nat.mul_assoc, Nat.mul_assoc, Nat.mul_comm b]
  rw [e2]
  omega
theorem skip_step {V a b i : Nat} (hz : lm a i = 0) (h : V = (a % 18446744073709551616 ^ i) * b) : V = (a % 18446744073709551616 ^ (i + 1)) * b := by
  rw [mod_next, hz, Nat.zero_mul, Nat.add_zero]
  exact h
theorem start_step (V A x b i : Nat) (h : V = A) : V + 0 * 18446744073709551616 ^ (i + 0) = A + x * (b % 18446744073709551616 ^ 0) * 18446744073709551616 ^ i := by
  rw [Nat.pow_zero, Nat.mod_one, Nat.mul_zero, Nat.zero_mul, Nat.zero_mul]
  omega
/-- Eight limbs, as cells. -/
abbrev eight (f : Nat → Nat) : Array Value := #[u (f 0), u (f 1), u (f 2), u (f 3), u (f 4), u (f 5), u (f 6), u (f 7)]
abbrev zeros8 : Array Value := #[.int .u64 0, .int .u64 0, .int .u64 0, .int .u64 0, .int .u64 0, .int .u64 0, .int .u64 0, .int .u64 0]
theorem eight_set (f : Nat → Nat) (v : Nat) : ∀ k, k < 8 → (eight f).setIfInBounds k (u v) = eight (upd f k v)
  | 0, _ => rfl
  | 1, _ => rfl
  | 2, _ => rfl
  | 3, _ => rfl
  | 4, _ => rfl
  | 5, _ => rfl
  | 6, _ => rfl
  | 7, _ => rfl
  | n + 8, h => by omega
/-- The middle of a product. -/
structure MU (w wr : World) (a b : Nat) (f : Nat → Nat) : Prop where
  below : Below w.heap.size w wr
  a : wr.heap[w.heap.size]? = some (.cells #[u (lm a 0), u (lm a 1), u (lm a 2), u (lm a 3)] 38 (0, 0))
  b : wr.heap[w.heap.size + 1]? = some (.cells #[u (lm b 0), u (lm b 1), u (lm b 2), u (lm b 3)] 38 (0, 0))
  z : wr.heap[w.heap.size + 1 + 1]? = some (.cells zeros8 64 (0, 0))
  o : wr.heap[w.heap.size + 1 + 1 + 1]? = some (.cells (eight f) 64 (0, 0))
theorem MU.put {w wr : World} {a b : Nat} {f : Nat → Nat} (h : MU w wr a b f) (k v : Nat) (hk : k < 8) : MU w (wr.setCell ⟨w.heap.size + 1 + 1 + 1, k, none⟩ (u v)) a b (upd f k v) := by
  have far : ∀ n, n ≠ w.heap.size + 1 + 1 + 1 → (wr.setCell ⟨w.heap.size + 1 + 1 + 1, k, none⟩ (u v)).heap[n]? = wr.heap[n]? := fun n hn => Below.heap_setCell wr _ _ n hn
  refine ⟨below_set h.below _ _ (by simp; omega), (far _ (by omega)).trans h.a, (far _ (by omega)).trans h.b, (far _ (by omega)).trans h.z, ?_⟩
  rw [← eight_set f v k hk]
  exact Go.Joins.block_setCell h.o _
theorem MU.drew {w wr : World} {a b : Nat} {f : Nat → Nat} (h : MU w wr a b f) : MU w wr.drew a b f := ⟨h.below.drew, h.a, h.b, h.z, h.o⟩
theorem cell_eight {W : World} {B : Nat} {f : Nat → Nat} {ty : TypeId} (h : W.heap[B]? = some (.cells (eight f) ty (0, 0))) : ∀ k, k < 8 → W.cell? ⟨B, k, none⟩ = some (u (f k))
  | 0, _ => Go.Joins.cell_of_block h 0
  | 1, _ => Go.Joins.cell_of_block h 1
  | 2, _ => Go.Joins.cell_of_block h 2
  | 3, _ => Go.Joins.cell_of_block h 3
  | 4, _ => Go.Joins.cell_of_block h 4
  | 5, _ => Go.Joins.cell_of_block h 5
  | 6, _ => Go.Joins.cell_of_block h 6
  | 7, _ => Go.Joins.cell_of_block h 7
  | n + 8, h => by omega
theorem cell_four {W : World} {B : Nat} {f : Nat → Nat} {ty : TypeId} (h : W.heap[B]? = some (.cells #[u (f 0), u (f 1), u (f 2), u (f 3)] ty (0, 0))) : ∀ k, k < 4 → W.cell? ⟨B, k, none⟩ = some (u (f k))
  | 0, _ => Go.Joins.cell_of_block h 0
  | 1, _ => Go.Joins.cell_of_block h 1
  | 2, _ => Go.Joins.cell_of_block h 2
  | 3, _ => Go.Joins.cell_of_block h 3
  | n + 4, h => by omega
abbrev set8 (W : World) (R : Nat) (v0 v1 v2 v3 v4 v5 v6 v7 : Value) : World :=
  (((((((W.setCell ⟨R, 0, none⟩ v0).setCell ⟨R, 1, none⟩ v1).setCell ⟨R, 2, none⟩ v2).setCell ⟨R, 3, none⟩ v3).setCell ⟨R, 4, none⟩ v4).setCell ⟨R, 5, none⟩ v5).setCell ⟨R, 6, none⟩ v6).setCell ⟨R, 7, none⟩ v7
theorem set8_block {W : World} {R : Nat} {f : Nat → Nat} {ty : TypeId} (h : W.heap[R]? = some (.cells zeros8 ty (0, 0))) :
    (set8 W R (u (f 0)) (u (f 1)) (u (f 2)) (u (f 3)) (u (f 4)) (u (f 5)) (u (f 6)) (u (f 7))).heap[R]? = some (.cells (eight f) ty (0, 0)) := by
  have z0 : (W.setCell ⟨R, 0, none⟩ (u (f 0))).heap[R]? = some (.cells #[u (f 0), .int .u64 0, .int .u64 0, .int .u64 0, .int .u64 0, .int .u64 0, .int .u64 0, .int .u64 0] ty (0, 0)) := Go.Joins.block_setCell h (i := 0) (v := u (f 0))
  have z1 : ((W.setCell ⟨R, 0, none⟩ (u (f 0))).setCell ⟨R, 1, none⟩ (u (f 1))).heap[R]? = some (.cells #[u (f 0), u (f 1), .int .u64 0, .int .u64 0, .int .u64 0, .int .u64 0, .int .u64 0, .int .u64 0] ty (0, 0)) := Go.Joins.block_setCell z0 (i := 1) (v := u (f 1))
  have z2 : (((W.setCell ⟨R, 0, none⟩ (u (f 0))).setCell ⟨R, 1, none⟩ (u (f 1))).setCell ⟨R, 2, none⟩ (u (f 2))).heap[R]? = some (.cells #[u (f 0), u (f 1), u (f 2), .int .u64 0, .int .u64 0, .int .u64 0, .int .u64 0, .int .u64 0] ty (0, 0)) := Go.Joins.block_setCell z1 (i := 2) (v := u (f 2))
  have z3 : ((((W.setCell ⟨R, 0, none⟩ (u (f 0))).setCell ⟨R, 1, none⟩ (u (f 1))).setCell ⟨R, 2, none⟩ (u (f 2))).setCell ⟨R, 3, none⟩ (u (f 3))).heap[R]? = some (.cells #[u (f 0), u (f 1), u (f 2), u (f 3), .int .u64 0, .int .u64 0, .int .u64 0, .int .u64 0] ty (0, 0)) := Go.Joins.block_setCell z2 (i := 3) (v := u (f 3))
  have z4 : (((((W.setCell ⟨R, 0, none⟩ (u (f 0))).setCell ⟨R, 1, none⟩ (u (f 1))).setCell ⟨R, 2, none⟩ (u (f 2))).setCell ⟨R, 3, none⟩ (u (f 3))).setCell ⟨R, 4, none⟩ (u (f 4))).heap[R]? = some (.cells #[u (f 0), u (f 1), u (f 2), u (f 3), u (f 4), .int .u64 0, .int .u64 0, .int .u64 0] ty (0, 0)) := Go.Joins.block_setCell z3 (i := 4) (v := u (f 4))
  have z5 : ((((((W.setCell ⟨R, 0, none⟩ (u (f 0))).setCell ⟨R, 1, none⟩ (u (f 1))).setCell ⟨R, 2, none⟩ (u (f 2))).setCell ⟨R, 3, none⟩ (u (f 3))).setCell ⟨R, 4, none⟩ (u (f 4))).setCell ⟨R, 5, none⟩ (u (f 5))).heap[R]? = some (.cells #[u (f 0), u (f 1), u (f 2), u (f 3), u (f 4), u (f 5), .int .u64 0, .int .u64 0] ty (0, 0)) := Go.Joins.block_setCell z4 (i := 5) (v := u (f 5))
  have z6 : (((((((W.setCell ⟨R, 0, none⟩ (u (f 0))).setCell ⟨R, 1, none⟩ (u (f 1))).setCell ⟨R, 2, none⟩ (u (f 2))).setCell ⟨R, 3, none⟩ (u (f 3))).setCell ⟨R, 4, none⟩ (u (f 4))).setCell ⟨R, 5, none⟩ (u (f 5))).setCell ⟨R, 6, none⟩ (u (f 6))).heap[R]? = some (.cells #[u (f 0), u (f 1), u (f 2), u (f 3), u (f 4), u (f 5), u (f 6), .int .u64 0] ty (0, 0)) := Go.Joins.block_setCell z5 (i := 6) (v := u (f 6))
  have z7 : ((((((((W.setCell ⟨R, 0, none⟩ (u (f 0))).setCell ⟨R, 1, none⟩ (u (f 1))).setCell ⟨R, 2, none⟩ (u (f 2))).setCell ⟨R, 3, none⟩ (u (f 3))).setCell ⟨R, 4, none⟩ (u (f 4))).setCell ⟨R, 5, none⟩ (u (f 5))).setCell ⟨R, 6, none⟩ (u (f 6))).setCell ⟨R, 7, none⟩ (u (f 7))).heap[R]? = some (.cells #[u (f 0), u (f 1), u (f 2), u (f 3), u (f 4), u (f 5), u (f 6), u (f 7)] ty (0, 0)) := Go.Joins.block_setCell z6 (i := 7) (v := u (f 7))
  exact z7
theorem below_set8 {n : Nat} {w W : World} (h : Below n w W) (R : Nat) (hR : n ≤ R) (v0 v1 v2 v3 v4 v5 v6 v7 : Value) : Below n w (set8 W R v0 v1 v2 v3 v4 v5 v6 v7) :=
  below_set (below_set (below_set (below_set (below_set (below_set (below_set (below_set h _ _ hR) _ _ hR) _ _ hR) _ _ hR) _ _ hR) _ _ hR) _ _ hR) _ _ hR
theorem index_num (w : World) (f : Nat → Nat) : ∀ i : Nat, i < 4 → (Instr.index 38 (numL f) (.int .i64 (i : Int))).run Tryd.prog w = .ok (u (f i)) w
  | 0, _ => by simp [Instr.index, run_underlying Tryd.underlying38, asIntOf, go_sem]
  | 1, _ => by simp [Instr.index, run_underlying Tryd.underlying38, asIntOf, go_sem]
  | 2, _ => by simp [Instr.index, run_underlying Tryd.underlying38, asIntOf, go_sem]
  | 3, _ => by simp [Instr.index, run_underlying Tryd.underlying38, asIntOf, go_sem]
  | n + 4, h => by omega
theorem run_add0 (x y s c : Nat) (hs : s = (x + y) % 18446744073709551616) (hc : c = (x + y) / 18446744073709551616) (w : World) :
    (callFunc 55 #[u x, u y, .int .u64 0]).run Tryd.prog w = .ok (.value (.tuple #[u s, u c])) w := by
  rw [hs, hc]
  exact run_add x y 0 (by omega) w
end Lm
end Go.Proofs.YtkmbpakhbicnaaaDoor
namespace Go.Proofs.YtkmbpakhbicnaaaDoor
open Go.RowKit Go.Proofs.YtkmbpakhbicnaaaDoorW.PrintWords Go.Lib
namespace Lm
set_option maxRecDepth 100000 in
set_option maxHeartbeats 4000000 in
theorem mulw_any (w : World) (a b : Nat) (ha : a < B4) (hb : b < B4) :
    Calls Tryd.prog 50 #[numV a, numV b] w fun e w' => e = .returned (wideV (a * b)) ∧ Below w.heap.size w w' := by
  obtain ⟨g0, g1, g2, g3⟩ := alloc4_at w #[u (lm a 0), u (lm a 1), u (lm a 2), u (lm a 3)] #[u (lm b 0), u (lm b 1), u (lm b 2), u (lm b 3)] zeros8 zeros8 38 38 64 64
  obtain ⟨k1, k2⟩ := alloc4 w (.cells #[u (lm a 0), u (lm a 1), u (lm a 2), u (lm a 3)] 38) (.cells #[u (lm b 0), u (lm b 1), u (lm b 2), u (lm b 3)] 38) (.cells zeros8 64) (.cells zeros8 64) _ rfl
  have st0 : MU w _ a b (fun _ => 0) := ⟨k1, g0, g1, g2, g3⟩
  obtain ⟨x0, x1, x2, x3⟩ := cell4 g0
  replace st0 := Lib.hid st0
  clear g0 g1 g2 g3 k1 k2
  replace ha := Lib.hid ha
  replace hb := Lib.hid hb
  go_enter Tryd.func50, Tryd.ntmps50
  go_wp2_with fail
  go_loopg [15] 4 (fun gk v15 wr => ∃ (i : Nat) (f : Nat → Nat), i ≤ 4 ∧ gk = 4 - i ∧ v15 = .int .i64 (i : Int) ∧ (∀ n, f n < 18446744073709551616) ∧ (∀ n, i + 4 ≤ n → f n = 0) ∧ val8 f = (a % 18446744073709551616 ^ i) * b ∧ MU w wr a b f)
  case atStart => exact ⟨0, fun _ => 0, by omega, rfl, rfl, fun _ => Nat.zero_lt_succ _, fun _ _ => rfl, by rw [Nat.pow_zero, Nat.mod_one, Nat.zero_mul]; rfl, st0.out⟩
  case round =>
    clear st0
    obtain ⟨i, f, hi, hgi, rfl, hf, hz, hV, hS⟩ := hrel
    rename_i wr
    obtain ⟨wo, rfl⟩ : ∃ wo, wo = wr := ⟨_, rfl⟩
    by_cases hlt : i < 4
    · have IX := fun W => index_num W (lm a) i hlt
      obtain ⟨y0, y1, y2, y3⟩ := cell4 hS.b
      obtain ⟨x, hx⟩ : ∃ x, x = lm a i := ⟨_, rfl⟩
      have hxl : x < 18446744073709551616 := by rw [hx]; exact lm_lt i a
      rw [← hx] at IX
      have q1 : (i : Int) < 4 := by omega
      have hs0 := start_step (val8 f) _ x b i hV
      replace hx := Lib.hid hx
      replace hS := Lib.hid hS
      replace hf := Lib.hid hf
      replace hz := Lib.hid hz
      replace hV := Lib.hid hV
      replace hgi := Lib.hid hgi
      replace hs0 := Lib.hid hs0
      replace hxl := Lib.hid hxl
      go_wp2_with fail
      clear IX
      go_loopg [20, 8] 4 (fun gk v20 v8 wr => ∃ (j c : Nat) (f : Nat → Nat), j ≤ 4 ∧ gk = 4 - j ∧ v20 = .int .i64 (j : Int) ∧ v8 = u c ∧ c < 18446744073709551616 ∧ (∀ n, f n < 18446744073709551616) ∧ (∀ n, i + 4 ≤ n → f n = 0) ∧ val8 f + c * 18446744073709551616 ^ (i + j) = (a % 18446744073709551616 ^ i) * b + x * (b % 18446744073709551616 ^ j) * 18446744073709551616 ^ i ∧ MU w wr a b f)
      case atStart => exact ⟨0, 0, f, by omega, rfl, rfl, rfl, by omega, hf.out, hz.out, hs0.out, hS.out⟩
      case round =>
        clear hS hf hz hV hs0
        obtain ⟨j, c, f, hj, hgj, rfl, rfl, hc, hf, hz, hV, hS⟩ := hrel
        by_cases hlj : j < 4
        · have IX := fun W => index_num W (lm b) j hlj
          obtain ⟨y, hy⟩ : ∃ y, y = lm b j := ⟨_, rfl⟩
          have hyl : y < 18446744073709551616 := by rw [hy]; exact lm_lt j b
          rw [← hy] at IX
          obtain ⟨k, hk⟩ : ∃ k, k = i + j := ⟨_, rfl⟩
          have hk8 : k < 8 := by omega
          have hik : (i : Int) + (j : Int) = (k : Int) := by omega
          have c0 := cell_eight hS.o k hk8
          have hfk := hf k
          have hup := fun t => val8_upd f k t hk8
          obtain ⟨fk, hfk2⟩ : ∃ fk, fk = f k := ⟨_, rfl⟩
          rw [← hfk2] at c0 hfk hup
          obtain ⟨n1, n2, n3⟩ := mul_nums x y fk c hxl.out hyl hfk hc
          have M := fun W => mul64_any x y hxl.out hyl W
          obtain ⟨hi0, hhi0⟩ : ∃ h, h = x * y / 18446744073709551616 := ⟨_, rfl⟩
          obtain ⟨lo0, hlo0⟩ : ∃ l, l = x * y % 18446744073709551616 := ⟨_, rfl⟩
          rw [← hhi0, ← hlo0] at n1 n2 n3
          rw [← hhi0, ← hlo0] at M
          obtain ⟨s1, hs1⟩ : ∃ s, s = (lo0 + fk) % 18446744073709551616 := ⟨_, rfl⟩
          obtain ⟨c1, hc1⟩ : ∃ s, s = (lo0 + fk) / 18446744073709551616 := ⟨_, rfl⟩
          have A1 := fun W => run_add0 lo0 fk s1 c1 hs1 hc1 W
          rw [← hs1, ← hc1] at n2 n3
          rw [← hc1] at n1
          obtain ⟨s2, hs2⟩ : ∃ s, s = (s1 + c) % 18446744073709551616 := ⟨_, rfl⟩
          obtain ⟨c2, hc2⟩ : ∃ s, s = (s1 + c) / 18446744073709551616 := ⟨_, rfl⟩
          have A2 := fun W => run_add0 s1 c s2 c2 hs2 hc2 W
          rw [← hc2] at n2
          rw [← hs2, ← hc2] at n3
          have hs2l : s2 < 18446744073709551616 := by omega
          have e1 : IntKind.u64.wrap ((hi0 : Int) + (c1 : Int)) = ((hi0 + c1 : Nat) : Int) := by rw [IntKind.wrap_u64]; omega
          have e2 : IntKind.u64.wrap (((hi0 + c1 : Nat) : Int) + (c2 : Int)) = ((hi0 + c1 + c2 : Nat) : Int) := by rw [IntKind.wrap_u64]; omega
          rw [hy] at n3
          rw [hk] at hup
          have hV' := inner_step hV n3 (hup s2)
          rw [← hk] at hV'
          have hfin := hS.put k s2 hk8
          have hz' : ∀ n, i + 4 ≤ n → upd f k s2 n = 0 := fun n hn => by rw [upd_far f k s2 n (by omega)]; exact hz n hn
          have c3 : (World.frozen? _ ⟨w.heap.size + 1 + 1 + 1, k, none⟩) = false := Go.Joins.unfrozen_of_block hS.o k
          obtain ⟨hh, hhh⟩ : ∃ h, h = hi0 + c1 := ⟨_, rfl⟩
          rw [← hhh] at e1 e2 n1 n2 hV'
          obtain ⟨cn, hcn⟩ : ∃ h, h = hh + c2 := ⟨_, rfl⟩
          rw [← hcn] at e2 n2 hV'
          have q2 : (j : Int) < 4 := by omega
          replace hS := Lib.hid hS
          replace hfin := Lib.hid hfin
          replace hV := Lib.hid hV
          replace hV' := Lib.hid hV'
          replace hz := Lib.hid hz
          replace hz' := Lib.hid hz'
          replace hf := Lib.hid hf
          replace hup := Lib.hid hup
          replace n3 := Lib.hid n3
          replace hy := Lib.hid hy
          replace hs1 := Lib.hid hs1
          replace hs2 := Lib.hid hs2
          replace hc1 := Lib.hid hc1
          replace hc2 := Lib.hid hc2
          replace hhi0 := Lib.hid hhi0
          replace hlo0 := Lib.hid hlo0
          replace hhh := Lib.hid hhh
          replace hcn := Lib.hid hcn
          replace hk := Lib.hid hk
          replace hfk2 := Lib.hid hfk2
          replace hgj := Lib.hid hgj
          replace M := Lib.hid M
          go_wp2_with fail
          refine (M.out _).mono ?_
          rintro e w2 ⟨rfl, rfl⟩
          go_wp2_with fail
          go_roundg (4 - (j + 1))
          case measure => have := hgj.out; omega
          case rel => exact ⟨j + 1, cn, upd f k s2, by omega, rfl, by go_num, rfl, n2, upd_lt hf.out k s2 hs2l, hz'.out, hV'.out, hfin.out⟩
        · obtain rfl : j = 4 := by omega
          have q2 : ¬ ((4 : Nat) : Int) < 4 := by omega
          obtain ⟨k, hk⟩ : ∃ k, k = i + 4 := ⟨_, rfl⟩
          have hk8 : k < 8 := by omega
          have hik : (i : Int) + 4 = (k : Int) := by omega
          have c0 := cell_eight hS.o k hk8
          have hup := val8_upd f k c hk8
          rw [hz k (by omega), hk] at hup
          have hV' := outer_step (a := a) hb.out (by rw [← hx.out]; exact hV) hup
          have hfin := hS.put k c hk8
          rw [← hk] at hV'
          have hz' : ∀ n, i + 1 + 4 ≤ n → upd f k c n = 0 := fun n hn => by rw [upd_far f k c n (by omega)]; exact hz n (by omega)
          have c3 : (World.frozen? _ ⟨w.heap.size + 1 + 1 + 1, k, none⟩) = false := Go.Joins.unfrozen_of_block hS.o k
          replace hS := Lib.hid hS
          replace hfin := Lib.hid hfin
          replace hV := Lib.hid hV
          replace hV' := Lib.hid hV'
          replace hz := Lib.hid hz
          replace hz' := Lib.hid hz'
          replace hf := Lib.hid hf
          replace hup := Lib.hid hup
          replace hk := Lib.hid hk
          go_wp2_with fail
          go_roundg (4 - (i + 1))
          case measure => have := hgi.out; omega
          case rel => exact ⟨i + 1, upd f k c, by omega, rfl, by go_num, upd_lt hf.out k c hc, hz'.out, hV'.out, hfin.out⟩
    · obtain rfl : i = 4 := by omega
      rw [show a % 18446744073709551616 ^ 4 = a from Nat.mod_eq_of_lt ha.out] at hV
      have hres := canon8 (f := f) (fun n _ => hf n)
      rw [hV] at hres
      have x0 := cell_eight hS.o 0 (by omega)
      have x1 := cell_eight hS.o 1 (by omega)
      have x2 := cell_eight hS.o 2 (by omega)
      have x3 := cell_eight hS.o 3 (by omega)
      have x4 := cell_eight hS.o 4 (by omega)
      have x5 := cell_eight hS.o 5 (by omega)
      have x6 := cell_eight hS.o 6 (by omega)
      have x7 := cell_eight hS.o 7 (by omega)
      have y0 := cell_eight (f := fun _ => 0) hS.z 0 (by omega)
      have y1 := cell_eight (f := fun _ => 0) hS.z 1 (by omega)
      have y2 := cell_eight (f := fun _ => 0) hS.z 2 (by omega)
      have y3 := cell_eight (f := fun _ => 0) hS.z 3 (by omega)
      have y4 := cell_eight (f := fun _ => 0) hS.z 4 (by omega)
      have y5 := cell_eight (f := fun _ => 0) hS.z 5 (by omega)
      have y6 := cell_eight (f := fun _ => 0) hS.z 6 (by omega)
      have y7 := cell_eight (f := fun _ => 0) hS.z 7 (by omega)
      have z : ∀ k, World.frozen? _ ⟨w.heap.size + 1 + 1, k, none⟩ = false := fun k => Go.Joins.unfrozen_of_block hS.z k
      have z0 := z 0
      have z1 := z 1
      have z2 := z 2
      have z3 := z 3
      have z4 := z 4
      have z5 := z 5
      have z6 := z 6
      have z7 := z 7
      have hb8 := set8_block (f := f) hS.z
      have p0 := cell_eight hb8 0 (by omega)
      have p1 := cell_eight hb8 1 (by omega)
      have p2 := cell_eight hb8 2 (by omega)
      have p3 := cell_eight hb8 3 (by omega)
      have p4 := cell_eight hb8 4 (by omega)
      have p5 := cell_eight hb8 5 (by omega)
      have p6 := cell_eight hb8 6 (by omega)
      have p7 := cell_eight hb8 7 (by omega)
      have hB := below_set8 hS.below (w.heap.size + 1 + 1) (by omega) (u (f 0)) (u (f 1)) (u (f 2)) (u (f 3)) (u (f 4)) (u (f 5)) (u (f 6)) (u (f 7))
      replace hB := Lib.hid hB
      replace hb8 := Lib.hid hb8
      replace hS := Lib.hid hS
      replace hf := Lib.hid hf
      replace hz := Lib.hid hz
      replace hV := Lib.hid hV
      replace hres := Lib.hid hres
      clear z
      go_wp2
      refine bodyPost_ret (v := wideL f) (by simp [results, Tryd.results50, go_sem, p0, p1, p2, p3, p4, p5, p6, p7]) rfl ⟨by rw [hres.out], hB.out⟩
end Lm
end Go.Proofs.YtkmbpakhbicnaaaDoor
namespace Go.Proofs.YtkmbpakhbicnaaaDoor
open Go.RowKit Go.Proofs.YtkmbpakhbicnaaaDoorW.PrintWords Go.Lib
namespace Lm
set_option maxRecDepth 100000 in
set_option maxHeartbeats 4000000 in
theorem times_any (w : World) (a b : Nat) (ha : a < B4) (hb : b < B4) :
    Calls Tryd.prog 42 #[numV a, numV b] w fun e w' => e = .returned (wideV (a * b)) ∧ Below w.heap.size w w' := by
  obtain ⟨g0, g1, g2, g3⟩ := alloc4_at w #[u (lm a 0), u (lm a 1), u (lm a 2), u (lm a 3)] #[u (lm b 0), u (lm b 1), u (lm b 2), u (lm b 3)] zeros8 zeros8 38 38 64 64
  obtain ⟨k1, k2⟩ := alloc4 w (.cells #[u (lm a 0), u (lm a 1), u (lm a 2), u (lm a 3)] 38) (.cells #[u (lm b 0), u (lm b 1), u (lm b 2), u (lm b 3)] 38) (.cells zeros8 64) (.cells zeros8 64) _ rfl
  have st0 : MU w _ a b (fun _ => 0) := ⟨k1, g0, g1, g2, g3⟩
  obtain ⟨x0, x1, x2, x3⟩ := cell4 g0
  replace st0 := Lib.hid st0
  clear g0 g1 g2 g3 k1 k2
  replace ha := Lib.hid ha
  replace hb := Lib.hid hb
  go_enter Tryd.func42, Tryd.ntmps42
  go_wp2_with fail
  go_loopg [6] 4 (fun gk v15 wr => ∃ (i : Nat) (f : Nat → Nat), i ≤ 4 ∧ gk = 4 - i ∧ v15 = .int .i64 (i : Int) ∧ (∀ n, f n < 18446744073709551616) ∧ (∀ n, i + 4 ≤ n → f n = 0) ∧ val8 f = (a % 18446744073709551616 ^ i) * b ∧ MU w wr a b f)
  case atStart => exact ⟨0, fun _ => 0, by omega, rfl, rfl, fun _ => Nat.zero_lt_succ _, fun _ _ => rfl, by rw [Nat.pow_zero, Nat.mod_one, Nat.zero_mul]; rfl, st0.out⟩
  case round =>
    clear st0
    obtain ⟨i, f, hi, hgi, rfl, hf, hz, hV, hS⟩ := hrel
    rename_i wr
    obtain ⟨wo, rfl⟩ : ∃ wo, wo = wr := ⟨_, rfl⟩
    by_cases hlt : i < 4
    · have CA := cell_four hS.a i hlt
      obtain ⟨x, hx⟩ : ∃ x, x = lm a i := ⟨_, rfl⟩
      have hxl : x < 18446744073709551616 := by rw [hx]; exact lm_lt i a
      rw [← hx] at CA
      have q1 : (i : Int) < 4 := by omega
      by_cases hx0 : x = 0
      · have hV' := skip_step (by rw [← hx]; exact hx0) hV
        subst hx0
        have hz' : ∀ n, i + 1 + 4 ≤ n → f n = 0 := fun n hn => hz n (by omega)
        replace hx := Lib.hid hx
        replace hS := Lib.hid hS
        replace hf := Lib.hid hf
        replace hz := Lib.hid hz
        replace hz' := Lib.hid hz'
        replace hV := Lib.hid hV
        replace hV' := Lib.hid hV'
        replace hgi := Lib.hid hgi
        go_wp2
        go_roundg (4 - (i + 1))
        case measure => have := hgi.out; omega
        case rel => exact ⟨i + 1, f, by omega, rfl, by go_num, hf.out, hz'.out, hV'.out, hS.out⟩
      have qx : ((x : Int) == 0) = false := by simp [hx0]
      have qx2 : (x == 0) = false := by simp [hx0]
      have hs0 := start_step (val8 f) _ x b i hV
      replace hx := Lib.hid hx
      replace hS := Lib.hid hS
      replace hf := Lib.hid hf
      replace hz := Lib.hid hz
      replace hV := Lib.hid hV
      replace hgi := Lib.hid hgi
      replace hs0 := Lib.hid hs0
      replace hxl := Lib.hid hxl
      go_wp2_with fail
      clear CA qx qx2 hx0
      go_loopg [8, 7] 4 (fun gk v20 v8 wr => ∃ (j c : Nat) (f : Nat → Nat), j ≤ 4 ∧ gk = 4 - j ∧ v20 = .int .i64 (j : Int) ∧ v8 = u c ∧ c < 18446744073709551616 ∧ (∀ n, f n < 18446744073709551616) ∧ (∀ n, i + 4 ≤ n → f n = 0) ∧ val8 f + c * 18446744073709551616 ^ (i + j) = (a % 18446744073709551616 ^ i) * b + x * (b % 18446744073709551616 ^ j) * 18446744073709551616 ^ i ∧ MU w wr a b f)
      case atStart => exact ⟨0, 0, f, by omega, rfl, rfl, rfl, by omega, hf.out, hz.out, hs0.out, hS.out⟩
      case round =>
        clear hS hf hz hV hs0
        obtain ⟨j, c, f, hj, hgj, rfl, rfl, hc, hf, hz, hV, hS⟩ := hrel
        by_cases hlj : j < 4
        · have CA := cell_four hS.a i hlt
          have CB := cell_four hS.b j hlj
          obtain ⟨y, hy⟩ : ∃ y, y = lm b j := ⟨_, rfl⟩
          have hyl : y < 18446744073709551616 := by rw [hy]; exact lm_lt j b
          rw [← hy] at CB
          rw [← hx.out] at CA
          obtain ⟨k, hk⟩ : ∃ k, k = i + j := ⟨_, rfl⟩
          have hk8 : k < 8 := by omega
          have hik : (i : Int) + (j : Int) = (k : Int) := by omega
          have c0 := cell_eight hS.drew.o k hk8
          have hfk := hf k
          have hup := fun t => val8_upd f k t hk8
          obtain ⟨fk, hfk2⟩ : ∃ fk, fk = f k := ⟨_, rfl⟩
          rw [← hfk2] at c0 hfk hup
          obtain ⟨n1, n2, n3⟩ := mul_nums x y fk c hxl.out hyl hfk hc
          have M := fun W => mul64_any x y hxl.out hyl W
          obtain ⟨hi0, hhi0⟩ : ∃ h, h = x * y / 18446744073709551616 := ⟨_, rfl⟩
          obtain ⟨lo0, hlo0⟩ : ∃ l, l = x * y % 18446744073709551616 := ⟨_, rfl⟩
          rw [← hhi0, ← hlo0] at n1 n2 n3
          rw [← hhi0, ← hlo0] at M
          obtain ⟨s1, hs1⟩ : ∃ s, s = (lo0 + fk) % 18446744073709551616 := ⟨_, rfl⟩
          obtain ⟨c1, hc1⟩ : ∃ s, s = (lo0 + fk) / 18446744073709551616 := ⟨_, rfl⟩
          have A1 := fun W => run_add0 lo0 fk s1 c1 hs1 hc1 W
          rw [← hs1, ← hc1] at n2 n3
          rw [← hc1] at n1
          obtain ⟨s2, hs2⟩ : ∃ s, s = (s1 + c) % 18446744073709551616 := ⟨_, rfl⟩
          obtain ⟨c2, hc2⟩ : ∃ s, s = (s1 + c) / 18446744073709551616 := ⟨_, rfl⟩
          have A2 := fun W => run_add0 s1 c s2 c2 hs2 hc2 W
          rw [← hc2] at n2
          rw [← hs2, ← hc2] at n3
          have hs2l : s2 < 18446744073709551616 := by omega
          have e1 : IntKind.u64.wrap ((hi0 : Int) + (c1 : Int)) = ((hi0 + c1 : Nat) : Int) := by rw [IntKind.wrap_u64]; omega
          have e2 : IntKind.u64.wrap (((hi0 + c1 : Nat) : Int) + (c2 : Int)) = ((hi0 + c1 + c2 : Nat) : Int) := by rw [IntKind.wrap_u64]; omega
          rw [hy] at n3
          rw [hk] at hup
          have hV' := inner_step hV n3 (hup s2)
          rw [← hk] at hV'
          have hfin := (hS.put k s2 hk8).drew
          have hz' : ∀ n, i + 4 ≤ n → upd f k s2 n = 0 := fun n hn => by rw [upd_far f k s2 n (by omega)]; exact hz n hn
          have c3 : (World.frozen? _ ⟨w.heap.size + 1 + 1 + 1, k, none⟩) = false := Go.Joins.unfrozen_of_block hS.drew.o k
          obtain ⟨hh, hhh⟩ : ∃ h, h = hi0 + c1 := ⟨_, rfl⟩
          rw [← hhh] at e1 e2 n1 n2 hV'
          obtain ⟨cn, hcn⟩ : ∃ h, h = hh + c2 := ⟨_, rfl⟩
          rw [← hcn] at e2 n2 hV'
          have q2 : (j : Int) < 4 := by omega
          replace hS := Lib.hid hS
          replace hfin := Lib.hid hfin
          replace hV := Lib.hid hV
          replace hV' := Lib.hid hV'
          replace hz := Lib.hid hz
          replace hz' := Lib.hid hz'
          replace hf := Lib.hid hf
          replace hup := Lib.hid hup
          replace n3 := Lib.hid n3
          replace hy := Lib.hid hy
          replace hs1 := Lib.hid hs1
          replace hs2 := Lib.hid hs2
          replace hc1 := Lib.hid hc1
          replace hc2 := Lib.hid hc2
          replace hhi0 := Lib.hid hhi0
          replace hlo0 := Lib.hid hlo0
          replace hhh := Lib.hid hhh
          replace hcn := Lib.hid hcn
          replace hk := Lib.hid hk
          replace hfk2 := Lib.hid hfk2
          replace hgj := Lib.hid hgj
          replace M := Lib.hid M
          go_wp2_with fail
          go_region_with (go_at_call 54; refine (M.out _).mono ?_; rintro e w2 ⟨rfl, rfl⟩)
          all_goals
            (try go_wp2)
            go_roundg (4 - (j + 1))
            case measure => have := hgj.out; omega
            case rel => exact ⟨j + 1, cn, upd f k s2, by omega, rfl, by go_num, rfl, n2, upd_lt hf.out k s2 hs2l, hz'.out, hV'.out, hfin.out⟩
        · obtain rfl : j = 4 := by omega
          have q2 : ¬ ((4 : Nat) : Int) < 4 := by omega
          obtain ⟨k, hk⟩ : ∃ k, k = i + 4 := ⟨_, rfl⟩
          have hk8 : k < 8 := by omega
          have hik : (i : Int) + 4 = (k : Int) := by omega
          have c0 := cell_eight hS.o k hk8
          have hup := val8_upd f k c hk8
          rw [hz k (by omega), hk] at hup
          have hV' := outer_step (a := a) hb.out (by rw [← hx.out]; exact hV) hup
          have hfin := hS.put k c hk8
          rw [← hk] at hV'
          have hz' : ∀ n, i + 1 + 4 ≤ n → upd f k c n = 0 := fun n hn => by rw [upd_far f k c n (by omega)]; exact hz n (by omega)
          have c3 : (World.frozen? _ ⟨w.heap.size + 1 + 1 + 1, k, none⟩) = false := Go.Joins.unfrozen_of_block hS.o k
          replace hS := Lib.hid hS
          replace hfin := Lib.hid hfin
          replace hV := Lib.hid hV
          replace hV' := Lib.hid hV'
          replace hz := Lib.hid hz
          replace hz' := Lib.hid hz'
          replace hf := Lib.hid hf
          replace hup := Lib.hid hup
          replace hk := Lib.hid hk
          go_wp2_with fail
          go_roundg (4 - (i + 1))
          case measure => have := hgi.out; omega
          case rel => exact ⟨i + 1, upd f k c, by omega, rfl, by go_num, upd_lt hf.out k c hc, hz'.out, hV'.out, hfin.out⟩
    · obtain rfl : i = 4 := by omega
      rw [show a % 18446744073709551616 ^ 4 = a from Nat.mod_eq_of_lt ha.out] at hV
      have hres := canon8 (f := f) (fun n _ => hf n)
      rw [hV] at hres
      have x0 := cell_eight hS.o 0 (by omega)
      have x1 := cell_eight hS.o 1 (by omega)
      have x2 := cell_eight hS.o 2 (by omega)
      have x3 := cell_eight hS.o 3 (by omega)
      have x4 := cell_eight hS.o 4 (by omega)
      have x5 := cell_eight hS.o 5 (by omega)
      have x6 := cell_eight hS.o 6 (by omega)
      have x7 := cell_eight hS.o 7 (by omega)
      have y0 := cell_eight (f := fun _ => 0) hS.z 0 (by omega)
      have y1 := cell_eight (f := fun _ => 0) hS.z 1 (by omega)
      have y2 := cell_eight (f := fun _ => 0) hS.z 2 (by omega)
      have y3 := cell_eight (f := fun _ => 0) hS.z 3 (by omega)
      have y4 := cell_eight (f := fun _ => 0) hS.z 4 (by omega)
      have y5 := cell_eight (f := fun _ => 0) hS.z 5 (by omega)
      have y6 := cell_eight (f := fun _ => 0) hS.z 6 (by omega)
      have y7 := cell_eight (f := fun _ => 0) hS.z 7 (by omega)
      have z : ∀ k, World.frozen? _ ⟨w.heap.size + 1 + 1, k, none⟩ = false := fun k => Go.Joins.unfrozen_of_block hS.z k
      have z0 := z 0
      have z1 := z 1
      have z2 := z 2
      have z3 := z 3
      have z4 := z 4
      have z5 := z 5
      have z6 := z 6
      have z7 := z 7
      have hb8 := set8_block (f := f) hS.z
      have p0 := cell_eight hb8 0 (by omega)
      have p1 := cell_eight hb8 1 (by omega)
      have p2 := cell_eight hb8 2 (by omega)
      have p3 := cell_eight hb8 3 (by omega)
      have p4 := cell_eight hb8 4 (by omega)
      have p5 := cell_eight hb8 5 (by omega)
      have p6 := cell_eight hb8 6 (by omega)
      have p7 := cell_eight hb8 7 (by omega)
      have hB := below_set8 hS.below (w.heap.size + 1 + 1) (by omega) (u (f 0)) (u (f 1)) (u (f 2)) (u (f 3)) (u (f 4)) (u (f 5)) (u (f 6)) (u (f 7))
      replace hB := Lib.hid hB
      replace hb8 := Lib.hid hb8
      replace hS := Lib.hid hS
      replace hf := Lib.hid hf
      replace hz := Lib.hid hz
      replace hV := Lib.hid hV
      replace hres := Lib.hid hres
      clear z
      go_wp2
      refine bodyPost_ret (v := wideL f) (by simp [results, Tryd.results42, go_sem, p0, p1, p2, p3, p4, p5, p6, p7]) rfl ⟨by rw [hres.out], hB.out⟩
end Lm
end Go.Proofs.YtkmbpakhbicnaaaDoor
namespace Go.Proofs.YtkmbpakhbicnaaaDoor
open Go.RowKit Go.Proofs.YtkmbpakhbicnaaaDoorW.PrintWords Go.Lib
namespace Lm
abbrev oneW : Value := .agg #[.int .u64 0, .int .u64 0, .int .u64 0, .int .u64 0, .int .u64 1, .int .u64 0, .int .u64 0, .int .u64 0]
theorem oneW_eq : wideV B4 = oneW := by simp [lm]
abbrev one4 : Value := .agg #[.int .u64 1, .int .u64 0, .int .u64 0, .int .u64 0]
theorem one4_eq : numV 1 = one4 := by simp [lm]
/-- The modulus' cells, where NewMont put them. -/
structure NM (w X : World) (m : Nat) : Prop where
  below : Below w.heap.size w X
  m : X.heap[w.heap.size]? = some (.cells #[u (lm m 0), u (lm m 1), u (lm m 2), u (lm m 3)] 38 (0, 0))
theorem NM.call {w X X' : World} {m : Nat} (h : NM w X m) (hb : Below X.heap.size X X') : NM w X' m :=
  ⟨below_then h.below h.below.size hb, (hb.block _ (Array.getElem?_eq_some_iff.1 h.m).1).trans h.m⟩
theorem NM.alloc {w X : World} {m : Nat} (h : NM w X m) (o : Obj) : NM w (X.alloc o) m := h.call ((Below.refl _ X).alloc (Nat.le_refl _) o)
theorem NM.drew {w X : World} {m : Nat} (h : NM w X m) : NM w X.drew m := ⟨h.below.drew, h.m⟩
structure NS (w X : World) (m r R : Nat) : Prop where
  nm : NM w X m
  rb : X.heap[R]? = some (.cells #[u (lm r 0), u (lm r 1), u (lm r 2), u (lm r 3)] 38 (0, 0))
theorem NS.call {w X X' : World} {m r R : Nat} (h : NS w X m r R) (hb : Below X.heap.size X X') : NS w X' m r R :=
  ⟨h.nm.call hb, (hb.block _ (Array.getElem?_eq_some_iff.1 h.rb).1).trans h.rb⟩
theorem NS.alloc {w X : World} {m r R : Nat} (h : NS w X m r R) (o : Obj) : NS w (X.alloc o) m r R := h.call ((Below.refl _ X).alloc (Nat.le_refl _) o)
theorem NS.drew {w X : World} {m r R : Nat} (h : NS w X m r R) : NS w X.drew m r R := ⟨h.nm.drew, h.rb⟩
theorem NS.mkS {w X : World} {m r R : Nat} (h : NS w X m r R) :
    X.cell? ⟨w.heap.size, 0, none⟩ = some (u (lm m 0)) ∧ X.cell? ⟨w.heap.size, 1, none⟩ = some (u (lm m 1)) ∧ X.cell? ⟨w.heap.size, 2, none⟩ = some (u (lm m 2)) ∧ X.cell? ⟨w.heap.size, 3, none⟩ = some (u (lm m 3)) ∧
    X.cell? ⟨R, 0, none⟩ = some (u (lm r 0)) ∧ X.cell? ⟨R, 1, none⟩ = some (u (lm r 1)) ∧ X.cell? ⟨R, 2, none⟩ = some (u (lm r 2)) ∧ X.cell? ⟨R, 3, none⟩ = some (u (lm r 3)) ∧ Hid (NS w X m r R) :=
  ⟨Go.Joins.cell_of_block h.nm.m 0, Go.Joins.cell_of_block h.nm.m 1, Go.Joins.cell_of_block h.nm.m 2, Go.Joins.cell_of_block h.nm.m 3, Go.Joins.cell_of_block h.rb 0, Go.Joins.cell_of_block h.rb 1, Go.Joins.cell_of_block h.rb 2, Go.Joins.cell_of_block h.rb 3, Lib.hid h⟩
theorem NS.fin {w X : World} {m r R T : Nat} {cs : Array Value} {ty : TypeId} (h : NS w X m r R) (hz : X.heap[T]? = some (.cells cs ty (0, 0))) (hs : cs.size = 4) (hT : w.heap.size < T) (hR : R < T) (v0 v1 v2 v3 : Value) :
    NS w (four X T v0 v1 v2 v3) m r R ∧ (four X T v0 v1 v2 v3).heap[T]? = some (.cells #[v0, v1, v2, v3] ty (0, 0)) := by
  have far : ∀ k, k < T → (four X T v0 v1 v2 v3).heap[k]? = X.heap[k]? := fun k hk =>
    (Below.heap_setCell _ ⟨T, 3, none⟩ _ _ (Nat.ne_of_lt hk)).trans ((Below.heap_setCell _ ⟨T, 2, none⟩ _ _ (Nat.ne_of_lt hk)).trans ((Below.heap_setCell _ ⟨T, 1, none⟩ _ _ (Nat.ne_of_lt hk)).trans (Below.heap_setCell _ ⟨T, 0, none⟩ _ _ (Nat.ne_of_lt hk))))
  exact ⟨⟨⟨below_four h.nm.below T (Nat.le_of_lt hT) _ _ _ _, (far _ hT).trans h.nm.m⟩, (far _ hR).trans h.rb⟩, four_set hz hs _ _ _ _⟩
theorem z_old {X X' : World} {cs : Array Value} {ty : TypeId} (h : Below (X.alloc (.cells cs ty)).heap.size (X.alloc (.cells cs ty)) X') : X'.heap[X.heap.size]? = some (.cells cs ty (0, 0)) :=
  (h.block _ (by rw [World.size_alloc]; omega)).trans (heap_alloc_new X _)
theorem z_old2 {X X' : World} {cs : Array Value} {ty : TypeId} (h : Below (X.alloc (.cells cs ty)).drew.heap.size (X.alloc (.cells cs ty)).drew X') : X'.heap[X.heap.size]? = some (.cells cs ty (0, 0)) :=
  (h.block _ (by rw [World.size_drew, World.size_alloc]; omega)).trans (heap_alloc_new X _)
theorem NM.fin {w X : World} {m R : Nat} {cs : Array Value} {ty : TypeId} (h : NM w X m) (hz : X.heap[R]? = some (.cells cs ty (0, 0))) (hs : cs.size = 4) (hR : w.heap.size < R) (v0 v1 v2 v3 : Value) :
    NM w (four X R v0 v1 v2 v3) m ∧ (four X R v0 v1 v2 v3).heap[R]? = some (.cells #[v0, v1, v2, v3] ty (0, 0)) := by
  refine ⟨⟨below_four h.below R (Nat.le_of_lt hR) _ _ _ _, ?_⟩, four_set hz hs _ _ _ _⟩
  have far : (four X R v0 v1 v2 v3).heap[w.heap.size]? = X.heap[w.heap.size]? :=
    (Below.heap_setCell _ ⟨R, 3, none⟩ _ _ (Nat.ne_of_lt hR)).trans ((Below.heap_setCell _ ⟨R, 2, none⟩ _ _ (Nat.ne_of_lt hR)).trans ((Below.heap_setCell _ ⟨R, 1, none⟩ _ _ (Nat.ne_of_lt hR)).trans (Below.heap_setCell _ ⟨R, 0, none⟩ _ _ (Nat.ne_of_lt hR))))
  exact far.trans h.m
set_option maxRecDepth 100000 in
set_option maxHeartbeats 4000000 in
theorem newMont_any (w : World) (m : Nat) (hm0 : 1 < m) (hodd : m % 2 = 1) (hm : m < B4) :
    Calls Tryd.prog 40 #[numV m] w fun e w' => (∃ p, e = .returned (.tuple #[.pointer (some ⟨p, 0, none⟩), .int .i64 0])) ∧ Below w.heap.size w w' := by
  have b1 := (Below.refl _ w).alloc (Nat.le_refl _) (.cells #[u (lm m 0), u (lm m 1), u (lm m 2), u (lm m 3)] 38)
  have n1 : (w.alloc (.cells #[u (lm m 0), u (lm m 1), u (lm m 2), u (lm m 3)] 38)).heap[w.heap.size]? = some (.cells #[u (lm m 0), u (lm m 1), u (lm m 2), u (lm m 3)] 38 (0, 0)) := heap_alloc_new w _
  have s1 : (w.alloc (.cells #[u (lm m 0), u (lm m 1), u (lm m 2), u (lm m 3)] 38)).heap.size = w.heap.size + 1 := World.size_alloc _ _
  obtain ⟨x0, x1, x2, x3⟩ := cell4 n1
  have han := and_bit (lm m 0) (lm_lt 0 m)
  have hl0 : lm m 0 % 2 = 1 := by simp only [lm]; omega
  rw [hl0] at han
  have EQ : ∀ X, (Op.equalIn 10000 38 (numV m) one4).run Tryd.prog X = .ok false X := fun X => by
    have := eqV hm (b := 1) (by decide) X
    rw [show decide (m = 1) = false by simp; omega, one4_eq] at this
    exact this
  have C1 := fun X => mod_any X B4 m (by decide) (by omega) hm
  obtain ⟨r, hr⟩ : ∃ r, r = B4 % m := ⟨_, rfl⟩
  rw [← hr, oneW_eq] at C1
  have hr4 : r < B4 := by rw [hr]; exact Nat.lt_trans (Nat.mod_lt _ (by omega)) hm
  have C2 := fun X => mulw_any X r r hr4 hr4
  obtain ⟨p, hp⟩ : ∃ p, p = r * r := ⟨_, rfl⟩
  have hp8 : p < B8 := by rw [hp]; exact Nat.lt_of_lt_of_le (Nat.mul_lt_mul_of_lt_of_le hr4 (Nat.le_of_lt hr4) (by decide)) (by decide)
  rw [← hp] at C2
  have C3 := fun X => mod_any X p m hp8 (by omega) hm
  obtain ⟨t, ht⟩ : ∃ t, t = p % m := ⟨_, rfl⟩
  rw [← ht] at C3
  replace C1 := Lib.hid C1
  replace C2 := Lib.hid C2
  replace C3 := Lib.hid C3
  replace b1 := Lib.hid b1
  replace n1 := Lib.hid n1
  replace s1 := Lib.hid s1
  clear hp8 hp hr hr4 ht hl0 hm hm0 hodd
  go_enter Tryd.func40, Tryd.ntmps40
  go_wp2_with fail
  go_loopg [20, 4] 6 (fun gk v20 v4 wr => ∃ (i : Nat) (z : Int), i ≤ 6 ∧ gk = 6 - i ∧ v20 = .int .i64 (i : Int) ∧ v4 = .int .u64 z ∧ wr = w.alloc (.cells #[u (lm m 0), u (lm m 1), u (lm m 2), u (lm m 3)] 38))
  case atStart => exact ⟨0, _, by omega, rfl, rfl, rfl, rfl⟩
  case round =>
    obtain ⟨i, z, hi, hgi, rfl, rfl, rfl⟩ := hrel
    by_cases hlt : i < 6
    · have q1 : (i : Int) < 6 := by omega
      replace hgi := Lib.hid hgi
      go_wp2
      go_roundg (6 - (i + 1))
      case measure => have := hgi.out; omega
      case rel => exact ⟨i + 1, _, by omega, rfl, by go_num, rfl, rfl⟩
    · obtain rfl : i = 6 := by omega
      go_wp2_with fail
      refine (C1.out _).mono ?_
      rintro e w2 ⟨rfl, hb2⟩
      have r3 : (w2.alloc (.cells #[u (lm r 0), u (lm r 1), u (lm r 2), u (lm r 3)] 38)).heap[w2.heap.size]? = some (.cells #[u (lm r 0), u (lm r 1), u (lm r 2), u (lm r 3)] 38 (0, 0)) := heap_alloc_new w2 _
      have N3 : NS w (w2.alloc (.cells #[u (lm r 0), u (lm r 1), u (lm r 2), u (lm r 3)] 38)) m r w2.heap.size := ⟨(NM.call ⟨b1.out, n1.out⟩ hb2).alloc _, r3⟩
      have lt2 : w.heap.size < w2.heap.size := by have := hb2.size; have := s1.out; omega
      obtain ⟨W3, hW3⟩ : ∃ W3, W3 = w2.alloc (.cells #[.int .u64 (lm r 0 : Nat), .int .u64 (lm r 1 : Nat), .int .u64 (lm r 2 : Nat), .int .u64 (lm r 3 : Nat)] 38) := ⟨_, rfl⟩
      have N3' : NS w W3 m r w2.heap.size := by rw [hW3]; exact N3
      replace N3' := Lib.hid N3'
      replace lt2 := Lib.hid lt2
      replace hb2 := Lib.hid hb2
      replace hW3 := Lib.hid hW3
      clear r3 N3
      clear x0 x1 x2 x3
      go_wp2_with fail
      rw [← hW3.out]
      go_region_held3 (fun w' => w'.cell? ⟨w.heap.size, 0, none⟩ = some (u (lm m 0)) ∧ w'.cell? ⟨w.heap.size, 1, none⟩ = some (u (lm m 1)) ∧ w'.cell? ⟨w.heap.size, 2, none⟩ = some (u (lm m 2)) ∧ w'.cell? ⟨w.heap.size, 3, none⟩ = some (u (lm m 3)) ∧ w'.cell? ⟨w2.heap.size, 0, none⟩ = some (u (lm r 0)) ∧ w'.cell? ⟨w2.heap.size, 1, none⟩ = some (u (lm r 1)) ∧ w'.cell? ⟨w2.heap.size, 2, none⟩ = some (u (lm r 2)) ∧ w'.cell? ⟨w2.heap.size, 3, none⟩ = some (u (lm r 3)) ∧ Hid (NS w w' m r w2.heap.size)) (first | exact N3'.out.drew.mkS | exact N5.out.mkS | exact (N5.out.fin Z5.out rfl (by first | exact (Array.getElem?_eq_some_iff.1 N4.out.nm.m).1 | exact (Array.getElem?_eq_some_iff.1 N3'.out.nm.m).1) (by first | exact (Array.getElem?_eq_some_iff.1 N4.out.rb).1 | exact (Array.getElem?_eq_some_iff.1 N3'.out.rb).1) (u (lm t 0)) (u (lm t 1)) (u (lm t 2)) (u (lm t 3))).1.mkS | exact N4.out.mkS | exact (N5.out.alloc _).mkS | exact (N4.out.alloc _).mkS | exact (N3'.out.alloc _).drew.mkS | exact (N3'.out.drew.alloc _).mkS) (first
        | (go_at_call 50; refine (C2.out _).mono ?_; rintro e w4 ⟨rfl, hb4⟩; have N4 := Lib.hid (show NS w w4 m r w2.heap.size from by first | exact N3'.out.drew.call hb4 | exact (N3'.out.alloc _).drew.call hb4); (try (have Z4 := z_old2 hb4; replace Z4 := Lib.hid Z4)); replace hb4 := Lib.hid hb4)
        | (go_at_call 41; refine (C3.out _).mono ?_; rintro e w5 ⟨rfl, hb5⟩; have N5 := Lib.hid (show NS w w5 m r w2.heap.size from by first | exact N4.out.call hb5 | exact (N4.out.alloc _).call hb5); (first | have Z5 := (hb5.block _ (Array.getElem?_eq_some_iff.1 Z4.out).1).trans Z4.out | have Z5 := z_old hb5 | skip); (try (have F5 := free4 Z5; obtain ⟨f0, f1, f2, f3⟩ := F5; have G5 := cell4 Z5; obtain ⟨h0, h1, h2, h3⟩ := G5; replace Z5 := Lib.hid Z5)); replace hb5 := Lib.hid hb5))
      all_goals
        first
        | (have F6 := N5.out.fin Z5.out rfl (by first | exact (Array.getElem?_eq_some_iff.1 N4.out.nm.m).1 | exact (Array.getElem?_eq_some_iff.1 N3'.out.nm.m).1) (by first | exact (Array.getElem?_eq_some_iff.1 N4.out.rb).1 | exact (Array.getElem?_eq_some_iff.1 N3'.out.rb).1) (u (lm t 0)) (u (lm t 1)) (u (lm t 2)) (u (lm t 3)); obtain ⟨M6, T6⟩ := F6; obtain ⟨a0, a1, a2, a3⟩ := cell4 M6.nm.m; obtain ⟨e0, e1, e2, e3⟩ := cell4 T6; replace M6 := Lib.hid M6; replace T6 := Lib.hid T6; go_wp2; refine bodyPost_ret (v := .tuple #[.pointer (some ⟨w5.heap.size, 0, none⟩), .int .i64 0]) (by simp [results, Tryd.results40, go_sem]) rfl ⟨⟨w5.heap.size, rfl⟩, M6.out.nm.below.alloc M6.out.nm.below.size _⟩)
        | (have M6 := N5.out.alloc (.cells #[u (lm t 0), u (lm t 1), u (lm t 2), u (lm t 3)] 38); have T6 := heap_alloc_new w5 (.cells #[u (lm t 0), u (lm t 1), u (lm t 2), u (lm t 3)] 38); obtain ⟨a0, a1, a2, a3⟩ := cell4 M6.nm.m; obtain ⟨e0, e1, e2, e3⟩ := cell4 T6; replace M6 := Lib.hid M6; replace T6 := Lib.hid T6; go_wp2; refine bodyPost_ret (v := .tuple #[.pointer (some ⟨w5.heap.size + 1, 0, none⟩), .int .i64 0]) (by simp [results, Tryd.results40, go_sem]) rfl ⟨⟨w5.heap.size + 1, rfl⟩, M6.out.nm.below.alloc M6.out.nm.below.size _⟩)
end Lm
end Go.Proofs.YtkmbpakhbicnaaaDoor
namespace Go.Proofs.YtkmbpakhbicnaaaDoor
open Go.RowKit Go.Proofs.YtkmbpakhbicnaaaDoorW.PrintWords Go.Lib
namespace Lm
/-- The order of the group, and what 2^256 is by it. -/
abbrev Q : Nat := 115792089237316195423570985008687907852837564279074904382605163141518161494337
abbrev CQ : Nat := 432420386565659656852420866394968145599
theorem Q_lt : Q < B4 := by decide
theorem CQ_lt : CQ < B4 := by decide
theorem CQ_eq : Q + CQ = B4 := by decide
abbrev litQ : Value := .agg #[.int .u64 13822214165235122497, .int .u64 13451932020343611451, .int .u64 18446744073709551614, .int .u64 18446744073709551615]
theorem litQ_eq : numV Q = litQ := by simp [lm]
abbrev litF : Value := .agg #[.int .u64 13822214165235122497, .int .u64 13451932020343611451, .int .u64 18446744073709551614, .int .u64 18446744073709551615, .int .u64 4624529908474429119, .int .u64 4994812053365940164, .int .u64 1, .int .u64 0]
/-- A field: its prime, and what 2^256 is by it. -/
abbrev fieldL (f g : Nat → Nat) : Value := .agg #[u (f 0), u (f 1), u (f 2), u (f 3), u (g 0), u (g 1), u (g 2), u (g 3)]
theorem litF_eq : fieldL (lm Q) (lm CQ) = litF := by simp [lm]
set_option maxRecDepth 100000 in
set_option maxHeartbeats 400000 in
theorem rscalars_any (w : World) :
    Calls Tryd.prog 17 #[] w fun e w' => e = .returned (fieldL (lm Q) (lm CQ)) ∧ Below w.heap.size w w' := by
  rw [litF_eq]
  go_enter Tryd.func17, Tryd.ntmps17
  go_wp2
  refine bodyPost_ret (v := litF) (by simp [results, Tryd.results17, go_sem]) rfl ⟨rfl, (Below.refl _ w).alloc (Nat.le_refl _) _⟩
set_option maxRecDepth 100000 in
set_option maxHeartbeats 400000 in
theorem rzeroL (w : World) (x0 x1 x2 x3 : Nat) :
    Calls Tryd.prog 33 #[.agg #[u x0, u x1, u x2, u x3]] w fun e w' => e = .returned (.bool (decide (x0 = 0 ∧ x1 = 0 ∧ x2 = 0 ∧ x3 = 0))) ∧ Below w.heap.size w w' := by
  have hB := (Below.refl _ w).alloc (Nat.le_refl _) (.cells #[u x0, u x1, u x2, u x3] 38)
  replace hB := Lib.hid hB
  go_enter Tryd.func33, Tryd.ntmps33
  by_cases h0 : x0 = 0
  · subst h0
    by_cases h1 : x1 = 0
    · subst h1
      by_cases h2 : x2 = 0
      · subst h2
        by_cases h3 : x3 = 0
        · subst h3
          go_wp2
          go_ret
          exact ⟨rfl, hB.out⟩
        · have q1 : ((x3 : Int) == 0) = false := by simp [h3]
          have r1 : decide (((0 : Nat) = 0) ∧ (0 : Nat) = 0 ∧ (0 : Nat) = 0 ∧ x3 = 0) = false := by simp [h3]
          rw [r1]
          go_wp2
          go_ret
          exact ⟨rfl, hB.out⟩
      · have q1 : ((x2 : Int) == 0) = false := by simp [h2]
        have r1 : decide (((0 : Nat) = 0) ∧ (0 : Nat) = 0 ∧ x2 = 0 ∧ x3 = 0) = false := by simp [h2]
        rw [r1]
        go_wp2
        go_ret
        exact ⟨rfl, hB.out⟩
    · have q1 : ((x1 : Int) == 0) = false := by simp [h1]
      have r1 : decide (((0 : Nat) = 0) ∧ x1 = 0 ∧ x2 = 0 ∧ x3 = 0) = false := by simp [h1]
      rw [r1]
      go_wp2
      go_ret
      exact ⟨rfl, hB.out⟩
  · have q1 : ((x0 : Int) == 0) = false := by simp [h0]
    have r1 : decide (x0 = 0 ∧ x1 = 0 ∧ x2 = 0 ∧ x3 = 0) = false := by simp [h0]
    rw [r1]
    go_wp2
    go_ret
    exact ⟨rfl, hB.out⟩
theorem limbs_zero {a : Nat} (ha : a < B4) : decide (lm a 0 = 0 ∧ lm a 1 = 0 ∧ lm a 2 = 0 ∧ lm a 3 = 0) = decide (a = 0) := by
  have h := val4_lm ha
  unfold val4 at h
  apply decide_eq_decide.2
  generalize lm a 0 = x0 at *
  generalize lm a 1 = x1 at *
  generalize lm a 2 = x2 at *
  generalize lm a 3 = x3 at *
  omega
theorem rzero_any (w : World) (a : Nat) (ha : a < B4) :
    Calls Tryd.prog 33 #[numV a] w fun e w' => e = .returned (.bool (decide (a = 0))) ∧ Below w.heap.size w w' := by
  have := rzeroL w (lm a 0) (lm a 1) (lm a 2) (lm a 3)
  rw [limbs_zero ha] at this
  exact this
set_option maxRecDepth 100000 in
set_option maxHeartbeats 400000 in
theorem rhas_any (w : World) (a q c : Nat) (ha : a < B4) (hq : q < B4) :
    Calls Tryd.prog 18 #[fieldL (lm q) (lm c), numV a] w fun e w' => e = .returned (.bool (decide (a < q))) ∧ Below w.heap.size w w' := by
  have C := fun X => less_any X (lm a) (lm q)
  rw [lessN ha hq] at C
  have b1 := (Below.refl _ w).alloc (Nat.le_refl _) (.cells #[u (lm q 0), u (lm q 1), u (lm q 2), u (lm q 3), u (lm c 0), u (lm c 1), u (lm c 2), u (lm c 3)] 47)
  have b2 := b1.alloc b1.size (.cells #[u (lm a 0), u (lm a 1), u (lm a 2), u (lm a 3)] 38)
  replace C := Lib.hid C
  replace b1 := Lib.hid b1
  replace b2 := Lib.hid b2
  clear ha hq
  go_enter Tryd.func18, Tryd.ntmps18
  go_wp2_with fail
  refine (C.out _).mono ?_
  rintro e w2 ⟨rfl, hb2⟩
  have hB := Lib.hid (below_then b2.out b2.out.size hb2)
  replace hb2 := Lib.hid hb2
  go_wp2
  go_ret
  exact ⟨rfl, hB.out⟩
end Lm
end Go.Proofs.YtkmbpakhbicnaaaDoor
namespace Go.Proofs.YtkmbpakhbicnaaaDoor
open Go.RowKit Go.Proofs.YtkmbpakhbicnaaaDoorW.PrintWords Go.Lib
namespace Lm
/-- What a number is below after so many folds. -/
def bnd : Nat → Nat
  | 0 => B8
  | 1 => (CQ + 1) * B4
  | 2 => B4 + CQ * CQ
  | 3 => B4 + 2 * CQ
  | _ => B4
theorem fold_bnd (i N : Nat) (hi : i < 4) (h : N < bnd i) : N % B4 + CQ * (N / B4) < bnd (i + 1) := by
  match i, hi with
  | 0, _ => simp only [bnd, B4, B8, CQ] at *; omega
  | 1, _ => simp only [bnd, B4, CQ] at *; omega
  | 2, _ => simp only [bnd, B4, CQ] at *; omega
  | 3, _ => simp only [bnd, B4, CQ] at *; omega
theorem fold_mod (N : Nat) : (N % B4 + CQ * (N / B4)) % Q = N % Q := by simp only [B4, CQ, Q]; omega
theorem bnd_le (i N : Nat) (h : N < bnd i) : N < B8 := by
  unfold bnd at h
  split at h <;> (simp only [B4, B8, CQ] at *; omega)
theorem bnd_four (N : Nat) (h : N < bnd 4) : N / B4 = 0 := by
  simp only [bnd, B4] at *
  omega
/-- One fold, by its parts. -/
theorem fold_parts (N P : Nat) (hN : N < B8) (hP : P = CQ * (N / B4)) :
    P < B8 ∧ (N % B4 + P % B4) % B4 = (N % B4 + P) % B4 ∧ P / B4 + (N % B4 + P % B4) / B4 = (N % B4 + P) / B4 ∧ (N % B4 + P % B4) / B4 ≤ 1 ∧ P / B4 + 1 < B4 ∧ N % B4 + P < B8 := by
  subst hP
  simp only [B4, B8, CQ] at *
  omega
theorem lm_mod4 (P : Nat) : numL (lm P) = numV (P % B4) := by
  have e : ∀ i, i < 4 → lm (P % B4) i = lm P i := fun i hi => by
    match i, hi with
    | 0, _ => simp only [lm, B4]; omega
    | 1, _ => simp only [lm, B4]; omega
    | 2, _ => simp only [lm, B4]; omega
    | 3, _ => simp only [lm, B4]; omega
  simp only [numV, numL]
  rw [e 0 (by omega), e 1 (by omega), e 2 (by omega), e 3 (by omega)]
theorem lm_high (P : Nat) : ∀ i, lm (P / B4) i = lm P (i + 4) := fun i => by
  rw [lm_eq, lm_eq, Nat.div_div_eq_div_mul, show B4 = 2 ^ 256 by rfl, ← Nat.pow_add, show 256 + 64 * i = 64 * (i + 4) by omega]
/-- The middle of Reduce. -/
structure RS (w wr : World) (q c lo hi : Nat) : Prop where
  below : Below w.heap.size w wr
  f : wr.heap[w.heap.size]? = some (.cells #[u (lm q 0), u (lm q 1), u (lm q 2), u (lm q 3), u (lm c 0), u (lm c 1), u (lm c 2), u (lm c 3)] 47 (0, 0))
  z : wr.heap[w.heap.size + 1 + 1]? = some (.cells #[.int .u64 0, .int .u64 0, .int .u64 0, .int .u64 0] 38 (0, 0))
  lo : wr.heap[w.heap.size + 1 + 1 + 1]? = some (.cells #[u (lm lo 0), u (lm lo 1), u (lm lo 2), u (lm lo 3)] 38 (0, 0))
  hi : wr.heap[w.heap.size + 1 + 1 + 1 + 1]? = some (.cells #[u (lm hi 0), u (lm hi 1), u (lm hi 2), u (lm hi 3)] 38 (0, 0))
theorem RS.move {w wr w2 : World} {q c lo hi : Nat} (h : RS w wr q c lo hi) (hb : Below wr.heap.size wr w2) : RS w w2 q c lo hi := by
  have lt : ∀ (k : Nat) (o : Obj), wr.heap[k]? = some o → k < wr.heap.size := fun k o e => (Array.getElem?_eq_some_iff.1 e).1
  exact ⟨below_then h.below h.below.size hb, (hb.block _ (lt _ _ h.f)).trans h.f, (hb.block _ (lt _ _ h.z)).trans h.z, (hb.block _ (lt _ _ h.lo)).trans h.lo, (hb.block _ (lt _ _ h.hi)).trans h.hi⟩
theorem four_far (wr : World) (R : Nat) (v0 v1 v2 v3 : Value) (k : Nat) (hk : k ≠ R) : (four wr R v0 v1 v2 v3).heap[k]? = wr.heap[k]? :=
  (Below.heap_setCell _ ⟨R, 3, none⟩ _ k hk).trans ((Below.heap_setCell _ ⟨R, 2, none⟩ _ k hk).trans ((Below.heap_setCell _ ⟨R, 1, none⟩ _ k hk).trans (Below.heap_setCell _ ⟨R, 0, none⟩ _ k hk)))
theorem RS.putlo {w wr : World} {q c lo hi : Nat} (h : RS w wr q c lo hi) (x : Nat) : RS w (four wr (w.heap.size + 1 + 1 + 1) (u (lm x 0)) (u (lm x 1)) (u (lm x 2)) (u (lm x 3))) q c x hi :=
  ⟨below_four h.below _ (by omega) _ _ _ _, (four_far _ _ _ _ _ _ _ (by omega)).trans h.f, (four_far _ _ _ _ _ _ _ (by omega)).trans h.z, four_set h.lo rfl _ _ _ _, (four_far _ _ _ _ _ _ _ (by omega)).trans h.hi⟩
theorem RS.puthi {w wr : World} {q c lo hi : Nat} (h : RS w wr q c lo hi) (x : Nat) : RS w (four wr (w.heap.size + 1 + 1 + 1 + 1) (u (lm x 0)) (u (lm x 1)) (u (lm x 2)) (u (lm x 3))) q c lo x :=
  ⟨below_four h.below _ (by omega) _ _ _ _, (four_far _ _ _ _ _ _ _ (by omega)).trans h.f, (four_far _ _ _ _ _ _ _ (by omega)).trans h.z, (four_far _ _ _ _ _ _ _ (by omega)).trans h.lo, four_set h.hi rfl _ _ _ _⟩
theorem RS.start (w : World) (q c W : Nat) : RS w (((((w.alloc (.cells #[u (lm q 0), u (lm q 1), u (lm q 2), u (lm q 3), u (lm c 0), u (lm c 1), u (lm c 2), u (lm c 3)] 47)).alloc (.cells (eight (lm W)) 64)).alloc (.cells #[.int .u64 0, .int .u64 0, .int .u64 0, .int .u64 0] 38)).alloc (.cells #[u (lm W 0), u (lm W 1), u (lm W 2), u (lm W 3)] 38)).alloc (.cells #[u (lm W 4), u (lm W 5), u (lm W 6), u (lm W 7)] 38)) q c (W % B4) (W / B4) := by
  obtain ⟨g0, g1, g2, g3⟩ := alloc4_at w #[u (lm q 0), u (lm q 1), u (lm q 2), u (lm q 3), u (lm c 0), u (lm c 1), u (lm c 2), u (lm c 3)] (eight (lm W)) #[.int .u64 0, .int .u64 0, .int .u64 0, .int .u64 0] #[u (lm W 0), u (lm W 1), u (lm W 2), u (lm W 3)] 47 64 38 38
  obtain ⟨k1, k2⟩ := alloc4 w (.cells #[u (lm q 0), u (lm q 1), u (lm q 2), u (lm q 3), u (lm c 0), u (lm c 1), u (lm c 2), u (lm c 3)] 47) (.cells (eight (lm W)) 64) (.cells #[.int .u64 0, .int .u64 0, .int .u64 0, .int .u64 0] 38) (.cells #[u (lm W 0), u (lm W 1), u (lm W 2), u (lm W 3)] 38) _ rfl
  have e := lm_mod4 W
  simp only [numV, numL, Value.agg.injEq] at e
  have g4 := heap_alloc_new ((((w.alloc (.cells #[u (lm q 0), u (lm q 1), u (lm q 2), u (lm q 3), u (lm c 0), u (lm c 1), u (lm c 2), u (lm c 3)] 47)).alloc (.cells (eight (lm W)) 64)).alloc (.cells #[.int .u64 0, .int .u64 0, .int .u64 0, .int .u64 0] 38)).alloc (.cells #[u (lm W 0), u (lm W 1), u (lm W 2), u (lm W 3)] 38)) (.cells #[u (lm W 4), u (lm W 5), u (lm W 6), u (lm W 7)] 38)
  rw [k2] at g4
  have far : ∀ k, k < w.heap.size + 4 → _ := fun k hk => ((Below.refl _ _).alloc (Nat.le_refl _) (.cells #[u (lm W 4), u (lm W 5), u (lm W 6), u (lm W 7)] 38)).block k (Nat.lt_of_lt_of_eq hk k2.symm)
  refine ⟨k1.alloc k1.size _, (far _ (by omega)).trans g0, (far _ (by omega)).trans g2, ?_, ?_⟩
  · rw [← e]
    exact (far _ (by omega)).trans g3
  · rw [lm_high, lm_high, lm_high, lm_high]
    exact g4
end Lm
end Go.Proofs.YtkmbpakhbicnaaaDoor
