/- Numbers of four limbs: sums, differences, one of two.
Numbers of four limbs: the reference's sums, differences, what is less; one of two.
What numbers of four and eight limbs are worth. Plain.
One of two numbers; the number that 32 bytes are.
The number that 32 bytes are: the program's and the reference's.
Two numbers the same; a remainder. -/
import Derived.Test.YtkmbpakhbicnaaaDoorProg
import Derived.Test.YtkmbpakhbicnaaaDoorWWords
import Derived.WalkKit
import Derived.Lib.Hide
import Derived.Outline
import Derived.Laws.Externs
import Derived.Shelf.Spec.BitsCarry
import Derived.Deep.LoopGhost
import Derived.BigQuiet
import Derived.Deep.RegionHeld3
import Derived.WalkSpells
import Derived.IntWalk
import Derived.Below
import Derived.Lib.SmallJoins
import Derived.Laws.Bits64b
import Derived.Shelf.Bits.Mul64
import Derived.ChangeKeysEq
namespace Go.Proofs.YtkmbpakhbicnaaaDoor
open Go.RowKit Go.Proofs.YtkmbpakhbicnaaaDoorW.PrintWords Go.Lib
namespace Lm
abbrev u (n : Nat) : Value := .int .u64 (n : Int)
/-- A number's limbs, as a value. -/
abbrev numL (f : Nat → Nat) : Value := .agg #[u (f 0), u (f 1), u (f 2), u (f 3)]
/-- Of four limbs the first i, behind them zeros. -/
def upto4 (f : Nat → Nat) : Nat → Array Value
  | 0 => #[.int .u64 0, .int .u64 0, .int .u64 0, .int .u64 0]
  | 1 => #[u (f 0), .int .u64 0, .int .u64 0, .int .u64 0]
  | 2 => #[u (f 0), u (f 1), .int .u64 0, .int .u64 0]
  | 3 => #[u (f 0), u (f 1), u (f 2), .int .u64 0]
  | _ => #[u (f 0), u (f 1), u (f 2), u (f 3)]
theorem run_add (x y c : Nat) (hc : c ≤ 1) (w : World) :
    (callFunc 55 #[u x, u y, u c]).run Tryd.prog w = .ok (.value (.tuple #[u ((x + y + c) % 18446744073709551616), u ((x + y + c) / 18446744073709551616)])) w := by
  rw [run_callFunc_extern Tryd.func55 (by kernel_rfl) (by kernel_rfl) (by kernel_rfl) (e := add64Entry) (by kernel_rfl), run_add64 x y c (by omega) (by omega) (by omega) (by omega)]
  simp only [Result.andThen]
  congr 5 <;> omega
theorem run_sub (x y b : Nat) (hb : b ≤ 1) (w : World) :
    (callFunc 56 #[u x, u y, u b]).run Tryd.prog w = .ok (.value (.tuple #[u ((x + 18446744073709551616 - y - b) % 18446744073709551616), u (if x < y + b then 1 else 0)])) w := by
  rw [run_callFunc_extern Tryd.func56 (by kernel_rfl) (by kernel_rfl) (by kernel_rfl) (e := sub64Entry) (by kernel_rfl), run_sub64 x y b hb]
  rfl
/-- The carries of a sum. -/
def cr (fa fb : Nat → Nat) : Nat → Nat
  | 0 => 0
  | i + 1 => (fa i + fb i + cr fa fb i) / 18446744073709551616
def ad (fa fb : Nat → Nat) (i : Nat) : Nat := (fa i + fb i + cr fa fb i) % 18446744073709551616
/-- The borrows of a difference. -/
def bo (fa fb : Nat → Nat) : Nat → Nat
  | 0 => 0
  | i + 1 => if fa i < fb i + bo fa fb i then 1 else 0
def sb (fa fb : Nat → Nat) (i : Nat) : Nat := (fa i + 18446744073709551616 - fb i - bo fa fb i) % 18446744073709551616
theorem cr_le {fa fb : Nat → Nat} (ha : ∀ i, fa i < 18446744073709551616) (hb : ∀ i, fb i < 18446744073709551616) : ∀ i, cr fa fb i ≤ 1
  | 0 => by simp [cr]
  | i + 1 => by
    have := cr_le ha hb i
    have := ha i
    have := hb i
    rw [cr]
    omega
theorem bo_le (fa fb : Nat → Nat) : ∀ i, bo fa fb i ≤ 1
  | 0 => by simp [bo]
  | i + 1 => by
    rw [bo]
    split <;> omega
theorem below_then {n : Nat} {w w1 w2 : World} (h : Below n w w1) (hn : n ≤ w1.heap.size) (k : Below w1.heap.size w1 w2) : Below n w w2 :=
  ⟨k.os.trans h.os, k.tape.trans h.tape, k.output.trans h.output, Nat.le_trans h.size k.size, fun i hi => (k.block i (by omega)).trans (h.block i hi)⟩
theorem below_set {n : Nat} {w W : World} (h : Below n w W) (a : Addr) (v : Value) (ha : n ≤ a.block) : Below n w (W.setCell a v) :=
  ⟨h.os, h.tape, h.output, by have := h.size; simpa [World.setCell] using this, fun k hk => (Below.heap_setCell W a v k (by omega)).trans (h.block k hk)⟩
theorem alloc4 (w : World) (o0 o1 o2 o3 : Obj) (W : World) (hW : W = (((w.alloc o0).alloc o1).alloc o2).alloc o3) : Below w.heap.size w W ∧ W.heap.size = w.heap.size + 4 := by
  subst hW
  have b1 := (Below.refl _ w).alloc (Nat.le_refl _) o0
  have b2 := b1.alloc b1.size o1
  have b3 := b2.alloc b2.size o2
  exact ⟨b3.alloc b3.size o3, by rw [World.size_alloc, World.size_alloc, World.size_alloc, World.size_alloc]⟩
theorem alloc4_at (w : World) (c0 c1 c2 c3 : Array Value) (t0 t1 t2 t3 : TypeId) :
    let W := (((w.alloc (.cells c0 t0)).alloc (.cells c1 t1)).alloc (.cells c2 t2)).alloc (.cells c3 t3)
    W.heap[w.heap.size]? = some (.cells c0 t0 (0, 0)) ∧ W.heap[w.heap.size + 1]? = some (.cells c1 t1 (0, 0)) ∧ W.heap[w.heap.size + 1 + 1]? = some (.cells c2 t2 (0, 0)) ∧ W.heap[w.heap.size + 1 + 1 + 1]? = some (.cells c3 t3 (0, 0)) := by
  intro W
  have s1 : (w.alloc (.cells c0 t0)).heap.size = w.heap.size + 1 := World.size_alloc _ _
  have s2 : ((w.alloc (.cells c0 t0)).alloc (.cells c1 t1)).heap.size = w.heap.size + 1 + 1 := by rw [World.size_alloc, s1]
  have s3 : (((w.alloc (.cells c0 t0)).alloc (.cells c1 t1)).alloc (.cells c2 t2)).heap.size = w.heap.size + 1 + 1 + 1 := by rw [World.size_alloc, s2]
  have g1 : (w.alloc (.cells c0 t0)).heap[w.heap.size]? = some (.cells c0 t0 (0, 0)) := heap_alloc_new w _
  have g2 : ((w.alloc (.cells c0 t0)).alloc (.cells c1 t1)).heap[w.heap.size + 1]? = some (.cells c1 t1 (0, 0)) := by rw [← s1]; exact heap_alloc_new _ _
  have g3 : (((w.alloc (.cells c0 t0)).alloc (.cells c1 t1)).alloc (.cells c2 t2)).heap[w.heap.size + 1 + 1]? = some (.cells c2 t2 (0, 0)) := by rw [← s2]; exact heap_alloc_new _ _
  have g4 : W.heap[w.heap.size + 1 + 1 + 1]? = some (.cells c3 t3 (0, 0)) := by rw [← s3]; exact heap_alloc_new _ _
  have k1 : ∀ (X : World) (o : Obj) (k : Nat), k < X.heap.size → (X.alloc o).heap[k]? = X.heap[k]? := fun X o k hk => ((Below.refl X.heap.size X).alloc (Nat.le_refl _) o).block k hk
  refine ⟨?_, ?_, ?_, g4⟩
  · rw [k1 _ _ _ (by rw [s3]; omega), k1 _ _ _ (by rw [s2]; omega), k1 _ _ _ (by rw [s1]; omega)]
    exact g1
  · rw [k1 _ _ _ (by rw [s3]; omega), k1 _ _ _ (by rw [s2]; omega)]
    exact g2
  · rw [k1 _ _ _ (by rw [s3]; omega)]
    exact g3
/-- The middle of a loop over four limbs. -/
structure In4 (w wr : World) (ty : TypeId) (fa fb fo : Nat → Nat) (i : Nat) : Prop where
  below : Below w.heap.size w wr
  size : w.heap.size + 4 ≤ wr.heap.size
  a : wr.heap[w.heap.size]? = some (.cells #[u (fa 0), u (fa 1), u (fa 2), u (fa 3)] ty (0, 0))
  b : wr.heap[w.heap.size + 1]? = some (.cells #[u (fb 0), u (fb 1), u (fb 2), u (fb 3)] ty (0, 0))
  r : wr.heap[w.heap.size + 1 + 1]? = some (.cells #[.int .u64 0, .int .u64 0, .int .u64 0, .int .u64 0] ty (0, 0))
  o : wr.heap[w.heap.size + 1 + 1 + 1]? = some (.cells (upto4 fo i) ty (0, 0))
theorem upto4_set (f : Nat → Nat) : ∀ i, i < 4 → (upto4 f i).setIfInBounds i (u (f i)) = upto4 f (i + 1)
  | 0, _ => rfl
  | 1, _ => rfl
  | 2, _ => rfl
  | 3, _ => rfl
  | n + 4, h => by omega
theorem In4.step {w wr : World} {ty : TypeId} {fa fb fo : Nat → Nat} {i : Nat} (h : In4 w wr ty fa fb fo i) (hi : i < 4) (v : Value) (hv : v = u (fo i)) : In4 w (wr.setCell ⟨w.heap.size + 1 + 1 + 1, i, none⟩ v) ty fa fb fo (i + 1) := by
  subst hv
  have far : ∀ k, k ≠ w.heap.size + 1 + 1 + 1 → (wr.setCell ⟨w.heap.size + 1 + 1 + 1, i, none⟩ (u (fo i))).heap[k]? = wr.heap[k]? := fun k hk => Below.heap_setCell wr _ _ k hk
  refine ⟨below_set h.below _ _ (by simp; omega), by have := h.size; simpa [World.setCell] using this, (far _ (by omega)).trans h.a, (far _ (by omega)).trans h.b, (far _ (by omega)).trans h.r, ?_⟩
  rw [← upto4_set fo i hi]
  exact Go.Joins.block_setCell h.o _
theorem In4.drew {w wr : World} {ty : TypeId} {fa fb fo : Nat → Nat} {i : Nat} (h : In4 w wr ty fa fb fo i) : In4 w wr.drew ty fa fb fo i := ⟨h.below.drew, h.size, h.a, h.b, h.r, h.o⟩
theorem In4.ca {w wr : World} {ty : TypeId} {fa fb fo : Nat → Nat} {i : Nat} (h : In4 w wr ty fa fb fo i) : ∀ j, j < 4 → wr.cell? ⟨w.heap.size, j, none⟩ = some (u (fa j))
  | 0, _ => Go.Joins.cell_of_block h.a 0
  | 1, _ => Go.Joins.cell_of_block h.a 1
  | 2, _ => Go.Joins.cell_of_block h.a 2
  | 3, _ => Go.Joins.cell_of_block h.a 3
  | n + 4, h => by omega
theorem In4.cb {w wr : World} {ty : TypeId} {fa fb fo : Nat → Nat} {i : Nat} (h : In4 w wr ty fa fb fo i) : ∀ j, j < 4 → wr.cell? ⟨w.heap.size + 1, j, none⟩ = some (u (fb j))
  | 0, _ => Go.Joins.cell_of_block h.b 0
  | 1, _ => Go.Joins.cell_of_block h.b 1
  | 2, _ => Go.Joins.cell_of_block h.b 2
  | 3, _ => Go.Joins.cell_of_block h.b 3
  | n + 4, h => by omega
theorem In4.co {w wr : World} {ty : TypeId} {fa fb fo : Nat → Nat} {i : Nat} (h : In4 w wr ty fa fb fo i) (hi : i < 4) : wr.cell? ⟨w.heap.size + 1 + 1 + 1, i, none⟩ = some (.int .u64 0) ∧ wr.frozen? ⟨w.heap.size + 1 + 1 + 1, i, none⟩ = false := by
  refine ⟨?_, Go.Joins.unfrozen_of_block h.o i⟩
  rw [Go.Joins.cell_of_block h.o i]
  match i, hi with
  | 0, _ => rfl
  | 1, _ => rfl
  | 2, _ => rfl
  | 3, _ => rfl
/-- Four cells written over. -/
theorem four_set {W : World} {R : Nat} {cs : Array Value} {ty : TypeId} (h : W.heap[R]? = some (.cells cs ty (0, 0))) (hs : cs.size = 4) (v0 v1 v2 v3 : Value) :
    ((((W.setCell ⟨R, 0, none⟩ v0).setCell ⟨R, 1, none⟩ v1).setCell ⟨R, 2, none⟩ v2).setCell ⟨R, 3, none⟩ v3).heap[R]? = some (.cells #[v0, v1, v2, v3] ty (0, 0)) := by
  have z0 := Go.Joins.block_setCell h (i := 0) (v := v0)
  have z1 := Go.Joins.block_setCell z0 (i := 1) (v := v1)
  have z2 := Go.Joins.block_setCell z1 (i := 2) (v := v2)
  have z3 := Go.Joins.block_setCell z2 (i := 3) (v := v3)
  rw [z3]
  obtain ⟨l⟩ := cs
  match l, hs with
  | [a, b, c, d], _ => rfl
theorem cell4 {W : World} {R : Nat} {v0 v1 v2 v3 : Value} {ty : TypeId} (h : W.heap[R]? = some (.cells #[v0, v1, v2, v3] ty (0, 0))) :
    W.cell? ⟨R, 0, none⟩ = some v0 ∧ W.cell? ⟨R, 1, none⟩ = some v1 ∧ W.cell? ⟨R, 2, none⟩ = some v2 ∧ W.cell? ⟨R, 3, none⟩ = some v3 :=
  ⟨Go.Joins.cell_of_block h 0, Go.Joins.cell_of_block h 1, Go.Joins.cell_of_block h 2, Go.Joins.cell_of_block h 3⟩
theorem free4 {W : World} {R : Nat} {cs : Array Value} {ty : TypeId} (h : W.heap[R]? = some (.cells cs ty (0, 0))) :
    W.frozen? ⟨R, 0, none⟩ = false ∧ W.frozen? ⟨R, 1, none⟩ = false ∧ W.frozen? ⟨R, 2, none⟩ = false ∧ W.frozen? ⟨R, 3, none⟩ = false :=
  ⟨Go.Joins.unfrozen_of_block h 0, Go.Joins.unfrozen_of_block h 1, Go.Joins.unfrozen_of_block h 2, Go.Joins.unfrozen_of_block h 3⟩
theorem below_four {n : Nat} {w W : World} (h : Below n w W) (R : Nat) (hR : n ≤ R) (v0 v1 v2 v3 : Value) : Below n w ((((W.setCell ⟨R, 0, none⟩ v0).setCell ⟨R, 1, none⟩ v1).setCell ⟨R, 2, none⟩ v2).setCell ⟨R, 3, none⟩ v3) :=
  below_set (below_set (below_set (below_set h _ _ hR) _ _ hR) _ _ hR) _ _ hR
set_option maxRecDepth 100000 in
set_option maxHeartbeats 2000000 in
theorem plus_any (w : World) (fa fb : Nat → Nat) (ha : ∀ i, fa i < 18446744073709551616) (hb : ∀ i, fb i < 18446744073709551616) :
    Calls Tryd.prog 58 #[numL fa, numL fb] w fun e w' => e = .returned (.tuple #[numL (ad fa fb), u (cr fa fb 4)]) ∧ Below w.heap.size w w' := by
  have hcr := cr_le ha hb
  obtain ⟨g0, g1, g2, g3⟩ := alloc4_at w #[u (fa 0), u (fa 1), u (fa 2), u (fa 3)] #[u (fb 0), u (fb 1), u (fb 2), u (fb 3)] #[.int .u64 0, .int .u64 0, .int .u64 0, .int .u64 0] #[.int .u64 0, .int .u64 0, .int .u64 0, .int .u64 0] 111 111 111 111
  obtain ⟨k1, k2⟩ := alloc4 w (.cells #[u (fa 0), u (fa 1), u (fa 2), u (fa 3)] 111) (.cells #[u (fb 0), u (fb 1), u (fb 2), u (fb 3)] 111) (.cells #[.int .u64 0, .int .u64 0, .int .u64 0, .int .u64 0] 111) (.cells #[.int .u64 0, .int .u64 0, .int .u64 0, .int .u64 0] 111) _ rfl
  have st0 : In4 w _ 111 fa fb (ad fa fb) 0 := ⟨k1, Nat.le_of_eq k2.symm, g0, g1, g2, g3⟩
  replace st0 := Lib.hid st0
  replace hcr := Lib.hid hcr
  clear g0 g1 g2 g3 k1 k2 ha hb
  go_enter Tryd.func58, Tryd.ntmps58
  go_wp2_with fail
  go_loopg [7, 9] 4 (fun gk v7 v9 wr => ∃ i : Nat, i ≤ 4 ∧ gk = 4 - i ∧ v9 = .int .i64 (i : Int) ∧ v7 = u (cr fa fb i) ∧ In4 w wr 111 fa fb (ad fa fb) i)
  case atStart => exact ⟨0, by omega, rfl, rfl, rfl, st0.out⟩
  case round =>
    clear st0
    obtain ⟨i, hi, rfl, rfl, rfl, hS⟩ := hrel
    by_cases hlt : i < 4
    · have A := fun W => run_add (fa i) (fb i) (cr fa fb i) (hcr.out i) W
      have e1 : (fa i + fb i + cr fa fb i) % 18446744073709551616 = ad fa fb i := rfl
      have e2 : (fa i + fb i + cr fa fb i) / 18446744073709551616 = cr fa fb (i + 1) := rfl
      rw [e1, e2] at A
      have c0 := hS.ca i hlt
      have c1 := hS.cb i hlt
      obtain ⟨c2, c3⟩ := hS.co hlt
      have hfin := (hS.step hlt _ rfl).drew
      have q1 : (i : Int) < 4 := by omega
      replace hS := Lib.hid hS
      replace hfin := Lib.hid hfin
      clear e1 e2
      go_wp2_with fail
      go_region
      go_wp2
      go_roundg (4 - (i + 1))
      case measure => omega
      case rel => exact ⟨i + 1, by omega, rfl, by go_num, rfl, hfin.out⟩
    · obtain rfl : i = 4 := by omega
      obtain ⟨x0, x1, x2, x3⟩ := cell4 hS.o
      obtain ⟨y0, y1, y2, y3⟩ := cell4 hS.r
      obtain ⟨z0, z1, z2, z3⟩ := free4 hS.r
      obtain ⟨p0, p1, p2, p3⟩ := cell4 (four_set hS.r rfl (u (ad fa fb 0)) (u (ad fa fb 1)) (u (ad fa fb 2)) (u (ad fa fb 3)))
      have hB := below_four hS.below (w.heap.size + 1 + 1) (by omega) (u (ad fa fb 0)) (u (ad fa fb 1)) (u (ad fa fb 2)) (u (ad fa fb 3))
      replace hB := Lib.hid hB
      replace hS := Lib.hid hS
      go_wp2
      refine bodyPost_ret (v := .tuple #[numL (ad fa fb), u (cr fa fb 4)]) (by simp [results, Tryd.results58, go_sem, p0, p1, p2, p3]) rfl ⟨rfl, hB.out⟩
set_option maxRecDepth 100000 in
set_option maxHeartbeats 2000000 in
theorem minus_any (w : World) (fa fb : Nat → Nat) :
    Calls Tryd.prog 59 #[numL fa, numL fb] w fun e w' => e = .returned (.tuple #[numL (sb fa fb), u (bo fa fb 4)]) ∧ Below w.heap.size w w' := by
  have hcr := bo_le fa fb
  obtain ⟨g0, g1, g2, g3⟩ := alloc4_at w #[u (fa 0), u (fa 1), u (fa 2), u (fa 3)] #[u (fb 0), u (fb 1), u (fb 2), u (fb 3)] #[.int .u64 0, .int .u64 0, .int .u64 0, .int .u64 0] #[.int .u64 0, .int .u64 0, .int .u64 0, .int .u64 0] 111 111 111 111
  obtain ⟨k1, k2⟩ := alloc4 w (.cells #[u (fa 0), u (fa 1), u (fa 2), u (fa 3)] 111) (.cells #[u (fb 0), u (fb 1), u (fb 2), u (fb 3)] 111) (.cells #[.int .u64 0, .int .u64 0, .int .u64 0, .int .u64 0] 111) (.cells #[.int .u64 0, .int .u64 0, .int .u64 0, .int .u64 0] 111) _ rfl
  have st0 : In4 w _ 111 fa fb (sb fa fb) 0 := ⟨k1, Nat.le_of_eq k2.symm, g0, g1, g2, g3⟩
  replace st0 := Lib.hid st0
  replace hcr := Lib.hid hcr
  clear g0 g1 g2 g3 k1 k2
  go_enter Tryd.func59, Tryd.ntmps59
  go_wp2_with fail
  go_loopg [7, 9] 4 (fun gk v7 v9 wr => ∃ i : Nat, i ≤ 4 ∧ gk = 4 - i ∧ v9 = .int .i64 (i : Int) ∧ v7 = u (bo fa fb i) ∧ In4 w wr 111 fa fb (sb fa fb) i)
  case atStart => exact ⟨0, by omega, rfl, rfl, rfl, st0.out⟩
  case round =>
    clear st0
    obtain ⟨i, hi, rfl, rfl, rfl, hS⟩ := hrel
    by_cases hlt : i < 4
    · have A := fun W => run_sub (fa i) (fb i) (bo fa fb i) (hcr.out i) W
      have e1 : (fa i + 18446744073709551616 - fb i - bo fa fb i) % 18446744073709551616 = sb fa fb i := rfl
      have e2 : (if fa i < fb i + bo fa fb i then 1 else 0) = bo fa fb (i + 1) := rfl
      rw [e1, e2] at A
      have c0 := hS.ca i hlt
      have c1 := hS.cb i hlt
      obtain ⟨c2, c3⟩ := hS.co hlt
      have hfin := (hS.step hlt _ rfl).drew
      have q1 : (i : Int) < 4 := by omega
      replace hS := Lib.hid hS
      replace hfin := Lib.hid hfin
      clear e1 e2
      go_wp2_with fail
      go_region
      go_wp2
      go_roundg (4 - (i + 1))
      case measure => omega
      case rel => exact ⟨i + 1, by omega, rfl, by go_num, rfl, hfin.out⟩
    · obtain rfl : i = 4 := by omega
      obtain ⟨x0, x1, x2, x3⟩ := cell4 hS.o
      obtain ⟨y0, y1, y2, y3⟩ := cell4 hS.r
      obtain ⟨z0, z1, z2, z3⟩ := free4 hS.r
      obtain ⟨p0, p1, p2, p3⟩ := cell4 (four_set hS.r rfl (u (sb fa fb 0)) (u (sb fa fb 1)) (u (sb fa fb 2)) (u (sb fa fb 3)))
      have hB := below_four hS.below (w.heap.size + 1 + 1) (by omega) (u (sb fa fb 0)) (u (sb fa fb 1)) (u (sb fa fb 2)) (u (sb fa fb 3))
      replace hB := Lib.hid hB
      replace hS := Lib.hid hS
      go_wp2
      refine bodyPost_ret (v := .tuple #[numL (sb fa fb), u (bo fa fb 4)]) (by simp [results, Tryd.results59, go_sem, p0, p1, p2, p3]) rfl ⟨rfl, hB.out⟩
set_option maxRecDepth 100000 in
set_option maxHeartbeats 2000000 in
theorem add_any (w : World) (fa fb : Nat → Nat) (ha : ∀ i, fa i < 18446744073709551616) (hb : ∀ i, fb i < 18446744073709551616) :
    Calls Tryd.prog 51 #[numL fa, numL fb] w fun e w' => e = .returned (.tuple #[numL (ad fa fb), u (cr fa fb 4)]) ∧ Below w.heap.size w w' := by
  have C := fun X => plus_any X fa fb ha hb
  have s1 : (w.alloc (.cells #[u (fa 0), u (fa 1), u (fa 2), u (fa 3)] 38)).heap.size = w.heap.size + 1 := World.size_alloc _ _
  have s2 : ((w.alloc (.cells #[u (fa 0), u (fa 1), u (fa 2), u (fa 3)] 38)).alloc (.cells #[u (fb 0), u (fb 1), u (fb 2), u (fb 3)] 38)).heap.size = w.heap.size + 1 + 1 := by rw [World.size_alloc, s1]
  have n3 : (((w.alloc (.cells #[u (fa 0), u (fa 1), u (fa 2), u (fa 3)] 38)).alloc (.cells #[u (fb 0), u (fb 1), u (fb 2), u (fb 3)] 38)).alloc (.cells #[.int .u64 0, .int .u64 0, .int .u64 0, .int .u64 0] 38)).heap[w.heap.size + 1 + 1]? = some (.cells #[.int .u64 0, .int .u64 0, .int .u64 0, .int .u64 0] 38 (0, 0)) := by rw [← s2]; exact heap_alloc_new _ _
  have b1 := (Below.refl _ w).alloc (Nat.le_refl _) (.cells #[u (fa 0), u (fa 1), u (fa 2), u (fa 3)] 38)
  have b2 := b1.alloc b1.size (.cells #[u (fb 0), u (fb 1), u (fb 2), u (fb 3)] 38)
  have b3 := b2.alloc b2.size (.cells #[.int .u64 0, .int .u64 0, .int .u64 0, .int .u64 0] 38)
  have s3 := World.size_alloc ((w.alloc (.cells #[u (fa 0), u (fa 1), u (fa 2), u (fa 3)] 38)).alloc (.cells #[u (fb 0), u (fb 1), u (fb 2), u (fb 3)] 38)) (.cells #[.int .u64 0, .int .u64 0, .int .u64 0, .int .u64 0] 38)
  rw [s2] at s3
  replace C := Lib.hid C
  replace b1 := Lib.hid b1
  replace b2 := Lib.hid b2
  replace b3 := Lib.hid b3
  replace s1 := Lib.hid s1
  replace s2 := Lib.hid s2
  replace s3 := Lib.hid s3
  replace n3 := Lib.hid n3
  go_enter Tryd.func51, Tryd.ntmps51
  go_wp2_with fail
  refine (C.out _).mono ?_
  rintro e w3 ⟨rfl, hb3⟩
  have hb4 := hb3.alloc hb3.size (.cells #[u (ad fa fb 0), u (ad fa fb 1), u (ad fa fb 2), u (ad fa fb 3)] 111)
  have n4 := (hb4.block (w.heap.size + 1 + 1) (by rw [s3.out]; omega)).trans n3.out
  have m4 : (w3.alloc (.cells #[u (ad fa fb 0), u (ad fa fb 1), u (ad fa fb 2), u (ad fa fb 3)] 111)).heap[w3.heap.size]? = some (.cells #[u (ad fa fb 0), u (ad fa fb 1), u (ad fa fb 2), u (ad fa fb 3)] 111 (0, 0)) := heap_alloc_new _ _
  obtain ⟨x0, x1, x2, x3⟩ := cell4 m4
  obtain ⟨y0, y1, y2, y3⟩ := cell4 n4
  obtain ⟨z0, z1, z2, z3⟩ := free4 n4
  obtain ⟨p0, p1, p2, p3⟩ := cell4 (four_set n4 rfl (u (ad fa fb 0)) (u (ad fa fb 1)) (u (ad fa fb 2)) (u (ad fa fb 3)))
  have hB := below_four (below_then b3.out b3.out.size hb4) (w.heap.size + 1 + 1) (by omega) (u (ad fa fb 0)) (u (ad fa fb 1)) (u (ad fa fb 2)) (u (ad fa fb 3))
  replace hB := Lib.hid hB
  replace hb3 := Lib.hid hb3
  replace hb4 := Lib.hid hb4
  replace n4 := Lib.hid n4
  replace m4 := Lib.hid m4
  go_wp2
  refine bodyPost_ret (v := .tuple #[numL (ad fa fb), u (cr fa fb 4)]) (by simp [results, Tryd.results51, go_sem, p0, p1, p2, p3]) rfl ⟨rfl, hB.out⟩
set_option maxRecDepth 100000 in
set_option maxHeartbeats 2000000 in
theorem sub_any (w : World) (fa fb : Nat → Nat) :
    Calls Tryd.prog 52 #[numL fa, numL fb] w fun e w' => e = .returned (.tuple #[numL (sb fa fb), u (bo fa fb 4)]) ∧ Below w.heap.size w w' := by
  have C := fun X => minus_any X fa fb
  have s1 : (w.alloc (.cells #[u (fa 0), u (fa 1), u (fa 2), u (fa 3)] 38)).heap.size = w.heap.size + 1 := World.size_alloc _ _
  have s2 : ((w.alloc (.cells #[u (fa 0), u (fa 1), u (fa 2), u (fa 3)] 38)).alloc (.cells #[u (fb 0), u (fb 1), u (fb 2), u (fb 3)] 38)).heap.size = w.heap.size + 1 + 1 := by rw [World.size_alloc, s1]
  have n3 : (((w.alloc (.cells #[u (fa 0), u (fa 1), u (fa 2), u (fa 3)] 38)).alloc (.cells #[u (fb 0), u (fb 1), u (fb 2), u (fb 3)] 38)).alloc (.cells #[.int .u64 0, .int .u64 0, .int .u64 0, .int .u64 0] 38)).heap[w.heap.size + 1 + 1]? = some (.cells #[.int .u64 0, .int .u64 0, .int .u64 0, .int .u64 0] 38 (0, 0)) := by rw [← s2]; exact heap_alloc_new _ _
  have b1 := (Below.refl _ w).alloc (Nat.le_refl _) (.cells #[u (fa 0), u (fa 1), u (fa 2), u (fa 3)] 38)
  have b2 := b1.alloc b1.size (.cells #[u (fb 0), u (fb 1), u (fb 2), u (fb 3)] 38)
  have b3 := b2.alloc b2.size (.cells #[.int .u64 0, .int .u64 0, .int .u64 0, .int .u64 0] 38)
  have s3 := World.size_alloc ((w.alloc (.cells #[u (fa 0), u (fa 1), u (fa 2), u (fa 3)] 38)).alloc (.cells #[u (fb 0), u (fb 1), u (fb 2), u (fb 3)] 38)) (.cells #[.int .u64 0, .int .u64 0, .int .u64 0, .int .u64 0] 38)
  rw [s2] at s3
  replace C := Lib.hid C
  replace b1 := Lib.hid b1
  replace b2 := Lib.hid b2
  replace b3 := Lib.hid b3
  replace s1 := Lib.hid s1
  replace s2 := Lib.hid s2
  replace s3 := Lib.hid s3
  replace n3 := Lib.hid n3
  go_enter Tryd.func52, Tryd.ntmps52
  go_wp2_with fail
  refine (C.out _).mono ?_
  rintro e w3 ⟨rfl, hb3⟩
  have hb4 := hb3.alloc hb3.size (.cells #[u (sb fa fb 0), u (sb fa fb 1), u (sb fa fb 2), u (sb fa fb 3)] 111)
  have n4 := (hb4.block (w.heap.size + 1 + 1) (by rw [s3.out]; omega)).trans n3.out
  have m4 : (w3.alloc (.cells #[u (sb fa fb 0), u (sb fa fb 1), u (sb fa fb 2), u (sb fa fb 3)] 111)).heap[w3.heap.size]? = some (.cells #[u (sb fa fb 0), u (sb fa fb 1), u (sb fa fb 2), u (sb fa fb 3)] 111 (0, 0)) := heap_alloc_new _ _
  obtain ⟨x0, x1, x2, x3⟩ := cell4 m4
  obtain ⟨y0, y1, y2, y3⟩ := cell4 n4
  obtain ⟨z0, z1, z2, z3⟩ := free4 n4
  obtain ⟨p0, p1, p2, p3⟩ := cell4 (four_set n4 rfl (u (sb fa fb 0)) (u (sb fa fb 1)) (u (sb fa fb 2)) (u (sb fa fb 3)))
  have hB := below_four (below_then b3.out b3.out.size hb4) (w.heap.size + 1 + 1) (by omega) (u (sb fa fb 0)) (u (sb fa fb 1)) (u (sb fa fb 2)) (u (sb fa fb 3))
  replace hB := Lib.hid hB
  replace hb3 := Lib.hid hb3
  replace hb4 := Lib.hid hb4
  replace n4 := Lib.hid n4
  replace m4 := Lib.hid m4
  go_wp2
  refine bodyPost_ret (v := .tuple #[numL (sb fa fb), u (bo fa fb 4)]) (by simp [results, Tryd.results52, go_sem, p0, p1, p2, p3]) rfl ⟨rfl, hB.out⟩
end Lm
end Go.Proofs.YtkmbpakhbicnaaaDoor
namespace Go.Proofs.YtkmbpakhbicnaaaDoor
open Go.RowKit Go.Proofs.YtkmbpakhbicnaaaDoorW.PrintWords Go.Lib
namespace Lm
set_option maxRecDepth 100000 in
set_option maxHeartbeats 2000000 in
theorem rplus_any (w : World) (fa fb : Nat → Nat) (ha : ∀ i, fa i < 18446744073709551616) (hb : ∀ i, fb i < 18446744073709551616) :
    Calls Tryd.prog 43 #[numL fa, numL fb] w fun e w' => e = .returned (.tuple #[numL (ad fa fb), .bool (((cr fa fb 4 : Nat) : Int) == 1)]) ∧ Below w.heap.size w w' := by
  have hcr := cr_le ha hb
  obtain ⟨g0, g1, g2, g3⟩ := alloc4_at w #[u (fa 0), u (fa 1), u (fa 2), u (fa 3)] #[u (fb 0), u (fb 1), u (fb 2), u (fb 3)] #[.int .u64 0, .int .u64 0, .int .u64 0, .int .u64 0] #[.int .u64 0, .int .u64 0, .int .u64 0, .int .u64 0] 38 38 38 38
  obtain ⟨k1, k2⟩ := alloc4 w (.cells #[u (fa 0), u (fa 1), u (fa 2), u (fa 3)] 38) (.cells #[u (fb 0), u (fb 1), u (fb 2), u (fb 3)] 38) (.cells #[.int .u64 0, .int .u64 0, .int .u64 0, .int .u64 0] 38) (.cells #[.int .u64 0, .int .u64 0, .int .u64 0, .int .u64 0] 38) _ rfl
  have st0 : In4 w _ 38 fa fb (ad fa fb) 0 := ⟨k1, Nat.le_of_eq k2.symm, g0, g1, g2, g3⟩
  replace st0 := Lib.hid st0
  replace hcr := Lib.hid hcr
  clear g0 g1 g2 g3 k1 k2 ha hb
  go_enter Tryd.func43, Tryd.ntmps43
  go_wp2_with fail
  go_loopg [7, 8] 4 (fun gk vc vi wr => ∃ i : Nat, i ≤ 4 ∧ gk = 4 - i ∧ vi = .int .i64 (i : Int) ∧ vc = u (cr fa fb i) ∧ In4 w wr 38 fa fb (ad fa fb) i)
  case atStart => exact ⟨0, by omega, rfl, rfl, rfl, st0.out⟩
  case round =>
    clear st0
    obtain ⟨i, hi, rfl, rfl, rfl, hS⟩ := hrel
    by_cases hlt : i < 4
    · have A := fun W => run_add (fa i) (fb i) (cr fa fb i) (hcr.out i) W
      have e1 : (fa i + fb i + cr fa fb i) % 18446744073709551616 = ad fa fb i := rfl
      have e2 : (fa i + fb i + cr fa fb i) / 18446744073709551616 = cr fa fb (i + 1) := rfl
      rw [e1, e2] at A
      have c0 := hS.ca i hlt
      have c1 := hS.cb i hlt
      obtain ⟨c2, c3⟩ := hS.co hlt
      have hfin := hS.drew.step hlt _ rfl
      have hfin2 := (hS.step hlt _ rfl).drew
      have q1 : (i : Int) < 4 := by omega
      replace hS := Lib.hid hS
      replace hfin := Lib.hid hfin
      replace hfin2 := Lib.hid hfin2
      clear e1 e2
      go_wp2_with fail
      go_region
      go_wp2
      go_roundg (4 - (i + 1))
      case measure => omega
      case rel => exact ⟨i + 1, by omega, rfl, by go_num, rfl, by first | exact hfin.out | exact hfin2.out⟩
    · obtain rfl : i = 4 := by omega
      obtain ⟨x0, x1, x2, x3⟩ := cell4 hS.o
      obtain ⟨y0, y1, y2, y3⟩ := cell4 hS.r
      obtain ⟨z0, z1, z2, z3⟩ := free4 hS.r
      obtain ⟨p0, p1, p2, p3⟩ := cell4 (four_set hS.r rfl (u (ad fa fb 0)) (u (ad fa fb 1)) (u (ad fa fb 2)) (u (ad fa fb 3)))
      have hB := below_four hS.below (w.heap.size + 1 + 1) (by omega) (u (ad fa fb 0)) (u (ad fa fb 1)) (u (ad fa fb 2)) (u (ad fa fb 3))
      replace hB := Lib.hid hB
      replace hS := Lib.hid hS
      go_wp2
      refine bodyPost_ret (v := .tuple #[numL (ad fa fb), .bool (((cr fa fb 4 : Nat) : Int) == 1)]) (by simp [results, Tryd.results43, go_sem, p0, p1, p2, p3]) rfl ⟨rfl, hB.out⟩
set_option maxRecDepth 100000 in
set_option maxHeartbeats 2000000 in
theorem rminus_any (w : World) (fa fb : Nat → Nat) :
    Calls Tryd.prog 44 #[numL fa, numL fb] w fun e w' => e = .returned (numL (sb fa fb)) ∧ Below w.heap.size w w' := by
  have hcr := bo_le fa fb
  obtain ⟨g0, g1, g2, g3⟩ := alloc4_at w #[u (fa 0), u (fa 1), u (fa 2), u (fa 3)] #[u (fb 0), u (fb 1), u (fb 2), u (fb 3)] #[.int .u64 0, .int .u64 0, .int .u64 0, .int .u64 0] #[.int .u64 0, .int .u64 0, .int .u64 0, .int .u64 0] 38 38 38 38
  obtain ⟨k1, k2⟩ := alloc4 w (.cells #[u (fa 0), u (fa 1), u (fa 2), u (fa 3)] 38) (.cells #[u (fb 0), u (fb 1), u (fb 2), u (fb 3)] 38) (.cells #[.int .u64 0, .int .u64 0, .int .u64 0, .int .u64 0] 38) (.cells #[.int .u64 0, .int .u64 0, .int .u64 0, .int .u64 0] 38) _ rfl
  have st0 : In4 w _ 38 fa fb (sb fa fb) 0 := ⟨k1, Nat.le_of_eq k2.symm, g0, g1, g2, g3⟩
  replace st0 := Lib.hid st0
  replace hcr := Lib.hid hcr
  clear g0 g1 g2 g3 k1 k2
  go_enter Tryd.func44, Tryd.ntmps44
  go_wp2_with fail
  go_loopg [6, 7] 4 (fun gk vc vi wr => ∃ i : Nat, i ≤ 4 ∧ gk = 4 - i ∧ vi = .int .i64 (i : Int) ∧ vc = u (bo fa fb i) ∧ In4 w wr 38 fa fb (sb fa fb) i)
  case atStart => exact ⟨0, by omega, rfl, rfl, rfl, st0.out⟩
  case round =>
    clear st0
    obtain ⟨i, hi, rfl, rfl, rfl, hS⟩ := hrel
    by_cases hlt : i < 4
    · have A := fun W => run_sub (fa i) (fb i) (bo fa fb i) (hcr.out i) W
      have e1 : (fa i + 18446744073709551616 - fb i - bo fa fb i) % 18446744073709551616 = sb fa fb i := rfl
      have e2 : (if fa i < fb i + bo fa fb i then 1 else 0) = bo fa fb (i + 1) := rfl
      rw [e1, e2] at A
      have c0 := hS.ca i hlt
      have c1 := hS.cb i hlt
      obtain ⟨c2, c3⟩ := hS.co hlt
      have hfin := hS.drew.step hlt _ rfl
      have hfin2 := (hS.step hlt _ rfl).drew
      have q1 : (i : Int) < 4 := by omega
      replace hS := Lib.hid hS
      replace hfin := Lib.hid hfin
      replace hfin2 := Lib.hid hfin2
      clear e1 e2
      go_wp2_with fail
      go_region
      go_wp2
      go_roundg (4 - (i + 1))
      case measure => omega
      case rel => exact ⟨i + 1, by omega, rfl, by go_num, rfl, by first | exact hfin.out | exact hfin2.out⟩
    · obtain rfl : i = 4 := by omega
      obtain ⟨x0, x1, x2, x3⟩ := cell4 hS.o
      obtain ⟨y0, y1, y2, y3⟩ := cell4 hS.r
      obtain ⟨z0, z1, z2, z3⟩ := free4 hS.r
      obtain ⟨p0, p1, p2, p3⟩ := cell4 (four_set hS.r rfl (u (sb fa fb 0)) (u (sb fa fb 1)) (u (sb fa fb 2)) (u (sb fa fb 3)))
      have hB := below_four hS.below (w.heap.size + 1 + 1) (by omega) (u (sb fa fb 0)) (u (sb fa fb 1)) (u (sb fa fb 2)) (u (sb fa fb 3))
      replace hB := Lib.hid hB
      replace hS := Lib.hid hS
      go_wp2
      refine bodyPost_ret (v := numL (sb fa fb)) (by simp [results, Tryd.results44, go_sem, p0, p1, p2, p3]) rfl ⟨rfl, hB.out⟩
/-- Of the lowest k limbs: is one number less? -/
def lessL (fa fb : Nat → Nat) : Nat → Bool
  | 0 => false
  | k + 1 => if fa k = fb k then lessL fa fb k else decide (fa k < fb k)
theorem alloc2_at (w : World) (c0 c1 : Array Value) (t0 t1 : TypeId) :
    let W := (w.alloc (.cells c0 t0)).alloc (.cells c1 t1)
    W.heap[w.heap.size]? = some (.cells c0 t0 (0, 0)) ∧ W.heap[w.heap.size + 1]? = some (.cells c1 t1 (0, 0)) ∧ Below w.heap.size w W ∧ W.heap.size = w.heap.size + 2 := by
  intro W
  have s1 : (w.alloc (.cells c0 t0)).heap.size = w.heap.size + 1 := World.size_alloc _ _
  have g1 : (w.alloc (.cells c0 t0)).heap[w.heap.size]? = some (.cells c0 t0 (0, 0)) := heap_alloc_new w _
  have b1 := (Below.refl w.heap.size w).alloc (Nat.le_refl _) (.cells c0 t0)
  refine ⟨?_, by rw [← s1]; exact heap_alloc_new _ _, b1.alloc b1.size _, by rw [World.size_alloc, s1]⟩
  exact (((Below.refl (w.alloc (.cells c0 t0)).heap.size (w.alloc (.cells c0 t0))).alloc (Nat.le_refl _) (.cells c1 t1)).block w.heap.size (by rw [s1]; omega)).trans g1
set_option maxRecDepth 100000 in
set_option maxHeartbeats 2000000 in
theorem less_any (w : World) (fa fb : Nat → Nat) :
    Calls Tryd.prog 34 #[numL fa, numL fb] w fun e w' => e = .returned (.bool (lessL fa fb 4)) ∧ Below w.heap.size w w' := by
  obtain ⟨g0, g1, k1, k2⟩ := alloc2_at w #[u (fa 0), u (fa 1), u (fa 2), u (fa 3)] #[u (fb 0), u (fb 1), u (fb 2), u (fb 3)] 38 38
  obtain ⟨W, hW⟩ : ∃ W, W = (w.alloc (.cells #[u (fa 0), u (fa 1), u (fa 2), u (fa 3)] 38)).alloc (.cells #[u (fb 0), u (fb 1), u (fb 2), u (fb 3)] 38) := ⟨_, rfl⟩
  simp only [← hW] at g0 g1 k1 k2
  obtain ⟨bb, hb⟩ : ∃ bb, bb = lessL fa fb 4 := ⟨_, rfl⟩
  rw [← hb]
  replace hW := Lib.hid hW
  replace g0 := Lib.hid g0
  replace g1 := Lib.hid g1
  replace k1 := Lib.hid k1
  replace k2 := Lib.hid k2
  replace hb := Lib.hid hb
  go_enter Tryd.func34, Tryd.ntmps34
  go_wp2_with fail
  rw [← hW.out]
  go_loopg [5] 4 (fun gk vi wr => ∃ k : Nat, k ≤ 4 ∧ gk = k ∧ vi = .int .i64 ((k : Int) - 1) ∧ lessL fa fb k = bb ∧ Below W.heap.size W wr)
  case atStart => exact ⟨4, by omega, rfl, rfl, hb.out.symm, Below.refl _ _⟩
  case round =>
    obtain ⟨k, hk, rfl, rfl, hl, hB⟩ := hrel
    obtain ⟨x0, x1, x2, x3⟩ := cell4 ((hB.block w.heap.size (Array.getElem?_eq_some_iff.1 g0.out).1).trans g0.out)
    obtain ⟨y0, y1, y2, y3⟩ := cell4 ((hB.block (w.heap.size + 1) (Array.getElem?_eq_some_iff.1 g1.out).1).trans g1.out)
    have hBd := hB.drew
    have hfin := below_then k1.out k1.out.size hB
    have hfin2 := below_then k1.out k1.out.size hB.drew
    replace hB := Lib.hid hB
    replace hBd := Lib.hid hBd
    replace hfin := Lib.hid hfin
    replace hfin2 := Lib.hid hfin2
    match gk, hk, hl with
    | 1, hk, hl =>
      rw [lessL] at hl
      by_cases he : fa 0 = fb 0
      · rw [if_pos he] at hl
        replace hl := Lib.hid hl
        have q1 : ((fa 0 : Int) != (fb 0 : Int)) = false := by simp [he]
        have q2 : (fa 0 != fb 0) = false := by simp [he]
        clear he
        as_aux_lemma =>
          go_wp2_with fail
          go_region
          go_wp2
          go_roundg 0
          case measure => omega
          case rel => exact ⟨0, by omega, rfl, by rfl, hl.out, hBd.out⟩
      · rw [if_neg he] at hl
        have q1 : ((fa 0 : Int) != (fb 0 : Int)) = true := by simp; omega
        have q2 : (fa 0 != fb 0) = true := by simp [he]
        subst hl
        clear he
        as_aux_lemma =>
          go_wp2_with fail
          go_region
          go_wp2
          first | go_ret | (go_region; go_wp2; go_ret)
          exact ⟨by simp, by first | exact hfin2.out | exact hfin2.out.drew⟩
    | 2, hk, hl =>
      rw [lessL] at hl
      by_cases he : fa 1 = fb 1
      · rw [if_pos he] at hl
        replace hl := Lib.hid hl
        have q1 : ((fa 1 : Int) != (fb 1 : Int)) = false := by simp [he]
        have q2 : (fa 1 != fb 1) = false := by simp [he]
        clear he
        as_aux_lemma =>
          go_wp2_with fail
          go_region
          go_wp2
          go_roundg 1
          case measure => omega
          case rel => exact ⟨1, by omega, rfl, by rfl, hl.out, hBd.out⟩
      · rw [if_neg he] at hl
        have q1 : ((fa 1 : Int) != (fb 1 : Int)) = true := by simp; omega
        have q2 : (fa 1 != fb 1) = true := by simp [he]
        subst hl
        clear he
        as_aux_lemma =>
          go_wp2_with fail
          go_region
          go_wp2
          first | go_ret | (go_region; go_wp2; go_ret)
          exact ⟨by simp, by first | exact hfin2.out | exact hfin2.out.drew⟩
    | 3, hk, hl =>
      rw [lessL] at hl
      by_cases he : fa 2 = fb 2
      · rw [if_pos he] at hl
        replace hl := Lib.hid hl
        have q1 : ((fa 2 : Int) != (fb 2 : Int)) = false := by simp [he]
        have q2 : (fa 2 != fb 2) = false := by simp [he]
        clear he
        as_aux_lemma =>
          go_wp2_with fail
          go_region
          go_wp2
          go_roundg 2
          case measure => omega
          case rel => exact ⟨2, by omega, rfl, by rfl, hl.out, hBd.out⟩
      · rw [if_neg he] at hl
        have q1 : ((fa 2 : Int) != (fb 2 : Int)) = true := by simp; omega
        have q2 : (fa 2 != fb 2) = true := by simp [he]
        subst hl
        clear he
        as_aux_lemma =>
          go_wp2_with fail
          go_region
          go_wp2
          first | go_ret | (go_region; go_wp2; go_ret)
          exact ⟨by simp, by first | exact hfin2.out | exact hfin2.out.drew⟩
    | 4, hk, hl =>
      rw [lessL] at hl
      by_cases he : fa 3 = fb 3
      · rw [if_pos he] at hl
        replace hl := Lib.hid hl
        have q1 : ((fa 3 : Int) != (fb 3 : Int)) = false := by simp [he]
        have q2 : (fa 3 != fb 3) = false := by simp [he]
        clear he
        as_aux_lemma =>
          go_wp2_with fail
          go_region
          go_wp2
          go_roundg 3
          case measure => omega
          case rel => exact ⟨3, by omega, rfl, by rfl, hl.out, hBd.out⟩
      · rw [if_neg he] at hl
        have q1 : ((fa 3 : Int) != (fb 3 : Int)) = true := by simp; omega
        have q2 : (fa 3 != fb 3) = true := by simp [he]
        subst hl
        clear he
        as_aux_lemma =>
          go_wp2_with fail
          go_region
          go_wp2
          first | go_ret | (go_region; go_wp2; go_ret)
          exact ⟨by simp, by first | exact hfin2.out | exact hfin2.out.drew⟩
    | 0, hk, hl =>
      as_aux_lemma =>
        have hl2 : false = bb := hl
        subst hl2
        clear hl
        go_wp2
        go_ret
        exact ⟨rfl, hfin.out⟩
    | n + 5, hk, hl => omega
end Lm
end Go.Proofs.YtkmbpakhbicnaaaDoor
namespace Go.Proofs.YtkmbpakhbicnaaaDoor
open Go.RowKit Go.Proofs.YtkmbpakhbicnaaaDoorW.PrintWords Go.Lib
namespace Lm
/-- The limb i of a number. -/
def lm (n : Nat) : Nat → Nat
  | 0 => n % 18446744073709551616
  | i + 1 => lm (n / 18446744073709551616) i
theorem lm_lt : ∀ (i n : Nat), lm n i < 18446744073709551616
  | 0, n => by rw [lm]; omega
  | i + 1, n => by rw [lm]; exact lm_lt i _
def val4 (f : Nat → Nat) : Nat := f 0 + 18446744073709551616 * (f 1 + 18446744073709551616 * (f 2 + 18446744073709551616 * f 3))
def val8 (f : Nat → Nat) : Nat := f 0 + 18446744073709551616 * (f 1 + 18446744073709551616 * (f 2 + 18446744073709551616 * (f 3 + 18446744073709551616 * (f 4 + 18446744073709551616 * (f 5 + 18446744073709551616 * (f 6 + 18446744073709551616 * f 7))))))
abbrev B4 : Nat := 115792089237316195423570985008687907853269984665640564039457584007913129639936
abbrev B8 : Nat := 13407807929942597099574024998205846127479365820592393377723561443721764030073546976801874298166903427690031858186486050853753882811946569946433649006084096
theorem val4_lm {n : Nat} (h : n < B4) : val4 (lm n) = n := by
  simp only [val4, lm]
  unfold B4 at h
  omega
theorem val8_lm {n : Nat} (h : n < B8) : val8 (lm n) = n := by
  simp only [val8, lm]
  unfold B8 at h
  omega
theorem lm_val4 {f : Nat → Nat} (h : ∀ i, i < 4 → f i < 18446744073709551616) : ∀ i, i < 4 → lm (val4 f) i = f i := by
  have h0 := h 0 (by omega)
  have h1 := h 1 (by omega)
  have h2 := h 2 (by omega)
  have h3 := h 3 (by omega)
  intro i hi
  match i, hi with
  | 0, _ => simp only [val4, lm]; omega
  | 1, _ => simp only [val4, lm]; omega
  | 2, _ => simp only [val4, lm]; omega
  | 3, _ => simp only [val4, lm]; omega
theorem lm_step (a n : Nat) (h : a < 18446744073709551616) : (a + 18446744073709551616 * n) / 18446744073709551616 = n := by omega
theorem lm_step0 (a n : Nat) (h : a < 18446744073709551616) : (a + 18446744073709551616 * n) % 18446744073709551616 = a := by omega
theorem lm_val8 {f : Nat → Nat} (h : ∀ i, i < 8 → f i < 18446744073709551616) : ∀ i, i < 8 → lm (val8 f) i = f i := by
  have h0 := h 0 (by omega)
  have h1 := h 1 (by omega)
  have h2 := h 2 (by omega)
  have h3 := h 3 (by omega)
  have h4 := h 4 (by omega)
  have h5 := h 5 (by omega)
  have h6 := h 6 (by omega)
  have h7 := h 7 (by omega)
  intro i hi
  match i, hi with
  | 0, _ => rw [val8, lm, lm_step0 _ _ h0]
  | 1, _ => rw [val8, lm, lm_step _ _ h0, lm, lm_step0 _ _ h1]
  | 2, _ => rw [val8, lm, lm_step _ _ h0, lm, lm_step _ _ h1, lm, lm_step0 _ _ h2]
  | 3, _ => rw [val8, lm, lm_step _ _ h0, lm, lm_step _ _ h1, lm, lm_step _ _ h2, lm, lm_step0 _ _ h3]
  | 4, _ => rw [val8, lm, lm_step _ _ h0, lm, lm_step _ _ h1, lm, lm_step _ _ h2, lm, lm_step _ _ h3, lm, lm_step0 _ _ h4]
  | 5, _ => rw [val8, lm, lm_step _ _ h0, lm, lm_step _ _ h1, lm, lm_step _ _ h2, lm, lm_step _ _ h3, lm, lm_step _ _ h4, lm, lm_step0 _ _ h5]
  | 6, _ => rw [val8, lm, lm_step _ _ h0, lm, lm_step _ _ h1, lm, lm_step _ _ h2, lm, lm_step _ _ h3, lm, lm_step _ _ h4, lm, lm_step _ _ h5, lm, lm_step0 _ _ h6]
  | 7, _ => rw [val8, lm, lm_step _ _ h0, lm, lm_step _ _ h1, lm, lm_step _ _ h2, lm, lm_step _ _ h3, lm, lm_step _ _ h4, lm, lm_step _ _ h5, lm, lm_step _ _ h6, lm, Nat.mod_eq_of_lt h7]
/-- A number, as a value; a wide one. -/
abbrev numV (n : Nat) : Value := numL (lm n)
abbrev wideL (f : Nat → Nat) : Value := .agg #[u (f 0), u (f 1), u (f 2), u (f 3), u (f 4), u (f 5), u (f 6), u (f 7)]
abbrev wideV (n : Nat) : Value := wideL (lm n)
theorem canon4 {f : Nat → Nat} (h : ∀ i, i < 4 → f i < 18446744073709551616) : numL f = numV (val4 f) := by
  have := lm_val4 h
  unfold numV numL
  rw [this 0 (by omega), this 1 (by omega), this 2 (by omega), this 3 (by omega)]
theorem canon8 {f : Nat → Nat} (h : ∀ i, i < 8 → f i < 18446744073709551616) : wideL f = wideV (val8 f) := by
  have := lm_val8 h
  unfold wideV wideL
  rw [this 0 (by omega), this 1 (by omega), this 2 (by omega), this 3 (by omega), this 4 (by omega), this 5 (by omega), this 6 (by omega), this 7 (by omega)]
theorem ad_val (fa fb : Nat → Nat) : val4 (ad fa fb) + B4 * cr fa fb 4 = val4 fa + val4 fb := by
  simp only [val4, ad, cr, B4]
  omega
theorem val4_lt {f : Nat → Nat} (h : ∀ i, f i < 18446744073709551616) : val4 f < B4 := by
  have h0 := h 0
  have h1 := h 1
  have h2 := h 2
  have h3 := h 3
  simp only [val4, B4]
  omega
theorem ad_lt (fa fb : Nat → Nat) (i : Nat) : ad fa fb i < 18446744073709551616 := by unfold ad; omega
theorem sb_lt (fa fb : Nat → Nat) (i : Nat) : sb fa fb i < 18446744073709551616 := by unfold sb; omega
theorem bo_step (fa fb : Nat → Nat) (ha : ∀ i, fa i < 18446744073709551616) (hb : ∀ i, fb i < 18446744073709551616) (i : Nat) : sb fa fb i + fb i + bo fa fb i = fa i + 18446744073709551616 * bo fa fb (i + 1) := by
  have h1 := ha i
  have h2 := hb i
  have h3 := bo_le fa fb i
  rw [sb, bo]
  split <;> omega
theorem sb_val (fa fb : Nat → Nat) (ha : ∀ i, fa i < 18446744073709551616) (hb : ∀ i, fb i < 18446744073709551616) : val4 (sb fa fb) + val4 fb = val4 fa + B4 * bo fa fb 4 := by
  have h0 := bo_step fa fb ha hb 0
  have h1 := bo_step fa fb ha hb 1
  have h2 := bo_step fa fb ha hb 2
  have h3 := bo_step fa fb ha hb 3
  have hz : bo fa fb 0 = 0 := rfl
  simp only [val4, B4]
  generalize bo fa fb 1 = c1 at *
  generalize bo fa fb 2 = c2 at *
  generalize bo fa fb 3 = c3 at *
  generalize bo fa fb 4 = c4 at *
  omega
theorem less_val (fa fb : Nat → Nat) (ha : ∀ i, fa i < 18446744073709551616) (hb : ∀ i, fb i < 18446744073709551616) : lessL fa fb 4 = decide (val4 fa < val4 fb) := by
  have a0 := ha 0
  have a1 := ha 1
  have a2 := ha 2
  have a3 := ha 3
  have b0 := hb 0
  have b1 := hb 1
  have b2 := hb 2
  have b3 := hb 3
  rw [Bool.eq_iff_iff, decide_eq_true_eq]
  simp only [lessL, val4]
  split
  · split
    · split
      · split
        · simp; omega
        · rw [decide_eq_true_eq]; omega
      · rw [decide_eq_true_eq]; omega
    · rw [decide_eq_true_eq]; omega
  · rw [decide_eq_true_eq]; omega
/-! The calls, by what the numbers are worth. -/
theorem addN {a b : Nat} (ha : a < B4) (hb : b < B4) : numL (ad (lm a) (lm b)) = numV ((a + b) % B4) ∧ cr (lm a) (lm b) 4 = (a + b) / B4 := by
  have h1 := ad_val (lm a) (lm b)
  rw [val4_lm ha, val4_lm hb] at h1
  have h2 := val4_lt (ad_lt (lm a) (lm b))
  have h3 := canon4 (fun i _ => ad_lt (lm a) (lm b) i)
  unfold B4 at *
  refine ⟨?_, by omega⟩
  rw [h3]
  congr 1
  omega
theorem subN {a b : Nat} (ha : a < B4) (hb : b < B4) : numL (sb (lm a) (lm b)) = numV ((a + B4 - b) % B4) ∧ bo (lm a) (lm b) 4 = if a < b then 1 else 0 := by
  have h1 := sb_val (lm a) (lm b) (fun i => lm_lt i a) (fun i => lm_lt i b)
  rw [val4_lm ha, val4_lm hb] at h1
  have h2 := val4_lt (sb_lt (lm a) (lm b))
  have h3 := canon4 (fun i _ => sb_lt (lm a) (lm b) i)
  have h4 := bo_le (lm a) (lm b) 4
  have e : val4 (sb (lm a) (lm b)) = (a + B4 - b) % B4 ∧ bo (lm a) (lm b) 4 = if a < b then 1 else 0 := by
    generalize val4 (sb (lm a) (lm b)) = v at h1 h2 ⊢
    generalize bo (lm a) (lm b) 4 = o at h1 h4 ⊢
    unfold B4 at *
    by_cases hab : a < b
    · rw [if_pos hab]
      omega
    · rw [if_neg hab]
      omega
  exact ⟨by rw [h3, e.1], e.2⟩
theorem lessN {a b : Nat} (ha : a < B4) (hb : b < B4) : lessL (lm a) (lm b) 4 = decide (a < b) := by
  rw [less_val _ _ (fun i => lm_lt i a) (fun i => lm_lt i b), val4_lm ha, val4_lm hb]
set_option maxHeartbeats 2000000 in
/-- The product of two limbs: the school's way, number by number. -/
theorem mul64_any (x y : Nat) (hx : x < 18446744073709551616) (hy : y < 18446744073709551616) (w : World) :
    Calls Tryd.prog 54 #[u x, u y] w fun e w' => e = .returned (.tuple #[u (x * y / 18446744073709551616), u (x * y % 18446744073709551616)]) ∧ w = w' := by
  obtain ⟨x1, hx1⟩ : ∃ x1, x1 = x / 4294967296 := ⟨_, rfl⟩
  obtain ⟨x0, hx0⟩ : ∃ x0, x0 = x % 4294967296 := ⟨_, rfl⟩
  obtain ⟨y1, hy1⟩ : ∃ y1, y1 = y / 4294967296 := ⟨_, rfl⟩
  obtain ⟨y0, hy0⟩ : ∃ y0, y0 = y % 4294967296 := ⟨_, rfl⟩
  have hi := Lib.mul64_hi x y hx hy
  have p00 := Lib.half_mul_le (a := x0) (b := y0) (by omega) (by omega)
  have p10 := Lib.half_mul_le (a := x1) (b := y0) (by omega) (by omega)
  have p01 := Lib.half_mul_le (a := x0) (b := y1) (by omega) (by omega)
  have p11 := Lib.half_mul_le (a := x1) (b := y1) (by omega) (by omega)
  have m1 := Mul64.maskN x hx
  have m2 := Mul64.maskN y hy
  rw [← hx0] at m1
  rw [← hy0] at m2
  have d1 : (x : Int) / 4294967296 = (x1 : Int) := by omega
  have d2 : (y : Int) / 4294967296 = (y1 : Int) := by omega
  rw [← hx1, ← hx0, ← hy1, ← hy0] at hi
  obtain ⟨b1, b2, b3, hhi⟩ := hi
  have b00 : x0 * y0 < 18446744073709551616 := b1
  have b10 : x1 * y0 < 18446744073709551616 := by omega
  have b01 : x0 * y1 < 18446744073709551616 := by omega
  have b11 : x1 * y1 < 18446744073709551616 := by omega
  have bh : x1 * y1 + (x1 * y0 + x0 * y0 / 4294967296) / 4294967296 < 18446744073709551616 := by omega
  have bz : x1 * y1 + (x1 * y0 + x0 * y0 / 4294967296) / 4294967296 + ((x1 * y0 + x0 * y0 / 4294967296) % 4294967296 + x0 * y1) / 4294967296 < 18446744073709551616 := by omega
  replace hx1 := Lib.hid hx1
  replace hx0 := Lib.hid hx0
  replace hy1 := Lib.hid hy1
  replace hy0 := Lib.hid hy0
  replace hhi := Lib.hid hhi
  replace m1 := Lib.hid m1
  replace m2 := Lib.hid m2
  replace d1 := Lib.hid d1
  replace d2 := Lib.hid d2
  clear p00 p10 p01 p11
  go_enter Tryd.func54, Tryd.ntmps54
  go_wp2
  simp only [m1.out, m2.out, d1.out, d2.out, Mul64.mulN, Mul64.divN, Mul64.addN, Mul64.wrapN _ b00, Mul64.wrapN _ b10, Mul64.wrapN _ b01, Mul64.wrapN _ b11, Mul64.wrapN _ b2, Mul64.maskN _ b2, Mul64.wrapN _ b3, Mul64.wrapN _ bh, Mul64.wrapN _ bz, Mul64.wrapM (x * y)]
  rw [hhi.out]
  go_ret2
  exact ⟨rfl, rfl⟩
end Lm
end Go.Proofs.YtkmbpakhbicnaaaDoor
namespace Go.Proofs.YtkmbpakhbicnaaaDoor
open Go.RowKit Go.Proofs.YtkmbpakhbicnaaaDoorW.PrintWords Go.Lib
namespace Lm
theorem ofInt_nat (x : Nat) (hx : x < 18446744073709551616) : (BitVec.ofInt 64 (x : Int)).toNat = x := by
  rw [BitVec.ofInt_natCast, BitVec.toNat_ofNat]; exact Nat.mod_eq_of_lt (by omega)
theorem andnot0 (x : Nat) (hx : x < 18446744073709551616) : bits .andNot .u64 (x : Int) 0 = (x : Int) := by
  show IntKind.u64.wrap ((BitVec.ofInt 64 (x : Int) &&& ~~~BitVec.ofInt 64 0).toNat : Int) = _
  have h : BitVec.ofInt 64 (x : Int) &&& ~~~BitVec.ofInt 64 0 = BitVec.ofInt 64 (x : Int) := by
    have : ~~~BitVec.ofInt 64 0 = BitVec.allOnes 64 := by decide
    rw [this, BitVec.and_allOnes]
  rw [h, ofInt_nat x hx, IntKind.wrap_u64]
  omega
theorem andnot1 (x : Nat) : bits .andNot .u64 (x : Int) 18446744073709551615 = 0 := by
  show IntKind.u64.wrap ((BitVec.ofInt 64 (x : Int) &&& ~~~BitVec.ofInt 64 18446744073709551615).toNat : Int) = _
  have h : BitVec.ofInt 64 (x : Int) &&& ~~~BitVec.ofInt 64 18446744073709551615 = 0#64 := by
    have : ~~~BitVec.ofInt 64 18446744073709551615 = 0#64 := by decide
    rw [this, BitVec.and_zero]
  rw [h]
  rfl
theorem and0 (x : Nat) (hx : x < 18446744073709551616) : bits .and .u64 (x : Int) 0 = 0 := by
  have := bits_and_u64_nat x 0 hx (by omega)
  simpa using this
theorem and1 (x : Nat) (hx : x < 18446744073709551616) : bits .and .u64 (x : Int) 18446744073709551615 = (x : Int) := by
  have := bits_and_u64_nat x 18446744073709551615 hx (by omega)
  have e : x &&& 18446744073709551615 = x := by
    have := Nat.and_two_pow_sub_one_eq_mod x 64
    rw [show (2 ^ 64 - 1 : Nat) = 18446744073709551615 by decide] at this
    rw [this]
    exact Nat.mod_eq_of_lt (by omega)
  rw [e] at this
  exact this
theorem or0 (x : Nat) (hx : x < 18446744073709551616) : bits .or .u64 (x : Int) 0 = (x : Int) := by
  have := bits_or_u64_nat x 0 hx (by omega)
  simpa using this
theorem or1 (x : Nat) (hx : x < 18446744073709551616) : bits .or .u64 0 (x : Int) = (x : Int) := by
  have := bits_or_u64_nat 0 x (by omega) hx
  simpa using this
set_option maxRecDepth 100000 in
set_option maxHeartbeats 2000000 in
theorem select_any (w : World) (bit : Bool) (fa fb : Nat → Nat) (ha : ∀ i, fa i < 18446744073709551616) (hb : ∀ i, fb i < 18446744073709551616) :
    Calls Tryd.prog 53 #[u bit.toNat, numL fa, numL fb] w fun e w' => e = .returned (if bit then numL fa else numL fb) ∧ Below w.heap.size w w' := by
  obtain ⟨g0, g1, g2, g3⟩ := alloc4_at w #[u (fa 0), u (fa 1), u (fa 2), u (fa 3)] #[u (fb 0), u (fb 1), u (fb 2), u (fb 3)] #[.int .u64 0, .int .u64 0, .int .u64 0, .int .u64 0] #[.int .u64 0, .int .u64 0, .int .u64 0, .int .u64 0] 38 38 38 38
  obtain ⟨k1, k2⟩ := alloc4 w (.cells #[u (fa 0), u (fa 1), u (fa 2), u (fa 3)] 38) (.cells #[u (fb 0), u (fb 1), u (fb 2), u (fb 3)] 38) (.cells #[.int .u64 0, .int .u64 0, .int .u64 0, .int .u64 0] 38) (.cells #[.int .u64 0, .int .u64 0, .int .u64 0, .int .u64 0] 38) _ rfl
  have HA := Lib.hid ha
  have HB := Lib.hid hb
  clear ha hb
  cases bit with
  | true =>
    have st0 : In4 w _ 38 fa fb fa 0 := ⟨k1, Nat.le_of_eq k2.symm, g0, g1, g2, g3⟩
    replace st0 := Lib.hid st0
    clear g0 g1 g2 g3 k1 k2
    have m0 : bits .and .u64 (1 : Int) 1 = 1 := by decide +kernel
    have m1 : IntKind.u64.wrap (-1) = 18446744073709551615 := by decide +kernel
    go_enter Tryd.func53, Tryd.ntmps53
    go_wp2_with fail
    go_loopg [13] 4 (fun gk vi wr => ∃ i : Nat, i ≤ 4 ∧ gk = 4 - i ∧ vi = .int .i64 (i : Int) ∧ In4 w wr 38 fa fb fa i)
    case atStart => exact ⟨0, by omega, rfl, rfl, st0.out⟩
    case round =>
      clear st0
      obtain ⟨i, hi, rfl, rfl, hS⟩ := hrel
      by_cases hlt : i < 4
      · have b1 := and1 (fa i) (HA.out i)
        have b2 := andnot1 (fb i)
        have b3 := or0 (fa i) (HA.out i)
        have c0 := hS.ca i hlt
        have c1 := hS.cb i hlt
        obtain ⟨c2, c3⟩ := hS.co hlt
        have hfin := (hS.step hlt _ rfl).drew
        have q1 : (i : Int) < 4 := by omega
        replace hS := Lib.hid hS
        replace hfin := Lib.hid hfin
        go_wp2_with fail
        go_region
        go_wp2
        go_roundg (4 - (i + 1))
        case measure => omega
        case rel => exact ⟨i + 1, by omega, rfl, by go_num, hfin.out⟩
      · obtain rfl : i = 4 := by omega
        obtain ⟨x0, x1, x2, x3⟩ := cell4 hS.o
        obtain ⟨y0, y1, y2, y3⟩ := cell4 hS.r
        obtain ⟨z0, z1, z2, z3⟩ := free4 hS.r
        obtain ⟨p0, p1, p2, p3⟩ := cell4 (four_set hS.r rfl (u (fa 0)) (u (fa 1)) (u (fa 2)) (u (fa 3)))
        have hB := below_four hS.below (w.heap.size + 1 + 1) (by omega) (u (fa 0)) (u (fa 1)) (u (fa 2)) (u (fa 3))
        replace hB := Lib.hid hB
        replace hS := Lib.hid hS
        go_wp2
        refine bodyPost_ret (v := numL fa) (by simp [results, Tryd.results53, go_sem, p0, p1, p2, p3]) rfl ⟨rfl, hB.out⟩
  | false =>
    have st0 : In4 w _ 38 fa fb fb 0 := ⟨k1, Nat.le_of_eq k2.symm, g0, g1, g2, g3⟩
    replace st0 := Lib.hid st0
    clear g0 g1 g2 g3 k1 k2
    have m0 : bits .and .u64 (0 : Int) 1 = 0 := by decide +kernel
    go_enter Tryd.func53, Tryd.ntmps53
    go_wp2_with fail
    go_loopg [13] 4 (fun gk vi wr => ∃ i : Nat, i ≤ 4 ∧ gk = 4 - i ∧ vi = .int .i64 (i : Int) ∧ In4 w wr 38 fa fb fb i)
    case atStart => exact ⟨0, by omega, rfl, rfl, st0.out⟩
    case round =>
      clear st0
      obtain ⟨i, hi, rfl, rfl, hS⟩ := hrel
      by_cases hlt : i < 4
      · have b1 := and0 (fa i) (HA.out i)
        have b2 := andnot0 (fb i) (HB.out i)
        have b3 := or1 (fb i) (HB.out i)
        have c0 := hS.ca i hlt
        have c1 := hS.cb i hlt
        obtain ⟨c2, c3⟩ := hS.co hlt
        have hfin := (hS.step hlt _ rfl).drew
        have q1 : (i : Int) < 4 := by omega
        replace hS := Lib.hid hS
        replace hfin := Lib.hid hfin
        go_wp2_with fail
        go_region
        go_wp2
        go_roundg (4 - (i + 1))
        case measure => omega
        case rel => exact ⟨i + 1, by omega, rfl, by go_num, hfin.out⟩
      · obtain rfl : i = 4 := by omega
        obtain ⟨x0, x1, x2, x3⟩ := cell4 hS.o
        obtain ⟨y0, y1, y2, y3⟩ := cell4 hS.r
        obtain ⟨z0, z1, z2, z3⟩ := free4 hS.r
        obtain ⟨p0, p1, p2, p3⟩ := cell4 (four_set hS.r rfl (u (fb 0)) (u (fb 1)) (u (fb 2)) (u (fb 3)))
        have hB := below_four hS.below (w.heap.size + 1 + 1) (by omega) (u (fb 0)) (u (fb 1)) (u (fb 2)) (u (fb 3))
        replace hB := Lib.hid hB
        replace hS := Lib.hid hS
        go_wp2
        refine bodyPost_ret (v := numL fb) (by simp [results, Tryd.results53, go_sem, p0, p1, p2, p3]) rfl ⟨rfl, hB.out⟩
end Lm
end Go.Proofs.YtkmbpakhbicnaaaDoor
namespace Go.Proofs.YtkmbpakhbicnaaaDoor
open Go.RowKit Go.Proofs.YtkmbpakhbicnaaaDoorW.PrintWords Go.Lib
namespace Lm
def byt (s : ByteArray) (i : Nat) : Nat := if h : i < s.size then s[i].toNat else 0
theorem byt_lt (s : ByteArray) (i : Nat) : byt s i < 256 := by
  unfold byt
  split
  · exact UInt8.toNat_lt _
  · omega
theorem index_byt (w : World) (s : ByteArray) (i : Nat) (z : Int) (hz : z = (i : Int)) (h : i < s.size) : (Instr.index 9 (.string s) (.int .i64 z)).run Tryd.prog w = .ok (.int .u8 (byt s i : Int)) w := by
  subst hz
  unfold byt
  rw [dif_pos h]
  simp [Instr.index, run_underlying Tryd.underlying9, asIntOf, go_sem, h]
/-- c bytes, the lowest first. -/
def pb (b : Nat → Nat) : Nat → Nat
  | 0 => 0
  | c + 1 => pb b c + b c * 2 ^ (8 * c)
/-- c bytes, the highest first. -/
def horn (b : Nat → Nat) : Nat → Nat
  | 0 => 0
  | c + 1 => horn b c * 256 + b c
theorem pb_lt {b : Nat → Nat} (h : ∀ r, b r < 256) : ∀ c, pb b c < 2 ^ (8 * c)
  | 0 => by simp [pb]
  | c + 1 => by
    rw [pb]
    have h1 := pb_lt h c
    have h2 := h c
    have h3 : (b c + 1) * 2 ^ (8 * c) ≤ 256 * 2 ^ (8 * c) := Nat.mul_le_mul_right _ (by omega)
    have h4 : 2 ^ (8 * (c + 1)) = 256 * 2 ^ (8 * c) := by rw [show 8 * (c + 1) = 8 * c + 8 by omega, Nat.pow_add]; omega
    rw [Nat.add_mul, Nat.one_mul] at h3
    omega
theorem horn_lt {b : Nat → Nat} (h : ∀ r, b r < 256) : ∀ c, horn b c < 2 ^ (8 * c)
  | 0 => by simp [horn]
  | c + 1 => by
    rw [horn]
    have h1 := horn_lt h c
    have h2 := h c
    have h4 : 2 ^ (8 * (c + 1)) = 256 * 2 ^ (8 * c) := by rw [show 8 * (c + 1) = 8 * c + 8 by omega, Nat.pow_add]; omega
    omega
/-- The limbs of the number that a text's 32 bytes are. -/
def fbs (s : ByteArray) (k : Nat) : Nat := pb (fun r => byt s (31 - (8 * k + r))) 8
theorem fbs_lt (s : ByteArray) (k : Nat) : fbs s k < 18446744073709551616 := pb_lt (fun _ => byt_lt _ _) 8
theorem horn_fbs (s : ByteArray) (k : Nat) (hk : k < 4) : horn (fun c => byt s (8 * (3 - k) + c)) 8 = fbs s k := by
  unfold fbs
  have e : ∀ r, r < 8 → 31 - (8 * k + r) = 8 * (3 - k) + (7 - r) := fun r hr => by omega
  simp only [horn, pb]
  rw [e 0 (by omega), e 1 (by omega), e 2 (by omega), e 3 (by omega), e 4 (by omega), e 5 (by omega), e 6 (by omega), e 7 (by omega)]
  simp only [Nat.sub_zero, show 7 - 1 = 6 from rfl, show 7 - 2 = 5 from rfl, show 7 - 3 = 4 from rfl, show 7 - 4 = 3 from rfl, show 7 - 5 = 2 from rfl, show 7 - 6 = 1 from rfl, show 7 - 7 = 0 from rfl]
  omega
/-- The middle of a loop that fills four limbs. -/
structure FB (w wr : World) (o : Nat → Nat) : Prop where
  below : Below w.heap.size w wr
  r : wr.heap[w.heap.size]? = some (.cells #[.int .u64 0, .int .u64 0, .int .u64 0, .int .u64 0] 38 (0, 0))
  o : wr.heap[w.heap.size + 1]? = some (.cells #[u (o 0), u (o 1), u (o 2), u (o 3)] 38 (0, 0))
theorem cells_set (o o' : Nat → Nat) (j : Nat) (hj : j < 4) (h : ∀ k, k ≠ j → o' k = o k) : (#[u (o 0), u (o 1), u (o 2), u (o 3)] : Array Value).setIfInBounds j (u (o' j)) = #[u (o' 0), u (o' 1), u (o' 2), u (o' 3)] := by
  match j, hj with
  | 0, _ => rw [h 1 (by omega), h 2 (by omega), h 3 (by omega)]; rfl
  | 1, _ => rw [h 0 (by omega), h 2 (by omega), h 3 (by omega)]; rfl
  | 2, _ => rw [h 0 (by omega), h 1 (by omega), h 3 (by omega)]; rfl
  | 3, _ => rw [h 0 (by omega), h 1 (by omega), h 2 (by omega)]; rfl
theorem FB.set {w wr : World} {o : Nat → Nat} (h : FB w wr o) (o' : Nat → Nat) (j : Nat) (hj : j < 4) (ho : ∀ k, k ≠ j → o' k = o k) : FB w (wr.setCell ⟨w.heap.size + 1, j, none⟩ (u (o' j))) o' := by
  refine ⟨below_set h.below _ _ (by simp), (Below.heap_setCell wr _ _ _ (by simp)).trans h.r, ?_⟩
  rw [← cells_set o o' j hj ho]
  exact Go.Joins.block_setCell h.o _
theorem FB.drew {w wr : World} {o : Nat → Nat} (h : FB w wr o) : FB w wr.drew o := ⟨h.below.drew, h.r, h.o⟩
theorem FB.co {w wr : World} {o : Nat → Nat} (h : FB w wr o) : ∀ j, j < 4 → wr.cell? ⟨w.heap.size + 1, j, none⟩ = some (u (o j))
  | 0, _ => Go.Joins.cell_of_block h.o 0
  | 1, _ => Go.Joins.cell_of_block h.o 1
  | 2, _ => Go.Joins.cell_of_block h.o 2
  | 3, _ => Go.Joins.cell_of_block h.o 3
  | n + 4, h => by omega
def oP (s : ByteArray) (i k : Nat) : Nat := pb (fun r => byt s (31 - (8 * k + r))) (min 8 (i - 8 * k))
def oR (s : ByteArray) (i k : Nat) : Nat := horn (fun c => byt s (8 * (3 - k) + c)) (min 8 (i - 8 * (3 - k)))
theorem or_add (x b r : Nat) (hx : x < 2 ^ (8 * r)) (hb : b < 256) (hr : r < 8) : bits .or .u64 (x : Int) ((b * 2 ^ (8 * r) : Nat) : Int) = ((x + b * 2 ^ (8 * r) : Nat) : Int) := by
  have h1 : 2 ^ (8 * r) ≤ 2 ^ 56 := Nat.pow_le_pow_right (by omega) (by omega)
  have h2 : b * 2 ^ (8 * r) ≤ 255 * 2 ^ 56 := Nat.mul_le_mul (by omega) h1
  rw [bits_or_u64_nat x (b * 2 ^ (8 * r)) (by omega) (by omega), Nat.or_comm, Nat.mul_comm b, ← Nat.two_pow_add_eq_or_of_lt hx b]
  congr 1
  omega
set_option maxRecDepth 100000 in
set_option maxHeartbeats 2000000 in
theorem fromBytes_any (w : World) (s : ByteArray) (hs : s.size = 32) :
    Calls Tryd.prog 28 #[.string s] w fun e w' => e = .returned (.tuple #[numL (fbs s), .int .i64 0]) ∧ Below w.heap.size w w' := by
  obtain ⟨g0, g1, k1, k2⟩ := alloc2_at w #[.int .u64 0, .int .u64 0, .int .u64 0, .int .u64 0] #[.int .u64 0, .int .u64 0, .int .u64 0, .int .u64 0] 38 38
  have z : ∀ k, oP s 0 k = 0 := fun k => by simp [oP, pb]
  have st0 : FB w _ (oP s 0) := ⟨k1, g0, by rw [z, z, z, z]; exact g1⟩
  replace st0 := Lib.hid st0
  have hs2 : ((s.size : Int) != 32) = false := by simp [hs]
  have hsz := Lib.hid hs
  clear g0 g1 k1 k2 z hs
  go_enter Tryd.func28, Tryd.ntmps28
  go_wp2_with fail
  go_loopg [10] 32 (fun gk v10 wr => ∃ i : Nat, i ≤ 32 ∧ gk = 32 - i ∧ v10 = .int .i64 (i : Int) ∧ FB w wr (oP s i))
  case atStart => exact ⟨0, by omega, rfl, rfl, st0.out⟩
  case round =>
    clear st0
    obtain ⟨i, hi, rfl, rfl, hS⟩ := hrel
    by_cases hlt : i < 32
    · obtain ⟨j, hj⟩ : ∃ j, j = i / 8 := ⟨_, rfl⟩
      obtain ⟨r, hr⟩ : ∃ r, r = i % 8 := ⟨_, rfl⟩
      have hd : (i : Int) / 8 = (j : Int) := by omega
      have hm : (i : Int) % 8 = (r : Int) := by omega
      have hj4 : j < 4 := by omega
      have hr8 : r < 8 := by omega
      obtain ⟨b, hb⟩ : ∃ b, b = byt s (31 - i) := ⟨_, rfl⟩
      have hb256 : b < 256 := by rw [hb]; exact byt_lt _ _
      have ix : ∀ W, (Instr.index 9 (.string s) (.int .i64 (31 - (i : Int)))).run Tryd.prog W = .ok (.int .u8 (b : Int)) W := fun W => by
        rw [hb]
        exact index_byt W s (31 - i) _ (by omega) (by rw [hsz.out]; omega)
      have e1 : oP s i j = pb (fun r => byt s (31 - (8 * j + r))) r := by
        unfold oP
        rw [show min 8 (i - 8 * j) = r by omega]
      have e2 : oP s (i + 1) j = oP s i j + b * 2 ^ (8 * r) := by
        rw [e1]
        unfold oP
        rw [show min 8 (i + 1 - 8 * j) = r + 1 by omega, pb, hb, show 31 - (8 * j + r) = 31 - i by omega]
      have e3 : ∀ k, k ≠ j → oP s (i + 1) k = oP s i k := fun k hk => by
        unfold oP
        congr 1
        omega
      have hlt2 : oP s i j < 2 ^ (8 * r) := by rw [e1]; exact pb_lt (fun _ => byt_lt _ _) r
      have hor := or_add (oP s i j) b r hlt2 hb256 hr8
      have hfin := (hS.set (oP s (i + 1)) j hj4 e3).drew
      rw [e2] at hfin
      have h1 : 2 ^ (8 * r) ≤ 2 ^ 56 := Nat.pow_le_pow_right (by omega) (by omega)
      have h2 : b * 2 ^ (8 * r) ≤ 255 * 2 ^ 56 := Nat.mul_le_mul (by omega) h1
      have hw : IntKind.u64.wrap ((b : Int) * 2 ^ (8 * r)) = ((b * 2 ^ (8 * r) : Nat) : Int) := by
        rw [IntKind.wrap_u64]
        have : (b : Int) * 2 ^ (8 * r) = ((b * 2 ^ (8 * r) : Nat) : Int) := by simp
        rw [this]
        omega
      have c0 := hS.co j hj4
      have c1 : wr.frozen? ⟨w.heap.size + 1, j, none⟩ = false := Go.Joins.unfrozen_of_block hS.o j
      have q1 : (i : Int) < 32 := by omega
      generalize oP s i j = x at *
      obtain ⟨y, hy⟩ : ∃ y, y = b * 2 ^ (8 * r) := ⟨_, rfl⟩
      rw [← hy] at hw hor hfin
      have hor2 : bits .or .u64 (x : Int) (y : Int) = ((x + y : Nat) : Int) := hor
      obtain ⟨z, hz⟩ : ∃ z, z = x + y := ⟨_, rfl⟩
      rw [← hz] at hor2 hfin
      replace hy := Lib.hid hy
      replace hz := Lib.hid hz
      replace hj := Lib.hid hj
      replace hr := Lib.hid hr
      replace hb := Lib.hid hb
      replace e1 := Lib.hid e1
      replace e2 := Lib.hid e2
      replace e3 := Lib.hid e3
      replace hS := Lib.hid hS
      replace hfin := Lib.hid hfin
      replace hlt2 := Lib.hid hlt2
      replace h1 := Lib.hid h1
      replace h2 := Lib.hid h2
      clear hor
      go_wp2_with fail
      go_region
      go_wp2
      go_roundg (32 - (i + 1))
      case measure => omega
      case rel => exact ⟨i + 1, by omega, rfl, by go_num, hfin.out⟩
    · obtain rfl : i = 32 := by omega
      have e : ∀ k, k < 4 → oP s 32 k = fbs s k := fun k hk => by
        unfold oP fbs
        rw [show min 8 (32 - 8 * k) = 8 by omega]
      obtain ⟨x0, x1, x2, x3⟩ := cell4 hS.o
      rw [e 0 (by omega)] at x0
      rw [e 1 (by omega)] at x1
      rw [e 2 (by omega)] at x2
      rw [e 3 (by omega)] at x3
      obtain ⟨y0, y1, y2, y3⟩ := cell4 hS.r
      obtain ⟨z0, z1, z2, z3⟩ := free4 hS.r
      obtain ⟨p0, p1, p2, p3⟩ := cell4 (four_set hS.r rfl (u (fbs s 0)) (u (fbs s 1)) (u (fbs s 2)) (u (fbs s 3)))
      have hB := below_four hS.below w.heap.size (Nat.le_refl _) (u (fbs s 0)) (u (fbs s 1)) (u (fbs s 2)) (u (fbs s 3))
      replace hB := Lib.hid hB
      replace hS := Lib.hid hS
      clear e
      go_wp2
      refine bodyPost_ret (v := .tuple #[numL (fbs s), .int .i64 0]) (by simp [results, Tryd.results28, go_sem, p0, p1, p2, p3]) rfl ⟨rfl, hB.out⟩
set_option maxRecDepth 100000 in
set_option maxHeartbeats 2000000 in
theorem rfromBytes_any (w : World) (s : ByteArray) (hs : s.size = 32) :
    Calls Tryd.prog 31 #[.string s] w fun e w' => e = .returned (.tuple #[numL (fbs s), .int .i64 0]) ∧ Below w.heap.size w w' := by
  obtain ⟨g0, g1, k1, k2⟩ := alloc2_at w #[.int .u64 0, .int .u64 0, .int .u64 0, .int .u64 0] #[.int .u64 0, .int .u64 0, .int .u64 0, .int .u64 0] 38 38
  have z : ∀ k, oR s 0 k = 0 := fun k => by simp [oR, horn]
  have st0 : FB w _ (oR s 0) := ⟨k1, g0, by rw [z, z, z, z]; exact g1⟩
  replace st0 := Lib.hid st0
  have hs2 : ((s.size : Int) != 32) = false := by simp [hs]
  have hsz := Lib.hid hs
  clear g0 g1 k1 k2 z hs
  go_enter Tryd.func31, Tryd.ntmps31
  go_wp2_with fail
  go_loopg [5] 32 (fun gk v5 wr => ∃ i : Nat, i ≤ 32 ∧ gk = 32 - i ∧ v5 = .int .i64 (i : Int) ∧ FB w wr (oR s i))
  case atStart => exact ⟨0, by omega, rfl, rfl, st0.out⟩
  case round =>
    clear st0
    obtain ⟨i, hi, rfl, rfl, hS⟩ := hrel
    by_cases hlt : i < 32
    · obtain ⟨j, hj⟩ : ∃ j, j = 3 - i / 8 := ⟨_, rfl⟩
      obtain ⟨r, hr⟩ : ∃ r, r = i % 8 := ⟨_, rfl⟩
      have hd : 3 - (i : Int) / 8 = (j : Int) := by omega
      have hj4 : j < 4 := by omega
      have hr8 : r < 8 := by omega
      obtain ⟨b, hb⟩ : ∃ b, b = byt s i := ⟨_, rfl⟩
      have hb256 : b < 256 := by rw [hb]; exact byt_lt _ _
      have ix : ∀ W, (Instr.index 9 (.string s) (.int .i64 (i : Int))).run Tryd.prog W = .ok (.int .u8 (b : Int)) W := fun W => by
        rw [hb]
        exact index_byt W s i _ rfl (by rw [hsz.out]; omega)
      have e1 : oR s i j = horn (fun c => byt s (8 * (3 - j) + c)) r := by
        unfold oR
        rw [show min 8 (i - 8 * (3 - j)) = r by omega]
      have e2 : oR s (i + 1) j = oR s i j * 256 + b := by
        rw [e1]
        unfold oR
        rw [show min 8 (i + 1 - 8 * (3 - j)) = r + 1 by omega, horn, hb, show 8 * (3 - j) + r = i by omega]
      have e3 : ∀ k, k < 4 → k ≠ j → oR s (i + 1) k = oR s i k := fun k hk hkj => by
        unfold oR
        congr 1
        omega
      have hlt2 : oR s i j < 2 ^ (8 * r) := by rw [e1]; exact horn_lt (fun _ => byt_lt _ _) r
      have h1 : 2 ^ (8 * r) ≤ 2 ^ 56 := Nat.pow_le_pow_right (by omega) (by omega)
      have hx56 : oR s i j < 72057594037927936 := by omega
      have hfin : FB w (wr.setCell ⟨w.heap.size + 1, j, none⟩ (u (oR s i j * 256 + b))).drew (oR s (i + 1)) := by
        obtain ⟨o', ho'⟩ : ∃ o' : Nat → Nat, o' = fun k => if k = j then oR s i j * 256 + b else oR s i k := ⟨_, rfl⟩
        have h3 := (hS.set o' j hj4 (fun k hk => by rw [ho']; simp [hk])).drew
        have h4 : o' j = oR s i j * 256 + b := by rw [ho']; simp
        rw [h4] at h3
        have h5 : ∀ k, k < 4 → o' k = oR s (i + 1) k := fun k hk => by
          by_cases hkj : k = j
          · rw [hkj, h4, e2]
          · rw [ho']
            simp only [hkj, if_false]
            exact (e3 k hk hkj).symm
        refine ⟨h3.below, h3.r, ?_⟩
        rw [← h5 0 (by omega), ← h5 1 (by omega), ← h5 2 (by omega), ← h5 3 (by omega)]
        exact h3.o
      have c0 := hS.co j hj4
      have c1 : wr.frozen? ⟨w.heap.size + 1, j, none⟩ = false := Go.Joins.unfrozen_of_block hS.o j
      have q1 : (i : Int) < 32 := by omega
      generalize oR s i j = x at *
      replace hj := Lib.hid hj
      replace hr := Lib.hid hr
      replace hb := Lib.hid hb
      replace e1 := Lib.hid e1
      replace e2 := Lib.hid e2
      replace e3 := Lib.hid e3
      replace hS := Lib.hid hS
      replace hfin := Lib.hid hfin
      replace hlt2 := Lib.hid hlt2
      replace h1 := Lib.hid h1
      go_wp2_with fail
      go_region
      go_wp2
      go_roundg (32 - (i + 1))
      case measure => omega
      case rel => exact ⟨i + 1, by omega, rfl, by go_num, hfin.out⟩
    · obtain rfl : i = 32 := by omega
      have e : ∀ k, k < 4 → oR s 32 k = fbs s k := fun k hk => by
        rw [← horn_fbs s k hk]
        unfold oR
        rw [show min 8 (32 - 8 * (3 - k)) = 8 by omega]
      obtain ⟨x0, x1, x2, x3⟩ := cell4 hS.o
      rw [e 0 (by omega)] at x0
      rw [e 1 (by omega)] at x1
      rw [e 2 (by omega)] at x2
      rw [e 3 (by omega)] at x3
      obtain ⟨y0, y1, y2, y3⟩ := cell4 hS.r
      obtain ⟨z0, z1, z2, z3⟩ := free4 hS.r
      obtain ⟨p0, p1, p2, p3⟩ := cell4 (four_set hS.r rfl (u (fbs s 0)) (u (fbs s 1)) (u (fbs s 2)) (u (fbs s 3)))
      have hB := below_four hS.below w.heap.size (Nat.le_refl _) (u (fbs s 0)) (u (fbs s 1)) (u (fbs s 2)) (u (fbs s 3))
      replace hB := Lib.hid hB
      replace hS := Lib.hid hS
      clear e
      go_wp2
      refine bodyPost_ret (v := .tuple #[numL (fbs s), .int .i64 0]) (by simp [results, Tryd.results31, go_sem, p0, p1, p2, p3]) rfl ⟨rfl, hB.out⟩
end Lm
end Go.Proofs.YtkmbpakhbicnaaaDoor
namespace Go.Proofs.YtkmbpakhbicnaaaDoor
open Go.RowKit Go.Proofs.YtkmbpakhbicnaaaDoorW.PrintWords Go.Lib
namespace Lm
theorem cellsOf36 : Tryd.prog.cellsOf 36 = 1 := by kernel_rfl
theorem eq_one (d : Nat) (w : World) (xs ys : Array Value) (is : List Nat) (i : Nat) (a b : Int) (r : Bool) (ha : (part 36 xs (i * 1)).run Tryd.prog w = .ok (.int .u64 a) w) (hb : (part 36 ys (i * 1)).run Tryd.prog w = .ok (.int .u64 b) w)
    (hr : (Op.eqItems (d + 1) 36 1 xs ys is).run Tryd.prog w = .ok r w) : (Op.eqItems (d + 1) 36 1 xs ys (i :: is)).run Tryd.prog w = .ok ((a == b) && r) w := by
  rw [Op.eqItems]
  simp only [Sem.run_bind, ha, hb, Result.andThen_ok]
  have he : (Op.equalIn (d + 1) 36 (.int .u64 a) (.int .u64 b)).run Tryd.prog w = .ok (a == b) w := by go_simp
  rw [he]
  cases h : (a == b)
  · simp
  · simpa using hr
theorem eqN (d : Nat) (w : World) (x y : Nat → Nat) :
    (Op.equalIn (d + 2) 38 (numL x) (numL y)).run Tryd.prog w = .ok (((x 0 : Int) == (y 0 : Int)) && (((x 1 : Int) == (y 1 : Int)) && (((x 2 : Int) == (y 2 : Int)) && (((x 3 : Int) == (y 3 : Int)) && true)))) w := by
  obtain ⟨i, hi⟩ : ∃ i, Tryd.prog.info? 36 = some i := info_of_underlying Tryd.underlying36
  unfold numL
  rw [run_equalIn_array w (d + 1) _ _ Tryd.underlying38 hi, cellsOf36]
  rw [show List.range 4 = [0, 1, 2, 3] from rfl]
  refine eq_one d w _ _ _ 0 _ _ _ (by go_simp) (by go_simp) ?_
  refine eq_one d w _ _ _ 1 _ _ _ (by go_simp) (by go_simp) ?_
  refine eq_one d w _ _ _ 2 _ _ _ (by go_simp) (by go_simp) ?_
  refine eq_one d w _ _ _ 3 _ _ _ (by go_simp) (by go_simp) ?_
  rfl
theorem eqV {a b : Nat} (ha : a < B4) (hb : b < B4) (w : World) : (Op.equalIn 10000 38 (numV a) (numV b)).run Tryd.prog w = .ok (decide (a = b)) w := by
  rw [eqN 9998]
  congr 1
  rw [Bool.eq_iff_iff]
  simp only [Bool.and_eq_true, beq_iff_eq, decide_eq_true_eq, and_true, Int.natCast_inj]
  constructor
  · rintro ⟨h0, h1, h2, h3⟩
    rw [← val4_lm ha, ← val4_lm hb]
    unfold val4
    rw [h0, h1, h2, h3]
  · rintro rfl
    exact ⟨rfl, rfl, rfl, rfl⟩
theorem lm_eq : ∀ (j n : Nat), lm n j = n / 2 ^ (64 * j) % 18446744073709551616
  | 0, n => by rw [lm]; simp
  | j + 1, n => by
    rw [lm, lm_eq j, Nat.div_div_eq_div_mul, show 18446744073709551616 * 2 ^ (64 * j) = 2 ^ (64 * (j + 1)) by rw [show 64 * (j + 1) = 64 + 64 * j by omega, Nat.pow_add]]
theorem lm_top {n k : Nat} (h : n < 2 ^ (64 * (k + 1))) (hz : lm n k = 0) : n < 2 ^ (64 * k) := by
  rw [lm_eq] at hz
  have h1 : n / 2 ^ (64 * k) < 18446744073709551616 := by
    rw [Nat.div_lt_iff_lt_mul (Nat.two_pow_pos _)]
    rw [show 64 * (k + 1) = 64 + 64 * k by omega, Nat.pow_add] at h
    exact h
  rw [Nat.mod_eq_of_lt h1] at hz
  exact (Nat.div_eq_zero_iff_lt (Nat.two_pow_pos _)).1 hz
theorem bit_mod (n r : Nat) (hr : r < 64) : (n % 18446744073709551616) / 2 ^ r % 2 = n / 2 ^ r % 2 := by
  have h := Nat.testBit_mod_two_pow n 64 r
  rw [Nat.testBit_eq_decide_div_mod_eq, Nat.testBit_eq_decide_div_mod_eq] at h
  simp only [hr, decide_true, Bool.true_and] at h
  have h2 : ((n % 2 ^ 64) / 2 ^ r % 2 = 1) ↔ (n / 2 ^ r % 2 = 1) := by
    have := congrArg (· = true) h
    simpa using this
  rw [show (2 ^ 64 : Nat) = 18446744073709551616 from rfl] at h2
  omega
theorem lm_bit : ∀ (j n r : Nat), r < 64 → lm n j / 2 ^ r % 2 = n / 2 ^ (64 * j + r) % 2
  | 0, n, r, hr => by rw [lm, bit_mod n r hr]; simp
  | j + 1, n, r, hr => by
    rw [lm, lm_bit j _ r hr, Nat.div_div_eq_div_mul, show 18446744073709551616 * 2 ^ (64 * j + r) = 2 ^ (64 * (j + 1) + r) by rw [show 64 * (j + 1) + r = 64 + (64 * j + r) by omega, Nat.pow_add 2 64 (64 * j + r)]]
theorem lm_even (n b : Nat) (hn : n % 2 = 0) (hb : b ≤ 1) : lm (n + b) 0 = lm n 0 + b ∧ ∀ i, lm (n + b) (i + 1) = lm n (i + 1) := by
  refine ⟨by simp only [lm]; omega, fun i => ?_⟩
  rw [lm, lm, show (n + b) / 18446744073709551616 = n / 18446744073709551616 by omega]
theorem or_bit (x b : Nat) (hx : x % 2 = 0) (hx2 : x < 18446744073709551616) (hb : b ≤ 1) : bits .or .u64 (x : Int) (b : Int) = ((x + b : Nat) : Int) := by
  rw [bits_or_u64_nat x b hx2 (by omega)]
  have h := Nat.two_pow_add_eq_or_of_lt (i := 1) (b := b) (by omega) (x / 2)
  rw [show 2 ^ 1 * (x / 2) = x by omega] at h
  rw [← h]
theorem and_bit (x : Nat) (hx : x < 18446744073709551616) : bits .and .u64 (x : Int) 1 = ((x % 2 : Nat) : Int) := by
  have h := bits_and_u64_nat x 1 hx (by omega)
  rw [Nat.and_one_is_mod] at h
  exact h
theorem half_step (W i : Nat) : W / 2 ^ i = 2 * (W / 2 ^ (i + 1)) + W / 2 ^ i % 2 := by
  rw [Nat.pow_succ, ← Nat.div_div_eq_div_mul]
  omega
/-- One bit of the long division. -/
theorem mod_step (W m i : Nat) (hm : 0 < m) : (2 * (W / 2 ^ (i + 1) % m) + W / 2 ^ i % 2 < 2 * m) ∧ W / 2 ^ i % m = if m ≤ 2 * (W / 2 ^ (i + 1) % m) + W / 2 ^ i % 2 then 2 * (W / 2 ^ (i + 1) % m) + W / 2 ^ i % 2 - m else 2 * (W / 2 ^ (i + 1) % m) + W / 2 ^ i % 2 := by
  have h1 : W / 2 ^ (i + 1) % m < m := Nat.mod_lt _ hm
  have h2 : W / 2 ^ i % 2 < 2 := Nat.mod_lt _ (by omega)
  refine ⟨by omega, ?_⟩
  have h3 : W / 2 ^ i % m = (2 * (W / 2 ^ (i + 1) % m) + W / 2 ^ i % 2) % m := by
    conv => lhs; rw [half_step W i]
    rw [Nat.add_mod, Nat.mul_mod, Nat.add_mod (2 * (W / 2 ^ (i + 1) % m)), Nat.mul_mod 2 (W / 2 ^ (i + 1) % m), Nat.mod_mod]
  rw [h3]
  split
  · rename_i h4
    rw [Nat.mod_eq_sub_mod h4, Nat.mod_eq_of_lt (by omega)]
  · exact Nat.mod_eq_of_lt (by omega)
/-- The numbers of one round of the long division. -/
theorem mod_nums (R b m : Nat) (hRm : R < m) (hm : m < B4) (hb1 : b ≤ 1) :
    let X2 := (R + R) % B4
    let X3 := X2 + b
    let D := (X3 + B4 - m) % B4
    let le := if X3 < m then 1 else 0
    R < B4 ∧ X2 % 2 = 0 ∧ X3 < B4 ∧ le ≤ 1 ∧ bits .or .u64 ((lm R 3 / 9223372036854775808 : Nat) : Int) (1 - ((le : Nat) : Int)) = (((decide (m ≤ 2 * R + b)).toNat : Nat) : Int) ∧
      (if decide (m ≤ 2 * R + b) = true then numV D else numV X3) = numV (if m ≤ 2 * R + b then 2 * R + b - m else 2 * R + b) := by
  intro X2 X3 D le
  have hR4 : R < B4 := by omega
  have ho : lm R 3 / 9223372036854775808 = (R + R) / B4 := by
    rw [lm_eq]
    unfold B4 at hR4 ⊢
    omega
  have hX2e : X2 % 2 = 0 := by show (R + R) % B4 % 2 = 0; unfold B4; omega
  have hX24 : X2 < B4 := Nat.mod_lt _ (by decide)
  have hX34 : X3 < B4 := by show X2 + b < B4; unfold B4 at hX24 ⊢; omega
  have o00 : bits .or .u64 (0 : Int) 0 = 0 := by decide +kernel
  have o01 : bits .or .u64 (0 : Int) 1 = 1 := by decide +kernel
  have o10 : bits .or .u64 (1 : Int) 0 = 1 := by decide +kernel
  have o11 : bits .or .u64 (1 : Int) 1 = 1 := by decide +kernel
  refine ⟨hR4, hX2e, hX34, by show (if X3 < m then 1 else 0) ≤ 1; split <;> omega, ?_, ?_⟩
  · rw [ho]
    show bits .or .u64 (((R + R) / B4 : Nat) : Int) (1 - (((if X3 < m then 1 else 0 : Nat)) : Int)) = _
    by_cases h1 : R + R < B4
    · have e2 : X3 = 2 * R + b := by show (R + R) % B4 + b = 2 * R + b; rw [Nat.mod_eq_of_lt h1]; omega
      rw [Nat.div_eq_of_lt h1]
      by_cases h2 : X3 < m
      · rw [if_pos h2, show decide (m ≤ 2 * R + b) = false by simp; omega]
        exact o00
      · rw [if_neg h2, show decide (m ≤ 2 * R + b) = true by simp; omega]
        exact o01
    · have e1 : (R + R) / B4 = 1 := by unfold B4 at h1 hR4 ⊢; omega
      rw [e1, show decide (m ≤ 2 * R + b) = true by simp; unfold B4 at h1 hm; omega]
      by_cases h2 : X3 < m
      · rw [if_pos h2]
        exact o10
      · rw [if_neg h2]
        exact o11
  · by_cases h3 : m ≤ 2 * R + b
    · rw [if_pos h3, if_pos (by simpa using h3)]
      have : D = 2 * R + b - m := by
        show ((R + R) % B4 + b + B4 - m) % B4 = 2 * R + b - m
        unfold B4 at hR4 hm ⊢
        omega
      rw [this]
    · rw [if_neg h3, if_neg (by simpa using h3)]
      have : X3 = 2 * R + b := by
        show (R + R) % B4 + b = 2 * R + b
        rw [Nat.mod_eq_of_lt (by omega)]
        omega
      rw [this]
end Lm
end Go.Proofs.YtkmbpakhbicnaaaDoor
