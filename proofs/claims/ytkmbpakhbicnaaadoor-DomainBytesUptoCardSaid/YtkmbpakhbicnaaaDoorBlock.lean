/- The walk of digest's block: sixteen words, sixty-four rounds, eight sums. -/
import Derived.Test.YtkmbpakhbicnaaaDoorClo
import Derived.LoopTactic
import Derived.Deep.RegionHeld3
import Derived.Deep.MidRow
namespace Go.Proofs.YtkmbpakhbicnaaaDoor
open Go.RowKit Go.Proofs.YtkmbpakhbicnaaaDoorW.PrintWords Go.Proofs.YtkmbpakhbicnaaaDoorW.PrintMore Go.Lib

/-- Block g holds n words. -/
def Arr (w : World) (g : Nat) (t : TypeId) (n : Nat) (f : Nat → Nat) : Prop :=
  ∃ cs, w.heap[g]? = some (.cells cs t (0, 0)) ∧ cs.size = n ∧ ∀ i, i < n → cs[i]? = some (.int .u32 (f i : Int))
section
variable {w w1 : World} {g n : Nat} {t : TypeId} {f : Nat → Nat}
theorem Arr.lt (h : Arr w g t n f) : g < w.heap.size := by
  obtain ⟨cs, hh, _⟩ := h
  exact (Array.getElem?_eq_some_iff.1 hh).1
theorem Arr.cell (h : Arr w g t n f) (i : Nat) (hi : i < n) : w.cell? ⟨g, i, none⟩ = some (.int .u32 (f i : Int)) := by
  obtain ⟨cs, hh, _, hc⟩ := h
  rw [Go.Joins.cell_of_block hh i]
  exact hc i hi
theorem Arr.free (h : Arr w g t n f) (i : Nat) : w.frozen? ⟨g, i, none⟩ = false := by
  obtain ⟨cs, hh, _, hc⟩ := h
  exact Go.Joins.unfrozen_of_block hh i
theorem Arr.block (h : Arr w g t n f) : ∃ cs, w.heap[g]? = some (.cells cs t (0, 0)) := by
  obtain ⟨cs, hh, _⟩ := h
  exact ⟨cs, hh⟩
theorem Arr.move (h : Arr w g t n f) (hm : w1.heap[g]? = w.heap[g]?) : Arr w1 g t n f := by
  obtain ⟨cs, hh, r⟩ := h
  exact ⟨cs, hm.trans hh, r⟩
theorem Arr.eq (h : Arr w g t n f) {f' : Nat → Nat} (hf : ∀ i, i < n → f i = f' i) : Arr w g t n f' := by
  obtain ⟨cs, hh, hs, hc⟩ := h
  exact ⟨cs, hh, hs, fun i hi => hf i hi ▸ hc i hi⟩
theorem Arr.set (h : Arr w g t n f) (j v : Nat) (hj : j < n) : Arr (w.setCell ⟨g, j, none⟩ (.int .u32 (v : Int))) g t n (fun i => if i = j then v else f i) := by
  obtain ⟨cs, hh, hs, hc⟩ := h
  refine ⟨cs.setIfInBounds j (.int .u32 (v : Int)), Go.Joins.block_setCell hh _, by simp [hs], fun i hi => ?_⟩
  by_cases e : i = j
  · subst e
    rw [Array.getElem?_setIfInBounds_self_of_lt (by omega)]
    simp
  · simp only [if_neg e]
    rw [Array.getElem?_setIfInBounds_ne (by omega)]
    exact hc i hi
theorem Arr.other (h : Arr w g t n f) (a : Addr) (v : Value) (ha : g ≠ a.block) : Arr (w.setCell a v) g t n f := h.move (Below.heap_setCell w a v g ha)
theorem Arr.drewN (h : Arr w g t n f) (k : Nat) : Arr (w.drewN k) g t n f := h
theorem Arr.alloc (h : Arr w g t n f) (o : Obj) : Arr (w.alloc o) g t n f := h.move (heap_alloc_old w o h.lt)
end

/-- The table of the rounds lies where it was laid. -/
def Tab (w : World) : Prop := ∀ i, i < 64 → w.cell? ⟨0, i, none⟩ = some (.int .u32 (Sha.kk i : Int))

def tabCells : List Value := Sha.ks.map fun (k : Nat) => Value.int .u32 (k : Int)
theorem tabCells_at (j : Nat) (hj : j < 64) : tabCells[j]? = some (.int .u32 (Sha.kk j : Int)) := by
  unfold tabCells Sha.kk
  rw [List.getElem?_map, List.getD_eq_getElem?_getD, List.getElem?_eq_getElem (show j < Sha.ks.length from hj)]
  rfl
theorem Tab.range {w : World} (h : Tab w) : w.rangeAt 0 0 tabCells := fun j v hv => by
  have hj : j < 64 := (List.getElem?_eq_some_iff.1 hv).1
  rw [Nat.zero_add, h j hj]
  exact (tabCells_at j hj).symm.trans hv
theorem Tab.below {w w' : World} (h : Tab w) (hb : Below w.heap.size w w') : Tab w' := fun i hi => pw_cell_below hb (h i hi)
theorem index_at (w : World) (tc : Array Value) (t : Nat) (ht : t < 64) (v : Value) (hv : tc[t]? = some v) :
    (Instr.index 94 (.agg tc) (.int .i64 (t : Int))).run Tryd.prog w = .ok v w := by
  have h1 : (0 : Int) ≤ (t : Int) ∧ (t : Int) < 64 := by omega
  simp [Instr.index, run_underlying Tryd.underlying94, asIntOf, go_sem, h1]
  rw [if_pos ht, hv]
  rfl
/-- Nothing but block g has changed of what was there. -/
structure Only (g : Nat) (w w' : World) : Prop where
  os : w'.os = w.os
  tape : w'.tape = w.tape
  output : w'.output = w.output
  size : w.heap.size ≤ w'.heap.size
  block : ∀ k, k < w.heap.size → k ≠ g → w'.heap[k]? = w.heap[k]?
section
variable {g : Nat} {w w1 w2 : World}
theorem Only.refl (g : Nat) (w : World) : Only g w w := ⟨rfl, rfl, rfl, Nat.le_refl _, fun _ _ _ => rfl⟩
theorem Only.trans (h : Only g w w1) (k : Only g w1 w2) : Only g w w2 :=
  ⟨k.os.trans h.os, k.tape.trans h.tape, k.output.trans h.output, Nat.le_trans h.size k.size, fun i hi hg => (k.block i (Nat.lt_of_lt_of_le hi h.size) hg).trans (h.block i hi hg)⟩
theorem Only.drewN (h : Only g w w1) (n : Nat) : Only g w (w1.drewN n) := ⟨h.os, h.tape, h.output, h.size, h.block⟩
theorem Only.set (h : Only g w w1) (j : Nat) (v : Value) : Only g w (w1.setCell ⟨g, j, none⟩ v) :=
  ⟨h.os, h.tape, h.output, by rw [show (w1.setCell ⟨g, j, none⟩ v).heap.size = w1.heap.size by simp [World.setCell]]; exact h.size, fun k hk hg => (Below.heap_setCell w1 ⟨g, j, none⟩ v k hg).trans (h.block k hk hg)⟩
theorem Only.cell (h : Only g w w1) {a : Addr} {v : Value} (hc : w.cell? a = some v) (hg : a.block ≠ g) : w1.cell? a = some v :=
  (World.cell?_of_block (w := w) (h.block a.block (World.block_lt_of_cell? w a hc) hg)).trans hc
theorem Only.arr (h : Only g w w1) {k n : Nat} {t : TypeId} {f : Nat → Nat} (ha : Arr w k t n f) (hg : k ≠ g) : Arr w1 k t n f := ha.move (h.block k ha.lt hg)
theorem Only.below (h : Only g w w1) {w0 : World} (hb : Below w0.heap.size w0 w) (hg : w0.heap.size ≤ g) : Below w0.heap.size w0 w1 :=
  ⟨h.os.trans hb.os, h.tape.trans hb.tape, h.output.trans hb.output, Nat.le_trans hb.size h.size, fun k hk => (h.block k (Nat.lt_of_lt_of_le hk hb.size) (by omega)).trans (hb.block k hk)⟩
theorem Only.of_below (h : Below w.heap.size w w1) (g : Nat) : Only g w w1 := ⟨h.os, h.tape, h.output, h.size, fun k hk _ => h.block k hk⟩
end
theorem next_arr (w : World) (g t : Nat) (f l : Nat → Nat) (ht : t < 64) (ha : Arr w g 93 16 f) (hf : ∀ i, f i < Sha.M) (hd : ∀ d, d < 16 → f ((t + d) % 16) = Sha.W l (t + d)) :
    Calls Tryd.prog 47 #[.pointer (some ⟨g, 0, none⟩), .int .i64 (t : Int)] w fun e w' => e = .returned (.int .u32 (Sha.W l t : Int)) ∧
      ∃ f', Arr w' g 93 16 f' ∧ (∀ i, f' i < Sha.M) ∧ (∀ d, d < 16 → f' ((t + 1 + d) % 16) = Sha.W l (t + 1 + d)) ∧ Only g w w' := by
  refine (next_any w g t f ht hf ha.block ha.cell).mono ?_
  rintro e w' ⟨rfl, n, rfl⟩
  have h0 : f (t % 16) = Sha.W l t := hd 0 (by decide)
  refine ⟨by rw [h0], _, (ha.drewN n).set _ _ (Nat.mod_lt _ (by decide)), fun i => ?_, fun d hdd => ?_, ((Only.refl g w).drewN n).set _ _⟩
  · split
    · exact Nat.mod_lt _ (by decide)
    · exact hf i
  · by_cases e : d = 15
    · subst e
      rw [if_pos (by omega), show t + 1 + 15 = t + 16 by omega, Sha.W_hi, h0, hd 14 (by decide), hd 9 (by decide), hd 1 (by decide)]
    · rw [if_neg (by omega), show t + 1 + d = t + (d + 1) by omega, hd (d + 1) (by omega)]
theorem up_eq (e f g h k w y : Nat) (hf : f < Sha.M) (he : e < Sha.M) (hg : g < Sha.M) (u : Nat) (hu : u = (h + y + Sha.ch e f g + k + w) % Sha.M) :
    IntKind.u32.wrap (IntKind.u32.wrap (IntKind.u32.wrap (IntKind.u32.wrap ((h : Int) + (y : Int)) + Go.bits .xor .u32 (g : Int) (Go.bits .and .u32 (e : Int) (Go.bits .xor .u32 (f : Int) (g : Int)))) + (k : Int)) + (w : Int)) = (u : Int) := by
  rw [(Sha.bits32 f g hf hg).1, (Sha.bits32 e _ he (Sha.xor_lt hf hg)).2.1, (Sha.bits32 g _ hg (Sha.and_lt (Sha.xor_lt hf hg))).1]
  rw [show g ^^^ (e &&& (f ^^^ g)) = Sha.ch e f g from rfl, hu]
  generalize Sha.ch e f g = z
  rw [Sha.u32_wrap, Sha.u32_wrap, Sha.u32_wrap, Sha.u32_wrap]
  show _ = (((h + y + z + k + w) % 4294967296 : Nat) : Int)
  omega
theorem down_eq (a b c u y : Nat) (ha : a < Sha.M) (hb : b < Sha.M) (hc : c < Sha.M) (v : Nat) (hv : v = (u + y + Sha.maj a b c) % Sha.M) :
    (((u : Int) + (y : Int)) % 4294967296 + Go.bits .or .u32 (Go.bits .and .u32 (a : Int) (b : Int)) (Go.bits .and .u32 (c : Int) (Go.bits .or .u32 (a : Int) (b : Int)))) % 4294967296 = (v : Int) := by
  rw [(Sha.bits32 a b ha hb).2.1, (Sha.bits32 a b ha hb).2.2, (Sha.bits32 c _ hc (Sha.or_lt ha hb)).2.1, (Sha.bits32 _ _ (Sha.and_lt hb) (Sha.and_lt (Sha.or_lt ha hb))).2.2]
  rw [show (a &&& b) ||| (c &&& (a ||| b)) = Sha.maj a b c from rfl, hv]
  generalize Sha.maj a b c = z
  show _ = (((u + y + z) % 4294967296 : Nat) : Int)
  omega
theorem add_eq (a b v : Nat) (hv : v = (a + b) % Sha.M) : IntKind.u32.wrap ((a : Int) + (b : Int)) = (v : Int) := by
  rw [Sha.u32_wrap, hv]
  show _ = (((a + b) % 4294967296 : Nat) : Int)
  omega
theorem round_rel (x : Sha.Eight) (l : Nat → Nat) (t : Nat) (ht : t < 64) (fs : Nat → Nat) (hfx : ∀ i, i < 8 → fs ((i + 64 - t) % 8) = (Sha.st x l t).get i) (u v3 v7 : Nat)
    (hu : u = Sha.up (Sha.st x l t) (Sha.kk t) (Sha.W l t)) (h3 : v3 = ((Sha.st x l t).d + u) % Sha.M)
    (h7 : v7 = (u + Sha.big0 (Sha.st x l t).a + Sha.maj (Sha.st x l t).a (Sha.st x l t).b (Sha.st x l t).c) % Sha.M) (i : Nat) (hi : i < 8) :
    (if (i + 64 - (t + 1)) % 8 = (7 + 64 - t) % 8 then v7 else if (i + 64 - (t + 1)) % 8 = (3 + 64 - t) % 8 then v3 else fs ((i + 64 - (t + 1)) % 8)) = (Sha.st x l (t + 1)).get i := by
  rw [Sha.st]
  generalize Sha.st x l t = X at *
  have g0 : (Sha.rnd X (Sha.kk t) (Sha.W l t)).get 0 = v7 := by rw [h7, hu, Sha.rnd, Sha.Eight.get]
  have g4 : (Sha.rnd X (Sha.kk t) (Sha.W l t)).get 4 = v3 := by rw [h3, hu, Sha.rnd, Sha.Eight.get]
  have g1 : (Sha.rnd X (Sha.kk t) (Sha.W l t)).get 1 = X.get 0 := rfl
  have g2 : (Sha.rnd X (Sha.kk t) (Sha.W l t)).get 2 = X.get 1 := rfl
  have g3 : (Sha.rnd X (Sha.kk t) (Sha.W l t)).get 3 = X.get 2 := rfl
  have g5 : (Sha.rnd X (Sha.kk t) (Sha.W l t)).get 5 = X.get 4 := rfl
  have g6 : (Sha.rnd X (Sha.kk t) (Sha.W l t)).get 6 = X.get 5 := rfl
  have g7 : (Sha.rnd X (Sha.kk t) (Sha.W l t)).get 7 = X.get 6 := rfl
  generalize Sha.rnd X (Sha.kk t) (Sha.W l t) = Y at *
  match i, hi with
  | 0, _ => rw [if_pos (by omega), g0]
  | 1, _ => rw [if_neg (by omega), if_neg (by omega), g1, show (1 + 64 - (t + 1)) % 8 = (0 + 64 - t) % 8 by omega, hfx 0 (by decide)]
  | 2, _ => rw [if_neg (by omega), if_neg (by omega), g2, show (2 + 64 - (t + 1)) % 8 = (1 + 64 - t) % 8 by omega, hfx 1 (by decide)]
  | 3, _ => rw [if_neg (by omega), if_neg (by omega), g3, show (3 + 64 - (t + 1)) % 8 = (2 + 64 - t) % 8 by omega, hfx 2 (by decide)]
  | 4, _ => rw [if_neg (by omega), if_pos (by omega), g4]
  | 5, _ => rw [if_neg (by omega), if_neg (by omega), g5, show (5 + 64 - (t + 1)) % 8 = (4 + 64 - t) % 8 by omega, hfx 4 (by decide)]
  | 6, _ => rw [if_neg (by omega), if_neg (by omega), g6, show (6 + 64 - (t + 1)) % 8 = (5 + 64 - t) % 8 by omega, hfx 5 (by decide)]
  | 7, _ => rw [if_neg (by omega), if_neg (by omega), g7, show (7 + 64 - (t + 1)) % 8 = (6 + 64 - t) % 8 by omega, hfx 6 (by decide)]
/-- Block g holds a hash of which the first words are told by f. -/
def HArr (w : World) (g : Nat) (f : Nat → Nat) (rv : Value) (n : Int) : Prop :=
  ∃ cs, w.heap[g]? = some (.cells cs 71 (0, 0)) ∧ cs.size = 10 ∧ (∀ i, i < 8 → cs[i]? = some (.int .u32 (f i : Int))) ∧ cs[8]? = some rv ∧ cs[9]? = some (.int .i64 n)
/-- A hash in block g: its eight words, the rest, how many bytes. -/
def hashCells (x : Sha.Eight) (rv : Value) (n : Int) : Array Value := #[.int .u32 (x.a : Int), .int .u32 (x.b : Int), .int .u32 (x.c : Int), .int .u32 (x.d : Int), .int .u32 (x.e : Int), .int .u32 (x.f : Int), .int .u32 (x.g : Int), .int .u32 (x.h : Int), rv, .int .i64 n]

section
variable {w w1 : World} {g : Nat} {f : Nat → Nat} {rv : Value} {n : Int} {x : Sha.Eight}
theorem HArr.of (h : w.heap[g]? = some (.cells (hashCells x rv n) 71 (0, 0))) : HArr w g x.get rv n :=
  ⟨_, h, rfl, fun i hi => by
    match i, hi with
    | 0, _ => rfl
    | 1, _ => rfl
    | 2, _ => rfl
    | 3, _ => rfl
    | 4, _ => rfl
    | 5, _ => rfl
    | 6, _ => rfl
    | 7, _ => rfl, rfl, rfl⟩
theorem HArr.back (h : HArr w g f rv n) (hf : ∀ i, i < 8 → f i = x.get i) : w.heap[g]? = some (.cells (hashCells x rv n) 71 (0, 0)) := by
  obtain ⟨cs, hh, hs, hc, h8, h9⟩ := h
  rw [hh]
  have : cs = hashCells x rv n := by
    apply Array.ext_getElem?
    intro i
    match i with
    | 0 => rw [hc 0 (by decide), hf 0 (by decide)]; rfl
    | 1 => rw [hc 1 (by decide), hf 1 (by decide)]; rfl
    | 2 => rw [hc 2 (by decide), hf 2 (by decide)]; rfl
    | 3 => rw [hc 3 (by decide), hf 3 (by decide)]; rfl
    | 4 => rw [hc 4 (by decide), hf 4 (by decide)]; rfl
    | 5 => rw [hc 5 (by decide), hf 5 (by decide)]; rfl
    | 6 => rw [hc 6 (by decide), hf 6 (by decide)]; rfl
    | 7 => rw [hc 7 (by decide), hf 7 (by decide)]; rfl
    | 8 => rw [h8]; rfl
    | 9 => rw [h9]; rfl
    | (i + 10) =>
      rw [Array.getElem?_eq_none (by omega)]
      rfl
  rw [this]
theorem HArr.cell (h : HArr w g f rv n) (i : Nat) (hi : i < 8) : w.cell? ⟨g, i, none⟩ = some (.int .u32 (f i : Int)) := by
  obtain ⟨cs, hh, _, hc, _⟩ := h
  rw [Go.Joins.cell_of_block hh i]
  exact hc i hi
theorem HArr.free (h : HArr w g f rv n) (i : Nat) : w.frozen? ⟨g, i, none⟩ = false := by
  obtain ⟨cs, hh, _⟩ := h
  exact Go.Joins.unfrozen_of_block hh i
theorem HArr.move (h : HArr w g f rv n) (hm : w1.heap[g]? = w.heap[g]?) : HArr w1 g f rv n := by
  obtain ⟨cs, hh, r⟩ := h
  exact ⟨cs, hm.trans hh, r⟩
theorem HArr.drewN (h : HArr w g f rv n) (k : Nat) : HArr (w.drewN k) g f rv n := h
theorem HArr.set (h : HArr w g f rv n) (j v : Nat) (hj : j < 8) : HArr (w.setCell ⟨g, j, none⟩ (.int .u32 (v : Int))) g (fun i => if i = j then v else f i) rv n := by
  obtain ⟨cs, hh, hs, hc, h8, h9⟩ := h
  refine ⟨cs.setIfInBounds j (.int .u32 (v : Int)), Go.Joins.block_setCell hh _, by simp [hs], fun i hi => ?_, ?_, ?_⟩
  · by_cases e : i = j
    · subst e
      rw [Array.getElem?_setIfInBounds_self_of_lt (by omega)]
      simp
    · simp only [if_neg e]
      rw [Array.getElem?_setIfInBounds_ne (by omega)]
      exact hc i hi
  · rw [Array.getElem?_setIfInBounds_ne (by omega)]
    exact h8
  · rw [Array.getElem?_setIfInBounds_ne (by omega)]
    exact h9
end
theorem or_byte (p q : Nat) (hp : p < 16777216) (hq : q < 256) : Go.bits .or .u32 ((p : Int) * 256 % 4294967296) ((q : Int) % 4294967296) = ((p * 256 + q : Nat) : Int) := by
  rw [show (p : Int) * 256 % 4294967296 = ((p * 256 : Nat) : Int) by omega, show (q : Int) % 4294967296 = ((q : Nat) : Int) by omega]
  rw [(Sha.bits32 (p * 256) q (by show _ < 4294967296; omega) (by show _ < 4294967296; omega)).2.2, Nat.mul_comm p 256, show 256 = 2 ^ 8 from rfl, ← Nat.two_pow_add_eq_or_of_lt hq]
theorem word_step (b : Nat → Nat) (i j k v : Nat) (hv : v = Sha.pw b j (min 4 (i - 4 * j)) * 256 + b i) (hj : j = i / 4) :
    (if k = j then v else Sha.pw b k (min 4 (i - 4 * k))) = Sha.pw b k (min 4 (i + 1 - 4 * k)) := by
  split
  · rename_i e
    subst e
    rw [hv, show min 4 (i - 4 * k) = i % 4 by omega, show min 4 (i + 1 - 4 * k) = i % 4 + 1 by omega, Sha.pw, show 4 * k + i % 4 = i by omega]
  · rw [show min 4 (i - 4 * k) = min 4 (i + 1 - 4 * k) by omega]

set_option maxHeartbeats 8000000 in
set_option maxRecDepth 100000 in
theorem block_any (w : World) (g gb ob c : Nat) (x : Sha.Eight) (rv : Value) (n : Int) (b : Nat → Nat) (hx : x.ok) (hT : Tab w)
    (hg : w.heap[g]? = some (.cells (hashCells x rv n) 71 (0, 0))) (hb : ∀ i, b i < 256) (hc : ∀ i, i < 64 → w.cell? ⟨gb, ob + i, none⟩ = some (.int .u8 (b i : Int))) :
    Calls Tryd.prog 35 #[.pointer (some ⟨g, 0, none⟩), .slice (some ⟨gb, ob, none⟩) 64 c] w fun e w' => e = .returned (.tuple #[]) ∧ Only g w w' ∧ w'.heap[g]? = some (.cells (hashCells (Sha.comp x b) rv n) 71 (0, 0)) := by
  go_enter Tryd.func35, Tryd.ntmps35
  go_wp2
  have hA0 : Arr (w.alloc (.cells #[.int .u32 0, .int .u32 0, .int .u32 0, .int .u32 0, .int .u32 0, .int .u32 0, .int .u32 0, .int .u32 0, .int .u32 0, .int .u32 0, .int .u32 0, .int .u32 0, .int .u32 0, .int .u32 0, .int .u32 0, .int .u32 0] 93)) w.heap.size 93 16 (fun _ => 0) :=
    ⟨_, heap_alloc_new w _, rfl, fun i hi => by
      show (Array.replicate 16 (Value.int .u32 0))[i]? = _
      rw [Array.getElem?_replicate, if_pos hi]
      rfl⟩
  have HA0 := Lib.hid hA0
  have HX := Lib.hid hx
  have HT := Lib.hid hT
  have HG := Lib.hid hg
  have HC := Lib.hid hc
  have HB := Lib.hid hb
  clear hA0 hx hT hg hc hb
  go_loopw [17] (fun v17 wr => ∃ i : Nat, i ≤ 64 ∧ v17 = .int .i64 (i : Int) ∧ Arr wr w.heap.size 93 16 (fun j => Sha.pw b j (min 4 (i - 4 * j))) ∧ Below w.heap.size w wr) (fun v17 _ => 64 - (intOf v17).toNat)
  case atStart => exact ⟨0, by omega, rfl, HA0.out.eq (fun j _ => by simp [Sha.pw]), (Below.refl _ w).alloc (Nat.le_refl _) _⟩
  case round =>
    obtain ⟨i, hi, rfl, harr, hbe⟩ := hrel
    by_cases hlt : i < 64
    · have hci := pw_cell_below hbe (HC.out i hlt)
      obtain ⟨j, hj⟩ : ∃ j : Nat, j = i / 4 := ⟨_, rfl⟩
      have hj16 : j < 16 := by omega
      have e1 : (i : Int).tdiv 4 = (j : Int) := by rw [Int.tdiv_eq_ediv_of_nonneg (by omega)]; omega
      have m0 : (0 : Int) ≤ (j : Int) := by omega
      have m1 : (j : Int) < 16 := by omega
      have fz := harr.free j
      have hcj := harr.cell j hj16
      obtain ⟨p, hp⟩ : ∃ p : Nat, p = Sha.pw b j (min 4 (i - 4 * j)) := ⟨_, rfl⟩
      simp only [← hp] at hcj
      obtain ⟨q, hq⟩ : ∃ q : Nat, q = b i := ⟨_, rfl⟩
      rw [← hq] at hci
      have HR := Lib.hid harr
      have HBE := Lib.hid hbe
      replace hp := Lib.hid hp
      replace hq := Lib.hid hq
      replace hj := Lib.hid hj
      clear harr hbe
      go_wp2
      go_roundw
      case rel =>
        refine ⟨i + 1, by omega, by go_num, ?_, HBE.out.setCell (Nat.le_refl _) _⟩
        rw [or_byte p q (by rw [hp.out, show min 4 (i - 4 * j) = i % 4 by have := hj.out; omega]; exact Nat.lt_of_lt_of_le (Sha.pw_lt j (i % 4) (fun k _ => HB.out _)) (Nat.pow_le_pow_right (n := 256) (j := 3) (by decide) (by omega))) (by rw [hq.out]; exact HB.out i)]
        exact (HR.out.set j _ hj16).eq (fun k hk => word_step b i j k (p * 256 + q) (by rw [hp.out, hq.out]) hj.out)
      case measure => simp [intOf]; omega
    · obtain rfl : i = 64 := by omega
      have hgr := (hbe.block g (Array.getElem?_eq_some_iff.1 HG.out).1).trans HG.out
      have g0 : wr.cell? ⟨g, 0, none⟩ = some (.int .u32 (x.a : Int)) := Go.Joins.cell_of_block hgr 0
      have g1 : wr.cell? ⟨g, 1, none⟩ = some (.int .u32 (x.b : Int)) := Go.Joins.cell_of_block hgr 1
      have g2 : wr.cell? ⟨g, 2, none⟩ = some (.int .u32 (x.c : Int)) := Go.Joins.cell_of_block hgr 2
      have g3 : wr.cell? ⟨g, 3, none⟩ = some (.int .u32 (x.d : Int)) := Go.Joins.cell_of_block hgr 3
      have g4 : wr.cell? ⟨g, 4, none⟩ = some (.int .u32 (x.e : Int)) := Go.Joins.cell_of_block hgr 4
      have g5 : wr.cell? ⟨g, 5, none⟩ = some (.int .u32 (x.f : Int)) := Go.Joins.cell_of_block hgr 5
      have g6 : wr.cell? ⟨g, 6, none⟩ = some (.int .u32 (x.g : Int)) := Go.Joins.cell_of_block hgr 6
      have g7 : wr.cell? ⟨g, 7, none⟩ = some (.int .u32 (x.h : Int)) := Go.Joins.cell_of_block hgr 7
      have HR := Lib.hid harr
      have HBE := Lib.hid hbe
      replace hgr := Lib.hid hgr
      clear harr hbe
      go_wp2_with (refine wpList_load_mid rfl 94 (.global 0) rfl 0 0 rfl tabCells _ ?hc Tryd.underlying94 rfl (by kernel_rfl) ?_; (case hc => exact (HT.out.below (HBE.out.alloc HBE.out.size _)).range))
      have hS0 : Arr (wr.alloc (.cells #[.int .u32 (x.a : Int), .int .u32 (x.b : Int), .int .u32 (x.c : Int), .int .u32 (x.d : Int), .int .u32 (x.e : Int), .int .u32 (x.f : Int), .int .u32 (x.g : Int), .int .u32 (x.h : Int)] 69)) wr.heap.size 69 8 x.get :=
        ⟨_, heap_alloc_new wr _, rfl, fun i hi => by
          match i, hi with
          | 0, _ => rfl
          | 1, _ => rfl
          | 2, _ => rfl
          | 3, _ => rfl
          | 4, _ => rfl
          | 5, _ => rfl
          | 6, _ => rfl
          | 7, _ => rfl⟩
      have HS0 := Lib.hid hS0
      have hgs := HR.out.lt
      have hgw := HBE.out.size
      obtain ⟨gs, egs⟩ : ∃ gs : Nat, gs = wr.heap.size := ⟨_, rfl⟩
      obtain ⟨gw, egw⟩ : ∃ gw : Nat, gw = w.heap.size := ⟨_, rfl⟩
      rw [← egs] at hgs hgw
      rw [← egw] at hgs hgw
      clear hS0 g0 g1 g2 g3 g4 g5 g6 g7 hgr
      simp only [← egs, ← egw]
      replace egs := Lib.hid egs
      replace egw := Lib.hid egw
      generalize htc : tabCells.toArray = tc
      replace htc := Lib.hid htc
      go_loopw [39] (fun v39 wr2 => ∃ t : Nat, t ≤ 64 ∧ v39 = .int .i64 (t : Int) ∧ (∃ fw, Arr wr2 gw 93 16 fw ∧ (∀ i, fw i < Sha.M) ∧ ∀ d, d < 16 → fw ((t + d) % 16) = Sha.W (Sha.word b) (t + d)) ∧
        (∃ fs, Arr wr2 gs 69 8 fs ∧ ∀ i, i < 8 → fs ((i + 64 - t) % 8) = (Sha.st x (Sha.word b) t).get i) ∧ Below w.heap.size w wr2) (fun v39 _ => 64 - (intOf v39).toNat)
      case atStart =>
        have hl16 : ∀ i, i < 16 → Sha.pw b i (min 4 (64 - 4 * i)) = Sha.word b i := fun i hi => by rw [show min 4 (64 - 4 * i) = 4 by omega]; rfl
        refine ⟨0, by omega, rfl, ⟨_, egw.out ▸ HR.out.alloc _, ?_, ?_⟩, ⟨_, egs.out ▸ HS0.out, ?_⟩, HBE.out.alloc HBE.out.size _⟩
        · exact fun i => Nat.lt_of_lt_of_le (Sha.pw_lt i _ (fun k _ => HB.out _)) (Nat.pow_le_pow_right (n := 256) (j := 4) (by decide) (by omega))
        · intro d hd
          rw [Nat.zero_add, Nat.mod_eq_of_lt hd, Sha.W_lo _ hd]
          exact hl16 d hd
        · intro i hi
          rw [Nat.sub_zero, show (i + 64) % 8 = i by omega]
          rfl
      case round =>
        obtain ⟨t, ht, rfl, ⟨fw, hfw, hfm, hfd⟩, ⟨fs, hfs, hfx⟩, hb2⟩ := hrel
        by_cases htl : t < 64
        · obtain ⟨k, hk⟩ : ∃ k : Nat, k = Sha.kk t := ⟨_, rfl⟩
          have hix := fun w => index_at w tc t htl (.int .u32 (k : Int)) (by rw [hk, ← htc.out]; exact List.getElem?_toArray.trans (tabCells_at t htl))
          replace hk := Lib.hid hk
          replace hfw := Lib.hid hfw
          replace hfs := Lib.hid hfs
          replace hfm := Lib.hid hfm
          replace hfd := Lib.hid hfd
          replace hfx := Lib.hid hfx
          replace hb2 := Lib.hid hb2
          go_wp2_with fail
          have ht8 : (wr.alloc (.cells #[.int .i64 (t : Int)] 3)).cell? ⟨wr.heap.size, 0, none⟩ = some (.int .i64 (t : Int)) := Go.Joins.cell_of_block (heap_alloc_new wr _) 0
          have hfw2 := hfw.out.alloc (.cells #[.int .i64 (t : Int)] 3)
          have hfs2 := hfs.out.alloc (.cells #[.int .i64 (t : Int)] 3)
          have hb3 := hb2.out.alloc hb2.out.size (.cells #[.int .i64 (t : Int)] 3)
          have hgst := hfs.out.lt
          have hgwt := hfw.out.lt
          obtain ⟨gt, egt⟩ : ∃ gt : Nat, gt = wr.heap.size := ⟨_, rfl⟩
          rw [← egt] at hgst hgwt ht8
          simp only [← egt]
          generalize wr.alloc (.cells #[.int .i64 (t : Int)] 3) = w2 at ht8 hfw2 hfs2 hb3 ⊢
          clear egt hfw hfs hb2
          obtain ⟨X, eX⟩ : ∃ X : Sha.Eight, X = Sha.st x (Sha.word b) t := ⟨_, rfl⟩
          have hX : X.ok := eX ▸ Sha.st_ok HX.out _ t
          have hXX := hX.lt
          obtain ⟨k0, ek0⟩ : ∃ k : Nat, k = (0 + 64 - t) % 8 := ⟨_, rfl⟩
          obtain ⟨k1, ek1⟩ : ∃ k : Nat, k = (1 + 64 - t) % 8 := ⟨_, rfl⟩
          obtain ⟨k2, ek2⟩ : ∃ k : Nat, k = (2 + 64 - t) % 8 := ⟨_, rfl⟩
          obtain ⟨k3, ek3⟩ : ∃ k : Nat, k = (3 + 64 - t) % 8 := ⟨_, rfl⟩
          obtain ⟨k4, ek4⟩ : ∃ k : Nat, k = (4 + 64 - t) % 8 := ⟨_, rfl⟩
          obtain ⟨k5, ek5⟩ : ∃ k : Nat, k = (5 + 64 - t) % 8 := ⟨_, rfl⟩
          obtain ⟨k6, ek6⟩ : ∃ k : Nat, k = (6 + 64 - t) % 8 := ⟨_, rfl⟩
          obtain ⟨k7, ek7⟩ : ∃ k : Nat, k = (7 + 64 - t) % 8 := ⟨_, rfl⟩
          have c0 : w2.cell? ⟨gs, k0, none⟩ = some (.int .u32 (X.a : Int)) := by rw [ek0, hfs2.cell _ (Nat.mod_lt _ (by decide)), hfx.out 0 (by decide), eX]; rfl
          have c1 : w2.cell? ⟨gs, k1, none⟩ = some (.int .u32 (X.b : Int)) := by rw [ek1, hfs2.cell _ (Nat.mod_lt _ (by decide)), hfx.out 1 (by decide), eX]; rfl
          have c2 : w2.cell? ⟨gs, k2, none⟩ = some (.int .u32 (X.c : Int)) := by rw [ek2, hfs2.cell _ (Nat.mod_lt _ (by decide)), hfx.out 2 (by decide), eX]; rfl
          have c3 : w2.cell? ⟨gs, k3, none⟩ = some (.int .u32 (X.d : Int)) := by rw [ek3, hfs2.cell _ (Nat.mod_lt _ (by decide)), hfx.out 3 (by decide), eX]; rfl
          have c4 : w2.cell? ⟨gs, k4, none⟩ = some (.int .u32 (X.e : Int)) := by rw [ek4, hfs2.cell _ (Nat.mod_lt _ (by decide)), hfx.out 4 (by decide), eX]; rfl
          have c5 : w2.cell? ⟨gs, k5, none⟩ = some (.int .u32 (X.f : Int)) := by rw [ek5, hfs2.cell _ (Nat.mod_lt _ (by decide)), hfx.out 5 (by decide), eX]; rfl
          have c6 : w2.cell? ⟨gs, k6, none⟩ = some (.int .u32 (X.g : Int)) := by rw [ek6, hfs2.cell _ (Nat.mod_lt _ (by decide)), hfx.out 6 (by decide), eX]; rfl
          have c7 : w2.cell? ⟨gs, k7, none⟩ = some (.int .u32 (X.h : Int)) := by rw [ek7, hfs2.cell _ (Nat.mod_lt _ (by decide)), hfx.out 7 (by decide), eX]; rfl
          have A0 := Lib.hid (fun w (h : w.cell? ⟨gt, 0, none⟩ = some (.int .i64 (t : Int))) => (ek0 ▸ at_any w gs gt 0 t (by decide) ht h : Calls Tryd.prog 45 #[.int .i64 0, .pointer (some ⟨gs, 0, none⟩), .pointer (some ⟨gt, 0, none⟩)] w fun e w' => e = .returned (.pointer (some ⟨gs, k0, none⟩)) ∧ w' = w))
          have A1 := Lib.hid (fun w (h : w.cell? ⟨gt, 0, none⟩ = some (.int .i64 (t : Int))) => (ek1 ▸ at_any w gs gt 1 t (by decide) ht h : Calls Tryd.prog 45 #[.int .i64 1, .pointer (some ⟨gs, 0, none⟩), .pointer (some ⟨gt, 0, none⟩)] w fun e w' => e = .returned (.pointer (some ⟨gs, k1, none⟩)) ∧ w' = w))
          have A2 := Lib.hid (fun w (h : w.cell? ⟨gt, 0, none⟩ = some (.int .i64 (t : Int))) => (ek2 ▸ at_any w gs gt 2 t (by decide) ht h : Calls Tryd.prog 45 #[.int .i64 2, .pointer (some ⟨gs, 0, none⟩), .pointer (some ⟨gt, 0, none⟩)] w fun e w' => e = .returned (.pointer (some ⟨gs, k2, none⟩)) ∧ w' = w))
          have A3 := Lib.hid (fun w (h : w.cell? ⟨gt, 0, none⟩ = some (.int .i64 (t : Int))) => (ek3 ▸ at_any w gs gt 3 t (by decide) ht h : Calls Tryd.prog 45 #[.int .i64 3, .pointer (some ⟨gs, 0, none⟩), .pointer (some ⟨gt, 0, none⟩)] w fun e w' => e = .returned (.pointer (some ⟨gs, k3, none⟩)) ∧ w' = w))
          have A4 := Lib.hid (fun w (h : w.cell? ⟨gt, 0, none⟩ = some (.int .i64 (t : Int))) => (ek4 ▸ at_any w gs gt 4 t (by decide) ht h : Calls Tryd.prog 45 #[.int .i64 4, .pointer (some ⟨gs, 0, none⟩), .pointer (some ⟨gt, 0, none⟩)] w fun e w' => e = .returned (.pointer (some ⟨gs, k4, none⟩)) ∧ w' = w))
          have A5 := Lib.hid (fun w (h : w.cell? ⟨gt, 0, none⟩ = some (.int .i64 (t : Int))) => (ek5 ▸ at_any w gs gt 5 t (by decide) ht h : Calls Tryd.prog 45 #[.int .i64 5, .pointer (some ⟨gs, 0, none⟩), .pointer (some ⟨gt, 0, none⟩)] w fun e w' => e = .returned (.pointer (some ⟨gs, k5, none⟩)) ∧ w' = w))
          have A6 := Lib.hid (fun w (h : w.cell? ⟨gt, 0, none⟩ = some (.int .i64 (t : Int))) => (ek6 ▸ at_any w gs gt 6 t (by decide) ht h : Calls Tryd.prog 45 #[.int .i64 6, .pointer (some ⟨gs, 0, none⟩), .pointer (some ⟨gt, 0, none⟩)] w fun e w' => e = .returned (.pointer (some ⟨gs, k6, none⟩)) ∧ w' = w))
          have A7 := Lib.hid (fun w (h : w.cell? ⟨gt, 0, none⟩ = some (.int .i64 (t : Int))) => (ek7 ▸ at_any w gs gt 7 t (by decide) ht h : Calls Tryd.prog 45 #[.int .i64 7, .pointer (some ⟨gs, 0, none⟩), .pointer (some ⟨gt, 0, none⟩)] w fun e w' => e = .returned (.pointer (some ⟨gs, k7, none⟩)) ∧ w' = w))
          have n1 : (⟨gs, k7, none⟩ : Addr) ≠ ⟨gs, k1, none⟩ := by simp only [ne_eq, Addr.mk.injEq, true_and, and_true]; omega
          have n2 : (⟨gs, k7, none⟩ : Addr) ≠ ⟨gs, k2, none⟩ := by simp only [ne_eq, Addr.mk.injEq, true_and, and_true]; omega
          have n31 : (⟨gs, k3, none⟩ : Addr) ≠ ⟨gs, k1, none⟩ := by simp only [ne_eq, Addr.mk.injEq, true_and, and_true]; omega
          have n32 : (⟨gs, k3, none⟩ : Addr) ≠ ⟨gs, k2, none⟩ := by simp only [ne_eq, Addr.mk.injEq, true_and, and_true]; omega
          have n37 : (⟨gs, k3, none⟩ : Addr) ≠ ⟨gs, k7, none⟩ := by simp only [ne_eq, Addr.mk.injEq, true_and, and_true]; omega
          have f3 : w2.frozen? ⟨gs, k3, none⟩ = false := hfs2.free k3
          have f7 : w2.frozen? ⟨gs, k7, none⟩ = false := hfs2.free k7
          replace hX := Lib.hid hX
          replace hXX := Lib.hid hXX
          replace eX := Lib.hid eX
          replace ek0 := Lib.hid ek0
          replace ek1 := Lib.hid ek1
          replace ek2 := Lib.hid ek2
          replace ek3 := Lib.hid ek3
          replace ek4 := Lib.hid ek4
          replace ek5 := Lib.hid ek5
          replace ek6 := Lib.hid ek6
          replace ek7 := Lib.hid ek7
          obtain ⟨s0, es0⟩ : ∃ s : Nat, s = X.a := ⟨_, rfl⟩
          rw [← es0] at c0
          replace es0 := Lib.hid es0
          obtain ⟨s1, es1⟩ : ∃ s : Nat, s = X.b := ⟨_, rfl⟩
          rw [← es1] at c1
          replace es1 := Lib.hid es1
          obtain ⟨s2, es2⟩ : ∃ s : Nat, s = X.c := ⟨_, rfl⟩
          rw [← es2] at c2
          replace es2 := Lib.hid es2
          obtain ⟨s3, es3⟩ : ∃ s : Nat, s = X.d := ⟨_, rfl⟩
          rw [← es3] at c3
          replace es3 := Lib.hid es3
          obtain ⟨s4, es4⟩ : ∃ s : Nat, s = X.e := ⟨_, rfl⟩
          rw [← es4] at c4
          replace es4 := Lib.hid es4
          obtain ⟨s5, es5⟩ : ∃ s : Nat, s = X.f := ⟨_, rfl⟩
          rw [← es5] at c5
          replace es5 := Lib.hid es5
          obtain ⟨s6, es6⟩ : ∃ s : Nat, s = X.g := ⟨_, rfl⟩
          rw [← es6] at c6
          replace es6 := Lib.hid es6
          obtain ⟨s7, es7⟩ : ∃ s : Nat, s = X.h := ⟨_, rfl⟩
          rw [← es7] at c7
          replace es7 := Lib.hid es7
          replace hfw2 := Lib.hid hfw2
          replace hfs2 := Lib.hid hfs2
          replace hb3 := Lib.hid hb3
          go_quiet ((go_at_call 45; first | exact Calls.quiet_of_same (A4.out _ ht8) | exact Calls.quiet_of_same (A0.out _ ht8)))
          obtain ⟨y1, ey1⟩ : ∃ y : Nat, y = Sha.big1 s4 := ⟨_, rfl⟩
          have C1 := Lib.hid (fun w => sp_big1 w s4 y1 (by rw [es4.out]; exact hX.out 4) ey1)
          obtain ⟨wt, ewt⟩ : ∃ v : Nat, v = Sha.W (Sha.word b) t := ⟨_, rfl⟩
          have CN := Lib.hid (fun w (h : Arr w gw 93 16 fw) => (ewt ▸ next_arr w gw t fw (Sha.word b) htl h hfm.out hfd.out : Calls Tryd.prog 47 #[.pointer (some ⟨gw, 0, none⟩), .int .i64 (t : Int)] w fun e w' => e = .returned (.int .u32 (wt : Int)) ∧ ∃ f', Arr w' gw 93 16 f' ∧ (∀ i, f' i < Sha.M) ∧ (∀ d, d < 16 → f' ((t + 1 + d) % 16) = Sha.W (Sha.word b) (t + 1 + d)) ∧ Only gw w w'))
          have x1 : gs ≠ gw := by omega
          have x2 : gt ≠ gw := by omega
          replace ey1 := Lib.hid ey1
          replace ewt := Lib.hid ewt
          go_wp2_with fail
          go_region_held3 (fun w' => w'.cell? ⟨gs, k7, none⟩ = some (.int .u32 (s7 : Int)) ∧ w'.cell? ⟨gs, k6, none⟩ = some (.int .u32 (s6 : Int)) ∧ w'.cell? ⟨gs, k5, none⟩ = some (.int .u32 (s5 : Int)) ∧ w'.cell? ⟨gt, 0, none⟩ = some (.int .i64 (t : Int))) (first | exact ⟨c7, c6, c5, ht8⟩ | exact ⟨d7, d6, d5, dt8⟩) (first
            | (go_at_call 45; (with_reducible refine (A7.out _ ?hT).mono ?_); (case hT => first | exact ht8 | exact dt8); rintro e w' ⟨rfl, rfl⟩)
            | (go_at_call 45; (with_reducible refine (A6.out _ ?hT).mono ?_); (case hT => first | exact ht8 | exact dt8); rintro e w' ⟨rfl, rfl⟩)
            | (go_at_call 45; (with_reducible refine (A5.out _ ?hT).mono ?_); (case hT => first | exact ht8 | exact dt8); rintro e w' ⟨rfl, rfl⟩)
            | (go_at_call 46; (with_reducible refine (C1.out _).mono ?_); rintro e w' ⟨rfl, ⟨nd, rfl⟩⟩)
            | (go_at_call 47; (with_reducible refine (CN.out _ (hfw2.out.drewN _)).mono ?_); rintro e w3 ⟨rfl, fw', hfw3, hfm', hfd', hO3⟩; have d7 := hO3.cell c7 x1; have d6 := hO3.cell c6 x1; have d5 := hO3.cell c5 x1; have d3 := hO3.cell c3 x1; have d2 := hO3.cell c2 x1; have d1 := hO3.cell c1 x1; have dt8 := hO3.cell ht8 x2; have HFW3 := Lib.hid hfw3; have HFM3 := Lib.hid hfm'; have HFD3 := Lib.hid hfd'; have HO3 := Lib.hid hO3; clear hfw3 hfm' hfd' hO3))
          obtain ⟨u, eu⟩ : ∃ u : Nat, u = (s7 + y1 + Sha.ch s4 s5 s6 + k + wt) % Sha.M := ⟨_, rfl⟩
          obtain ⟨l0, l1, l2, l3, l4, l5, l6, l7⟩ := hXX.out
          have hup := up_eq s4 s5 s6 s7 k wt y1 (es5.out ▸ l5) (es4.out ▸ l4) (es6.out ▸ l6) u eu
          simp only [hup]
          obtain ⟨v3, ev3⟩ : ∃ v : Nat, v = (s3 + u) % Sha.M := ⟨_, rfl⟩
          have hv3 := add_eq s3 u v3 ev3
          have hfs3 := HO3.out.arr (hfs2.out.drewN nq) x1
          have fz3 := hfs3.free k3
          replace hfs3 := Lib.hid hfs3
          replace eu := Lib.hid eu
          replace ev3 := Lib.hid ev3
          replace l0 := Lib.hid (show s0 < Sha.M from es0.out ▸ l0)
          replace l1 := Lib.hid (show s1 < Sha.M from es1.out ▸ l1)
          replace l2 := Lib.hid (show s2 < Sha.M from es2.out ▸ l2)
          clear hup l3 l4 l5 l6 l7
          go_wp2_with (first
            | (go_at_call 45; (with_reducible refine (A3.out _ dt8).mono ?_); rintro e w' ⟨rfl, rfl⟩))
          have b3 : k3 < 8 := by rw [ek3.out]; exact Nat.mod_lt _ (by decide)
          have b7 : k7 < 8 := by rw [ek7.out]; exact Nat.mod_lt _ (by decide)
          have x3 : gs ≠ gt := by omega
          have x4 : (⟨gs, k7, none⟩ : Addr) ≠ ⟨gt, 0, none⟩ := fun h => x3 (congrArg Addr.block h)
          have x5 : (⟨gs, k3, none⟩ : Addr) ≠ ⟨gt, 0, none⟩ := fun h => x3 (congrArg Addr.block h)
          have hfs4 := hfs3.out.set k3 v3 b3
          have hfw4 := HFW3.out.other ⟨gs, k3, none⟩ (.int .u32 (v3 : Int)) (Ne.symm x1)
          have hb4 := (HO3.out.below (pw_below_drewN hb3.out _) (by rw [egw.out]; exact Nat.le_refl _)).setCell (p := ⟨gs, k3, none⟩) (by show _ ≤ gs; rw [← egw.out]; omega) (.int .u32 (v3 : Int))
          have e1 := cell_ne (v := .int .u32 (v3 : Int)) n31 d1
          have e2 := cell_ne (v := .int .u32 (v3 : Int)) n32 d2
          have e7 := cell_ne (v := .int .u32 (v3 : Int)) n37 d7
          have et8 := cell_ne (v := .int .u32 (v3 : Int)) x5 dt8
          have ez7 := hfs4.free k7
          generalize w'.setCell ⟨gs, k3, none⟩ (.int .u32 (v3 : Int)) = w4 at hfs4 hfw4 hb4 e1 e2 e7 et8 ez7 ⊢
          replace hfs4 := Lib.hid hfs4
          replace hfw4 := Lib.hid hfw4
          replace hb4 := Lib.hid hb4
          clear d1 d2 d3 d5 d6 d7 dt8 c0 c1 c2 c3 c4 c5 c6 c7 ht8 f3 f7 fz3 hv3
          obtain ⟨y0, ey0⟩ : ∃ y : Nat, y = Sha.big0 s0 := ⟨_, rfl⟩
          have C0 := Lib.hid (fun w => sp_big0 w s0 y0 l0.out ey0)
          obtain ⟨v7, ev7⟩ : ∃ v : Nat, v = (u + y0 + Sha.maj s0 s1 s2) % Sha.M := ⟨_, rfl⟩
          have hdn := Lib.hid (down_eq s0 s1 s2 u y0 l0.out l1.out l2.out v7 ev7)
          replace ey0 := Lib.hid ey0
          replace ev7 := Lib.hid ev7
          go_region_held3 (fun w' => w'.cell? ⟨gs, k1, none⟩ = some (.int .u32 (s1 : Int)) ∧ w'.cell? ⟨gs, k2, none⟩ = some (.int .u32 (s2 : Int)) ∧ w'.cell? ⟨gt, 0, none⟩ = some (.int .i64 (t : Int))) (first | exact ⟨e1, e2, et8⟩ | exact ⟨cell_ne n1 e1, cell_ne n2 e2, cell_ne x4 et8⟩) (first
            | (go_at_call 45; (with_reducible refine (A7.out _ ?hT).mono ?_); (case hT => exact et8); rintro e w' ⟨rfl, rfl⟩)
            | (go_at_call 45; (with_reducible refine (A1.out _ ?hT).mono ?_); (case hT => exact et8); rintro e w' ⟨rfl, rfl⟩)
            | (go_at_call 45; (with_reducible refine (A2.out _ ?hT).mono ?_); (case hT => exact et8); rintro e w' ⟨rfl, rfl⟩)
            | (go_at_call 46; (with_reducible refine (C0.out _).mono ?_); rintro e w' ⟨rfl, ⟨nd, rfl⟩⟩))
          all_goals go_wp2
          simp only [hdn.out]
          go_roundw
          case rel =>
            refine ⟨t + 1, by omega, by go_num, ⟨fw', ((hfw4.out.drewN _).other ⟨gs, k7, none⟩ _ (Ne.symm x1)), HFM3.out, HFD3.out⟩, ⟨_, (hfs4.out.drewN _).set k7 v7 b7, fun i hi => ?_⟩, (pw_below_drewN hb4.out _).setCell (p := ⟨gs, k7, none⟩) (by show _ ≤ gs; rw [← egw.out]; omega) _⟩
            rw [ek7.out, ek3.out]
            refine round_rel x (Sha.word b) t htl fs hfx.out u v3 v7 ?_ ?_ ?_ i hi
            · rw [eu.out, ey1.out, hk.out, ewt.out, es7.out, es6.out, es5.out, es4.out, eX.out, Sha.up]
            · rw [ev3.out, es3.out, eX.out]
            · rw [ev7.out, ey0.out, es0.out, es1.out, es2.out, eX.out]
          case measure => simp [intOf]; omega
        · obtain rfl : t = 64 := by omega
          have hlt0 := (Array.getElem?_eq_some_iff.1 HG.out).1
          have hh0 : HArr wr g x.get rv n := (HArr.of HG.out).move (hb2.block g hlt0)
          have ho0 : Only g w wr := Only.of_below hb2 g
          have xgs : gs ≠ g := by have := egw.out; omega
          have hs0 : Arr wr gs 69 8 (Sha.st x (Sha.word b) 64).get := hfs.eq (fun i hi => by rw [← hfx i hi, show (i + 64 - 64) % 8 = i by omega])
          replace hh0 := Lib.hid hh0
          replace ho0 := Lib.hid ho0
          replace hs0 := Lib.hid hs0
          clear hfw hfm hfd hfs hfx hb2
          go_wp2
          go_loopw [115] (fun v115 wr3 => ∃ i : Nat, i ≤ 8 ∧ v115 = .int .i64 (i : Int) ∧ HArr wr3 g (fun j => if j < i then (Sha.comp x b).get j else x.get j) rv n ∧ Only g w wr3 ∧ Arr wr3 gs 69 8 (Sha.st x (Sha.word b) 64).get) (fun v115 _ => 8 - (intOf v115).toNat)
          case atStart => exact ⟨0, by omega, rfl, by simpa using hh0.out, ho0.out, hs0.out⟩
          case round =>
            obtain ⟨i, hi, rfl, hh, ho, hs⟩ := hrel
            by_cases hil : i < 8
            · obtain ⟨p, ep⟩ : ∃ p : Nat, p = x.get i := ⟨_, rfl⟩
              obtain ⟨q, eq⟩ : ∃ q : Nat, q = (Sha.st x (Sha.word b) 64).get i := ⟨_, rfl⟩
              have c1 := hh.cell i hil
              simp only [Nat.lt_irrefl, if_false] at c1
              rw [← ep] at c1
              have c2 := hs.cell i hil
              rw [← eq] at c2
              have f1 := hh.free i
              have m0 : (0 : Int) ≤ (i : Int) := by omega
              have m1 : (i : Int) < 8 := by omega
              obtain ⟨v, ev⟩ : ∃ v : Nat, v = (p + q) % Sha.M := ⟨_, rfl⟩
              have hv := add_eq p q v ev
              replace ep := Lib.hid ep
              replace eq := Lib.hid eq
              replace ev := Lib.hid ev
              replace hh := Lib.hid hh
              replace ho := Lib.hid ho
              replace hs := Lib.hid hs
              go_wp2
              go_region
              all_goals go_wp2
              go_roundw
              case rel =>
                refine ⟨i + 1, by omega, by go_num, ?_, (ho.out.set i _).drewN 1, (hs.out.other ⟨g, i, none⟩ _ xgs)⟩
                obtain ⟨cs, hh1, hh2, hh3, hh4⟩ := hh.out.set i v hil
                refine ⟨cs, hh1, hh2, fun j hj => ?_, hh4⟩
                rw [hh3 j hj]
                refine congrArg (fun z : Nat => some (Value.int .u32 (z : Int))) ?_
                dsimp only
                by_cases e : j = i
                · subst e
                  rw [if_pos rfl, if_pos (by omega), ev.out, ep.out, eq.out, Sha.comp, Sha.plus_get]
                · rw [if_neg e]
                  by_cases e2 : j < i
                  · rw [if_pos e2, if_pos (by omega)]
                  · rw [if_neg e2, if_neg (by omega)]
              case measure => simp [intOf]; omega
            · obtain rfl : i = 8 := by omega
              replace hh := Lib.hid hh
              replace ho := Lib.hid ho
              go_wp2
              go_end0
              exact ⟨rfl, ho.out, hh.out.back (fun i hi => if_pos hi)⟩
end Go.Proofs.YtkmbpakhbicnaaaDoor
