/- domain.Scalar: a scalar of a tag and parts. -/
import Derived.Test.YtkmbpakhbicnaaaDoorLnC
import Derived.Test.YtkmbpakhbicnaaaDoorFeed
import Derived.Deep.RegionWith
import Derived.Deep.RegionHeld3
namespace Go.Proofs.YtkmbpakhbicnaaaDoor
open Go.RowKit Go.Proofs.YtkmbpakhbicnaaaDoorW.PrintWords Go.Lib
namespace Lm
/-- The sum behind a first byte. -/
def sumI (i : Nat) (h : ByteArray) : ByteArray := Sha.hash (beB i 1 ++ h)
theorem sumI_size (i : Nat) (h : ByteArray) : (sumI i h).size = 32 := Sha.hash_size _
/-- The eight limbs of the number that a text's two sums are. -/
def wl (h : ByteArray) (i : Nat) : Nat := if i < 4 then fbs (sumI 1 h) i else fbs (sumI 0 h) (i - 4)
theorem wl_lt (h : ByteArray) (i : Nat) : wl h i < 18446744073709551616 := by
  unfold wl
  split <;> exact fbs_lt _ _
def sclr (h : ByteArray) : Nat := val8 (wl h) % Q
theorem val8_lt {f : Nat → Nat} (h : ∀ i, f i < 18446744073709551616) : val8 f < B8 := by
  have h0 := h 0
  have h1 := h 1
  have h2 := h 2
  have h3 := h 3
  have h4 := h 4
  have h5 := h 5
  have h6 := h 6
  have h7 := h 7
  unfold val8 B8
  omega
theorem sclr_lt (h : ByteArray) : sclr h < Q := Nat.mod_lt _ (by decide)
theorem sclr_lt4 (h : ByteArray) : sclr h < B4 := Nat.lt_trans (sclr_lt h) Q_lt
theorem wide_wl (h : ByteArray) : Value.agg #[u (fbs (sumI 1 h) 0), u (fbs (sumI 1 h) 1), u (fbs (sumI 1 h) 2), u (fbs (sumI 1 h) 3), u (fbs (sumI 0 h) 0), u (fbs (sumI 0 h) 1), u (fbs (sumI 0 h) 2), u (fbs (sumI 0 h) 3)] = wideV (val8 (wl h)) :=
  (show _ = wideL (wl h) from rfl).trans (canon8 (fun i _ => wl_lt h i))
/-- The halves so far. -/
def hf (f g : Nat → Nat) (k i : Nat) : Nat := if i < 4 * k then (if i < 4 then f i else g (i - 4)) else 0
/-- The middle of Scalar: the result's place, the halves. -/
structure SC (w X : World) (f : Nat → Nat) : Prop where
  below : Below w.heap.size w X
  z : X.heap[w.heap.size]? = some (.cells #[.int .u64 0, .int .u64 0, .int .u64 0, .int .u64 0] 38 (0, 0))
  h : X.heap[w.heap.size + 1]? = some (.cells (eight f) 58 (0, 0))
theorem SC.lt {w X : World} {f : Nat → Nat} (h : SC w X f) : w.heap.size + 1 < X.heap.size := (Array.getElem?_eq_some_iff.1 h.h).1
theorem SC.call {w X X' : World} {f : Nat → Nat} (h : SC w X f) (hb : Below X.heap.size X X') : SC w X' f :=
  ⟨below_then h.below h.below.size hb, (hb.block _ (Array.getElem?_eq_some_iff.1 h.z).1).trans h.z, (hb.block _ (Array.getElem?_eq_some_iff.1 h.h).1).trans h.h⟩
theorem SC.alloc {w X : World} {f : Nat → Nat} (h : SC w X f) (o : Obj) : SC w (X.alloc o) f := h.call ((Below.refl _ X).alloc (Nat.le_refl _) o)
theorem SC.drew {w X : World} {f : Nat → Nat} (h : SC w X f) : SC w X.drew f := ⟨h.below.drew, h.z, h.h⟩
theorem SC.since {w X X' : World} {n : Nat} {f : Nat → Nat} (h : SC w X f) (hn : w.heap.size + 1 < n) (_hx : n ≤ X.heap.size) (hb : Below n X X') : SC w X' f :=
  ⟨h.below.trans (hb.mono (by omega)), (hb.block _ (by omega)).trans h.z, (hb.block _ hn).trans h.h⟩
theorem hf_zero (f g : Nat → Nat) : eight (hf f g 0) = #[.int .u64 0, .int .u64 0, .int .u64 0, .int .u64 0, .int .u64 0, .int .u64 0, .int .u64 0, .int .u64 0] := rfl
theorem SC.start {w w1 : World} (f g : Nat → Nat) (hD : Below w.heap.size w w1) (hz : w1.heap[w.heap.size]? = some (.cells #[.int .u64 0, .int .u64 0, .int .u64 0, .int .u64 0] 38 (0, 0))) (hs : w1.heap.size = w.heap.size + 1) :
    SC w (w1.alloc (.cells #[.int .u64 0, .int .u64 0, .int .u64 0, .int .u64 0, .int .u64 0, .int .u64 0, .int .u64 0, .int .u64 0] 58)) (hf f g 0) := by
  have n := heap_alloc_new w1 (.cells (eight (hf f g 0)) 58)
  rw [hs] at n
  exact ⟨hD.alloc hD.size _, (((Below.refl _ w1).alloc (Nat.le_refl _) (.cells (eight (hf f g 0)) 58)).block _ (by omega)).trans hz, n⟩
theorem SC.put {w X : World} {f : Nat → Nat} (h : SC w X f) (i v : Nat) (hi : i < 8) : SC w (X.setCell ⟨w.heap.size + 1, i, none⟩ (u v)) (upd f i v) :=
  ⟨below_set h.below _ _ (Nat.le_succ _), (Below.heap_setCell _ ⟨w.heap.size + 1, i, none⟩ _ _ (Nat.ne_of_lt (Nat.lt_succ_self _))).trans h.z, by
    have := Go.Joins.block_setCell h.h (i := i) (v := u v)
    rw [eight_set f v i hi] at this
    exact this⟩
theorem upd_hf0 (f g : Nat → Nat) : upd (upd (upd (upd (hf f g 0) 0 (f 0)) 1 (f 1)) 2 (f 2)) 3 (f 3) = hf f g 1 := by
  funext i
  unfold upd hf
  by_cases h0 : i = 0
  · subst h0; simp
  by_cases h1 : i = 1
  · subst h1; simp
  by_cases h2 : i = 2
  · subst h2; simp
  by_cases h3 : i = 3
  · subst h3; simp
  simp only [h0, h1, h2, h3, if_false, show ¬ i < 4 * 0 by omega, show ¬ i < 4 * 1 by omega]
theorem upd_hf1 (f g : Nat → Nat) : upd (upd (upd (upd (hf f g 1) 4 (g 0)) 5 (g 1)) 6 (g 2)) 7 (g 3) = hf f g 2 := by
  funext i
  unfold upd hf
  by_cases h0 : i = 4
  · subst h0; simp
  by_cases h1 : i = 5
  · subst h1; simp
  by_cases h2 : i = 6
  · subst h2; simp
  by_cases h3 : i = 7
  · subst h3; simp
  simp only [h0, h1, h2, h3, if_false]
  by_cases h4 : i < 4
  · simp only [h4, if_true, show i < 4 * 2 by omega]
  · simp only [show ¬ i < 4 * 1 by omega, show ¬ i < 4 * 2 by omega, if_false]
theorem SC.put0 {w X : World} {f g : Nat → Nat} (s : SC w X (hf f g 0)) : SC w ((((X.setCell ⟨w.heap.size + 1, 0, none⟩ (u (f 0))).setCell ⟨w.heap.size + 1, 1, none⟩ (u (f 1))).setCell ⟨w.heap.size + 1, 2, none⟩ (u (f 2))).setCell ⟨w.heap.size + 1, 3, none⟩ (u (f 3))) (hf f g 1) := by
  have := (((s.put 0 (f 0) (by omega)).put 1 (f 1) (by omega)).put 2 (f 2) (by omega)).put 3 (f 3) (by omega)
  rw [upd_hf0] at this
  exact this
theorem SC.put1 {w X : World} {f g : Nat → Nat} (s : SC w X (hf f g 1)) : SC w ((((X.setCell ⟨w.heap.size + 1, 4, none⟩ (u (g 0))).setCell ⟨w.heap.size + 1, 5, none⟩ (u (g 1))).setCell ⟨w.heap.size + 1, 6, none⟩ (u (g 2))).setCell ⟨w.heap.size + 1, 7, none⟩ (u (g 3))) (hf f g 2) := by
  have := (((s.put 4 (g 0) (by omega)).put 5 (g 1) (by omega)).put 6 (g 2) (by omega)).put 7 (g 3) (by omega)
  rw [upd_hf1] at this
  exact this
theorem SC.far {w X : World} {f : Nat → Nat} (h : SC w X f) (R i : Nat) (hR : w.heap.size + 1 < R) (v : Value) : SC w (X.setCell ⟨R, i, none⟩ v) f :=
  ⟨below_set h.below _ _ (by show w.heap.size ≤ R; omega), (Below.heap_setCell _ ⟨R, i, none⟩ _ _ (by show w.heap.size ≠ R; omega)).trans h.z, (Below.heap_setCell _ ⟨R, i, none⟩ _ _ (by show w.heap.size + 1 ≠ R; omega)).trans h.h⟩
/-- What the reading of the halves asks. -/
abbrev SCS (w : World) (f g : Nat → Nat) (X : World) : Prop :=
  X.cell? ⟨w.heap.size + 1, 0, none⟩ = some (u (f 0)) ∧ X.cell? ⟨w.heap.size + 1, 1, none⟩ = some (u (f 1)) ∧ X.cell? ⟨w.heap.size + 1, 2, none⟩ = some (u (f 2)) ∧ X.cell? ⟨w.heap.size + 1, 3, none⟩ = some (u (f 3)) ∧
    X.cell? ⟨w.heap.size + 1, 4, none⟩ = some (u (g 0)) ∧ X.cell? ⟨w.heap.size + 1, 5, none⟩ = some (u (g 1)) ∧ X.cell? ⟨w.heap.size + 1, 6, none⟩ = some (u (g 2)) ∧ X.cell? ⟨w.heap.size + 1, 7, none⟩ = some (u (g 3)) ∧ Hid (SC w X (hf f g 2))
theorem SC.mkS {w X : World} {f g : Nat → Nat} (h : SC w X (hf f g 2)) : SCS w f g X :=
  ⟨Go.Joins.cell_of_block h.h 0, Go.Joins.cell_of_block h.h 1, Go.Joins.cell_of_block h.h 2, Go.Joins.cell_of_block h.h 3, Go.Joins.cell_of_block h.h 4, Go.Joins.cell_of_block h.h 5, Go.Joins.cell_of_block h.h 6, Go.Joins.cell_of_block h.h 7, Lib.hid h⟩
/-- The middle of Scalar, the halves read: the places of the two. -/
structure SD (w X : World) (f g : Nat → Nat) (a b : Nat) : Prop where
  below : Below w.heap.size w X
  z : X.heap[w.heap.size]? = some (.cells #[.int .u64 0, .int .u64 0, .int .u64 0, .int .u64 0] 38 (0, 0))
  hi : X.heap[a]? = some (.cells #[u (f 0), u (f 1), u (f 2), u (f 3)] 38 (0, 0))
  lo : X.heap[b]? = some (.cells #[u (g 0), u (g 1), u (g 2), u (g 3)] 38 (0, 0))
theorem SD.call {w X X' : World} {f g : Nat → Nat} {a b : Nat} (h : SD w X f g a b) (hb : Below X.heap.size X X') : SD w X' f g a b :=
  ⟨below_then h.below h.below.size hb, (hb.block _ (Array.getElem?_eq_some_iff.1 h.z).1).trans h.z, (hb.block _ (Array.getElem?_eq_some_iff.1 h.hi).1).trans h.hi, (hb.block _ (Array.getElem?_eq_some_iff.1 h.lo).1).trans h.lo⟩
theorem SD.drew {w X : World} {f g : Nat → Nat} {a b : Nat} (h : SD w X f g a b) : SD w X.drew f g a b := ⟨h.below.drew, h.z, h.hi, h.lo⟩
theorem SD.of1 {w X : World} {f g : Nat → Nat} (h : SC w X (hf f g 2)) :
    SD w ((X.alloc (.cells #[u (f 0), u (f 1), u (f 2), u (f 3)] 38)).alloc (.cells #[u (g 0), u (g 1), u (g 2), u (g 3)] 38)) f g X.heap.size (X.heap.size + 1) :=
  ⟨((h.alloc _).alloc _).below, ((h.alloc _).alloc _).z, heap_alloc2_old X _ _, heap_alloc2_new X _ _⟩
theorem SD.of2 {w X : World} {f g : Nat → Nat} (h : SC w X (hf f g 2)) :
    SD w ((X.alloc (.cells #[u (g 0), u (g 1), u (g 2), u (g 3)] 38)).alloc (.cells #[u (f 0), u (f 1), u (f 2), u (f 3)] 38)) f g (X.heap.size + 1) X.heap.size :=
  ⟨((h.alloc _).alloc _).below, ((h.alloc _).alloc _).z, heap_alloc2_new X _ _, heap_alloc2_old X _ _⟩
/-- Of it what lasts to the end. -/
structure SE (w X : World) (f g : Nat → Nat) (a b : Nat) : Prop where
  below : Below w.heap.size w X
  hi : X.heap[a]? = some (.cells #[u (f 0), u (f 1), u (f 2), u (f 3)] 38 (0, 0))
  lo : X.heap[b]? = some (.cells #[u (g 0), u (g 1), u (g 2), u (g 3)] 38 (0, 0))
theorem SD.se {w X : World} {f g : Nat → Nat} {a b : Nat} (h : SD w X f g a b) : SE w X f g a b := ⟨h.below, h.hi, h.lo⟩
theorem SE.four {w X : World} {f g : Nat → Nat} {a b : Nat} (h : SE w X f g a b) (ha : w.heap.size < a) (hb : w.heap.size < b) (v0 v1 v2 v3 : Value) : SE w (four X w.heap.size v0 v1 v2 v3) f g a b :=
  ⟨below_four h.below w.heap.size (Nat.le_refl _) _ _ _ _, (four_far X w.heap.size v0 v1 v2 v3 a (by omega)).trans h.hi, (four_far X w.heap.size v0 v1 v2 v3 b (by omega)).trans h.lo⟩
theorem SE.mkS {w X : World} {f g : Nat → Nat} {a b : Nat} (h : SE w X f g a b) :
    X.cell? ⟨a, 0, none⟩ = some (u (f 0)) ∧ X.cell? ⟨a, 1, none⟩ = some (u (f 1)) ∧ X.cell? ⟨a, 2, none⟩ = some (u (f 2)) ∧ X.cell? ⟨a, 3, none⟩ = some (u (f 3)) ∧
    X.cell? ⟨b, 0, none⟩ = some (u (g 0)) ∧ X.cell? ⟨b, 1, none⟩ = some (u (g 1)) ∧ X.cell? ⟨b, 2, none⟩ = some (u (g 2)) ∧ X.cell? ⟨b, 3, none⟩ = some (u (g 3)) ∧ Hid (SE w X f g a b) :=
  ⟨Go.Joins.cell_of_block h.hi 0, Go.Joins.cell_of_block h.hi 1, Go.Joins.cell_of_block h.hi 2, Go.Joins.cell_of_block h.hi 3, Go.Joins.cell_of_block h.lo 0, Go.Joins.cell_of_block h.lo 1, Go.Joins.cell_of_block h.lo 2, Go.Joins.cell_of_block h.lo 3, Lib.hid h⟩
theorem reduce_wl (X : World) (p : Nat) (Y : ByteArray) (f g : Nat → Nat) (hf : f = fbs (sumI 0 Y)) (hg : g = fbs (sumI 1 Y)) (r : Nat) (hr : r = sclr Y) (hpl : p < X.heap.size) (hp : ∀ i, i < 4 → X.cell? ⟨p, i, none⟩ = some (u (lm Q i))) :
    Calls Tryd.prog 30 #[.pointer (some ⟨p, 0, none⟩), .agg #[u (g 0), u (g 1), u (g 2), u (g 3), u (f 0), u (f 1), u (f 2), u (f 3)]] X fun e w' => e = .returned (numV r) ∧ Below X.heap.size X w' := by
  have hN := val8_lt (wl_lt Y)
  subst hf hg
  rw [wide_wl, hr, sclr]
  generalize val8 (wl Y) = N at *
  exact reduce_any X p Q N hN (by decide) Q_lt hpl hp
set_option maxRecDepth 100000 in
set_option maxHeartbeats 8000000 in
theorem scalar_any (w : World) (tag : ByteArray) (A : Option Addr) (c : Nat) (l : List ByteArray) (hT : Tab w) (hS : Strs w A l) (ht : 1 ≤ tag.size ∧ tag.size ≤ 40) (hz : 4 * l.length + total l ≤ 1000000000000) :
    Calls Tryd.prog 13 #[.string tag, .slice A l.length c] w fun e w' => e = .returned (.tuple #[numV (sclr (hashedB tag l)), .int .i64 0]) ∧ Below w.heap.size w w' := by
  have hw : PDg.domain_wrong.f tag = some false := by rw [wrong_f, decide_eq_false (fun h => h ht)]
  have SCA := Lib.hid scalars_any
  have WR := Lib.hid (fun X => PDg.domain_wrong.calls tag false X hw)
  have n1 := heap_alloc_new w (.cells #[.int .u64 0, .int .u64 0, .int .u64 0, .int .u64 0] 38)
  have s1 : (w.alloc (.cells #[.int .u64 0, .int .u64 0, .int .u64 0, .int .u64 0] 38)).heap.size = w.heap.size + 1 := World.size_alloc _ _
  have b1 := (Below.refl _ w).alloc (Nat.le_refl _) (.cells #[.int .u64 0, .int .u64 0, .int .u64 0, .int .u64 0] 38)
  have HT := Lib.hid hT
  have HS := Lib.hid hS
  have HW := Lib.hid hw
  replace n1 := Lib.hid n1
  replace s1 := Lib.hid s1
  replace b1 := Lib.hid b1
  obtain ⟨Y, hY⟩ : ∃ Y, Y = hashedB tag l := ⟨_, rfl⟩
  have hYz : Y.size ≤ 140737488355000 := by rw [hY, hashedB_size]; omega
  rw [← hY]
  replace hY := Lib.hid hY
  obtain ⟨f, hf0⟩ : ∃ f, f = fbs (sumI 0 Y) := ⟨_, rfl⟩
  obtain ⟨g, hg0⟩ : ∃ g, g = fbs (sumI 1 Y) := ⟨_, rfl⟩
  obtain ⟨r, hr⟩ : ∃ r, r = sclr Y := ⟨_, rfl⟩
  rw [← hr]
  replace hr := Lib.hid hr
  replace hf0 := Lib.hid hf0
  replace hg0 := Lib.hid hg0
  clear hT hS hw
  go_enter Tryd.func13, Tryd.ntmps13
  go_wp2_with fail
  refine (WR.out _).mono ?_
  rintro e w1 ⟨rfl, hD⟩
  have S0 := Lib.hid (by
    obtain ⟨m, rfl⟩ := hD.out
    exact SC.start f g (pw_below_drewN b1.out m) n1.out s1.out : SC w (w1.alloc (.cells #[.int .u64 0, .int .u64 0, .int .u64 0, .int .u64 0, .int .u64 0, .int .u64 0, .int .u64 0, .int .u64 0] 58)) (hf f g 0))
  have hs1 : w1.heap.size = w.heap.size + 1 := by
    obtain ⟨m, rfl⟩ := hD.out
    exact s1.out
  clear hD
  replace hs1 := Lib.hid hs1
  go_wp2_with fail
  rw [hs1.out]
  go_loopw [14] (fun v14 wr => ∃ k : Nat, k ≤ 2 ∧ v14 = .int .i64 (k : Int) ∧ SC w wr (hf f g k)) (fun v14 _ => 2 - (intOf v14).toNat)
  case atStart => exact ⟨0, by omega, rfl, S0.out⟩
  case round =>
    obtain ⟨k, hk, rfl, hh⟩ := hrel
    clear S0 s1 n1 b1
    by_cases hlt : k < 2
    · have hTr := HT.out.below hh.below
      have hSr := HS.out.below hh.below
      have hlt0 := hTr.lt
      obtain ⟨B, eB⟩ : ∃ B : Nat, B = wr.heap.size := ⟨_, rfl⟩
      have H1 := HashAt.new wr
      have hB1 : Below wr.heap.size wr (wr.alloc (.cells (hashCells Sha.init (.slice none 0 0) 0) 71)) := (Below.refl _ wr).alloc (Nat.le_refl _) _
      have hTr := Lib.hid hTr
      have hSr := Lib.hid hSr
      replace hh := Lib.hid hh
      replace H1 := Lib.hid H1
      replace hB1 := Lib.hid hB1
      have N1 := Lib.hid (fun X => number_any X k 1 (by omega))
      have hk2 := Lib.hid (show k < 2 from hlt)
      have q1 : (k : Int) < 2 := by omega
      go_wp2_with fail
      refine (new_any wr).mono ?_
      rintro e w2 ⟨rfl, rfl⟩
      go_wp2_with fail
      refine (N1.out _).mono ?_
      rintro e w3 ⟨rfl, hb3⟩
      have hbe3 := below_then hB1.out hB1.out.size hb3
      have h3 := H1.out.below hb3
      have W3 := Lib.hid (write_any w3 wr.heap.size wr.heap.size ⟨#[]⟩ (beB k 1) (hTr.out.below hbe3) hlt0 hbe3.size h3 (by rw [beB_size]; show 0 + 1 ≤ _; omega))
      replace hbe3 := Lib.hid hbe3
      clear h3 hb3 N1 H1
      go_wp2_with fail
      refine W3.out.mono ?_
      rintro e w4 ⟨rfl, h4, hb4⟩
      rw [empty_app] at h4
      have hbe4 := hbe3.out.trans hb4
      have F4 := Lib.hid (feed_any wr w4 wr.heap.size (beB k 1) tag A c l hbe4 hTr.out hSr.out h4 ht.2 (by rw [beB_size]; omega))
      replace hbe4 := Lib.hid hbe4
      clear h4 hb4 W3 hbe3
      go_wp2_with fail
      refine F4.out.mono ?_
      rintro e w5 ⟨rfl, h5, hb5⟩
      rw [← hY.out] at h5
      have S5 := Lib.hid (hsum_any w5 wr.heap.size wr.heap.size _ (hTr.out.below hb5) h5 (by rw [app_size, beB_size]; omega))
      have Q5 := hh.out.since hh.out.lt (Nat.le_refl _) hb5
      have FB := fun X => fromBytes_any X (sumI k Y) (sumI_size k Y)
      obtain ⟨v, hv⟩ : ∃ v, v = fbs (sumI k Y) := ⟨_, rfl⟩
      simp only [← hv] at FB
      replace FB := Lib.hid FB
      replace Q5 := Lib.hid Q5
      clear h5 hb5 F4 hbe4
      go_wp2_with fail
      refine S5.out.mono ?_
      rintro e w6 ⟨rfl, hb6⟩
      have Q6 := Lib.hid (Q5.out.call hb6)
      clear hb6 Q5 S5
      go_wp2_with fail
      refine (FB.out _).mono ?_
      rintro e w7 ⟨rfl, hb7⟩
      have Q7 := Lib.hid (Q6.out.call hb7)
      clear hb7 Q6 FB
      have k0 := Go.Joins.unfrozen_of_block Q7.out.h 0
      have k1 := Go.Joins.unfrozen_of_block Q7.out.h 1
      have k2 := Go.Joins.unfrozen_of_block Q7.out.h 2
      have k3 := Go.Joins.unfrozen_of_block Q7.out.h 3
      have k4 := Go.Joins.unfrozen_of_block Q7.out.h 4
      have k5 := Go.Joins.unfrozen_of_block Q7.out.h 5
      have k6 := Go.Joins.unfrozen_of_block Q7.out.h 6
      have k7 := Go.Joins.unfrozen_of_block Q7.out.h 7
      obtain ⟨⟨x0, x1, x2, x3⟩, x4, x5, x6, x7⟩ := cell_field Q7.out.h
      replace hv := Lib.hid hv
      have hk01 : k = 0 ∨ k = 1 := by have := hk2.out; omega
      clear q1 hlt hk
      rcases hk01 with rfl | rfl
      · obtain rfl : v = f := hv.out.trans hf0.out.symm
        go_wp2
        go_roundw
        case rel => exact ⟨1, by omega, by go_num, Q7.out.put0⟩
        case measure => simp [intOf]
      · obtain rfl : v = g := hv.out.trans hg0.out.symm
        go_wp2
        go_roundw
        case rel => exact ⟨2, by omega, by go_num, Q7.out.put1⟩
        case measure => simp [intOf]
    · obtain rfl : k = 2 := by omega
      clear WR HW hk hlt
      obtain ⟨⟨x0, x1, x2, x3⟩, x4, x5, x6, x7⟩ := cell_field hh.h
      change _ = some (u (f 0)) at x0
      change _ = some (u (f 1)) at x1
      change _ = some (u (f 2)) at x2
      change _ = some (u (f 3)) at x3
      change _ = some (u (g 0)) at x4
      change _ = some (u (g 1)) at x5
      change _ = some (u (g 2)) at x6
      change _ = some (u (g 3)) at x7
      have hhd := Lib.hid hh.drew
      replace hh := Lib.hid hh
      go_wp2_with fail
      go_region_held3 (fun w' => w'.cell? ⟨w.heap.size + 1, 0, none⟩ = some (u (f 0)) ∧ w'.cell? ⟨w.heap.size + 1, 1, none⟩ = some (u (f 1)) ∧ w'.cell? ⟨w.heap.size + 1, 2, none⟩ = some (u (f 2)) ∧ w'.cell? ⟨w.heap.size + 1, 3, none⟩ = some (u (f 3)) ∧ w'.cell? ⟨w.heap.size + 1, 4, none⟩ = some (u (g 0)) ∧ w'.cell? ⟨w.heap.size + 1, 5, none⟩ = some (u (g 1)) ∧ w'.cell? ⟨w.heap.size + 1, 6, none⟩ = some (u (g 2)) ∧ w'.cell? ⟨w.heap.size + 1, 7, none⟩ = some (u (g 3)) ∧ Hid (SC w w' (hf f g 2))) (first | exact hh.out.mkS | exact hhd.out.mkS | exact (hhd.out.alloc _).mkS | exact ((hhd.out.alloc _).alloc _).mkS) ((fail))
      · (have hlw := Lib.hid (Nat.lt_trans (Nat.lt_succ_self _) hh.out.lt : w.heap.size < wr.heap.size); have D0 := SD.of1 hh.out; generalize hW2 : ((wr.alloc (.cells #[.int .u64 (f 0 : Nat), .int .u64 (f 1 : Nat), .int .u64 (f 2 : Nat), .int .u64 (f 3 : Nat)] 38)).alloc (.cells #[.int .u64 (g 0 : Nat), .int .u64 (g 1 : Nat), .int .u64 (g 2 : Nat), .int .u64 (g 3 : Nat)] 38)) = W2 at *; clear hh hhd hW2; obtain ⟨a, ha⟩ : ∃ a, a = wr.heap.size := ⟨_, rfl⟩; obtain ⟨b, hb⟩ : ∃ b, b = wr.heap.size + 1 := ⟨_, rfl⟩; rw [← hb, ← ha] at D0; rw [← hb, ← ha]; have E := D0.drew.se.mkS; obtain ⟨x0, x1, x2, x3, x4, x5, x6, x7, _⟩ := E; replace D0 := Lib.hid D0; replace ha := Lib.hid ha; replace hb := Lib.hid hb; go_wp2_with fail; go_region_held3 (fun w' => w'.cell? ⟨a, 0, none⟩ = some (u (f 0)) ∧ w'.cell? ⟨a, 1, none⟩ = some (u (f 1)) ∧ w'.cell? ⟨a, 2, none⟩ = some (u (f 2)) ∧ w'.cell? ⟨a, 3, none⟩ = some (u (f 3)) ∧ w'.cell? ⟨b, 0, none⟩ = some (u (g 0)) ∧ w'.cell? ⟨b, 1, none⟩ = some (u (g 1)) ∧ w'.cell? ⟨b, 2, none⟩ = some (u (g 2)) ∧ w'.cell? ⟨b, 3, none⟩ = some (u (g 3)) ∧ Hid (SE w w' f g a b)) (first | exact D0.out.drew.drew.se.mkS | exact D0.out.drew.se.mkS | exact D0.out.se.mkS | exact D1.out.se.mkS | exact D2.out.se.mkS | exact (D2.out.se.four (by have := hlw.out; have := ha.out; have := hb.out; omega) (by have := hlw.out; have := ha.out; have := hb.out; omega) (u (lm r 0)) (u (lm r 1)) (u (lm r 2)) (u (lm r 3))).mkS | exact D1.out.drew.se.mkS) (first
          | (go_at_call 29; refine (SCA.out _).mono ?_; rintro e w4 ⟨⟨p, rfl, hp1, hp2, hp3⟩, hb4⟩; have D1 := Lib.hid (D0.out.drew.drew.call hb4); have RD := Lib.hid (reduce_wl w4 p Y f g hf0.out hg0.out r hr.out hp1 hp3); clear hb4)
          | (go_at_call 30; refine RD.out.mono ?_; rintro e w5 ⟨rfl, hb5⟩; have D2 := Lib.hid (D1.out.call hb5); obtain ⟨z0, z1, z2, z3⟩ := cell4 D2.out.z; obtain ⟨y0, y1, y2, y3⟩ := free4 D2.out.z; clear hb5)); (obtain ⟨o0, o1, o2, o3⟩ := cell4 (four_set D2.out.z rfl (u (lm r 0)) (u (lm r 1)) (u (lm r 2)) (u (lm r 3))); have hB := Lib.hid (below_four D2.out.below w.heap.size (Nat.le_refl _) (u (lm r 0)) (u (lm r 1)) (u (lm r 2)) (u (lm r 3))); go_wp2; refine bodyPost_ret (v := .tuple #[numV r, .int .i64 0]) (by simp [results, Tryd.results13, go_sem, o0, o1, o2, o3]) rfl ⟨rfl, hB.out⟩))
      · (have hlw := Lib.hid (Nat.lt_trans (Nat.lt_succ_self _) hh.out.lt : w.heap.size < wr.heap.size); have D0 := SD.of2 hh.out; generalize hW2 : ((wr.alloc (.cells #[.int .u64 (g 0 : Nat), .int .u64 (g 1 : Nat), .int .u64 (g 2 : Nat), .int .u64 (g 3 : Nat)] 38)).alloc (.cells #[.int .u64 (f 0 : Nat), .int .u64 (f 1 : Nat), .int .u64 (f 2 : Nat), .int .u64 (f 3 : Nat)] 38)) = W2 at *; clear hh hhd hW2; obtain ⟨a, ha⟩ : ∃ a, a = wr.heap.size := ⟨_, rfl⟩; obtain ⟨b, hb⟩ : ∃ b, b = wr.heap.size + 1 := ⟨_, rfl⟩; rw [← hb, ← ha] at D0; rw [← hb, ← ha]; have E := D0.drew.se.mkS; obtain ⟨x0, x1, x2, x3, x4, x5, x6, x7, _⟩ := E; replace D0 := Lib.hid D0; replace ha := Lib.hid ha; replace hb := Lib.hid hb; go_wp2_with fail; go_region_held3 (fun w' => w'.cell? ⟨b, 0, none⟩ = some (u (f 0)) ∧ w'.cell? ⟨b, 1, none⟩ = some (u (f 1)) ∧ w'.cell? ⟨b, 2, none⟩ = some (u (f 2)) ∧ w'.cell? ⟨b, 3, none⟩ = some (u (f 3)) ∧ w'.cell? ⟨a, 0, none⟩ = some (u (g 0)) ∧ w'.cell? ⟨a, 1, none⟩ = some (u (g 1)) ∧ w'.cell? ⟨a, 2, none⟩ = some (u (g 2)) ∧ w'.cell? ⟨a, 3, none⟩ = some (u (g 3)) ∧ Hid (SE w w' f g b a)) (first | exact D0.out.drew.drew.se.mkS | exact D0.out.drew.se.mkS | exact D0.out.se.mkS | exact D1.out.se.mkS | exact D2.out.se.mkS | exact (D2.out.se.four (by have := hlw.out; have := ha.out; have := hb.out; omega) (by have := hlw.out; have := ha.out; have := hb.out; omega) (u (lm r 0)) (u (lm r 1)) (u (lm r 2)) (u (lm r 3))).mkS | exact D1.out.drew.se.mkS) (first
          | (go_at_call 29; refine (SCA.out _).mono ?_; rintro e w4 ⟨⟨p, rfl, hp1, hp2, hp3⟩, hb4⟩; have D1 := Lib.hid (D0.out.drew.drew.call hb4); have RD := Lib.hid (reduce_wl w4 p Y f g hf0.out hg0.out r hr.out hp1 hp3); clear hb4)
          | (go_at_call 30; refine RD.out.mono ?_; rintro e w5 ⟨rfl, hb5⟩; have D2 := Lib.hid (D1.out.call hb5); obtain ⟨z0, z1, z2, z3⟩ := cell4 D2.out.z; obtain ⟨y0, y1, y2, y3⟩ := free4 D2.out.z; clear hb5)); (obtain ⟨o0, o1, o2, o3⟩ := cell4 (four_set D2.out.z rfl (u (lm r 0)) (u (lm r 1)) (u (lm r 2)) (u (lm r 3))); have hB := Lib.hid (below_four D2.out.below w.heap.size (Nat.le_refl _) (u (lm r 0)) (u (lm r 1)) (u (lm r 2)) (u (lm r 3))); go_wp2; refine bodyPost_ret (v := .tuple #[numV r, .int .i64 0]) (by simp [results, Tryd.results13, go_sem, o0, o1, o2, o3]) rfl ⟨rfl, hB.out⟩))
end Lm
end Go.Proofs.YtkmbpakhbicnaaaDoor
