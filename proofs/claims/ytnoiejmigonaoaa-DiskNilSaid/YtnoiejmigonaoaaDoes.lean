/- The law's own step: it answers true, and both files stay alike. -/
import Derived.Test.YtnoiejmigonaoaaStep
namespace Go.Proofs.Ytnoiejmigonaoaa
open Go.RowKit Go.Proofs.YtnoiejmigonaoaaW.PrintWords Go.Lib

theorem keeps_box {B g : Nat} {w w1 : World} (h : Keeps B g w w1) {k : Nat} {cs : Array Value} (hc : w.heap[k]? = some (.cells cs 30 (0, 0))) (hg : ∃ v, w.heap[g]? = some (.cells v 45 (0, 0))) : w1.heap[k]? = some (.cells cs 30 (0, 0)) := by
  refine (h.block k (Array.getElem?_eq_some_iff.1 hc).1 ?_ (.inr fun cur hx => ?_)).trans hc
  · rintro rfl
    obtain ⟨v, hv⟩ := hg
    rw [hv] at hc
    injection hc with hc
    injection hc with _ hc
    exact absurd hc (by decide)
  · rw [hc] at hx
    injection hx with hx
    injection hx with _ hx
    exact absurd hx (by decide)

theorem close_step {w W w1 w2 : World} {B g g2 : Nat} {S R S' R' : ByteArray} (hA : St W B g g2 S R) (hb : Below B w W) (hB : B ≤ W.heap.size) (hF : FileAt w1 B g (S' ++ R') S'.size) (hK : Keeps B g W.drew w1) (hR : RefAt w2 g2 S' R') (hO : Only g2 w1 w2) :
    ∃ S' R', St w2 B g g2 S' R' ∧ Below B w w2 := by
  have hK' : Keeps B g W w1 := ⟨hK.os, hK.tape, hK.output, hK.size, hK.block⟩
  have h1 : Below B w w1 := hK'.below hb hA.f.ge hB
  have h2 : Below B w w2 := hO.below h1 hA.hB (Nat.le_trans hB hK.size)
  exact ⟨S', R', hA.both hF hK' hR hO, h2⟩

set_option maxHeartbeats 2000000 in
theorem does_0 (B g g2 : Nat) (S R y : ByteArray) (what n mask : Int) (w : World) (h : St w B g g2 S R) (hm : y.size ≤ 140737488351232) (hw : what = 0) (hB : B ≤ w.heap.size) :
    Calls Try.prog 8 #[.pointer (some ⟨g, 0, none⟩), .pointer (some ⟨g2, 0, none⟩), .agg #[.int .i64 what, .int .i64 n, .int .i64 mask, .string y]] w
      fun e w' => e = .returned (.bool true) ∧ ∃ S' R', St w' B g g2 S' R' ∧ Below B w w' := by
  have hs := h.size
  have hA := h.alloc (.cells #[.int .i64 what, .int .i64 n, .int .i64 mask, .string y] 30)
  have hHB := (Below.refl B w).alloc hB (.cells #[.int .i64 what, .int .i64 n, .int .i64 mask, .string y] 30)
  have hX : ∀ X : World, X.heap = (w.alloc (.cells #[.int .i64 what, .int .i64 n, .int .i64 mask, .string y] 30)).heap → X.heap[w.heap.size]? = some (.cells #[.int .i64 what, .int .i64 n, .int .i64 mask, .string y] 30 (0, 0)) := fun X e => by rw [e]; exact heap_alloc_new w _
  have HX := Lib.hid hX
  have HA := Lib.hid hA
  have HB := Lib.hid hHB
  have C1 := Lib.hid (fun X hX => append_u B g S R y X hX)
  have C2 := Lib.hid (fun X hX => refAppend_u g2 S R y X hX hs hm)
  clear h hA hX hHB
  have q0 : (what == 0) = true := by simp [hw]
  clear hw
  go_enter Try.func8, Try.ntmps8
  go_wp2
  go_region_with (first
      | (go_at_call 11; (with_reducible refine (C1.out _ ?hF).mono ?_); (case hF => exact HA.out.f.drewN 1); rintro e w1 ⟨rfl, hF1, hK1⟩; have hb1 := keeps_box hK1 (HX.out _ rfl) HA.out.f.blk; have x3 : w1.cell? ⟨w.heap.size, 3, none⟩ = some (.string y) := Go.Joins.cell_of_block hb1 3; have HR1 := Lib.hid (HA.out.r.keeps (w := (w.alloc (.cells #[.int .i64 _, .int .i64 n, .int .i64 mask, .string y] 30)).drew) hK1 HA.out.f.blk); have HF1 := Lib.hid hF1; have HK1 := Lib.hid hK1; clear hb1 hF1 hK1)
      | (go_at_call 15; (with_reducible refine (C2.out _ HR1.out).mono ?_); rintro e w2 ⟨rfl, hR2, hO2⟩; have HR2 := Lib.hid hR2; have HO2 := Lib.hid hO2; clear hR2 hO2))
  all_goals
    go_wp2
    go_ret
    exact ⟨rfl, close_step HA.out HB.out (by simp; omega) HF1.out HK1.out HR2.out HO2.out⟩

set_option maxHeartbeats 2000000 in
theorem does_1 (B g g2 : Nat) (S R y : ByteArray) (what n mask : Int) (w : World) (h : St w B g g2 S R) (hm : y.size ≤ 140737488351232) (hw : what = 1) (hB : B ≤ w.heap.size) :
    Calls Try.prog 8 #[.pointer (some ⟨g, 0, none⟩), .pointer (some ⟨g2, 0, none⟩), .agg #[.int .i64 what, .int .i64 n, .int .i64 mask, .string y]] w
      fun e w' => e = .returned (.bool true) ∧ ∃ S' R', St w' B g g2 S' R' ∧ Below B w w' := by
  have hs := h.size
  have hA := h.alloc (.cells #[.int .i64 what, .int .i64 n, .int .i64 mask, .string y] 30)
  have hHB := (Below.refl B w).alloc hB (.cells #[.int .i64 what, .int .i64 n, .int .i64 mask, .string y] 30)
  have hX : ∀ X : World, X.heap = (w.alloc (.cells #[.int .i64 what, .int .i64 n, .int .i64 mask, .string y] 30)).heap → X.heap[w.heap.size]? = some (.cells #[.int .i64 what, .int .i64 n, .int .i64 mask, .string y] 30 (0, 0)) := fun X e => by rw [e]; exact heap_alloc_new w _
  have HX := Lib.hid hX
  have HA := Lib.hid hA
  have HB := Lib.hid hHB
  have C1 := Lib.hid (fun X hX => append_u B g S R y X hX)
  have C2 := Lib.hid (fun X hX => refAppend_u g2 S R y X hX hs hm)
  clear h hA hX hHB
  have q0 : (what == 0) = false := by simp [hw]
  have q1 : (what == 1) = true := by simp [hw]
  clear hw
  go_enter Try.func8, Try.ntmps8
  go_wp2
  go_region_with (first
      | (go_at_call 11; (with_reducible refine (C1.out _ ?hF).mono ?_); (case hF => exact HA.out.f.drewN 1); rintro e w1 ⟨rfl, hF1, hK1⟩; have hb1 := keeps_box hK1 (HX.out _ rfl) HA.out.f.blk; have x3 : w1.cell? ⟨w.heap.size, 3, none⟩ = some (.string y) := Go.Joins.cell_of_block hb1 3; have HR1 := Lib.hid (HA.out.r.keeps (w := (w.alloc (.cells #[.int .i64 _, .int .i64 n, .int .i64 mask, .string y] 30)).drew) hK1 HA.out.f.blk); have HF1 := Lib.hid hF1; have HK1 := Lib.hid hK1; clear hb1 hF1 hK1)
      | (go_at_call 15; (with_reducible refine (C2.out _ HR1.out).mono ?_); rintro e w2 ⟨rfl, hR2, hO2⟩; have HR2 := Lib.hid hR2; have HO2 := Lib.hid hO2; clear hR2 hO2))
  all_goals
    go_wp2
    go_ret
    exact ⟨rfl, close_step HA.out HB.out (by simp; omega) HF1.out HK1.out HR2.out HO2.out⟩

set_option maxHeartbeats 2000000 in
theorem does_3 (B g g2 : Nat) (S R y : ByteArray) (what n mask : Int) (w : World) (h : St w B g g2 S R) (hw : what = 3) (hB : B ≤ w.heap.size) :
    Calls Try.prog 8 #[.pointer (some ⟨g, 0, none⟩), .pointer (some ⟨g2, 0, none⟩), .agg #[.int .i64 what, .int .i64 n, .int .i64 mask, .string y]] w
      fun e w' => e = .returned (.bool true) ∧ ∃ S' R', St w' B g g2 S' R' ∧ Below B w w' := by
  have hs := h.size
  have hA := h.alloc (.cells #[.int .i64 what, .int .i64 n, .int .i64 mask, .string y] 30)
  have hHB := (Below.refl B w).alloc hB (.cells #[.int .i64 what, .int .i64 n, .int .i64 mask, .string y] 30)
  have hX : ∀ X : World, X.heap = (w.alloc (.cells #[.int .i64 what, .int .i64 n, .int .i64 mask, .string y] 30)).heap → X.heap[w.heap.size]? = some (.cells #[.int .i64 what, .int .i64 n, .int .i64 mask, .string y] 30 (0, 0)) := fun X e => by rw [e]; exact heap_alloc_new w _
  have HX := Lib.hid hX
  have HA := Lib.hid hA
  have HB := Lib.hid hHB
  have C1 := Lib.hid (fun X hX => cut_u B g S R n X hX)
  have C2 := Lib.hid (fun X hX => refCut_u g2 S R n X hX hs)
  clear h hA hX hHB
  have q0 : (what == 0) = false := by simp [hw]
  have q1 : (what == 1) = false := by simp [hw]
  have q2 : (what == 2) = false := by simp [hw]
  have q3 : (what == 3) = true := by simp [hw]
  clear hw
  go_enter Try.func8, Try.ntmps8
  go_wp2
  go_region_with (first
      | (go_at_call 14; (with_reducible refine (C1.out _ ?hF).mono ?_); (case hF => exact HA.out.f.drewN 1); rintro e w1 ⟨rfl, hF1, hK1⟩; have hb1 := keeps_box hK1 (HX.out _ rfl) HA.out.f.blk; have x1 : w1.cell? ⟨w.heap.size, 1, none⟩ = some (.int .i64 n) := Go.Joins.cell_of_block hb1 1; have HR1 := Lib.hid (HA.out.r.keeps (w := (w.alloc (.cells #[.int .i64 _, .int .i64 n, .int .i64 mask, .string y] 30)).drew) hK1 HA.out.f.blk); have HF1 := Lib.hid hF1; have HK1 := Lib.hid hK1; clear hb1 hF1 hK1)
      | (go_at_call 17; (with_reducible refine (C2.out _ HR1.out).mono ?_); rintro e w2 ⟨rfl, hR2, hO2⟩; have HR2 := Lib.hid hR2; have HO2 := Lib.hid hO2; clear hR2 hO2))
  all_goals
    go_wp2
    go_ret
    exact ⟨rfl, close_step HA.out HB.out (by simp; omega) HF1.out HK1.out HR2.out HO2.out⟩

set_option maxHeartbeats 2000000 in
theorem does_2 (B g g2 : Nat) (S R y : ByteArray) (what n mask : Int) (w : World) (h : St w B g g2 S R) (hw : what = 2) (hB : B ≤ w.heap.size) :
    Calls Try.prog 8 #[.pointer (some ⟨g, 0, none⟩), .pointer (some ⟨g2, 0, none⟩), .agg #[.int .i64 what, .int .i64 n, .int .i64 mask, .string y]] w
      fun e w' => e = .returned (.bool true) ∧ ∃ S' R', St w' B g g2 S' R' ∧ Below B w w' := by
  have hs := h.size
  have hA := h.alloc (.cells #[.int .i64 what, .int .i64 n, .int .i64 mask, .string y] 30)
  have hHB := (Below.refl B w).alloc hB (.cells #[.int .i64 what, .int .i64 n, .int .i64 mask, .string y] 30)
  have hX : ∀ X : World, X.heap = (w.alloc (.cells #[.int .i64 what, .int .i64 n, .int .i64 mask, .string y] 30)).heap → X.heap[w.heap.size]? = some (.cells #[.int .i64 what, .int .i64 n, .int .i64 mask, .string y] 30 (0, 0)) := fun X e => by rw [e]; exact heap_alloc_new w _
  have HX := Lib.hid hX
  have HA := Lib.hid hA
  have HB := Lib.hid hHB
  clear h hA hX hHB
  have q0 : (what == 0) = false := by simp [hw]
  have q1 : (what == 1) = false := by simp [hw]
  have q2 : (what == 2) = true := by simp [hw]
  clear hw
  go_enter Try.func8, Try.ntmps8
  go_wp2_with (first
    | (go_at_call 16; (with_reducible refine (refSync g2 S R _ HA.out.r hs).mono ?_); rintro e w1 ⟨rfl, hR1, hO1⟩; have HF1 := Lib.hid (HA.out.f.only hO1 HA.out.r); have HR1 := Lib.hid hR1; have HO1 := Lib.hid hO1; clear hR1 hO1)
    | (go_at_call 12; (with_reducible refine (sync_any B g (S ++ R) S.size _ HF1.out).mono ?_); rintro e w2 ⟨rfl, hF2, hK2⟩; have HF2 := Lib.hid hF2; have HK2 := Lib.hid hK2; clear hF2 hK2))
  go_ret
  have h1 : Below B w w1 := HO1.out.below HB.out HA.out.hB (by simp; omega)
  have hz : B ≤ w1.heap.size := Nat.le_trans (show B ≤ (w.alloc (.cells #[.int .i64 what, .int .i64 n, .int .i64 mask, .string y] 30)).heap.size by simp; omega) HO1.out.size
  refine ⟨rfl, S ++ R, ⟨#[]⟩, ⟨?_, HR1.out.keeps HK2.out HF1.out.blk, HA.out.hB⟩, HK2.out.below h1 HA.out.f.ge hz⟩
  rw [app_nil]
  exact HF2.out

set_option maxHeartbeats 2000000 in
theorem does_look (B g g2 : Nat) (S R y : ByteArray) (what n mask : Int) (w : World) (h : St w B g g2 S R) (hw : what ≠ 0 ∧ what ≠ 1 ∧ what ≠ 2 ∧ what ≠ 3 ∧ what ≠ 4) (hB : B ≤ w.heap.size) :
    Calls Try.prog 8 #[.pointer (some ⟨g, 0, none⟩), .pointer (some ⟨g2, 0, none⟩), .agg #[.int .i64 what, .int .i64 n, .int .i64 mask, .string y]] w
      fun e w' => e = .returned (.bool true) ∧ ∃ S' R', St w' B g g2 S' R' ∧ Below B w w' := by
  have R1 := Lib.hid (h.alloc (.cells #[.int .i64 what, .int .i64 n, .int .i64 mask, .string y] 30))
  have R2 := Lib.hid ((Below.refl B w).alloc hB (.cells #[.int .i64 what, .int .i64 n, .int .i64 mask, .string y] 30))
  obtain ⟨h0, h1, h2, h3, h4⟩ := hw
  have q0 : (what == 0) = false := by simp [h0]
  have q1 : (what == 1) = false := by simp [h1]
  have q2 : (what == 2) = false := by simp [h2]
  have q3 : (what == 3) = false := by simp [h3]
  have q4 : (what == 4) = false := by simp [h4]
  clear h h0 h1 h2 h3 h4
  go_enter Try.func8, Try.ntmps8
  go_wp2
  go_ret
  exact ⟨rfl, S, R, R1.out, R2.out⟩

end Go.Proofs.Ytnoiejmigonaoaa
