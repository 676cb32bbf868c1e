/- The law's own step, where a file crashes, and all steps together. -/
import Derived.Test.YtnoiejmigonaoaaDoes
import Derived.Deep.RegionHeld3
namespace Go.Proofs.Ytnoiejmigonaoaa
open Go.RowKit Go.Proofs.YtnoiejmigonaoaaW.PrintWords Go.Lib

theorem only_box {g2 : Nat} {w w1 : World} (h : Only g2 w w1) {k : Nat} {cs : Array Value} (hc : w.heap[k]? = some (.cells cs 30 (0, 0))) {S R : ByteArray} (hr : RefAt w g2 S R) : w1.heap[k]? = some (.cells cs 30 (0, 0)) := by
  refine (h.block k (Array.getElem?_eq_some_iff.1 hc).1 ?_).trans hc
  rintro rfl
  unfold RefAt at hr
  rw [hc] at hr
  injection hr with hr
  injection hr with _ hr
  exact absurd hr (by decide)

set_option maxHeartbeats 2000000 in
theorem does_4 (B g g2 : Nat) (S R y : ByteArray) (what n mask : Int) (w : World) (h : St w B g g2 S R) (hn : -9223372036854775808 ≤ n ∧ n ≤ 9223372036854775807) (hw : what = 4) (hB : B ≤ w.heap.size) :
    Calls Try.prog 8 #[.pointer (some ⟨g, 0, none⟩), .pointer (some ⟨g2, 0, none⟩), .agg #[.int .i64 what, .int .i64 n, .int .i64 mask, .string y]] w
      fun e w' => e = .returned (.bool true) ∧ ∃ S' R', St w' B g g2 S' R' ∧ Below B w w' := by
  have hs := h.size
  have hA := h.alloc (.cells #[.int .i64 what, .int .i64 n, .int .i64 mask, .string y] 30)
  have hHB := (Below.refl B w).alloc hB (.cells #[.int .i64 what, .int .i64 n, .int .i64 mask, .string y] 30)
  have hX : ∀ X : World, X.heap = (w.alloc (.cells #[.int .i64 what, .int .i64 n, .int .i64 mask, .string y] 30)).heap → X.heap[w.heap.size]? = some (.cells #[.int .i64 what, .int .i64 n, .int .i64 mask, .string y] 30 (0, 0)) := fun X e => by rw [e]; exact heap_alloc_new w _
  have HX := Lib.hid hX
  have HA := Lib.hid hA
  have HB := Lib.hid hHB
  have C1 := Lib.hid (fun X hX => crash_u B g S R n mask X hX hn)
  have C2 := Lib.hid (fun X hX => refCrash_u g2 S R n mask X hX hs)
  clear h hA hX hHB
  have q0 : (what == 0) = false := by simp [hw]
  have q1 : (what == 1) = false := by simp [hw]
  have q2 : (what == 2) = false := by simp [hw]
  have q3 : (what == 3) = false := by simp [hw]
  have q4 : (what == 4) = true := by simp [hw]
  clear hw
  have z1 : ((w.alloc (.cells #[.int .i64 what, .int .i64 n, .int .i64 mask, .string y] 30)).drew).cell? ⟨w.heap.size, 1, none⟩ = some (.int .i64 n) := Go.Joins.cell_of_block (HX.out _ rfl) 1
  have z2 : ((w.alloc (.cells #[.int .i64 what, .int .i64 n, .int .i64 mask, .string y] 30)).drew).cell? ⟨w.heap.size, 2, none⟩ = some (.int .i64 mask) := Go.Joins.cell_of_block (HX.out _ rfl) 2
  go_enter Try.func8, Try.ntmps8
  go_wp2
  go_region_held3 (fun w' => w'.cell? ⟨w.heap.size, 1, none⟩ = some (.int .i64 n) ∧ w'.cell? ⟨w.heap.size, 2, none⟩ = some (.int .i64 mask)) (first | exact ⟨x1, x2⟩ | exact ⟨y1, y2⟩ | exact ⟨z1, z2⟩) (first
      | (go_at_call 13; (with_reducible refine (C1.out _ ?hF).mono ?_); (case hF => exact HA.out.f.drewN 1); rintro e w1 ⟨rfl, hF1, hK1⟩; have hb1 := keeps_box hK1 (HX.out _ rfl) HA.out.f.blk; have x1 : w1.cell? ⟨w.heap.size, 1, none⟩ = some (.int .i64 n) := Go.Joins.cell_of_block hb1 1; have x2 : w1.cell? ⟨w.heap.size, 2, none⟩ = some (.int .i64 mask) := Go.Joins.cell_of_block hb1 2; have HB1 := Lib.hid hb1; have HR1 := Lib.hid (HA.out.r.keeps (w := (w.alloc (.cells #[.int .i64 _, .int .i64 n, .int .i64 mask, .string y] 30)).drew) hK1 HA.out.f.blk); have HF1 := Lib.hid hF1; have HK1 := Lib.hid hK1; clear hb1 hF1 hK1)
      | (go_at_call 18; (with_reducible refine (C2.out _ HR1.out).mono ?_); rintro e w2 ⟨rfl, hR2, hO2⟩; have hb2 := only_box hO2 HB1.out HR1.out; have y1 : w2.cell? ⟨w.heap.size, 1, none⟩ = some (.int .i64 n) := Go.Joins.cell_of_block hb2 1; have y2 : w2.cell? ⟨w.heap.size, 2, none⟩ = some (.int .i64 mask) := Go.Joins.cell_of_block hb2 2; have HR2 := Lib.hid hR2; have HO2 := Lib.hid hO2; clear hR2 hO2 hb2))
  go_wp2
  go_ret
  exact ⟨rfl, close_step HA.out HB.out (by simp; omega) HF1.out HK1.out HR2.out HO2.out⟩

theorem does_any (B g g2 : Nat) (S R y : ByteArray) (what n mask : Int) (w : World) (h : St w B g g2 S R) (hm : y.size ≤ 140737488351232) (hn : -9223372036854775808 ≤ n ∧ n ≤ 9223372036854775807) (hB : B ≤ w.heap.size) :
    Calls Try.prog 8 #[.pointer (some ⟨g, 0, none⟩), .pointer (some ⟨g2, 0, none⟩), .agg #[.int .i64 what, .int .i64 n, .int .i64 mask, .string y]] w
      fun e w' => e = .returned (.bool true) ∧ ∃ S' R', St w' B g g2 S' R' ∧ Below B w w' := by
  by_cases h0 : what = 0
  · exact does_0 B g g2 S R y what n mask w h hm h0 hB
  · by_cases h1 : what = 1
    · exact does_1 B g g2 S R y what n mask w h hm h1 hB
    · by_cases h2 : what = 2
      · exact does_2 B g g2 S R y what n mask w h h2 hB
      · by_cases h3 : what = 3
        · exact does_3 B g g2 S R y what n mask w h h3 hB
        · by_cases h4 : what = 4
          · exact does_4 B g g2 S R y what n mask w h hn h4 hB
          · exact does_look B g g2 S R y what n mask w h ⟨h0, h1, h2, h3, h4⟩ hB

end Go.Proofs.Ytnoiejmigonaoaa
