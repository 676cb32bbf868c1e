/- The contracts of the reference's file: two strings in one block. -/
import Derived.Test.YtnoiejmigonaoaaCrash
import Derived.Lib.ConvBytes
import Derived.StillTailTactics
import Derived.RegionTactic
import Derived.ChangeAlike
import Derived.BigRegion
namespace Go.Proofs.Ytnoiejmigonaoaa
open Go.RowKit Go.Proofs.YtnoiejmigonaoaaW.PrintWords Go.Lib

/-- Block g is a file of the reference's. -/
def RefAt (w : World) (g : Nat) (S R : ByteArray) : Prop := w.heap[g]? = some (.cells #[.string S, .string R] 28 (0, 0))
/-- All but block g is as it was. -/
structure Only (g : Nat) (w w' : World) : Prop where
  os : w'.os = w.os
  tape : w'.tape = w.tape
  output : w'.output = w.output
  size : w.heap.size ≤ w'.heap.size
  block : ∀ k, k < w.heap.size → k ≠ g → w'.heap[k]? = w.heap[k]?
theorem Only.refl (g : Nat) (w : World) : Only g w w := ⟨rfl, rfl, rfl, Nat.le_refl _, fun _ _ _ => rfl⟩
theorem Only.trans {g : Nat} {w w1 w2 : World} (h : Only g w w1) (k : Only g w1 w2) : Only g w w2 :=
  ⟨k.os.trans h.os, k.tape.trans h.tape, k.output.trans h.output, Nat.le_trans h.size k.size, fun i hi hg => (k.block i (Nat.lt_of_lt_of_le hi h.size) hg).trans (h.block i hi hg)⟩
theorem Only.set (g : Nat) (w : World) (j : Nat) (v : Value) : Only g w (w.setCell ⟨g, j, none⟩ v) :=
  ⟨rfl, rfl, rfl, by simp [World.setCell], fun k _ hg => Below.heap_setCell w ⟨g, j, none⟩ v k hg⟩
theorem Only.drewN (g : Nat) (w : World) (n : Nat) : Only g w (w.drewN n) := ⟨rfl, rfl, rfl, Nat.le_refl _, fun _ _ _ => rfl⟩
theorem Only.alloc (g : Nat) (w : World) (o : Obj) : Only g w (w.alloc o) := ⟨rfl, rfl, rfl, by simp, fun k hk _ => Go.heap_alloc_old w o hk⟩
theorem RefAt.drewN {w : World} {g : Nat} {S R : ByteArray} (h : RefAt w g S R) (n : Nat) : RefAt (w.drewN n) g S R := h
theorem RefAt.set0 {w : World} {g : Nat} {S R : ByteArray} (h : RefAt w g S R) (X : ByteArray) : RefAt (w.setCell ⟨g, 0, none⟩ (.string X)) g X R := Go.Joins.block_setCell h (.string X)
theorem RefAt.set1 {w : World} {g : Nat} {S R : ByteArray} (h : RefAt w g S R) (X : ByteArray) : RefAt (w.setCell ⟨g, 1, none⟩ (.string X)) g S X := Go.Joins.block_setCell h (.string X)
theorem RefAt.c0 {w : World} {g : Nat} {S R : ByteArray} (h : RefAt w g S R) : w.cell? ⟨g, 0, none⟩ = some (.string S) := Go.Joins.cell_of_block h 0
theorem RefAt.c1 {w : World} {g : Nat} {S R : ByteArray} (h : RefAt w g S R) : w.cell? ⟨g, 1, none⟩ = some (.string R) := Go.Joins.cell_of_block h 1
theorem RefAt.fr {w : World} {g : Nat} {S R : ByteArray} (h : RefAt w g S R) (j : Nat) : w.frozen? ⟨g, j, none⟩ = false := Go.Joins.unfrozen_of_block h j

set_option maxHeartbeats 800000 in
theorem refAppend_full (g : Nat) (S R y : ByteArray) (w : World) (h : RefAt w g S R) (hs : S.size + R.size ≤ 1048576) (hm : y.size ≤ 140737488351232) (hy : ¬ S.size + R.size + y.size ≤ 1048576) :
    Calls Try.prog 15 #[.pointer (some ⟨g, 0, none⟩), .string y] w fun e w' => e = .returned (.int .i64 5) ∧ ∃ n, w' = w.drewN n := by
  have c0 := h.c0
  have c1 := h.c1
  have t : (1048576 : Int) < (S.size : Int) + (R.size : Int) + (y.size : Int) := by omega
  clear h
  go_enter Try.func15, Try.ntmps15
  go_wp2
  go_quiet (fail)
  go_wp2
  go_ret
  exact ⟨rfl, _, rfl⟩

set_option maxHeartbeats 800000 in
theorem refAppend_room (g : Nat) (S R y : ByteArray) (w : World) (h : RefAt w g S R) (hy : S.size + R.size + y.size ≤ 1048576) :
    Calls Try.prog 15 #[.pointer (some ⟨g, 0, none⟩), .string y] w fun e w' => e = .returned (.int .i64 0) ∧ RefAt w' g S (R ++ y) ∧ Only g w w' := by
  have c0 := h.c0
  have c1 := h.c1
  have f1 := h.fr 1
  have t : ¬ (1048576 : Int) < (S.size : Int) + (R.size : Int) + (y.size : Int) := by omega
  have H := Lib.hid h
  clear h
  go_enter Try.func15, Try.ntmps15
  go_wp2
  go_quiet (fail)
  go_wp2
  go_ret
  exact ⟨rfl, (H.out.drewN _).set1 _, (Only.drewN g w _).trans (Only.set g _ 1 _)⟩

set_option maxHeartbeats 800000 in
theorem refSync (g : Nat) (S R : ByteArray) (w : World) (h : RefAt w g S R) (hs : S.size + R.size ≤ 1048576) :
    Calls Try.prog 16 #[.pointer (some ⟨g, 0, none⟩)] w fun e w' => e = .returned (.tuple #[]) ∧ RefAt w' g (S ++ R) ⟨#[]⟩ ∧ Only g w w' := by
  have c0 := h.c0
  have c1 := h.c1
  have f1 := h.fr 1
  have f0 := h.fr 0
  have H := Lib.hid h
  clear h
  go_enter Try.func16, Try.ntmps16
  go_wp2
  go_region
  all_goals
    go_wp2
    go_end0
    exact ⟨rfl, (H.out.set0 _).set1 _, ((Only.set g w 0 _).trans (Only.set g _ 1 _)).trans ⟨rfl, rfl, rfl, Nat.le_refl _, fun _ _ _ => rfl⟩⟩

set_option maxHeartbeats 800000 in
theorem refCut_no (g : Nat) (S R : ByteArray) (n : Int) (w : World) (h : RefAt w g S R) (hs : S.size + R.size ≤ 1048576) (hn : ¬ (0 ≤ n ∧ n ≤ (S ++ R).size)) :
    Calls Try.prog 17 #[.pointer (some ⟨g, 0, none⟩), .int .i64 n] w fun e w' => e = .returned (.int .i64 1) ∧ ∃ n, w' = w.drewN n := by
  have c0 := h.c0
  have c1 := h.c1
  rw [size_app] at hn
  clear h
  by_cases h0 : n < 0
  · clear hn
    go_enter Try.func17, Try.ntmps17
    go_wp2
    go_quiet (fail)
    go_wp2
    go_ret
    exact ⟨rfl, _, rfl⟩
  · have h1 : (S.size : Int) + (R.size : Int) < n := by omega
    clear hn
    go_enter Try.func17, Try.ntmps17
    go_wp2
    go_quiet (fail)
    go_wp2
    go_ret
    exact ⟨rfl, _, rfl⟩

set_option maxHeartbeats 800000 in
theorem refCut_any (g : Nat) (S R : ByteArray) (n : Nat) (w : World) (h : RefAt w g S R) (hs : S.size + R.size ≤ 1048576) (hn : n ≤ (S ++ R).size) :
    Calls Try.prog 17 #[.pointer (some ⟨g, 0, none⟩), .int .i64 n] w fun e w' => e = .returned (.int .i64 0) ∧ RefAt w' g ((S ++ R).extract 0 n) ⟨#[]⟩ ∧ Only g w w' := by
  have c0 := h.c0
  have c1 := h.c1
  have f1 := h.fr 1
  have f0 := h.fr 0
  have H := Lib.hid h
  rw [size_app] at hn
  have h1 : ¬ (S.size : Int) + (R.size : Int) < (n : Int) := by omega
  have h2 : decide ((n : Int) < 0) = false := by simp
  clear h
  go_enter Try.func17, Try.ntmps17
  go_wp2
  go_quiet (fail)
  go_wp2
  go_ret
  exact ⟨rfl, ((H.out.drewN _).set0 _).set1 _, ((Only.drewN g w _).trans (Only.set g _ 0 _)).trans (Only.set g _ 1 _)⟩

set_option maxHeartbeats 800000 in
theorem refCrash_no (g : Nat) (S R : ByteArray) (keep mask : Int) (w : World) (h : RefAt w g S R) (hn : ¬ (0 ≤ keep ∧ keep ≤ (R.size : Int) ∧ 0 ≤ mask ∧ mask ≤ 255)) :
    Calls Try.prog 18 #[.pointer (some ⟨g, 0, none⟩), .int .i64 keep, .int .i64 mask] w fun e w' => e = .returned (.int .i64 1) ∧ w = w' := by
  have c0 := h.c0
  have c1 := h.c1
  clear h
  by_cases h0 : keep < 0
  · clear hn
    go_enter Try.func18, Try.ntmps18
    go_wp2
    go_ret
    exact ⟨rfl, rfl⟩
  · by_cases h1 : (R.size : Int) < keep
    · clear hn
      go_enter Try.func18, Try.ntmps18
      go_wp2
      go_ret
      exact ⟨rfl, rfl⟩
    · by_cases h2 : mask < 0
      · clear hn
        go_enter Try.func18, Try.ntmps18
        go_wp2
        go_ret
        exact ⟨rfl, rfl⟩
      · have h3 : 255 < mask := by omega
        clear hn
        go_enter Try.func18, Try.ntmps18
        go_wp2
        go_ret
        exact ⟨rfl, rfl⟩

/-- What the reference's crash leaves. -/
def refCrashed (S R : ByteArray) (keep mask : Nat) : ByteArray :=
  if h : keep < R.size ∧ 0 < mask then S ++ R.extract 0 keep ++ ⟨#[xb (R[keep]'h.1).toNat mask]⟩ else S ++ R.extract 0 keep

set_option maxHeartbeats 1600000 in
theorem refCrash_plain (g : Nat) (S R : ByteArray) (keep mask : Nat) (w : World) (h : RefAt w g S R) (hs : S.size + R.size ≤ 1048576) (hmk : mask ≤ 255) (hk : keep ≤ R.size) (hno : ¬ (keep < R.size ∧ 0 < mask)) :
    Calls Try.prog 18 #[.pointer (some ⟨g, 0, none⟩), .int .i64 keep, .int .i64 mask] w fun e w' => e = .returned (.int .i64 0) ∧ RefAt w' g (refCrashed S R keep mask) ⟨#[]⟩ ∧ Only g w w' := by
  have c0 := h.c0
  have c1 := h.c1
  have f1 := h.fr 1
  have f0 := h.fr 0
  have H := Lib.hid h
  have hcr : refCrashed S R keep mask = S ++ R.extract 0 keep := by unfold refCrashed; rw [dif_neg hno]
  rw [hcr]
  have d0 : decide ((keep : Int) < 0) = false := by simp
  have d1 : decide (R.size < keep) = false := by simp; omega
  have d2 : decide ((mask : Int) < 0) = false := by simp
  have d3 : decide (255 < (mask : Int)) = false := by simp; omega
  clear h hcr
  by_cases e1 : mask = 0
  · have e2 : decide (0 < mask) = false := by simp; omega
    clear e1 hno
    go_enter Try.func18, Try.ntmps18
    go_wp2
    go_quiet (fail)
    go_wp2
    go_ret
    exact ⟨rfl, ((H.out.drewN _).set0 _).set1 _, ((Only.drewN g w _).trans (Only.set g _ 0 _)).trans (Only.set g _ 1 _)⟩
  · have e2 : decide (0 < mask) = true := by simp; omega
    have e3 : decide (keep < R.size) = false := by simp; omega
    clear e1 hno
    go_enter Try.func18, Try.ntmps18
    go_wp2
    go_quiet (fail)
    go_wp2
    go_ret
    exact ⟨rfl, ((H.out.drewN _).set0 _).set1 _, ((Only.drewN g w _).trans (Only.set g _ 0 _)).trans (Only.set g _ 1 _)⟩

theorem one_byte (W : World) (x : Int) : (convert 43 9 (.slice (some ⟨W.heap.size, 0, none⟩) 1 1)).run Try.prog (W.alloc (.cells #[.int .u8 x] 5)) = .ok (.string ⟨#[UInt8.ofNat x.toNat]⟩) (W.alloc (.cells #[.int .u8 x] 5)) := by
  have h : (Kd.int .u8).C (W.alloc (.cells #[.int .u8 x] 5)) (some ⟨W.heap.size, 0, none⟩) 1 [x] := by
    refine ⟨rfl, by omega, fun _ => ⟨_, rfl, ?_⟩⟩
    intro j p hp
    match j, hp with
    | 0, hp =>
      simp at hp
      subst hp
      refine ⟨[.int .u8 x], rfl, rfl, ?_⟩
      intro i u hu
      match i, hu with
      | 0, hu =>
        simp at hu
        subst hu
        have : (W.alloc (.cells #[.int .u8 x] 5)).heap[W.heap.size]? = some (.cells #[.int .u8 x] 5) := heap_alloc_new W _
        rw [show (⟨W.heap.size, 0, none⟩ : Addr).add (0 * (Kd.int .u8).sz + 0) = ⟨W.heap.size, 0, none⟩ by rw [add_at]; simp]
        exact Go.Joins.cell_of_block this 0
  have := Kd.C_string (P := Try.prog) (c := 1) Try.underlying43 Try.underlying5 Try.underlying9 h
  rw [this]
  rfl

set_option maxHeartbeats 1600000 in
theorem refCrash_turned (g : Nat) (S R : ByteArray) (keep mask : Nat) (w : World) (h : RefAt w g S R) (hs : S.size + R.size ≤ 1048576) (hmk : mask ≤ 255) (hk : keep < R.size) (hm0 : 0 < mask) :
    Calls Try.prog 18 #[.pointer (some ⟨g, 0, none⟩), .int .i64 keep, .int .i64 mask] w fun e w' => e = .returned (.int .i64 0) ∧ RefAt w' g (refCrashed S R keep mask) ⟨#[]⟩ ∧ Only g w w' := by
  have c0 := h.c0
  have c1 := h.c1
  have f1 := h.fr 1
  have f0 := h.fr 0
  have H := Lib.hid h
  have d0 : decide ((keep : Int) < 0) = false := by simp
  have d1 : decide (R.size < keep) = false := by simp; omega
  have d2 : decide ((mask : Int) < 0) = false := by simp
  have d3 : decide (255 < (mask : Int)) = false := by simp; omega
  have e2 : decide (0 < mask) = true := by simp; omega
  have e3 : decide (keep < R.size) = true := by simp; omega
  have e4 : (keep : Int) < (R.size : Int) := by omega
  have hcv : ∀ nq x, (convert 43 9 (.slice (some ⟨w.heap.size, 0, none⟩) 1 1)).run Try.prog ((w.drewN nq).alloc (.cells #[.int .u8 x] 5)) = .ok (.string ⟨#[UInt8.ofNat x.toNat]⟩) ((w.drewN nq).alloc (.cells #[.int .u8 x] 5)) := fun nq x => one_byte (w.drewN nq) x
  have hcr : refCrashed S R keep mask = S ++ R.extract 0 keep ++ ⟨#[UInt8.ofNat (bits .xor .u8 (R[keep]'hk).toNat mask).toNat]⟩ := by unfold refCrashed; rw [dif_pos ⟨hk, hm0⟩]; rfl
  rw [hcr]
  have hgs : g < w.heap.size := (Array.getElem?_eq_some_iff.1 h).1
  have hA : ∀ nq o, RefAt ((w.drewN nq).alloc o) g S R := fun nq o => (Go.heap_alloc_old (w.drewN nq) o hgs).trans h
  have k0 : ∀ nq o, ((w.drewN nq).alloc o).cell? ⟨g, 0, none⟩ = some (.string S) := fun nq o => (hA nq o).c0
  have k1 : ∀ nq o, ((w.drewN nq).alloc o).cell? ⟨g, 1, none⟩ = some (.string R) := fun nq o => (hA nq o).c1
  have k2 : ∀ nq o, ((w.drewN nq).alloc o).frozen? ⟨g, 0, none⟩ = false := fun nq o => (hA nq o).fr 0
  have k3 : ∀ nq o, ((w.drewN nq).alloc o).frozen? ⟨g, 1, none⟩ = false := fun nq o => (hA nq o).fr 1
  have HA := Lib.hid hA
  clear h hcr hA
  go_enter Try.func18, Try.ntmps18
  go_wp2
  go_quiet (fail)
  go_wp2
  go_ret
  exact ⟨rfl, ((HA.out _ _).set0 _).set1 _, (((Only.drewN g w _).trans (Only.alloc g _ _)).trans (Only.set g _ 0 _)).trans (Only.set g _ 1 _)⟩

theorem refCrash_any (g : Nat) (S R : ByteArray) (keep mask : Nat) (w : World) (h : RefAt w g S R) (hs : S.size + R.size ≤ 1048576) (hmk : mask ≤ 255) (hk : keep ≤ R.size) :
    Calls Try.prog 18 #[.pointer (some ⟨g, 0, none⟩), .int .i64 keep, .int .i64 mask] w fun e w' => e = .returned (.int .i64 0) ∧ RefAt w' g (refCrashed S R keep mask) ⟨#[]⟩ ∧ Only g w w' := by
  by_cases hc : keep < R.size ∧ 0 < mask
  · exact refCrash_turned g S R keep mask w h hs hmk hc.1 hc.2
  · exact refCrash_plain g S R keep mask w h hs hmk hk hc

/-- The two crashes leave one. -/
theorem crashed_eq (S R : ByteArray) (keep mask : Nat) : crashed (S ++ R) S.size keep mask = refCrashed S R keep mask := by
  have hx : (S ++ R).extract 0 (S.size + keep) = S ++ R.extract 0 keep := by
    apply Go.WideShapes.bytes_inj
    rw [Lib.extract_data, Go.Joins.data_append, Go.Joins.data_append, Lib.extract_data]
    simp only [List.drop_zero, Nat.sub_zero]
    rw [List.take_append]
    have h1 : S.data.toList.length = S.size := by simp
    rw [h1, List.take_of_length_le (by omega), show S.size + keep - S.size = keep by omega]
  unfold crashed refCrashed
  by_cases h : keep < R.size ∧ 0 < mask
  · rw [dif_pos h, dif_pos ⟨by rw [size_app]; omega, h.2⟩, hx]
    congr 4
    congr 1
    have : (S ++ R)[S.size + keep]'(by rw [size_app]; omega) = R[keep]'h.1 := by
      rw [ByteArray.getElem_append_right (by omega)]
      simp
    rw [this]
  · rw [dif_neg h, dif_neg (fun h' => h ⟨by have := h'.1; rw [size_app] at this; omega, h'.2⟩), hx]

end Go.Proofs.Ytnoiejmigonaoaa
