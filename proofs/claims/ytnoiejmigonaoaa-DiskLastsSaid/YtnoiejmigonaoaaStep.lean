/- One step of the program's file and of the reference's, side by side: both answer alike, and hold the same bytes behind it. -/
import Derived.Test.YtnoiejmigonaoaaRef
import Derived.Deep.RegionWith
namespace Go.Proofs.Ytnoiejmigonaoaa
open Go.RowKit Go.Proofs.YtnoiejmigonaoaaW.PrintWords Go.Lib

/-- Both files, alike. -/
structure St (w : World) (B g g2 : Nat) (S R : ByteArray) : Prop where
  f : FileAt w B g (S ++ R) S.size
  r : RefAt w g2 S R
  hB : B ≤ g2

theorem RefAt.keeps {w w1 : World} {B g g2 : Nat} {S R : ByteArray} (h : RefAt w g2 S R) (hk : Keeps B g w w1) (hg : ∃ v, w.heap[g]? = some (.cells v 45 (0, 0))) : RefAt w1 g2 S R := by
  have hlt := (Array.getElem?_eq_some_iff.1 h).1
  refine (hk.block g2 hlt ?_ (.inr fun cur hc => ?_)).trans h
  · rintro rfl
    obtain ⟨v, hv⟩ := hg
    unfold RefAt at h
    rw [hv] at h
    injection h with h
    injection h with _ h
    exact absurd h (by decide)
  · unfold RefAt at h
    rw [hc] at h
    injection h with h
    injection h with _ h
    exact absurd h (by decide)
theorem FileAt.blk {w : World} {B g : Nat} {b : ByteArray} {sy : Nat} (h : FileAt w B g b sy) : ∃ v, w.heap[g]? = some (.cells v 45 (0, 0)) := by
  obtain ⟨v, hv, _⟩ := h.out
  exact ⟨_, hv⟩
theorem FileAt.only {w w1 : World} {B g g2 : Nat} {b S R : ByteArray} {sy : Nat} (h : FileAt w B g b sy) (ho : Only g2 w w1) (hr : RefAt w g2 S R) : FileAt w1 B g b sy := by
  obtain ⟨⟨v, hv, hb⟩, h1, h2, h3⟩ := h
  have ne : ∀ (k : Nat) (cs : Array Value) (t : TypeId), w.heap[k]? = some (Obj.cells cs t (0, 0)) → t ≠ 28 → w1.heap[k]? = w.heap[k]? := by
    intro k cs t hk ht
    refine ho.block k (Array.getElem?_eq_some_iff.1 hk).1 ?_
    rintro rfl
    unfold RefAt at hr
    rw [hk] at hr
    injection hr with hr
    injection hr with _ hr
    exact ht hr
  refine ⟨⟨v, (ne g _ _ hv (by decide)).trans hv, hb.move fun k hk => ?_⟩, h1, h2, h3⟩
  obtain ⟨_, _, cur, hc⟩ := hb.typed k hk
  exact ne k _ _ hc (by decide)
theorem Only.below {w0 w w1 : World} {B g2 : Nat} (ho : Only g2 w w1) (hb : Below B w0 w) (hB : B ≤ g2) (hs : B ≤ w.heap.size) : Below B w0 w1 :=
  ⟨ho.os.trans hb.os, ho.tape.trans hb.tape, ho.output.trans hb.output, Nat.le_trans hb.size ho.size, fun k hk => (ho.block k (by omega) (by omega)).trans (hb.block k hk)⟩

def nextA (S R y : ByteArray) : ByteArray × ByteArray := if S.size + R.size + y.size ≤ 1048576 then (S, R ++ y) else (S, R)
def codeA (S R y : ByteArray) : Int := if S.size + R.size + y.size ≤ 1048576 then 0 else 5
def nextC (S R : ByteArray) (n : Int) : ByteArray × ByteArray := if 0 ≤ n ∧ n ≤ (S ++ R).size then ((S ++ R).extract 0 n.toNat, ⟨#[]⟩) else (S, R)
def codeC (S R : ByteArray) (n : Int) : Int := if 0 ≤ n ∧ n ≤ (S ++ R).size then 0 else 1
def nextX (S R : ByteArray) (keep mask : Int) : ByteArray × ByteArray := if 0 ≤ keep ∧ keep ≤ R.size ∧ 0 ≤ mask ∧ mask ≤ 255 then (refCrashed S R keep.toNat mask.toNat, ⟨#[]⟩) else (S, R)
def codeX (R : ByteArray) (keep mask : Int) : Int := if 0 ≤ keep ∧ keep ≤ R.size ∧ 0 ≤ mask ∧ mask ≤ 255 then 0 else 1

theorem app_nil (S : ByteArray) : S ++ (⟨#[]⟩ : ByteArray) = S := by
  apply Go.WideShapes.bytes_inj
  rw [Go.Joins.data_append]
  simp
theorem app_assoc (S R y : ByteArray) : S ++ R ++ y = S ++ (R ++ y) := by
  apply Go.WideShapes.bytes_inj
  simp only [Go.Joins.data_append, List.append_assoc]

theorem append_u (B g : Nat) (S R y : ByteArray) (w : World) (h : FileAt w B g (S ++ R) S.size) :
    Calls Try.prog 11 #[.pointer (some ⟨g, 0, none⟩), .string y] w fun e w' => e = .returned (.int .i64 (codeA S R y)) ∧ FileAt w' B g ((nextA S R y).1 ++ (nextA S R y).2) (nextA S R y).1.size ∧ Keeps B g w w' := by
  unfold codeA nextA
  by_cases hc : S.size + R.size + y.size ≤ 1048576
  · simp only [if_pos hc]
    refine (append_room B g (S ++ R) S.size y w h (by rw [size_app]; exact hc)).mono ?_
    rintro e w' ⟨he, hf, hk⟩
    rw [app_assoc] at hf
    exact ⟨he, hf, hk⟩
  · simp only [if_neg hc]
    refine (append_full B g (S ++ R) S.size y w h (by rw [size_app]; exact hc)).mono ?_
    rintro e w' ⟨he, rfl⟩
    exact ⟨he, h, Keeps.refl _ _ _⟩
theorem refAppend_u (g : Nat) (S R y : ByteArray) (w : World) (h : RefAt w g S R) (hs : S.size + R.size ≤ 1048576) (hm : y.size ≤ 140737488351232) :
    Calls Try.prog 15 #[.pointer (some ⟨g, 0, none⟩), .string y] w fun e w' => e = .returned (.int .i64 (codeA S R y)) ∧ RefAt w' g (nextA S R y).1 (nextA S R y).2 ∧ Only g w w' := by
  unfold codeA nextA
  by_cases hc : S.size + R.size + y.size ≤ 1048576
  · simp only [if_pos hc]
    exact refAppend_room g S R y w h hc
  · simp only [if_neg hc]
    refine (refAppend_full g S R y w h hs hm hc).mono ?_
    rintro e w' ⟨he, n, rfl⟩
    exact ⟨he, h.drewN n, Only.drewN _ _ _⟩
theorem cut_u (B g : Nat) (S R : ByteArray) (n : Int) (w : World) (h : FileAt w B g (S ++ R) S.size) :
    Calls Try.prog 14 #[.pointer (some ⟨g, 0, none⟩), .int .i64 n] w fun e w' => e = .returned (.int .i64 (codeC S R n)) ∧ FileAt w' B g ((nextC S R n).1 ++ (nextC S R n).2) (nextC S R n).1.size ∧ Keeps B g w w' := by
  unfold codeC nextC
  by_cases hc : 0 ≤ n ∧ n ≤ (S ++ R).size
  · simp only [if_pos hc]
    obtain ⟨m, rfl⟩ := Int.eq_ofNat_of_zero_le hc.1
    refine (cut_any B g (S ++ R) S.size m w h (by omega)).mono ?_
    rintro e w' ⟨he, hf, hk⟩
    have : ((S ++ R).extract 0 m).size = m := by simp only [ByteArray.size_extract]; omega
    rw [Int.toNat_natCast, app_nil, this]
    exact ⟨he, hf, hk⟩
  · simp only [if_neg hc]
    refine (cut_no B g (S ++ R) S.size n w h hc).mono ?_
    rintro e w' ⟨he, rfl⟩
    exact ⟨he, h, Keeps.refl _ _ _⟩
theorem refCut_u (g : Nat) (S R : ByteArray) (n : Int) (w : World) (h : RefAt w g S R) (hs : S.size + R.size ≤ 1048576) :
    Calls Try.prog 17 #[.pointer (some ⟨g, 0, none⟩), .int .i64 n] w fun e w' => e = .returned (.int .i64 (codeC S R n)) ∧ RefAt w' g (nextC S R n).1 (nextC S R n).2 ∧ Only g w w' := by
  unfold codeC nextC
  by_cases hc : 0 ≤ n ∧ n ≤ (S ++ R).size
  · simp only [if_pos hc]
    obtain ⟨m, rfl⟩ := Int.eq_ofNat_of_zero_le hc.1
    exact refCut_any g S R m w h hs (by omega)
  · simp only [if_neg hc]
    refine (refCut_no g S R n w h hs hc).mono ?_
    rintro e w' ⟨he, k, rfl⟩
    exact ⟨he, h.drewN k, Only.drewN _ _ _⟩
theorem crash_u (B g : Nat) (S R : ByteArray) (keep mask : Int) (w : World) (h : FileAt w B g (S ++ R) S.size) (hw : -9223372036854775808 ≤ keep ∧ keep ≤ 9223372036854775807) :
    Calls Try.prog 13 #[.pointer (some ⟨g, 0, none⟩), .int .i64 keep, .int .i64 mask] w fun e w' => e = .returned (.int .i64 (codeX R keep mask)) ∧ FileAt w' B g ((nextX S R keep mask).1 ++ (nextX S R keep mask).2) (nextX S R keep mask).1.size ∧ Keeps B g w w' := by
  unfold codeX nextX
  by_cases hc : 0 ≤ keep ∧ keep ≤ R.size ∧ 0 ≤ mask ∧ mask ≤ 255
  · simp only [if_pos hc]
    obtain ⟨k, rfl⟩ := Int.eq_ofNat_of_zero_le hc.1
    obtain ⟨m, rfl⟩ := Int.eq_ofNat_of_zero_le hc.2.2.1
    refine (crash_any B g (S ++ R) S.size k m w h (by omega) (by rw [size_app]; omega)).mono ?_
    rintro e w' ⟨he, hf, hk⟩
    rw [crashed_eq] at hf
    rw [Int.toNat_natCast, Int.toNat_natCast, app_nil]
    exact ⟨he, hf, hk⟩
  · simp only [if_neg hc]
    refine (guard_crash B g (S ++ R) S.size keep mask w h (by rw [size_app]; omega) hw).mono ?_
    rintro e w' ⟨he, n, rfl⟩
    exact ⟨he, h.drewN n, Keeps.drewN _ _ _ _⟩
theorem refCrash_u (g : Nat) (S R : ByteArray) (keep mask : Int) (w : World) (h : RefAt w g S R) (hs : S.size + R.size ≤ 1048576) :
    Calls Try.prog 18 #[.pointer (some ⟨g, 0, none⟩), .int .i64 keep, .int .i64 mask] w fun e w' => e = .returned (.int .i64 (codeX R keep mask)) ∧ RefAt w' g (nextX S R keep mask).1 (nextX S R keep mask).2 ∧ Only g w w' := by
  unfold codeX nextX
  by_cases hc : 0 ≤ keep ∧ keep ≤ R.size ∧ 0 ≤ mask ∧ mask ≤ 255
  · simp only [if_pos hc]
    obtain ⟨k, rfl⟩ := Int.eq_ofNat_of_zero_le hc.1
    obtain ⟨m, rfl⟩ := Int.eq_ofNat_of_zero_le hc.2.2.1
    exact refCrash_any g S R k m w h hs (by omega) (by omega)
  · simp only [if_neg hc]
    refine (refCrash_no g S R keep mask w h hc).mono ?_
    rintro e w' ⟨he, rfl⟩
    exact ⟨he, h, Only.refl _ _⟩

/-- Both, one behind the other. -/
theorem St.both {w w1 w2 : World} {B g g2 : Nat} {S R S' R' : ByteArray} (h : St w B g g2 S R) (hf : FileAt w1 B g (S' ++ R') S'.size) (hk : Keeps B g w w1) (hr : RefAt w2 g2 S' R') (ho : Only g2 w1 w2) : St w2 B g g2 S' R' :=
  ⟨hf.only ho (h.r.keeps hk h.f.blk), hr, h.hB⟩
theorem St.size {w : World} {B g g2 : Nat} {S R : ByteArray} (h : St w B g g2 S R) : S.size + R.size ≤ 1048576 := by
  have := h.f.max
  rwa [size_app] at this
theorem St.alloc {w : World} {B g g2 : Nat} {S R : ByteArray} (h : St w B g g2 S R) (o : Obj) : St (w.alloc o) B g g2 S R := by
  obtain ⟨⟨⟨v, hv, hb⟩, h1, h2, h3⟩, hr, hB⟩ := h
  exact ⟨⟨⟨v, (Go.heap_alloc_old w o (Array.getElem?_eq_some_iff.1 hv).1).trans hv, hb.move fun k hk => Go.heap_alloc_old w o (hb.typed k hk).2.1⟩, h1, h2, h3⟩, (Go.heap_alloc_old w o (Array.getElem?_eq_some_iff.1 hr).1).trans hr, hB⟩

end Go.Proofs.Ytnoiejmigonaoaa
