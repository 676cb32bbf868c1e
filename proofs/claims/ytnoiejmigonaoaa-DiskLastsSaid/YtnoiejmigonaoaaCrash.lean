/- The contract of File.Crash: what is kept, and the one byte that is turned. -/
import Derived.Test.YtnoiejmigonaoaaDisk
import Derived.Laws.Bits
import Derived.OpenShut
namespace Go.Proofs.Ytnoiejmigonaoaa
open Go.RowKit Go.Proofs.YtnoiejmigonaoaaW.PrintWords Go.Lib

/-- A byte xored. -/
def xb (c m : Int) : UInt8 := UInt8.ofNat (Go.bits .xor .u8 c m).toNat
theorem bits_range (o : BinOp) (c m : Int) : 0 ≤ Go.bits o .u8 c m ∧ Go.bits o .u8 c m ≤ 255 := by
  unfold Go.bits
  simp only [IntKind.wrap, IntKind.signed, IntKind.bits]
  simp
  omega
theorem xb_toNat (c m : Int) : ((xb c m).toNat : Int) = Go.bits .xor .u8 c m := by
  have := bits_range .xor c m
  unfold xb
  rw [UInt8.toNat_ofNat']
  omega

theorem FileAt.drewN {w : World} {B g : Nat} {b : ByteArray} {sy : Nat} (h : FileAt w B g b sy) (n : Nat) : FileAt (w.drewN n) B g b sy := ⟨h.out, h.ge, h.le, h.max⟩

/-- The bytes behind a store of one. -/
def setB (b : ByteArray) (j : Nat) (x : UInt8) : ByteArray := ⟨b.data.setIfInBounds j x⟩
theorem setB_size (b : ByteArray) (j : Nat) (x : UInt8) : (setB b j x).size = b.size := Array.size_setIfInBounds
theorem strCells_set (b : ByteArray) (j : Nat) (x : UInt8) : strCells (setB b j x) = (strCells b).set j (.int .u8 x.toNat) := by
  simp [strCells, setB, List.map_set]
theorem Buf.set {w : World} {base : Nat} {e : TypeId} {g off cap : Nat} {b : ByteArray} (h : Buf w base e (.slice (some ⟨g, off, none⟩) b.size cap) b) (j : Nat) (hj : j < b.size) (x : UInt8) :
    Buf (w.setCell ⟨g, off + j, none⟩ (.int .u8 x.toNat)) base e (.slice (some ⟨g, off, none⟩) b.size cap) (setB b j x) := by
  rcases h with ⟨h0, he⟩ | ⟨g', off', cap', cur, he, hb, hh, hc, hm, hs, hx⟩
  · omega
  · simp only [Value.slice.injEq, Option.some.injEq, Addr.mk.injEq, and_true, true_and] at he
    obtain ⟨⟨rfl, rfl⟩, rfl⟩ := he
    refine .inr ⟨g, off, cap, _, by rw [setB_size], hb, Go.Joins.block_setCell hh _, by rw [setB_size]; exact hc, hm, by simpa using hs, ?_⟩
    rw [strCells_set, setB_size, ← hx, Array.toList_setIfInBounds]
    rw [List.drop_set, if_neg (by omega), List.take_set, show off + j - off = j by omega]

/-- What a crash leaves. -/
def crashed (b : ByteArray) (sy keep mask : Nat) : ByteArray :=
  if h : sy + keep < b.size ∧ 0 < mask then b.extract 0 (sy + keep) ++ ⟨#[xb (b[sy + keep]'h.1).toNat mask]⟩ else b.extract 0 (sy + keep)

theorem setB_extract (b : ByteArray) (n : Nat) (hn : n < b.size) (x : UInt8) : (setB b n x).extract 0 (n + 1) = b.extract 0 n ++ ⟨#[x]⟩ := by
  apply Go.WideShapes.bytes_inj
  have hl : n < b.data.toList.length := by simpa using hn
  rw [Lib.extract_data, Go.Joins.data_append, Lib.extract_data]
  simp only [setB, Array.toList_setIfInBounds, List.drop_zero, Nat.sub_zero]
  rw [List.take_set, List.take_succ_eq_append_getElem hl, List.set_append_right _ _ (by simp; omega)]
  have hm : min n b.size = n := Nat.min_eq_left (Nat.le_of_lt hn)
  simp [hm]

set_option maxHeartbeats 1600000 in
theorem crash_plain (B g : Nat) (b : ByteArray) (sy : Nat) (keep mask : Nat) (w : World) (h : FileAt w B g b sy) (hk : sy + keep ≤ b.size) (hmk : mask ≤ 255) (hno : ¬ (sy + keep < b.size ∧ 0 < mask)) :
    Calls Try.prog 13 #[.pointer (some ⟨g, 0, none⟩), .int .i64 keep, .int .i64 mask] w fun e w' => e = .returned (.int .i64 0) ∧ FileAt w' B g (crashed b sy keep mask) (crashed b sy keep mask).size ∧ Keeps B g w w' := by
  have hcr : crashed b sy keep mask = b.extract 0 (sy + keep) := by unfold crashed; rw [dif_neg hno]
  have hsz : (b.extract 0 (sy + keep)).size = sy + keep := by simp; omega
  have C := fun n => cut_any B g b sy (sy + keep) (w.drewN n) (h.drewN n) hk
  simp only [Int.natCast_add] at C
  rw [hcr, hsz]
  obtain ⟨⟨v, hg, hb⟩, hB, hs, hm⟩ := h
  obtain ⟨A, c, rfl, hc⟩ := hb.slice
  have c0 : w.cell? ⟨g, 0, none⟩ = some (.slice A b.size c) := Go.Joins.cell_of_block hg 0
  have c1 : w.cell? ⟨g, 1, none⟩ = some (.int .i64 sy) := Go.Joins.cell_of_block hg 1
  clear hg hb hcr hsz
  have d0 : decide ((keep : Int) < 0) = false := by simp
  have d1 : decide ((b.size : Int) - sy < keep) = false := by simp; omega
  have d2 : decide ((mask : Int) < 0) = false := by simp
  have d3 : decide (255 < (mask : Int)) = false := by simp; omega
  have CH := Lib.hid C
  clear C
  by_cases h1 : sy + keep < b.size
  · have e1 : (sy : Int) + (keep : Int) < (b.size : Int) := by omega
    have e2 : ¬ (0 : Int) < (mask : Int) := by omega
    clear hno
    go_enter Try.func13, Try.ntmps13
    go_wp2
    go_quiet (fail)
    go_wp2_with (first | (go_at_call 14; refine (CH.out _).mono ?_; rintro e w' ⟨rfl, hF, hK⟩))
    go_ret
    exact ⟨rfl, hF, (Keeps.drewN B g w _).trans hK⟩
  · have e1 : ¬ (sy : Int) + (keep : Int) < (b.size : Int) := by omega
    clear hno
    go_enter Try.func13, Try.ntmps13
    go_wp2
    go_quiet (fail)
    go_wp2_with (first | (go_at_call 14; refine (CH.out _).mono ?_; rintro e w' ⟨rfl, hF, hK⟩))
    go_ret
    exact ⟨rfl, hF, (Keeps.drewN B g w _).trans hK⟩

theorem Keeps.setRow {B g : Nat} {w : World} {h j : Nat} {cur : Array Value} (hB : B ≤ h) (hh : w.heap[h]? = some (.cells cur 5 (0, 0))) (x : Value) : Keeps B g w (w.setCell ⟨h, j, none⟩ x) :=
  ⟨rfl, rfl, rfl, by simp [World.setCell], fun k _ _ hk => Below.heap_setCell w ⟨h, j, none⟩ x k (fun e => by
    have e : k = h := e
    subst e
    rcases hk with hk | hk
    · omega
    · exact hk cur hh)⟩

set_option maxHeartbeats 1600000 in
theorem crash_turned (B g : Nat) (b : ByteArray) (sy : Nat) (keep mask : Nat) (w : World) (h : FileAt w B g b sy) (hmk : mask ≤ 255) (hk : sy + keep < b.size) (hm0 : 0 < mask) :
    Calls Try.prog 13 #[.pointer (some ⟨g, 0, none⟩), .int .i64 keep, .int .i64 mask] w fun e w' => e = .returned (.int .i64 0) ∧ FileAt w' B g (crashed b sy keep mask) (crashed b sy keep mask).size ∧ Keeps B g w w' := by
  obtain ⟨⟨v, hg, hb⟩, hB, hs, hm⟩ := h
  obtain ⟨r, off, cap, rfl, hcell, hfr⟩ := hb.cell (sy + keep) hk
  have c0 : w.cell? ⟨g, 0, none⟩ = some (.slice (some ⟨r, off, none⟩) b.size cap) := Go.Joins.cell_of_block hg 0
  have c1 : w.cell? ⟨g, 1, none⟩ = some (.int .i64 sy) := Go.Joins.cell_of_block hg 1
  have d0 : decide ((keep : Int) < 0) = false := by simp
  have d1 : decide ((b.size : Int) - sy < keep) = false := by simp; omega
  have d2 : decide ((mask : Int) < 0) = false := by simp
  have d3 : decide (255 < (mask : Int)) = false := by simp; omega
  have e1 : (sy : Int) + (keep : Int) < (b.size : Int) := by omega
  have e2 : (0 : Int) < (mask : Int) := by omega
  have e3 : ((sy : Int) + (keep : Int)).toNat = sy + keep := by omega
  have hcr : crashed b sy keep mask = (setB b (sy + keep) (xb (b[sy + keep]'hk).toNat mask)).extract 0 (sy + keep + 1) := by
    unfold crashed
    rw [dif_pos ⟨hk, hm0⟩, setB_extract b _ hk]
  have hsz : ((setB b (sy + keep) (xb (b[sy + keep]'hk).toNat mask)).extract 0 (sy + keep + 1)).size = sy + keep + 1 := by simp [setB_size]; omega
  rw [hcr, hsz]
  have CH := Lib.hid (fun n => by
    obtain ⟨_, _, cur, hcur⟩ := hb.typed r rfl
    have hne : r ≠ g := file_ne hb hg r rfl
    have hF : FileAt ((w.drewN n).setCell ⟨r, off + (sy + keep), none⟩ (.int .u8 (bits .xor .u8 (b[sy + keep]'hk).toNat mask))) B g (setB b (sy + keep) (xb (b[sy + keep]'hk).toNat mask)) sy := by
      rw [← xb_toNat]
      exact ⟨⟨_, (Below.heap_setCell (w.drewN n) ⟨r, off + (sy + keep), none⟩ _ g (fun e => hne e.symm)).trans hg, by
        exact Buf.set (w := w.drewN n) hb (sy + keep) hk (xb (b[sy + keep]'hk).toNat mask)⟩, hB, by rw [setB_size]; omega, by rw [setB_size]; exact hm⟩
    have := cut_any B g _ sy (sy + keep + 1) _ hF (by rw [setB_size]; omega)
    simp only [Int.natCast_add, Int.cast_ofNat_Int] at this
    exact this)
  have KR := Lib.hid (fun n => by
    obtain ⟨h1, _, cur, hcur⟩ := hb.typed r rfl
    exact Keeps.setRow (g := g) (w := w.drewN n) (j := off + (sy + keep)) h1 hcur (.int .u8 (bits .xor .u8 (b[sy + keep]'hk).toNat mask)))
  clear hcr hsz hb hg
  go_enter Try.func13, Try.ntmps13
  go_wp2
  go_quiet (fail)
  go_wp2_with (first | (go_at_call 14; refine (CH.out _).mono ?_; rintro e w' ⟨rfl, hF, hK⟩))
  go_ret
  exact ⟨rfl, hF, ((Keeps.drewN B g w _).trans (KR.out _)).trans hK⟩

theorem crash_any (B g : Nat) (b : ByteArray) (sy : Nat) (keep mask : Nat) (w : World) (h : FileAt w B g b sy) (hmk : mask ≤ 255) (hk : sy + keep ≤ b.size) :
    Calls Try.prog 13 #[.pointer (some ⟨g, 0, none⟩), .int .i64 keep, .int .i64 mask] w fun e w' => e = .returned (.int .i64 0) ∧ FileAt w' B g (crashed b sy keep mask) (crashed b sy keep mask).size ∧ Keeps B g w w' := by
  by_cases hc : sy + keep < b.size ∧ 0 < mask
  · exact crash_turned B g b sy keep mask w h hmk hc.1 hc.2
  · exact crash_plain B g b sy keep mask w h hk hmk hc

end Go.Proofs.Ytnoiejmigonaoaa
