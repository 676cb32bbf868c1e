/- The contracts of the package disk: what each method answers, and what the file's block holds behind it.
The contract of File.Crash: what is kept, and the one byte that is turned.
What bytes tell: the records, each with where it ends. Plain.
More of what bytes tell: bounds. Plain.
What bytes tell that a ledger wrote, whole or torn. Plain.
What a crash leaves of a ledger's bytes. Plain. -/
import Derived.Test.YtmlfheagbfaoaaaDoorProg
import Derived.Test.YtmlfheagbfaoaaaDoorBuf
import Derived.Test.YtmlfheagbfaoaaaDoorWMore
import Derived.Lib.Hide
import Derived.Outline
import Derived.BigQuiet
import Derived.Deep.QuietTactic
import Derived.Laws.Bits
import Derived.OpenShut
import Derived.Test.YtmlfheagbfaoaaaDoorSeal
namespace Go.Proofs.YtmlfheagbfaoaaaDoor.Dk
open Go.RowKit Go.Proofs.YtmlfheagbfaoaaaDoorW.PrintWords Go.Lib

/-- Block g is a file of the program's: its bytes, and how many are synced. -/
structure FileAt (w : World) (B g : Nat) (b : ByteArray) (sy : Nat) : Prop where
  out : ∃ v, w.heap[g]? = some (.cells #[v, .int .i64 sy] 58 (0, 0)) ∧ Buf w B 5 v b
  ge : B ≤ g
  le : sy ≤ b.size
  max : b.size ≤ 1048576
/-- What a method leaves as it was: all but the file's block and rows of bytes from B on. -/
structure Keeps (B g : Nat) (w w' : World) : Prop where
  os : w'.os = w.os
  tape : w'.tape = w.tape
  output : w'.output = w.output
  size : w.heap.size ≤ w'.heap.size
  block : ∀ k, k < w.heap.size → k ≠ g → (k < B ∨ ∀ cur, w.heap[k]? ≠ some (.cells cur 5 (0, 0))) → w'.heap[k]? = w.heap[k]?
theorem Keeps.refl (B g : Nat) (w : World) : Keeps B g w w := ⟨rfl, rfl, rfl, Nat.le_refl _, fun _ _ _ _ => rfl⟩
theorem Keeps.trans {B g : Nat} {w w1 w2 : World} (h : Keeps B g w w1) (k : Keeps B g w1 w2) : Keeps B g w w2 :=
  ⟨k.os.trans h.os, k.tape.trans h.tape, k.output.trans h.output, Nat.le_trans h.size k.size, fun i hi hg hb => by
    have e := h.block i hi hg hb
    refine (k.block i (Nat.lt_of_lt_of_le hi h.size) hg ?_).trans e
    rcases hb with hb | hb
    · exact .inl hb
    · exact .inr (fun cur => by rw [e]; exact hb cur)⟩
theorem Keeps.set (B g : Nat) (w : World) (j : Nat) (v : Value) : Keeps B g w (w.setCell ⟨g, j, none⟩ v) :=
  ⟨rfl, rfl, rfl, by simp [World.setCell], fun k _ hg _ => Below.heap_setCell w ⟨g, j, none⟩ v k hg⟩
theorem Keeps.drewN (B g : Nat) (w : World) (n : Nat) : Keeps B g w (w.drewN n) := ⟨rfl, rfl, rfl, Nat.le_refl _, fun _ _ _ _ => rfl⟩
theorem Keeps.below {B g : Nat} {w0 w w' : World} (h : Keeps B g w w') (hb : Below B w0 w) (hB : B ≤ g) (hs : B ≤ w.heap.size) : Below B w0 w' :=
  ⟨h.os.trans hb.os, h.tape.trans hb.tape, h.output.trans hb.output, Nat.le_trans hb.size h.size, fun k hk => (h.block k (by omega) (by omega) (.inl hk)).trans (hb.block k hk)⟩
theorem Keeps.grown {B g : Nat} {w w' : World} {v : Value} {b : ByteArray} (hg : w.grownBy w' v.ownBlock) (hb : Buf w B 5 v b) : Keeps B g w w' :=
  ⟨hg.os, hg.tape, hg.output, hg.size, fun k hk _ h => hg.block k hk (fun e => by
    obtain ⟨h1, _, cur, h2⟩ := hb.typed k e.symm
    rcases h with h | h
    · omega
    · exact h cur h2)⟩

theorem info5 : (Tryd.prog.info? 5).map (fun i => (i.zero, i.size, i.bytes)) = some (some (.int .u8 0), 1, 1) := by kernel_rfl

theorem new_any (w : World) : Calls Tryd.prog 9 #[] w fun e w' => e = .returned (.pointer (some ⟨w.heap.size, 0, none⟩)) ∧ w.alloc (.cells #[.slice none 0 0, .int .i64 0] 58) = w' := by
  go_enter Tryd.func9, Tryd.ntmps9
  go_wp2
  go_ret
  exact ⟨rfl, rfl⟩

theorem FileAt.new (w : World) : FileAt (w.alloc (.cells #[.slice none 0 0, .int .i64 0] 58)) w.heap.size w.heap.size ⟨#[]⟩ 0 :=
  ⟨⟨.slice none 0 0, heap_alloc_new w _, .nil _ _ _ _ rfl⟩, Nat.le_refl _, Nat.zero_le _, Nat.zero_le _⟩

theorem file_ne {w : World} {B g : Nat} {v : Value} {b : ByteArray} {cs : Array Value} {fr : Nat × Nat} (hb : Buf w B 5 v b) (hg : w.heap[g]? = some (.cells cs 58 fr)) (k : Nat) (hk : v.ownBlock = some k) : k ≠ g := by
  obtain ⟨_, _, cur, h⟩ := hb.typed k hk
  rintro rfl
  rw [hg] at h
  injection h with h
  injection h with _ h
  exact absurd h (by decide)
theorem file_set0 {w : World} {B g : Nat} {v v' : Value} {sy : Nat} {b : ByteArray} (hg : w.heap[g]? = some (.cells #[v, .int .i64 sy] 58 (0, 0))) (hb : Buf w B 5 v' b) (hB : B ≤ g) (hs : sy ≤ b.size) (hm : b.size ≤ 1048576) :
    FileAt (w.setCell ⟨g, 0, none⟩ v') B g b sy :=
  ⟨⟨v', Go.Joins.block_setCell hg v', hb.move (fun k hk => Below.heap_setCell w ⟨g, 0, none⟩ v' k (file_ne hb hg k hk))⟩, hB, hs, hm⟩
theorem file_set1 {w : World} {B g : Nat} {v : Value} {sy sy' : Nat} {b : ByteArray} (hg : w.heap[g]? = some (.cells #[v, .int .i64 sy] 58 (0, 0))) (hb : Buf w B 5 v b) (hB : B ≤ g) (hs : sy' ≤ b.size) (hm : b.size ≤ 1048576) :
    FileAt (w.setCell ⟨g, 1, none⟩ (.int .i64 sy')) B g b sy' :=
  ⟨⟨v, Go.Joins.block_setCell hg (.int .i64 sy'), hb.move (fun k hk => Below.heap_setCell w ⟨g, 1, none⟩ _ k (file_ne hb hg k hk))⟩, hB, hs, hm⟩

theorem size_no {a b : Nat} (h : ¬ a ≤ 1048576 - b) (hb : b ≤ 1048576) : (1048576 : Int) - (b : Int) < (a : Int) := by omega

set_option maxHeartbeats 800000 in
theorem append_full (B g : Nat) (b : ByteArray) (sy : Nat) (y : ByteArray) (w : World) (h : FileAt w B g b sy) (hy : ¬ b.size + y.size ≤ 1048576) :
    Calls Tryd.prog 17 #[.pointer (some ⟨g, 0, none⟩), .string y] w fun e w' => e = .returned (.int .i64 5) ∧ w = w' := by
  obtain ⟨⟨v, hg, hb⟩, hB, hs, hm⟩ := h
  obtain ⟨A, c, rfl, hc⟩ := hb.slice
  have c0 : w.cell? ⟨g, 0, none⟩ = some (.slice A b.size c) := Go.Joins.cell_of_block hg 0
  have t : (1048576 : Int) - (b.size : Int) < (y.size : Int) := by omega
  clear hg hb
  go_enter Tryd.func17, Tryd.ntmps17
  go_wp2
  go_ret
  exact ⟨rfl, rfl⟩

set_option maxHeartbeats 800000 in
theorem append_room (B g : Nat) (b : ByteArray) (sy : Nat) (y : ByteArray) (w : World) (h : FileAt w B g b sy) (hy : b.size + y.size ≤ 1048576) :
    Calls Tryd.prog 17 #[.pointer (some ⟨g, 0, none⟩), .string y] w fun e w' => e = .returned (.int .i64 0) ∧ FileAt w' B g (b ++ y) sy ∧ Keeps B g w w' := by
  obtain ⟨⟨v, hg, hb⟩, hB, hs, hm⟩ := h
  obtain ⟨A, c, rfl, hc⟩ := hb.slice
  have c0 : w.cell? ⟨g, 0, none⟩ = some (.slice A b.size c) := Go.Joins.cell_of_block hg 0
  have t : ¬ (1048576 : Int) - (b.size : Int) < (y.size : Int) := by omega
  obtain ⟨i0, hi, hz0, hz1, hz2⟩ := info_parts info5
  have hgs := (Array.getElem?_eq_some_iff.1 hg).1
  go_enter Tryd.func17, Tryd.ntmps17
  go_wp2_with (first | (at_builtin; refine wpList_append_buf rfl _ _ 56 9 rfl B 5 i0 Tryd.underlying56 Tryd.underlying9 hi hz0 hz1 hz2 _ b rfl hb y rfl (by omega) (by omega) ?_) | go_in)
  intro v' w' hb' hgr _
  have hg' : w'.heap[g]? = some (.cells #[.slice A b.size c, .int .i64 sy] 58 (0, 0)) := by
    rw [hgr.block g hgs (fun e => file_ne hb hg g e.symm rfl)]
    exact hg
  have c0' : w'.cell? ⟨g, 0, none⟩ = some (.slice A b.size c) := Go.Joins.cell_of_block hg' 0
  have f0' : w'.frozen? ⟨g, 0, none⟩ = false := Go.Joins.unfrozen_of_block hg' 0
  have R1 := Lib.hid (file_set0 hg' hb' hB (show sy ≤ (b ++ y).size by rw [size_app]; omega) (by rw [size_app]; omega))
  have R2 := Lib.hid ((Keeps.grown (g := g) hgr hb).trans (Keeps.set B g w' 0 v'))
  obtain ⟨A', c', hv', _⟩ := hb'.slice
  rw [size_app] at hv'
  subst hv'
  clear hg' hb' hgr hg hb c0
  go_wp2
  go_ret
  exact ⟨rfl, R1.out, R2.out⟩

set_option maxHeartbeats 800000 in
theorem sync_at (B g : Nat) (b : ByteArray) (sy : Nat) (v : Value) (w : World) (hg : w.heap[g]? = some (.cells #[v, .int .i64 sy] 58 (0, 0))) (hb : Buf w B 5 v b) (hB : B ≤ g) (hm : b.size ≤ 1048576) :
    Calls Tryd.prog 29 #[.pointer (some ⟨g, 0, none⟩)] w fun e w' => e = .returned (.int .i64 0) ∧ FileAt w' B g b b.size ∧ Keeps B g w w' := by
  obtain ⟨A, c, rfl, hc⟩ := hb.slice
  have c0 : w.cell? ⟨g, 0, none⟩ = some (.slice A b.size c) := Go.Joins.cell_of_block hg 0
  have c1 : w.cell? ⟨g, 1, none⟩ = some (.int .i64 sy) := Go.Joins.cell_of_block hg 1
  have f1 : w.frozen? ⟨g, 1, none⟩ = false := Go.Joins.unfrozen_of_block hg 1
  have R1 := Lib.hid (file_set1 hg hb hB (Nat.le_refl _) hm)
  have R2 := Lib.hid (Keeps.set B g w 1 (.int .i64 b.size))
  clear hg hb
  go_enter Tryd.func29, Tryd.ntmps29
  go_wp2
  go_ret
  exact ⟨rfl, R1.out, R2.out⟩

theorem sync_any (B g : Nat) (b : ByteArray) (sy : Nat) (w : World) (h : FileAt w B g b sy) :
    Calls Tryd.prog 29 #[.pointer (some ⟨g, 0, none⟩)] w fun e w' => e = .returned (.int .i64 0) ∧ FileAt w' B g b b.size ∧ Keeps B g w w' := by
  obtain ⟨⟨v, hg, hb⟩, hB, _, hm⟩ := h
  exact sync_at B g b sy v w hg hb hB hm

set_option maxHeartbeats 800000 in
theorem bytes_any (B g : Nat) (b : ByteArray) (sy : Nat) (w : World) (h : FileAt w B g b sy) :
    Calls Tryd.prog 12 #[.pointer (some ⟨g, 0, none⟩)] w fun e w' => e = .returned (.string b) ∧ w = w' := by
  obtain ⟨⟨v, hg, hb⟩, hB, hs, hm⟩ := h
  obtain ⟨A, c, rfl, hc⟩ := hb.slice
  have c0 : w.cell? ⟨g, 0, none⟩ = some (.slice A b.size c) := Go.Joins.cell_of_block hg 0
  have hcv : (convert 56 9 (.slice A b.size c)).run Tryd.prog w = .ok (.string b) w := hb.string Tryd.underlying56 Tryd.underlying5 Tryd.underlying9
  clear hg hb
  go_enter Tryd.func12, Tryd.ntmps12
  go_wp2
  go_ret
  exact ⟨rfl, rfl⟩

set_option maxHeartbeats 800000 in
theorem len_any (B g : Nat) (b : ByteArray) (sy : Nat) (w : World) (h : FileAt w B g b sy) :
    Calls Tryd.prog 18 #[.pointer (some ⟨g, 0, none⟩)] w fun e w' => e = .returned (.tuple #[.int .i64 b.size, .int .i64 sy]) ∧ ∃ n, w' = w.drewN n := by
  obtain ⟨⟨v, hg, hb⟩, hB, hs, hm⟩ := h
  obtain ⟨A, c, rfl, hc⟩ := hb.slice
  have c0 : w.cell? ⟨g, 0, none⟩ = some (.slice A b.size c) := Go.Joins.cell_of_block hg 0
  have c1 : w.cell? ⟨g, 1, none⟩ = some (.int .i64 sy) := Go.Joins.cell_of_block hg 1
  clear hg hb
  go_enter Tryd.func18, Tryd.ntmps18
  go_wp2
  go_quiet (fail)
  go_wp2
  go_ret2
  exact ⟨rfl, _, rfl⟩

set_option maxHeartbeats 800000 in
theorem cut_no (B g : Nat) (b : ByteArray) (sy : Nat) (n : Int) (w : World) (h : FileAt w B g b sy) (hn : ¬ (0 ≤ n ∧ n ≤ b.size)) :
    Calls Tryd.prog 24 #[.pointer (some ⟨g, 0, none⟩), .int .i64 n] w fun e w' => e = .returned (.int .i64 1) ∧ w = w' := by
  obtain ⟨⟨v, hg, hb⟩, hB, hs, hm⟩ := h
  obtain ⟨A, c, rfl, hc⟩ := hb.slice
  have c0 : w.cell? ⟨g, 0, none⟩ = some (.slice A b.size c) := Go.Joins.cell_of_block hg 0
  clear hg hb
  by_cases h0 : n < 0
  · clear hn
    go_enter Tryd.func24, Tryd.ntmps24
    go_wp2
    go_ret
    exact ⟨rfl, rfl⟩
  · have h1 : (b.size : Int) < n := by omega
    clear hn
    go_enter Tryd.func24, Tryd.ntmps24
    go_wp2
    go_ret
    exact ⟨rfl, rfl⟩

theorem _root_.Go.Proofs.YtmlfheagbfaoaaaDoor.Buf.cut {w : World} {base : Nat} {e : TypeId} {A : Option Addr} {b : ByteArray} {c : Nat} (h : Buf w base e (.slice A b.size c) b) (n : Nat) (hn : n ≤ b.size) :
    Buf w base e (.slice A n n) (b.extract 0 n) := by
  have hsz : (b.extract 0 n).size = n := by simp; omega
  rcases h with ⟨h0, he⟩ | ⟨g, off, cap, cur, he, hb, hh, hc, hm, hs, hx⟩
  · have hn0 : n = 0 := by omega
    subst hn0
    injection he with hA _ _
    subst hA
    exact .inl ⟨hsz, rfl⟩
  · injection he with hA _ hcap
    subst hA
    subst hcap
    refine .inr ⟨g, off, n, cur, ?_, hb, hh, by omega, by omega, by omega, ?_⟩
    · rw [hsz]
    · rw [hsz]
      have : strCells (b.extract 0 n) = (strCells b).take n := by
        simp only [strCells, ← List.map_take]
        congr 1
        rw [Lib.extract_data]
        simp
      rw [this, ← hx, List.take_take, Nat.min_eq_left hn]

set_option maxHeartbeats 800000 in
theorem cut_any (B g : Nat) (b : ByteArray) (sy : Nat) (n : Nat) (w : World) (h : FileAt w B g b sy) (hn : n ≤ b.size) :
    Calls Tryd.prog 24 #[.pointer (some ⟨g, 0, none⟩), .int .i64 n] w fun e w' => e = .returned (.int .i64 0) ∧ FileAt w' B g (b.extract 0 n) n ∧ Keeps B g w w' := by
  obtain ⟨⟨v, hg, hb⟩, hB, hs, hm⟩ := h
  obtain ⟨A, c, rfl, hc⟩ := hb.slice
  have c0 : w.cell? ⟨g, 0, none⟩ = some (.slice A b.size c) := Go.Joins.cell_of_block hg 0
  have f0 : w.frozen? ⟨g, 0, none⟩ = false := Go.Joins.unfrozen_of_block hg 0
  have h0 : ¬ ((b.size : Int) < (n : Int)) := by omega
  have hnc : n ≤ c := by omega
  have hd : decide ((n : Int) < 0) = false := by simp
  have hsz : (b.extract 0 n).size = n := by simp; omega
  have R0 := Lib.hid (Keeps.set B g w 0 (.slice A n n))
  -- the synced are more than what is left, while Sync has not yet run: they are told anew there
  have hg1 : (w.setCell ⟨g, 0, none⟩ (.slice A n n)).heap[g]? = some (.cells #[.slice A n n, .int .i64 sy] 58 (0, 0)) := Go.Joins.block_setCell hg _
  have hb1 : Buf (w.setCell ⟨g, 0, none⟩ (.slice A n n)) B 5 (.slice A n n) (b.extract 0 n) := (hb.cut n hn).move (fun k hk => Below.heap_setCell w ⟨g, 0, none⟩ _ k (file_ne (hb.cut n hn) hg k hk))
  have S := Lib.hid (sync_at B g (b.extract 0 n) sy (.slice A n n) (w.setCell ⟨g, 0, none⟩ (.slice A n n)) hg1 hb1 hB (by omega))
  clear hg hb hg1 hb1
  go_enter Tryd.func24, Tryd.ntmps24
  go_wp2_with (first | (go_at_call 29; refine S.out.mono ?_; rintro e w' ⟨rfl, hF, hK⟩))
  go_ret
  rw [hsz] at hF
  exact ⟨rfl, hF, R0.out.trans hK⟩


theorem guard_crash (B g : Nat) (b : ByteArray) (sy : Nat) (keep mask : Int) (w : World) (h : FileAt w B g b sy) (hn : ¬ (0 ≤ keep ∧ keep ≤ (b.size : Int) - sy ∧ 0 ≤ mask ∧ mask ≤ 255)) (hk : -9223372036854775808 ≤ keep ∧ keep ≤ 9223372036854775807) :
    Calls Tryd.prog 22 #[.pointer (some ⟨g, 0, none⟩), .int .i64 keep, .int .i64 mask] w fun e w' => e = .returned (.int .i64 1) ∧ ∃ n, w' = w.drewN n := by
  obtain ⟨⟨v, hg, hb⟩, hB, hs, hm⟩ := h
  obtain ⟨A, c, rfl, hc⟩ := hb.slice
  have c0 : w.cell? ⟨g, 0, none⟩ = some (.slice A b.size c) := Go.Joins.cell_of_block hg 0
  have c1 : w.cell? ⟨g, 1, none⟩ = some (.int .i64 sy) := Go.Joins.cell_of_block hg 1
  clear hg hb
  by_cases h0 : keep < 0
  · have d0 : decide (keep < 0) = true := by simp [h0]
    clear hn
    go_enter Tryd.func22, Tryd.ntmps22
    go_wp2
    go_quiet (fail)
    go_wp2
    go_ret
    exact ⟨rfl, _, rfl⟩
  · have d0 : decide (keep < 0) = false := by simp [h0]
    by_cases h1 : (b.size : Int) - sy < keep
    · have d1 : decide ((b.size : Int) - sy < keep) = true := by simp [h1]
      clear hn
      go_enter Tryd.func22, Tryd.ntmps22
      go_wp2
      go_quiet (fail)
      go_wp2
      go_ret
      exact ⟨rfl, _, rfl⟩
    · have d1 : decide ((b.size : Int) - sy < keep) = false := by simp [h1]
      by_cases h2 : mask < 0
      · have d2 : decide (mask < 0) = true := by simp [h2]
        clear hn
        go_enter Tryd.func22, Tryd.ntmps22
        go_wp2
        go_quiet (fail)
        go_wp2
        go_ret
        exact ⟨rfl, _, rfl⟩
      · have d2 : decide (mask < 0) = false := by simp [h2]
        have h3 : 255 < mask := by omega
        have d3 : decide (255 < mask) = true := by simp [h3]
        clear hn
        go_enter Tryd.func22, Tryd.ntmps22
        go_wp2
        go_quiet (fail)
        go_wp2
        go_ret
        exact ⟨rfl, _, rfl⟩
end Go.Proofs.YtmlfheagbfaoaaaDoor.Dk
namespace Go.Proofs.YtmlfheagbfaoaaaDoor.Dk
open Go.RowKit Go.Proofs.YtmlfheagbfaoaaaDoorW.PrintWords Go.Lib

/-- A byte xored. -/
def xb (c m : Int) : UInt8 := UInt8.ofNat (Go.bits .xor .u8 c m).toNat
theorem bits_range (o : BinOp) (c m : Int) : 0 ≤ Go.bits o .u8 c m ∧ Go.bits o .u8 c m ≤ 255 := by
  unfold Go.bits
  simp only [IntKind.wrap, IntKind.signed, IntKind.bits]
  simp
  omega
theorem xb_toNat (c m : Int) : ((xb c m).toNat : Int) = Go.bits .xor .u8 c m := by
  have := bits_range .xor c m
  unfold xb
  rw [UInt8.toNat_ofNat']
  omega

theorem FileAt.drewN {w : World} {B g : Nat} {b : ByteArray} {sy : Nat} (h : FileAt w B g b sy) (n : Nat) : FileAt (w.drewN n) B g b sy := ⟨h.out, h.ge, h.le, h.max⟩

/-- The bytes behind a store of one. -/
def setB (b : ByteArray) (j : Nat) (x : UInt8) : ByteArray := ⟨b.data.setIfInBounds j x⟩
theorem setB_size (b : ByteArray) (j : Nat) (x : UInt8) : (setB b j x).size = b.size := Array.size_setIfInBounds
theorem strCells_set (b : ByteArray) (j : Nat) (x : UInt8) : strCells (setB b j x) = (strCells b).set j (.int .u8 x.toNat) := by
  simp [strCells, setB, List.map_set]
theorem _root_.Go.Proofs.YtmlfheagbfaoaaaDoor.Buf.set {w : World} {base : Nat} {e : TypeId} {g off cap : Nat} {b : ByteArray} (h : Buf w base e (.slice (some ⟨g, off, none⟩) b.size cap) b) (j : Nat) (hj : j < b.size) (x : UInt8) :
    Buf (w.setCell ⟨g, off + j, none⟩ (.int .u8 x.toNat)) base e (.slice (some ⟨g, off, none⟩) b.size cap) (setB b j x) := by
  rcases h with ⟨h0, he⟩ | ⟨g', off', cap', cur, he, hb, hh, hc, hm, hs, hx⟩
  · omega
  · simp only [Value.slice.injEq, Option.some.injEq, Addr.mk.injEq, and_true, true_and] at he
    obtain ⟨⟨rfl, rfl⟩, rfl⟩ := he
    refine .inr ⟨g, off, cap, _, by rw [setB_size], hb, Go.Joins.block_setCell hh _, by rw [setB_size]; exact hc, hm, by simpa using hs, ?_⟩
    rw [strCells_set, setB_size, ← hx, Array.toList_setIfInBounds]
    rw [List.drop_set, if_neg (by omega), List.take_set, show off + j - off = j by omega]

/-- What a crash leaves. -/
def crashed (b : ByteArray) (sy keep mask : Nat) : ByteArray :=
  if h : sy + keep < b.size ∧ 0 < mask then b.extract 0 (sy + keep) ++ ⟨#[xb (b[sy + keep]'h.1).toNat mask]⟩ else b.extract 0 (sy + keep)

theorem setB_extract (b : ByteArray) (n : Nat) (hn : n < b.size) (x : UInt8) : (setB b n x).extract 0 (n + 1) = b.extract 0 n ++ ⟨#[x]⟩ := by
  apply Go.WideShapes.bytes_inj
  have hl : n < b.data.toList.length := by simpa using hn
  rw [Lib.extract_data, Go.Joins.data_append, Lib.extract_data]
  simp only [setB, Array.toList_setIfInBounds, List.drop_zero, Nat.sub_zero]
  rw [List.take_set, List.take_succ_eq_append_getElem hl, List.set_append_right _ _ (by simp; omega)]
  have hm : min n b.size = n := Nat.min_eq_left (Nat.le_of_lt hn)
  simp [hm]

set_option maxHeartbeats 1600000 in
theorem crash_plain (B g : Nat) (b : ByteArray) (sy : Nat) (keep mask : Nat) (w : World) (h : FileAt w B g b sy) (hk : sy + keep ≤ b.size) (hmk : mask ≤ 255) (hno : ¬ (sy + keep < b.size ∧ 0 < mask)) :
    Calls Tryd.prog 22 #[.pointer (some ⟨g, 0, none⟩), .int .i64 keep, .int .i64 mask] w fun e w' => e = .returned (.int .i64 0) ∧ FileAt w' B g (crashed b sy keep mask) (crashed b sy keep mask).size ∧ Keeps B g w w' := by
  have hcr : crashed b sy keep mask = b.extract 0 (sy + keep) := by unfold crashed; rw [dif_neg hno]
  have hsz : (b.extract 0 (sy + keep)).size = sy + keep := by simp; omega
  have C := fun n => cut_any B g b sy (sy + keep) (w.drewN n) (h.drewN n) hk
  simp only [Int.natCast_add] at C
  rw [hcr, hsz]
  obtain ⟨⟨v, hg, hb⟩, hB, hs, hm⟩ := h
  obtain ⟨A, c, rfl, hc⟩ := hb.slice
  have c0 : w.cell? ⟨g, 0, none⟩ = some (.slice A b.size c) := Go.Joins.cell_of_block hg 0
  have c1 : w.cell? ⟨g, 1, none⟩ = some (.int .i64 sy) := Go.Joins.cell_of_block hg 1
  clear hg hb hcr hsz
  have d0 : decide ((keep : Int) < 0) = false := by simp
  have d1 : decide ((b.size : Int) - sy < keep) = false := by simp; omega
  have d2 : decide ((mask : Int) < 0) = false := by simp
  have d3 : decide (255 < (mask : Int)) = false := by simp; omega
  have CH := Lib.hid C
  clear C
  by_cases h1 : sy + keep < b.size
  · have e1 : (sy : Int) + (keep : Int) < (b.size : Int) := by omega
    have e2 : ¬ (0 : Int) < (mask : Int) := by omega
    clear hno
    go_enter Tryd.func22, Tryd.ntmps22
    go_wp2
    go_quiet (fail)
    go_wp2_with (first | (go_at_call 24; refine (CH.out _).mono ?_; rintro e w' ⟨rfl, hF, hK⟩))
    go_ret
    exact ⟨rfl, hF, (Keeps.drewN B g w _).trans hK⟩
  · have e1 : ¬ (sy : Int) + (keep : Int) < (b.size : Int) := by omega
    clear hno
    go_enter Tryd.func22, Tryd.ntmps22
    go_wp2
    go_quiet (fail)
    go_wp2_with (first | (go_at_call 24; refine (CH.out _).mono ?_; rintro e w' ⟨rfl, hF, hK⟩))
    go_ret
    exact ⟨rfl, hF, (Keeps.drewN B g w _).trans hK⟩

theorem Keeps.setRow {B g : Nat} {w : World} {h j : Nat} {cur : Array Value} (hB : B ≤ h) (hh : w.heap[h]? = some (.cells cur 5 (0, 0))) (x : Value) : Keeps B g w (w.setCell ⟨h, j, none⟩ x) :=
  ⟨rfl, rfl, rfl, by simp [World.setCell], fun k _ _ hk => Below.heap_setCell w ⟨h, j, none⟩ x k (fun e => by
    have e : k = h := e
    subst e
    rcases hk with hk | hk
    · omega
    · exact hk cur hh)⟩

set_option maxHeartbeats 1600000 in
theorem crash_turned (B g : Nat) (b : ByteArray) (sy : Nat) (keep mask : Nat) (w : World) (h : FileAt w B g b sy) (hmk : mask ≤ 255) (hk : sy + keep < b.size) (hm0 : 0 < mask) :
    Calls Tryd.prog 22 #[.pointer (some ⟨g, 0, none⟩), .int .i64 keep, .int .i64 mask] w fun e w' => e = .returned (.int .i64 0) ∧ FileAt w' B g (crashed b sy keep mask) (crashed b sy keep mask).size ∧ Keeps B g w w' := by
  obtain ⟨⟨v, hg, hb⟩, hB, hs, hm⟩ := h
  obtain ⟨r, off, cap, rfl, hcell, hfr⟩ := hb.cell (sy + keep) hk
  have c0 : w.cell? ⟨g, 0, none⟩ = some (.slice (some ⟨r, off, none⟩) b.size cap) := Go.Joins.cell_of_block hg 0
  have c1 : w.cell? ⟨g, 1, none⟩ = some (.int .i64 sy) := Go.Joins.cell_of_block hg 1
  have d0 : decide ((keep : Int) < 0) = false := by simp
  have d1 : decide ((b.size : Int) - sy < keep) = false := by simp; omega
  have d2 : decide ((mask : Int) < 0) = false := by simp
  have d3 : decide (255 < (mask : Int)) = false := by simp; omega
  have e1 : (sy : Int) + (keep : Int) < (b.size : Int) := by omega
  have e2 : (0 : Int) < (mask : Int) := by omega
  have e3 : ((sy : Int) + (keep : Int)).toNat = sy + keep := by omega
  have hcr : crashed b sy keep mask = (setB b (sy + keep) (xb (b[sy + keep]'hk).toNat mask)).extract 0 (sy + keep + 1) := by
    unfold crashed
    rw [dif_pos ⟨hk, hm0⟩, setB_extract b _ hk]
  have hsz : ((setB b (sy + keep) (xb (b[sy + keep]'hk).toNat mask)).extract 0 (sy + keep + 1)).size = sy + keep + 1 := by simp [setB_size]; omega
  rw [hcr, hsz]
  have CH := Lib.hid (fun n => by
    obtain ⟨_, _, cur, hcur⟩ := hb.typed r rfl
    have hne : r ≠ g := file_ne hb hg r rfl
    have hF : FileAt ((w.drewN n).setCell ⟨r, off + (sy + keep), none⟩ (.int .u8 (bits .xor .u8 (b[sy + keep]'hk).toNat mask))) B g (setB b (sy + keep) (xb (b[sy + keep]'hk).toNat mask)) sy := by
      rw [← xb_toNat]
      exact ⟨⟨_, (Below.heap_setCell (w.drewN n) ⟨r, off + (sy + keep), none⟩ _ g (fun e => hne e.symm)).trans hg, by
        exact Buf.set (w := w.drewN n) hb (sy + keep) hk (xb (b[sy + keep]'hk).toNat mask)⟩, hB, by rw [setB_size]; omega, by rw [setB_size]; exact hm⟩
    have := cut_any B g _ sy (sy + keep + 1) _ hF (by rw [setB_size]; omega)
    simp only [Int.natCast_add, Int.cast_ofNat_Int] at this
    exact this)
  have KR := Lib.hid (fun n => by
    obtain ⟨h1, _, cur, hcur⟩ := hb.typed r rfl
    exact Keeps.setRow (g := g) (w := w.drewN n) (j := off + (sy + keep)) h1 hcur (.int .u8 (bits .xor .u8 (b[sy + keep]'hk).toNat mask)))
  clear hcr hsz hb hg
  go_enter Tryd.func22, Tryd.ntmps22
  go_wp2
  go_quiet (fail)
  go_wp2_with (first | (go_at_call 24; refine (CH.out _).mono ?_; rintro e w' ⟨rfl, hF, hK⟩))
  go_ret
  exact ⟨rfl, hF, ((Keeps.drewN B g w _).trans (KR.out _)).trans hK⟩

theorem crash_any (B g : Nat) (b : ByteArray) (sy : Nat) (keep mask : Nat) (w : World) (h : FileAt w B g b sy) (hmk : mask ≤ 255) (hk : sy + keep ≤ b.size) :
    Calls Tryd.prog 22 #[.pointer (some ⟨g, 0, none⟩), .int .i64 keep, .int .i64 mask] w fun e w' => e = .returned (.int .i64 0) ∧ FileAt w' B g (crashed b sy keep mask) (crashed b sy keep mask).size ∧ Keeps B g w w' := by
  by_cases hc : sy + keep < b.size ∧ 0 < mask
  · exact crash_turned B g b sy keep mask w h hmk hc.1 hc.2
  · exact crash_plain B g b sy keep mask w h hk hmk hc

end Go.Proofs.YtmlfheagbfaoaaaDoor.Dk
namespace Go.Proofs.YtmlfheagbfaoaaaDoor
open Go.RowKit Go.Proofs.YtmlfheagbfaoaaaDoorW.PrintWords Go.Proofs.YtmlfheagbfaoaaaDoorW.PrintMore Go.Lib

def sizeAt (b : ByteArray) (at' : Nat) : Nat := 256 * Sha.by8 b at' + Sha.by8 b (at' + 1)
def recAt (b : ByteArray) (at' : Nat) : ByteArray := b.extract (at' + 2) (at' + 2 + sizeAt b at')
/-- A record stands at a place. -/
def fitsAt (b : ByteArray) (at' : Nat) : Prop := at' + 6 ≤ b.size ∧ sizeAt b at' ≤ 9000 ∧ at' + 6 + sizeAt b at' ≤ b.size
def sealAt (b : ByteArray) (at' n : Nat) : Prop := b.extract (at' + 2 + sizeAt b at') (at' + 6 + sizeAt b at') = sealB n (recAt b at')
instance (b : ByteArray) (at' : Nat) : Decidable (fitsAt b at') := by unfold fitsAt; infer_instance
instance (b : ByteArray) (at' n : Nat) : Decidable (sealAt b at' n) := by unfold sealAt; infer_instance
def toldF (b : ByteArray) : Nat → Nat → Nat → List (ByteArray × Nat)
  | 0, _, _ => []
  | f + 1, at', n => if fitsAt b at' ∧ sealAt b at' n then (recAt b at', at' + 6 + sizeAt b at') :: toldF b f (at' + 6 + sizeAt b at') (n + 1) else []
theorem toldF_more (b : ByteArray) : ∀ (f g at' n : Nat), b.size < at' + f → b.size < at' + g → toldF b f at' n = toldF b g at' n
  | 0, g, at', n, hf, hg => by
    cases g with
    | zero => rfl
    | succ g =>
      rw [toldF, toldF, if_neg (fun h => by have := h.1.1; omega)]
  | f + 1, 0, at', n, hf, hg => by
    rw [toldF, toldF, if_neg (fun h => by have := h.1.1; omega)]
  | f + 1, g + 1, at', n, hf, hg => by
    rw [toldF, toldF, toldF_more b f g (at' + 6 + sizeAt b at') (n + 1) (by omega) (by omega)]
/-- From a place on, the next number being n. -/
def toldFrom (b : ByteArray) (at' n : Nat) : List (ByteArray × Nat) := toldF b (b.size + 1) at' n
theorem toldFrom_yes (b : ByteArray) (at' n : Nat) (h : fitsAt b at' ∧ sealAt b at' n) : toldFrom b at' n = (recAt b at', at' + 6 + sizeAt b at') :: toldFrom b (at' + 6 + sizeAt b at') (n + 1) := by
  unfold toldFrom
  rw [toldF, if_pos h, toldF_more b b.size (b.size + 1) _ _ (by omega) (by omega)]
theorem toldFrom_no (b : ByteArray) (at' n : Nat) (h : ¬ (fitsAt b at' ∧ sealAt b at' n)) : toldFrom b at' n = [] := by
  unfold toldFrom
  rw [toldF, if_neg h]
def toldB (b : ByteArray) : List (ByteArray × Nat) := toldFrom b 0 0
/-- Where the last of a list ends. -/
def endOf : List (ByteArray × Nat) → Nat
  | [] => 0
  | [x] => x.2
  | _ :: r => endOf r
theorem endOf_snoc (l : List (ByteArray × Nat)) (x : ByteArray × Nat) : endOf (l ++ [x]) = x.2 := by
  induction l with
  | nil => rfl
  | cons y r ih =>
    cases r with
    | nil => rfl
    | cons z s => rw [List.cons_append, List.cons_append, endOf, ← List.cons_append, ih]; simp
end Go.Proofs.YtmlfheagbfaoaaaDoor
namespace Go.Proofs.YtmlfheagbfaoaaaDoor
open Go.RowKit Go.Lib
theorem toldF_le (b : ByteArray) : ∀ (f at' n : Nat) (x : ByteArray × Nat), x ∈ toldF b f at' n → at' + 6 ≤ x.2 ∧ x.2 ≤ b.size
  | 0, _, _, x, h => by simp [toldF] at h
  | f + 1, at', n, x, h => by
    rw [toldF] at h
    split at h
    · rename_i hc
      have h3 := hc.1.2.2
      rcases List.mem_cons.1 h with rfl | h'
      · exact ⟨by show at' + 6 ≤ at' + 6 + sizeAt b at'; omega, h3⟩
      · have := toldF_le b f _ _ x h'
        omega
    · simp at h
theorem toldF_len (b : ByteArray) : ∀ (f at' n : Nat), at' ≤ b.size → 6 * (toldF b f at' n).length + at' ≤ b.size
  | 0, _, _, h => by simpa [toldF] using h
  | f + 1, at', n, h => by
    rw [toldF]
    split
    · rename_i hc
      have h3 := hc.1.2.2
      have := toldF_len b f (at' + 6 + sizeAt b at') (n + 1) h3
      rw [List.length_cons]
      omega
    · simpa using h
theorem endOf_le (m : Nat) : ∀ (l : List (ByteArray × Nat)), (∀ x ∈ l, x.2 ≤ m) → endOf l ≤ m
  | [], _ => Nat.zero_le _
  | [x], h => h x (by simp)
  | _ :: y :: r, h => endOf_le m (y :: r) (fun x hx => h x (List.mem_cons_of_mem _ hx))
theorem told_end (b : ByteArray) : endOf (toldB b) ≤ b.size := endOf_le _ _ fun x hx => (toldF_le b _ _ _ x hx).2
theorem told_len (b : ByteArray) : 6 * (toldB b).length ≤ b.size := by have := toldF_len b (b.size + 1) 0 0 (Nat.zero_le _); unfold toldB toldFrom; omega
end Go.Proofs.YtmlfheagbfaoaaaDoor
namespace Go.Proofs.YtmlfheagbfaoaaaDoor
open Go.RowKit Go.Proofs.YtmlfheagbfaoaaaDoorW.PrintWords Go.Proofs.YtmlfheagbfaoaaaDoorW.PrintMore Go.Lib

theorem by8_l (x y : ByteArray) (i : Nat) (h : i < x.size) : Sha.by8 (x ++ y) i = Sha.by8 x i := by
  unfold Sha.by8
  rw [ByteArray.toList_eq, ByteArray.toList_eq, data_app, List.getD_eq_getElem?_getD, List.getD_eq_getElem?_getD, List.getElem?_append_left (by rw [sizeL]; exact h)]
theorem by8_r (p x : ByteArray) (i : Nat) : Sha.by8 (p ++ x) (p.size + i) = Sha.by8 x i := by
  unfold Sha.by8
  rw [ByteArray.toList_eq, ByteArray.toList_eq, data_app, List.getD_eq_getElem?_getD, List.getD_eq_getElem?_getD, List.getElem?_append_right (by rw [sizeL]; omega), sizeL, Nat.add_sub_cancel_left]
theorem by8_e (x : ByteArray) (m i : Nat) (h : i < m) : Sha.by8 (x.extract 0 m) i = Sha.by8 x i := by
  unfold Sha.by8
  rw [ByteArray.toList_eq, ByteArray.toList_eq, Lib.extract_data, List.getD_eq_getElem?_getD, List.getD_eq_getElem?_getD, List.drop_zero, Nat.sub_zero, List.getElem?_take, if_pos h]
theorem ext_r (p x : ByteArray) (i j : Nat) : (p ++ x).extract (p.size + i) (p.size + j) = x.extract i j := by
  apply bytes_ext
  rw [Lib.extract_data, Lib.extract_data, data_app, show p.size = p.data.toList.length by simp, List.drop_append, List.drop_of_length_le (by omega), Nat.add_sub_add_left]
  simp
theorem ext_l (x y : ByteArray) (i j : Nat) (h : j ≤ x.size) : (x ++ y).extract i j = x.extract i j := by
  apply bytes_ext
  rw [Lib.extract_data, Lib.extract_data, data_app]
  by_cases hi : i ≤ x.size
  · rw [List.drop_append_of_le_length (by rw [sizeL]; exact hi), List.take_append_of_le_length (by rw [List.length_drop, sizeL]; omega)]
  · rw [show j - i = 0 by omega]
    simp
theorem ext_e (x : ByteArray) (m i j : Nat) (h : j ≤ m) : (x.extract 0 m).extract i j = x.extract i j := by
  apply bytes_ext
  rw [Lib.extract_data, Lib.extract_data, Lib.extract_data, List.drop_zero, Nat.sub_zero, List.drop_take, List.take_take]
  congr 1
  omega
theorem ext_whole (x : ByteArray) (m : Nat) (h : x.size ≤ m) : x.extract 0 m = x := by
  apply bytes_ext
  rw [Lib.extract_data, List.drop_zero, Nat.sub_zero, List.take_of_length_le (by rw [sizeL]; exact h)]
theorem ext_size (x : ByteArray) (m : Nat) (h : m ≤ x.size) : (x.extract 0 m).size = m := by
  rw [ByteArray.size_extract]
  omega
theorem beB2 (m : Nat) (h : m < 65536) (y : ByteArray) : 256 * Sha.by8 (beB m 2 ++ y) 0 + Sha.by8 (beB m 2 ++ y) 1 = m := by
  rw [by8_l _ _ _ (by rw [beB_size]; omega), by8_l _ _ _ (by rw [beB_size]; omega)]
  unfold Sha.by8 beB
  rw [ByteArray.toList_eq]
  simp only [beL]
  simp
  omega
/-- The records l, the first being number n, as they stand in the file. -/
def allFrom : Nat → List ByteArray → ByteArray
  | _, [] => ⟨#[]⟩
  | n, r :: l => writtenB n r ++ allFrom (n + 1) l
def allB (l : List ByteArray) : ByteArray := allFrom 0 l
/-- Each with where it ends, the first beginning at a place. -/
def endsFrom : Nat → List ByteArray → List (ByteArray × Nat)
  | _, [] => []
  | a, r :: l => (r, a + 6 + r.size) :: endsFrom (a + 6 + r.size) l
theorem endsFrom_map : ∀ (a : Nat) (l : List ByteArray), (endsFrom a l).map (·.1) = l
  | _, [] => rfl
  | a, r :: l => by rw [endsFrom, List.map_cons, endsFrom_map]
theorem endsFrom_length (a : Nat) (l : List ByteArray) : (endsFrom a l).length = l.length := by
  rw [← List.length_map (f := (·.1)), endsFrom_map]
theorem allFrom_app : ∀ (n : Nat) (l m : List ByteArray), allFrom n (l ++ m) = allFrom n l ++ allFrom (n + l.length) m
  | n, [], m => (empty_app _).symm
  | n, r :: l, m => by
    rw [List.cons_append, allFrom, allFrom, allFrom_app (n + 1) l m, app_assoc, List.length_cons, show n + 1 + l.length = n + (l.length + 1) by omega]
theorem allB_snoc (l : List ByteArray) (r : ByteArray) : allB (l ++ [r]) = allB l ++ writtenB l.length r := by
  rw [allB, allFrom_app, Nat.zero_add, allFrom, allFrom, app_empty]
  rfl
theorem allFrom_size : ∀ (n : Nat) (l : List ByteArray), 6 * l.length ≤ (allFrom n l).size
  | _, [] => Nat.le_refl _
  | n, r :: l => by
    have := allFrom_size (n + 1) l
    rw [allFrom, app_size, writtenB_size, List.length_cons]
    omega
theorem endOf_cons (x : ByteArray × Nat) (l : List (ByteArray × Nat)) (h : l ≠ []) : endOf (x :: l) = endOf l := by
  cases l with
  | nil => exact absurd rfl h
  | cons y r => rfl
theorem endOf_ends : ∀ (n a : Nat) (l : List ByteArray), l ≠ [] → endOf (endsFrom a l) = a + (allFrom n l).size
  | _, _, [], h => absurd rfl h
  | n, a, [r], _ => by rw [endsFrom, endsFrom, endOf, allFrom, allFrom, app_empty, writtenB_size]; omega
  | n, a, r :: s :: l, _ => by
    have := endOf_ends (n + 1) (a + 6 + r.size) (s :: l) (by simp)
    rw [endsFrom, endOf_cons _ _ (by rw [endsFrom]; simp), this, show allFrom n (r :: s :: l) = writtenB n r ++ allFrom (n + 1) (s :: l) from rfl, app_size, writtenB_size]
    omega
theorem endOf_all (l : List ByteArray) : endOf (endsFrom 0 l) = (allB l).size := by
  cases l with
  | nil => rfl
  | cons r l => rw [endOf_ends 0 0 _ (by simp), Nat.zero_add]; rfl

/-- Where a record's first bytes stand, its size is told. -/
theorem sizeAt_w (p : ByteArray) (n : Nat) (r y z : ByteArray) (hr : r.size ≤ 9000) (m : Nat) (hm : 2 ≤ m) (c : ByteArray) (hc : c = (writtenB n r ++ y).extract 0 m ++ z) : sizeAt (p ++ c) p.size = r.size := by
  have e0 : Sha.by8 (p ++ c) p.size = Sha.by8 (p ++ c) (p.size + 0) := rfl
  unfold sizeAt
  by_cases h2 : 2 ≤ ((writtenB n r ++ y).extract 0 m).size
  · rw [e0, by8_r, by8_r, hc, by8_l _ _ _ (by omega), by8_l _ _ _ (by omega), by8_e _ _ _ (by omega), by8_e _ _ _ (by omega), writtenB, app_assoc, app_assoc, beB2 _ (by omega)]
  · rw [ByteArray.size_extract, app_size, writtenB_size] at h2
    omega
theorem recAt_w (p : ByteArray) (n : Nat) (r y z : ByteArray) (hr : r.size ≤ 9000) (m : Nat) (hm : r.size + 2 ≤ m) (c : ByteArray) (hc : c = (writtenB n r ++ y).extract 0 m ++ z) : recAt (p ++ c) p.size = r := by
  have hw : (beB r.size 2).size = 2 := beB_size _ _
  unfold recAt
  rw [sizeAt_w p n r y z hr m (by omega) c hc, show p.size + 2 + r.size = p.size + (2 + r.size) by omega, ext_r, hc]
  rw [ext_l _ _ _ _ (by rw [ByteArray.size_extract, app_size, writtenB_size]; omega), ext_e _ _ _ _ (by omega), writtenB, app_assoc, app_assoc]
  have := ext_r (beB r.size 2) (r ++ (sealB n r ++ y)) 0 r.size
  rw [hw] at this
  rw [this, ext_l _ _ _ _ (Nat.le_refl _), ext_whole _ _ (Nat.le_refl _)]
theorem sealAt_w (p : ByteArray) (n : Nat) (r c s : ByteArray) (hs : s.size = 4) (y : ByteArray) (hc : c = beB r.size 2 ++ (r ++ (s ++ y))) : sizeAt (p ++ c) p.size = r.size → recAt (p ++ c) p.size = r → (sealAt (p ++ c) p.size n ↔ s = sealB n r) := by
  intro h1 h2
  unfold sealAt
  rw [h1, h2, show p.size + 2 + r.size = p.size + (2 + r.size) by omega, show p.size + 6 + r.size = p.size + (2 + r.size + 4) by omega, ext_r, hc, ← app_assoc]
  have := ext_r (beB r.size 2 ++ r) (s ++ y) 0 4
  rw [app_size, beB_size, Nat.add_zero] at this
  rw [this, ext_l _ _ _ _ (by omega), ext_whole _ _ (by omega)]
/-- A record that stands there whole is told. -/
theorem told_one (p : ByteArray) (n : Nat) (r y : ByteArray) (hr : r.size ≤ 9000) :
    toldFrom (p ++ (writtenB n r ++ y)) p.size n = (r, p.size + 6 + r.size) :: toldFrom (p ++ (writtenB n r ++ y)) (p.size + 6 + r.size) (n + 1) := by
  have hc : writtenB n r ++ y = (writtenB n r ++ y).extract 0 (r.size + 6) ++ y := by
    rw [ext_l _ _ _ _ (by rw [writtenB_size]; exact Nat.le_refl _), ext_whole _ _ (by rw [writtenB_size]; exact Nat.le_refl _)]
  have h1 := sizeAt_w p n r y y hr (r.size + 6) (by omega) _ hc
  have h2 := recAt_w p n r y y hr (r.size + 6) (by omega) _ hc
  have h3 := (sealAt_w p n r (writtenB n r ++ y) (sealB n r) (sealB_size n r) y (by rw [writtenB, app_assoc, app_assoc]) h1 h2).2 rfl
  rw [toldFrom_yes _ _ _ ⟨⟨by rw [app_size, app_size, writtenB_size]; omega, by omega, by rw [h1, app_size, app_size, writtenB_size]; omega⟩, h3⟩, h1, h2]
/-- A record's beginning, the last byte turned or not, tells nothing. -/
theorem told_torn (p : ByteArray) (n : Nat) (r y z c : ByteArray) (hr : r.size ≤ 9000) (m : Nat) (hm : m < r.size + 6) (hc : c = (writtenB n r).extract 0 m ++ z)
    (hz : z.size = 0 ∨ (z.size = 1 ∧ Sha.by8 z 0 ≠ Sha.by8 (writtenB n r) m)) : toldFrom (p ++ c) p.size n = [] := by
  have hw : (writtenB n r).extract 0 m = (writtenB n r ++ y).extract 0 m := (ext_l _ _ _ _ (by rw [writtenB_size]; omega)).symm
  have hcs : c.size = m + z.size := by rw [hc, app_size, ext_size _ _ (by rw [writtenB_size]; omega)]
  refine toldFrom_no _ _ _ (fun ⟨⟨f1, f2, f3⟩, f4⟩ => ?_)
  rw [app_size, hcs] at f1 f3
  have hm2 : 2 ≤ m := by omega
  have h1 := sizeAt_w p n r y z hr m hm2 c (by rw [← hw]; exact hc)
  rw [h1] at f3
  have hm5 : m = r.size + 5 := by omega
  have h2 := recAt_w p n r y z hr m (by omega) c (by rw [← hw]; exact hc)
  obtain ⟨hz1, hz2⟩ : z.size = 1 ∧ Sha.by8 z 0 ≠ Sha.by8 (writtenB n r) m := by
    rcases hz with h | h
    · omega
    · exact h
  have h4 := sealB_size n r
  have hs : ((sealB n r).extract 0 3 ++ z).size = 4 := by rw [app_size, ext_size _ _ (by omega)]; omega
  have hsz : (beB r.size 2 ++ r).size = r.size + 2 := by rw [app_size, beB_size]; omega
  have e0 : (writtenB n r).extract 0 (r.size + 5) = beB r.size 2 ++ r ++ (sealB n r).extract 0 3 := by
    apply bytes_ext
    rw [writtenB, Lib.extract_data, data_app (beB r.size 2 ++ r), data_app (beB r.size 2 ++ r), Lib.extract_data, List.drop_zero, Nat.sub_zero, List.drop_zero, Nat.sub_zero, List.take_append, sizeL, hsz, List.take_of_length_le (by rw [sizeL]; omega), show r.size + 5 - (r.size + 2) = 3 by omega]
  have e : c = beB r.size 2 ++ (r ++ (((sealB n r).extract 0 3 ++ z) ++ ⟨#[]⟩)) := by
    rw [hc, app_empty, hm5, e0, app_assoc, app_assoc]
  have h5 := (sealAt_w p n r c _ hs ⟨#[]⟩ e h1 h2).1 f4
  apply hz2
  have e1 : Sha.by8 (writtenB n r) m = Sha.by8 (sealB n r) 3 := by
    have := by8_r (beB r.size 2 ++ r) (sealB n r) 3
    rw [app_size, beB_size, show 2 + r.size + 3 = m by omega] at this
    exact this
  have e2 : Sha.by8 z 0 = Sha.by8 ((sealB n r).extract 0 3 ++ z) 3 := by
    have := by8_r ((sealB n r).extract 0 3) z 0
    rw [ext_size _ _ (by omega)] at this
    exact this.symm
  rw [e1, e2, h5]
/-- c is what is left of s: m bytes, and perhaps one that was turned. -/
def TornOf (s c : ByteArray) (m : Nat) : Prop := m ≤ s.size ∧ ∃ z : ByteArray, c = s.extract 0 m ++ z ∧ (z.size = 0 ∨ (z.size = 1 ∧ m < s.size ∧ Sha.by8 z 0 ≠ Sha.by8 s m))
theorem told_all : ∀ (l : List ByteArray) (p c : ByteArray) (n m : Nat), (∀ r ∈ l, r.size ≤ 9000) → TornOf (allFrom n l) c m →
    ∃ j, j ≤ l.length ∧ toldFrom (p ++ c) p.size n = endsFrom p.size (l.take j) ∧ (allFrom n (l.take j)).size ≤ m ∧ ∀ i, i ≤ l.length → (allFrom n (l.take i)).size ≤ m → i ≤ j
  | [], p, c, n, m, _, ⟨h1, z, h2, h3⟩ => by
    refine ⟨0, Nat.le_refl _, ?_, Nat.zero_le _, fun i hi _ => hi⟩
    have e : (⟨#[]⟩ : ByteArray).size = 0 := rfl
    have hz : z.size ≤ 1 := by omega
    have hcs : c.size ≤ 1 := by rw [h2, app_size, ByteArray.size_extract]; simp only [allFrom, e]; omega
    exact toldFrom_no _ _ _ (fun h => by have := h.1.1; rw [app_size] at this; omega)
  | r :: l, p, c, n, m, hl, ⟨h1, z, h2, h3⟩ => by
    have hr : r.size ≤ 9000 := hl r (by simp)
    have hws := writtenB_size n r
    rw [allFrom, app_size] at h1
    by_cases hm : r.size + 6 ≤ m
    · have hm' : m = (writtenB n r).size + (m - (r.size + 6)) := by omega
      have hc : c = writtenB n r ++ ((allFrom (n + 1) l).extract 0 (m - (r.size + 6)) ++ z) := by
        rw [h2, ← app_assoc]
        congr 1
        apply bytes_ext
        rw [allFrom, Lib.extract_data, data_app, data_app, Lib.extract_data, List.drop_zero, Nat.sub_zero, List.drop_zero, Nat.sub_zero, List.take_append, sizeL, List.take_of_length_le (by rw [sizeL]; omega), hws]
      obtain ⟨j, j1, j2, j3, j4⟩ := told_all l (p ++ writtenB n r) ((allFrom (n + 1) l).extract 0 (m - (r.size + 6)) ++ z) (n + 1) (m - (r.size + 6)) (fun x hx => hl x (List.mem_cons_of_mem _ hx))
        ⟨by omega, z, rfl, by
          rcases h3 with h | ⟨ha, hb, hd⟩
          · exact .inl h
          · rw [allFrom, app_size] at hb
            refine .inr ⟨ha, by omega, ?_⟩
            rw [allFrom, hm', by8_r] at hd
            exact hd⟩
      refine ⟨j + 1, by rw [List.length_cons]; omega, ?_, ?_, ?_⟩
      · rw [hc, told_one p n r _ hr, List.take_succ_cons, endsFrom]
        rw [app_size, hws, app_assoc, show p.size + (r.size + 6) = p.size + 6 + r.size by omega] at j2
        rw [j2]
      · rw [List.take_succ_cons, allFrom, app_size]
        omega
      · intro i hi hs
        cases i with
        | zero => omega
        | succ i =>
          rw [List.take_succ_cons, allFrom, app_size] at hs
          have := j4 i (by rw [List.length_cons] at hi; omega) (by omega)
          omega
    · refine ⟨0, Nat.zero_le _, ?_, Nat.zero_le _, ?_⟩
      · rw [List.take_zero, endsFrom]
        refine told_torn p n r ⟨#[]⟩ z c hr m (by omega) ?_ ?_
        · rw [h2, allFrom, ext_l _ _ _ _ (by omega)]
        · rcases h3 with h | ⟨ha, _, hd⟩
          · exact .inl h
          · rw [allFrom, by8_l _ _ _ (by omega)] at hd
            exact .inr ⟨ha, hd⟩
      · intro i hi hs
        cases i with
        | zero => exact Nat.le_refl _
        | succ i =>
          rw [List.take_succ_cons, allFrom, app_size] at hs
          omega
/-- What is left of a ledger's bytes tells a beginning of its records, all that are left whole. -/
theorem told_left (l : List ByteArray) (c : ByteArray) (m : Nat) (hl : ∀ r ∈ l, r.size ≤ 9000) (h : TornOf (allB l) c m) :
    ∃ j, j ≤ l.length ∧ toldB c = endsFrom 0 (l.take j) ∧ c.extract 0 (endOf (toldB c)) = allB (l.take j) ∧ (allB (l.take j)).size ≤ m ∧ ∀ i, i ≤ l.length → (allB (l.take i)).size ≤ m → i ≤ j := by
  obtain ⟨j, j1, j2, j3, j4⟩ := told_all l ⟨#[]⟩ c 0 m hl h
  rw [empty_app] at j2
  refine ⟨j, j1, j2, ?_, j3, j4⟩
  have e : toldB c = endsFrom 0 (l.take j) := j2
  obtain ⟨h1, z, h2, h3⟩ := h
  have j3' : (allB (l.take j)).size ≤ m := j3
  rw [e, endOf_all, h2, ext_l _ _ _ _ (by rw [ext_size _ _ h1]; exact j3), ext_e _ _ _ _ j3']
  have : allB l = allB (l.take j) ++ allFrom (0 + (l.take j).length) (l.drop j) := by
    rw [allB, allB, ← allFrom_app, List.take_append_drop]
  rw [this, ext_l _ _ _ _ (Nat.le_refl _), ext_whole _ _ (Nat.le_refl _)]
theorem told_whole (l : List ByteArray) (hl : ∀ r ∈ l, r.size ≤ 9000) : toldB (allB l) = endsFrom 0 l := by
  obtain ⟨j, j1, j2, j3, j4, j5⟩ := told_left l (allB l) (allB l).size hl ⟨Nat.le_refl _, ⟨#[]⟩, by rw [app_empty, ext_whole _ _ (Nat.le_refl _)], .inl rfl⟩
  have := j5 l.length (Nat.le_refl _) (by rw [List.take_length]; exact Nat.le_refl _)
  obtain rfl : j = l.length := by omega
  rwa [List.take_length] at j2
theorem told_end6 (b : ByteArray) : 6 * (toldB b).length ≤ endOf (toldB b) := by
  have key : ∀ (f a n : Nat), toldF b f a n ≠ [] → a + 6 * (toldF b f a n).length ≤ endOf (toldF b f a n) := by
    intro f
    induction f with
    | zero => intro a n h; exact absurd rfl h
    | succ f ih =>
      intro a n h
      rw [toldF] at h ⊢
      split
      · rename_i hc
        by_cases he : toldF b f (a + 6 + sizeAt b a) (n + 1) = []
        · rw [he]; simp only [endOf, List.length_cons, List.length_nil]; omega
        · have := ih _ _ he
          rw [endOf_cons _ _ he, List.length_cons]
          omega
      · rename_i hc
        rw [if_neg hc] at h
        exact absurd rfl h
  by_cases h : toldB b = []
  · rw [h]; exact Nat.le_refl _
  · have := key (b.size + 1) 0 0 h
    unfold toldB toldFrom
    omega
end Go.Proofs.YtmlfheagbfaoaaaDoor
namespace Go.Proofs.YtmlfheagbfaoaaaDoor
open Go.RowKit Go.Proofs.YtmlfheagbfaoaaaDoorW.PrintWords Go.Proofs.YtmlfheagbfaoaaaDoorW.PrintMore Go.Lib
theorem xor8 (a b : Nat) (ha : a < 256) (hb : b < 256) : Go.bits .xor .u8 a b = ((a ^^^ b : Nat) : Int) := by
  have h1 : IntKind.u8.bits = 8 := rfl
  have hx : a ^^^ b < 256 := Nat.xor_lt_two_pow (n := 8) ha hb
  simp only [Go.bits, h1, BitVec.ofInt_natCast, BitVec.toNat_xor, BitVec.toNat_ofNat, Nat.mod_eq_of_lt (show a < 2 ^ 8 from ha), Nat.mod_eq_of_lt (show b < 2 ^ 8 from hb)]
  rw [IntKind.wrap_u8]
  omega
theorem xb_ne (c m : Nat) (hc : c < 256) (hm : m ≤ 255) (h0 : 0 < m) : (Dk.xb c m).toNat ≠ c := by
  intro h
  have h1 := Dk.xb_toNat c m
  rw [h, xor8 c m hc (by omega)] at h1
  have h2 : c = c ^^^ m := by omega
  have h3 : c ^^^ (c ^^^ m) = m := by rw [← Nat.xor_assoc, Nat.xor_self, Nat.zero_xor]
  rw [← h2, Nat.xor_self] at h3
  omega
theorem torn_of (b : ByteArray) (sy keep mask : Nat) (hk : sy + keep ≤ b.size) (hm : mask ≤ 255) : TornOf b (Dk.crashed b sy keep mask) (sy + keep) := by
  refine ⟨hk, ?_⟩
  unfold Dk.crashed
  split
  · rename_i h
    refine ⟨_, rfl, .inr ⟨rfl, h.1, ?_⟩⟩
    rw [← by8_at b (sy + keep) h.1]
    have e : ∀ x : UInt8, Sha.by8 ⟨#[x]⟩ 0 = x.toNat := fun x => by unfold Sha.by8; rw [ByteArray.toList_eq]; rfl
    rw [e]
    exact xb_ne _ mask (UInt8.toNat_lt _) hm h.2
  · exact ⟨⟨#[]⟩, (app_empty _).symm, .inl rfl⟩
end Go.Proofs.YtmlfheagbfaoaaaDoor
