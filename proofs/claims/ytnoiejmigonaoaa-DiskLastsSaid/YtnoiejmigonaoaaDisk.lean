/- The contracts of the package disk: what each method answers, and what the file's block holds behind it. -/
import Derived.Test.YtnoiejmigonaoaaProg
import Derived.Test.YtnoiejmigonaoaaBuf
import Derived.Test.YtnoiejmigonaoaaWMore
import Derived.Lib.Hide
import Derived.Outline
import Derived.BigQuiet
import Derived.Deep.QuietTactic
namespace Go.Proofs.Ytnoiejmigonaoaa
open Go.RowKit Go.Proofs.YtnoiejmigonaoaaW.PrintWords Go.Lib

/-- Block g is a file of the program's: its bytes, and how many are synced. -/
structure FileAt (w : World) (B g : Nat) (b : ByteArray) (sy : Nat) : Prop where
  out : ∃ v, w.heap[g]? = some (.cells #[v, .int .i64 sy] 45 (0, 0)) ∧ Buf w B 5 v b
  ge : B ≤ g
  le : sy ≤ b.size
  max : b.size ≤ 1048576
/-- What a method leaves as it was: all but the file's block and rows of bytes from B on. -/
structure Keeps (B g : Nat) (w w' : World) : Prop where
  os : w'.os = w.os
  tape : w'.tape = w.tape
  output : w'.output = w.output
  size : w.heap.size ≤ w'.heap.size
  block : ∀ k, k < w.heap.size → k ≠ g → (k < B ∨ ∀ cur, w.heap[k]? ≠ some (.cells cur 5 (0, 0))) → w'.heap[k]? = w.heap[k]?
theorem Keeps.refl (B g : Nat) (w : World) : Keeps B g w w := ⟨rfl, rfl, rfl, Nat.le_refl _, fun _ _ _ _ => rfl⟩
theorem Keeps.trans {B g : Nat} {w w1 w2 : World} (h : Keeps B g w w1) (k : Keeps B g w1 w2) : Keeps B g w w2 :=
  ⟨k.os.trans h.os, k.tape.trans h.tape, k.output.trans h.output, Nat.le_trans h.size k.size, fun i hi hg hb => by
    have e := h.block i hi hg hb
    refine (k.block i (Nat.lt_of_lt_of_le hi h.size) hg ?_).trans e
    rcases hb with hb | hb
    · exact .inl hb
    · exact .inr (fun cur => by rw [e]; exact hb cur)⟩
theorem Keeps.set (B g : Nat) (w : World) (j : Nat) (v : Value) : Keeps B g w (w.setCell ⟨g, j, none⟩ v) :=
  ⟨rfl, rfl, rfl, by simp [World.setCell], fun k _ hg _ => Below.heap_setCell w ⟨g, j, none⟩ v k hg⟩
theorem Keeps.drewN (B g : Nat) (w : World) (n : Nat) : Keeps B g w (w.drewN n) := ⟨rfl, rfl, rfl, Nat.le_refl _, fun _ _ _ _ => rfl⟩
theorem Keeps.below {B g : Nat} {w0 w w' : World} (h : Keeps B g w w') (hb : Below B w0 w) (hB : B ≤ g) (hs : B ≤ w.heap.size) : Below B w0 w' :=
  ⟨h.os.trans hb.os, h.tape.trans hb.tape, h.output.trans hb.output, Nat.le_trans hb.size h.size, fun k hk => (h.block k (by omega) (by omega) (.inl hk)).trans (hb.block k hk)⟩
theorem Keeps.grown {B g : Nat} {w w' : World} {v : Value} {b : ByteArray} (hg : w.grownBy w' v.ownBlock) (hb : Buf w B 5 v b) : Keeps B g w w' :=
  ⟨hg.os, hg.tape, hg.output, hg.size, fun k hk _ h => hg.block k hk (fun e => by
    obtain ⟨h1, _, cur, h2⟩ := hb.typed k e.symm
    rcases h with h | h
    · omega
    · exact h cur h2)⟩

theorem info5 : (Try.prog.info? 5).map (fun i => (i.zero, i.size, i.bytes)) = some (some (.int .u8 0), 1, 1) := by kernel_rfl

theorem new_any (w : World) : Calls Try.prog 6 #[] w fun e w' => e = .returned (.pointer (some ⟨w.heap.size, 0, none⟩)) ∧ w.alloc (.cells #[.slice none 0 0, .int .i64 0] 45) = w' := by
  go_enter Try.func6, Try.ntmps6
  go_wp2
  go_ret
  exact ⟨rfl, rfl⟩

theorem FileAt.new (w : World) : FileAt (w.alloc (.cells #[.slice none 0 0, .int .i64 0] 45)) w.heap.size w.heap.size ⟨#[]⟩ 0 :=
  ⟨⟨.slice none 0 0, heap_alloc_new w _, .nil _ _ _ _ rfl⟩, Nat.le_refl _, Nat.zero_le _, Nat.zero_le _⟩

theorem file_ne {w : World} {B g : Nat} {v : Value} {b : ByteArray} {cs : Array Value} {fr : Nat × Nat} (hb : Buf w B 5 v b) (hg : w.heap[g]? = some (.cells cs 45 fr)) (k : Nat) (hk : v.ownBlock = some k) : k ≠ g := by
  obtain ⟨_, _, cur, h⟩ := hb.typed k hk
  rintro rfl
  rw [hg] at h
  injection h with h
  injection h with _ h
  exact absurd h (by decide)
theorem file_set0 {w : World} {B g : Nat} {v v' : Value} {sy : Nat} {b : ByteArray} (hg : w.heap[g]? = some (.cells #[v, .int .i64 sy] 45 (0, 0))) (hb : Buf w B 5 v' b) (hB : B ≤ g) (hs : sy ≤ b.size) (hm : b.size ≤ 1048576) :
    FileAt (w.setCell ⟨g, 0, none⟩ v') B g b sy :=
  ⟨⟨v', Go.Joins.block_setCell hg v', hb.move (fun k hk => Below.heap_setCell w ⟨g, 0, none⟩ v' k (file_ne hb hg k hk))⟩, hB, hs, hm⟩
theorem file_set1 {w : World} {B g : Nat} {v : Value} {sy sy' : Nat} {b : ByteArray} (hg : w.heap[g]? = some (.cells #[v, .int .i64 sy] 45 (0, 0))) (hb : Buf w B 5 v b) (hB : B ≤ g) (hs : sy' ≤ b.size) (hm : b.size ≤ 1048576) :
    FileAt (w.setCell ⟨g, 1, none⟩ (.int .i64 sy')) B g b sy' :=
  ⟨⟨v, Go.Joins.block_setCell hg (.int .i64 sy'), hb.move (fun k hk => Below.heap_setCell w ⟨g, 1, none⟩ _ k (file_ne hb hg k hk))⟩, hB, hs, hm⟩

theorem size_no {a b : Nat} (h : ¬ a ≤ 1048576 - b) (hb : b ≤ 1048576) : (1048576 : Int) - (b : Int) < (a : Int) := by omega

set_option maxHeartbeats 800000 in
theorem append_full (B g : Nat) (b : ByteArray) (sy : Nat) (y : ByteArray) (w : World) (h : FileAt w B g b sy) (hy : ¬ b.size + y.size ≤ 1048576) :
    Calls Try.prog 11 #[.pointer (some ⟨g, 0, none⟩), .string y] w fun e w' => e = .returned (.int .i64 5) ∧ w = w' := by
  obtain ⟨⟨v, hg, hb⟩, hB, hs, hm⟩ := h
  obtain ⟨A, c, rfl, hc⟩ := hb.slice
  have c0 : w.cell? ⟨g, 0, none⟩ = some (.slice A b.size c) := Go.Joins.cell_of_block hg 0
  have t : (1048576 : Int) - (b.size : Int) < (y.size : Int) := by omega
  clear hg hb
  go_enter Try.func11, Try.ntmps11
  go_wp2
  go_ret
  exact ⟨rfl, rfl⟩

set_option maxHeartbeats 800000 in
theorem append_room (B g : Nat) (b : ByteArray) (sy : Nat) (y : ByteArray) (w : World) (h : FileAt w B g b sy) (hy : b.size + y.size ≤ 1048576) :
    Calls Try.prog 11 #[.pointer (some ⟨g, 0, none⟩), .string y] w fun e w' => e = .returned (.int .i64 0) ∧ FileAt w' B g (b ++ y) sy ∧ Keeps B g w w' := by
  obtain ⟨⟨v, hg, hb⟩, hB, hs, hm⟩ := h
  obtain ⟨A, c, rfl, hc⟩ := hb.slice
  have c0 : w.cell? ⟨g, 0, none⟩ = some (.slice A b.size c) := Go.Joins.cell_of_block hg 0
  have t : ¬ (1048576 : Int) - (b.size : Int) < (y.size : Int) := by omega
  obtain ⟨i0, hi, hz0, hz1, hz2⟩ := info_parts info5
  have hgs := (Array.getElem?_eq_some_iff.1 hg).1
  go_enter Try.func11, Try.ntmps11
  go_wp2_with (first | (at_builtin; refine wpList_append_buf rfl _ _ 43 9 rfl B 5 i0 Try.underlying43 Try.underlying9 hi hz0 hz1 hz2 _ b rfl hb y rfl (by omega) (by omega) ?_) | go_in)
  intro v' w' hb' hgr _
  have hg' : w'.heap[g]? = some (.cells #[.slice A b.size c, .int .i64 sy] 45 (0, 0)) := by
    rw [hgr.block g hgs (fun e => file_ne hb hg g e.symm rfl)]
    exact hg
  have c0' : w'.cell? ⟨g, 0, none⟩ = some (.slice A b.size c) := Go.Joins.cell_of_block hg' 0
  have f0' : w'.frozen? ⟨g, 0, none⟩ = false := Go.Joins.unfrozen_of_block hg' 0
  have R1 := Lib.hid (file_set0 hg' hb' hB (show sy ≤ (b ++ y).size by rw [size_app]; omega) (by rw [size_app]; omega))
  have R2 := Lib.hid ((Keeps.grown (g := g) hgr hb).trans (Keeps.set B g w' 0 v'))
  obtain ⟨A', c', hv', _⟩ := hb'.slice
  rw [size_app] at hv'
  subst hv'
  clear hg' hb' hgr hg hb c0
  go_wp2
  go_ret
  exact ⟨rfl, R1.out, R2.out⟩

set_option maxHeartbeats 800000 in
theorem sync_at (B g : Nat) (b : ByteArray) (sy : Nat) (v : Value) (w : World) (hg : w.heap[g]? = some (.cells #[v, .int .i64 sy] 45 (0, 0))) (hb : Buf w B 5 v b) (hB : B ≤ g) (hm : b.size ≤ 1048576) :
    Calls Try.prog 12 #[.pointer (some ⟨g, 0, none⟩)] w fun e w' => e = .returned (.int .i64 0) ∧ FileAt w' B g b b.size ∧ Keeps B g w w' := by
  obtain ⟨A, c, rfl, hc⟩ := hb.slice
  have c0 : w.cell? ⟨g, 0, none⟩ = some (.slice A b.size c) := Go.Joins.cell_of_block hg 0
  have c1 : w.cell? ⟨g, 1, none⟩ = some (.int .i64 sy) := Go.Joins.cell_of_block hg 1
  have f1 : w.frozen? ⟨g, 1, none⟩ = false := Go.Joins.unfrozen_of_block hg 1
  have R1 := Lib.hid (file_set1 hg hb hB (Nat.le_refl _) hm)
  have R2 := Lib.hid (Keeps.set B g w 1 (.int .i64 b.size))
  clear hg hb
  go_enter Try.func12, Try.ntmps12
  go_wp2
  go_ret
  exact ⟨rfl, R1.out, R2.out⟩

theorem sync_any (B g : Nat) (b : ByteArray) (sy : Nat) (w : World) (h : FileAt w B g b sy) :
    Calls Try.prog 12 #[.pointer (some ⟨g, 0, none⟩)] w fun e w' => e = .returned (.int .i64 0) ∧ FileAt w' B g b b.size ∧ Keeps B g w w' := by
  obtain ⟨⟨v, hg, hb⟩, hB, _, hm⟩ := h
  exact sync_at B g b sy v w hg hb hB hm

set_option maxHeartbeats 800000 in
theorem bytes_any (B g : Nat) (b : ByteArray) (sy : Nat) (w : World) (h : FileAt w B g b sy) :
    Calls Try.prog 10 #[.pointer (some ⟨g, 0, none⟩)] w fun e w' => e = .returned (.string b) ∧ w = w' := by
  obtain ⟨⟨v, hg, hb⟩, hB, hs, hm⟩ := h
  obtain ⟨A, c, rfl, hc⟩ := hb.slice
  have c0 : w.cell? ⟨g, 0, none⟩ = some (.slice A b.size c) := Go.Joins.cell_of_block hg 0
  have hcv : (convert 43 9 (.slice A b.size c)).run Try.prog w = .ok (.string b) w := hb.string Try.underlying43 Try.underlying5 Try.underlying9
  clear hg hb
  go_enter Try.func10, Try.ntmps10
  go_wp2
  go_ret
  exact ⟨rfl, rfl⟩

set_option maxHeartbeats 800000 in
theorem len_any (B g : Nat) (b : ByteArray) (sy : Nat) (w : World) (h : FileAt w B g b sy) :
    Calls Try.prog 9 #[.pointer (some ⟨g, 0, none⟩)] w fun e w' => e = .returned (.tuple #[.int .i64 b.size, .int .i64 sy]) ∧ ∃ n, w' = w.drewN n := by
  obtain ⟨⟨v, hg, hb⟩, hB, hs, hm⟩ := h
  obtain ⟨A, c, rfl, hc⟩ := hb.slice
  have c0 : w.cell? ⟨g, 0, none⟩ = some (.slice A b.size c) := Go.Joins.cell_of_block hg 0
  have c1 : w.cell? ⟨g, 1, none⟩ = some (.int .i64 sy) := Go.Joins.cell_of_block hg 1
  clear hg hb
  go_enter Try.func9, Try.ntmps9
  go_wp2
  go_quiet (fail)
  go_wp2
  go_ret2
  exact ⟨rfl, _, rfl⟩

set_option maxHeartbeats 800000 in
theorem cut_no (B g : Nat) (b : ByteArray) (sy : Nat) (n : Int) (w : World) (h : FileAt w B g b sy) (hn : ¬ (0 ≤ n ∧ n ≤ b.size)) :
    Calls Try.prog 14 #[.pointer (some ⟨g, 0, none⟩), .int .i64 n] w fun e w' => e = .returned (.int .i64 1) ∧ w = w' := by
  obtain ⟨⟨v, hg, hb⟩, hB, hs, hm⟩ := h
  obtain ⟨A, c, rfl, hc⟩ := hb.slice
  have c0 : w.cell? ⟨g, 0, none⟩ = some (.slice A b.size c) := Go.Joins.cell_of_block hg 0
  clear hg hb
  by_cases h0 : n < 0
  · clear hn
    go_enter Try.func14, Try.ntmps14
    go_wp2
    go_ret
    exact ⟨rfl, rfl⟩
  · have h1 : (b.size : Int) < n := by omega
    clear hn
    go_enter Try.func14, Try.ntmps14
    go_wp2
    go_ret
    exact ⟨rfl, rfl⟩

theorem Buf.cut {w : World} {base : Nat} {e : TypeId} {A : Option Addr} {b : ByteArray} {c : Nat} (h : Buf w base e (.slice A b.size c) b) (n : Nat) (hn : n ≤ b.size) :
    Buf w base e (.slice A n n) (b.extract 0 n) := by
  have hsz : (b.extract 0 n).size = n := by simp; omega
  rcases h with ⟨h0, he⟩ | ⟨g, off, cap, cur, he, hb, hh, hc, hm, hs, hx⟩
  · have hn0 : n = 0 := by omega
    subst hn0
    injection he with hA _ _
    subst hA
    exact .inl ⟨hsz, rfl⟩
  · injection he with hA _ hcap
    subst hA
    subst hcap
    refine .inr ⟨g, off, n, cur, ?_, hb, hh, by omega, by omega, by omega, ?_⟩
    · rw [hsz]
    · rw [hsz]
      have : strCells (b.extract 0 n) = (strCells b).take n := by
        simp only [strCells, ← List.map_take]
        congr 1
        rw [Lib.extract_data]
        simp
      rw [this, ← hx, List.take_take, Nat.min_eq_left hn]

set_option maxHeartbeats 800000 in
theorem cut_any (B g : Nat) (b : ByteArray) (sy : Nat) (n : Nat) (w : World) (h : FileAt w B g b sy) (hn : n ≤ b.size) :
    Calls Try.prog 14 #[.pointer (some ⟨g, 0, none⟩), .int .i64 n] w fun e w' => e = .returned (.int .i64 0) ∧ FileAt w' B g (b.extract 0 n) n ∧ Keeps B g w w' := by
  obtain ⟨⟨v, hg, hb⟩, hB, hs, hm⟩ := h
  obtain ⟨A, c, rfl, hc⟩ := hb.slice
  have c0 : w.cell? ⟨g, 0, none⟩ = some (.slice A b.size c) := Go.Joins.cell_of_block hg 0
  have f0 : w.frozen? ⟨g, 0, none⟩ = false := Go.Joins.unfrozen_of_block hg 0
  have h0 : ¬ ((b.size : Int) < (n : Int)) := by omega
  have hnc : n ≤ c := by omega
  have hd : decide ((n : Int) < 0) = false := by simp
  have hsz : (b.extract 0 n).size = n := by simp; omega
  have R0 := Lib.hid (Keeps.set B g w 0 (.slice A n n))
  -- the synced are more than what is left, while Sync has not yet run: they are told anew there
  have hg1 : (w.setCell ⟨g, 0, none⟩ (.slice A n n)).heap[g]? = some (.cells #[.slice A n n, .int .i64 sy] 45 (0, 0)) := Go.Joins.block_setCell hg _
  have hb1 : Buf (w.setCell ⟨g, 0, none⟩ (.slice A n n)) B 5 (.slice A n n) (b.extract 0 n) := (hb.cut n hn).move (fun k hk => Below.heap_setCell w ⟨g, 0, none⟩ _ k (file_ne (hb.cut n hn) hg k hk))
  have S := Lib.hid (sync_at B g (b.extract 0 n) sy (.slice A n n) (w.setCell ⟨g, 0, none⟩ (.slice A n n)) hg1 hb1 hB (by omega))
  clear hg hb hg1 hb1
  go_enter Try.func14, Try.ntmps14
  go_wp2_with (first | (go_at_call 12; refine S.out.mono ?_; rintro e w' ⟨rfl, hF, hK⟩))
  go_ret
  rw [hsz] at hF
  exact ⟨rfl, hF, R0.out.trans hK⟩


theorem guard_crash (B g : Nat) (b : ByteArray) (sy : Nat) (keep mask : Int) (w : World) (h : FileAt w B g b sy) (hn : ¬ (0 ≤ keep ∧ keep ≤ (b.size : Int) - sy ∧ 0 ≤ mask ∧ mask ≤ 255)) (hk : -9223372036854775808 ≤ keep ∧ keep ≤ 9223372036854775807) :
    Calls Try.prog 13 #[.pointer (some ⟨g, 0, none⟩), .int .i64 keep, .int .i64 mask] w fun e w' => e = .returned (.int .i64 1) ∧ ∃ n, w' = w.drewN n := by
  obtain ⟨⟨v, hg, hb⟩, hB, hs, hm⟩ := h
  obtain ⟨A, c, rfl, hc⟩ := hb.slice
  have c0 : w.cell? ⟨g, 0, none⟩ = some (.slice A b.size c) := Go.Joins.cell_of_block hg 0
  have c1 : w.cell? ⟨g, 1, none⟩ = some (.int .i64 sy) := Go.Joins.cell_of_block hg 1
  clear hg hb
  by_cases h0 : keep < 0
  · have d0 : decide (keep < 0) = true := by simp [h0]
    clear hn
    go_enter Try.func13, Try.ntmps13
    go_wp2
    go_quiet (fail)
    go_wp2
    go_ret
    exact ⟨rfl, _, rfl⟩
  · have d0 : decide (keep < 0) = false := by simp [h0]
    by_cases h1 : (b.size : Int) - sy < keep
    · have d1 : decide ((b.size : Int) - sy < keep) = true := by simp [h1]
      clear hn
      go_enter Try.func13, Try.ntmps13
      go_wp2
      go_quiet (fail)
      go_wp2
      go_ret
      exact ⟨rfl, _, rfl⟩
    · have d1 : decide ((b.size : Int) - sy < keep) = false := by simp [h1]
      by_cases h2 : mask < 0
      · have d2 : decide (mask < 0) = true := by simp [h2]
        clear hn
        go_enter Try.func13, Try.ntmps13
        go_wp2
        go_quiet (fail)
        go_wp2
        go_ret
        exact ⟨rfl, _, rfl⟩
      · have d2 : decide (mask < 0) = false := by simp [h2]
        have h3 : 255 < mask := by omega
        have d3 : decide (255 < mask) = true := by simp [h3]
        clear hn
        go_enter Try.func13, Try.ntmps13
        go_wp2
        go_quiet (fail)
        go_wp2
        go_ret
        exact ⟨rfl, _, rfl⟩
end Go.Proofs.Ytnoiejmigonaoaa
