/- An agenda in memory: New, First; a nil agenda. -/
import Derived.Test.YtmanlmhiiijlmaaAgD
namespace Go.Proofs.Ytmanlmhiiijlmaa
open Go.RowKit Go.Proofs.YtmanlmhiiijlmaaW.PrintWords Go.Lib
/-- An agenda stays where its blocks do. -/
theorem AgAt.keep {w w' : World} {B ab pb mb : Nat} {v : Value} {L : List En} {last : Nat} (h : AgAt w B ab pb mb v L last) (hk : ∀ k, k < w.heap.size → B ≤ k → (k = ab ∨ k = pb ∨ k = mb ∨ some k = v.ownBlock) → w'.heap[k]? = w.heap[k]?) : AgAt w' B ab pb mb v L last := by
  obtain ⟨l, hl, hp⟩ := h.out
  obtain ⟨f, P, Q⟩ := hl.hp.out
  have lt : ∀ (k : Nat) (o : Obj), w.heap[k]? = some o → k < w.heap.size := fun k o e => (Array.getElem?_eq_some_iff.1 e).1
  refine ⟨(hk ab (lt _ _ h.cell) h.ge (.inl rfl)).trans h.cell, ⟨l, ⟨⟨f, ⟨(hk pb (lt _ _ P.cell) P.geP (.inr (.inl rfl))).trans P.cell, ?_, P.map.move (hk mb P.map.lt P.geM (.inr (.inr (.inl rfl)))), P.geP, P.geM⟩, Q⟩, hl.heap⟩, hp⟩, h.sorted, h.tick, h.mom, h.ge, h.few⟩
  refine ⟨P.row.1, ?_⟩
  rcases P.row.2 with h2 | ⟨k, cap, cur, e1, e2, e3, e4⟩
  · exact .inl h2
  · exact .inr ⟨k, cap, cur, e1, e2, (hk k (lt _ _ e3) e2 (.inr (.inr (.inr (by rw [e1]; rfl))))).trans e3, e4⟩
theorem AgAt.kept {w w' : World} {B ab pb mb : Nat} {v : Value} {L : List En} {last : Nat} (h : AgAt w B ab pb mb v L last) {row : Option Nat} (hg : w.grownBy w' row) (hn : ∀ k, row = some k → k ≠ ab ∧ k ≠ pb ∧ k ≠ mb ∧ some k ≠ v.ownBlock) : AgAt w' B ab pb mb v L last :=
  h.keep fun k hk _ ho => hg.block k hk fun e => by
    obtain ⟨a, b, c, d⟩ := hn k e.symm
    rcases ho with ho | ho | ho | ho
    · exact a ho
    · exact b ho
    · exact c ho
    · exact d ho
/-- The agenda's blocks lie in memory. -/
theorem AgAt.lt {w : World} {B ab pb mb : Nat} {v : Value} {L : List En} {last : Nat} (h : AgAt w B ab pb mb v L last) : ab < w.heap.size ∧ pb < w.heap.size ∧ mb < w.heap.size ∧ ∀ k, some k = v.ownBlock → k < w.heap.size := by
  obtain ⟨l, hl, hp⟩ := h.out
  obtain ⟨f, P, Q⟩ := hl.hp.out
  refine ⟨(Array.getElem?_eq_some_iff.1 h.cell).1, (Array.getElem?_eq_some_iff.1 P.cell).1, P.map.lt, fun k hk => ?_⟩
  obtain ⟨cs, hc⟩ := own_typed P.row k hk.symm
  exact (Array.getElem?_eq_some_iff.1 hc).1
theorem AgAt.geAll {w : World} {B ab pb mb : Nat} {v : Value} {L : List En} {last : Nat} (h : AgAt w B ab pb mb v L last) : B ≤ ab ∧ B ≤ pb ∧ B ≤ mb ∧ ∀ k, some k = v.ownBlock → B ≤ k := by
  obtain ⟨l, hl, hp⟩ := h.out
  obtain ⟨f, P, Q⟩ := hl.hp.out
  exact ⟨h.ge, P.geP, P.geM, fun k hk => own_base P.row k hk.symm⟩
theorem len_nil (w : World) : Calls Try.prog 11 #[.pointer none] w fun e w' => e = .returned (.int .i64 0) ∧ w = w' := by
  go_enter Try.func11, Try.ntmps11
  go_wp2
  go_ret
  exact ⟨rfl, rfl⟩
theorem put_nil (w : World) (a : Int) (s : ByteArray) (hm : momB a = true) :
    Calls Try.prog 12 #[.pointer none, .int .i64 a, .string s] w fun e w' => e = .returned (.tuple #[.int .i64 0, .int .i64 5]) ∧ w = w' := by
  have C := moment_any a w
  rw [hm] at C
  replace C := Lib.hid C
  clear hm
  go_enter Try.func12, Try.ntmps12
  go_wp2_with fail
  refine C.out.mono ?_
  rintro e w' ⟨rfl, rfl⟩
  go_wp2
  go_ret2
  exact ⟨rfl, rfl⟩
theorem find_nil (w : World) (t : Int) : Calls Try.prog 24 #[.pointer none, .int .i64 t] w fun e w' => e = .returned (.tuple #[.int .i64 0, .bool false]) ∧ w = w' := by
  go_enter Try.func24, Try.ntmps24
  go_wp2
  go_ret2
  exact ⟨rfl, rfl⟩
theorem drop_nil (w : World) (t : Int) (ht : ¬ t < 1) : Calls Try.prog 13 #[.pointer none, .int .i64 t] w fun e w' => e = .returned (.tuple #[.bool false, .int .i64 0]) ∧ w = w' := by
  have C := Lib.hid (find_nil w t)
  go_enter Try.func13, Try.ntmps13
  go_wp2_with fail
  refine C.out.mono ?_
  rintro e w' ⟨rfl, rfl⟩
  go_wp2
  go_ret2
  exact ⟨rfl, rfl⟩
theorem move_nil (w : World) (t a : Int) (ht : ¬ t < 1) (hm : momB a = true) : Calls Try.prog 14 #[.pointer none, .int .i64 t, .int .i64 a] w fun e w' => e = .returned (.int .i64 6) ∧ w = w' := by
  have C := Lib.hid (find_nil w t)
  have C0 := moment_any a w
  rw [hm] at C0
  replace C0 := Lib.hid C0
  clear hm
  go_enter Try.func14, Try.ntmps14
  go_wp2_with fail
  refine C0.out.mono ?_
  rintro e w' ⟨rfl, rfl⟩
  go_wp2_with fail
  refine C.out.mono ?_
  rintro e w' ⟨rfl, rfl⟩
  go_wp2
  go_ret
  exact ⟨rfl, rfl⟩
theorem first_nil (w : World) : Calls Try.prog 10 #[.pointer none] w fun e w' => e = .returned (.tuple #[enV (0, 0, ⟨#[]⟩), .bool false]) ∧ Below w.heap.size w w' := by
  have C := Lib.hid (fun X => len_nil X)
  have x0 : (w.alloc (.cells #[.int .i64 0, .int .i64 0, .string ⟨#[]⟩] 34)).cell? ⟨w.heap.size, 0, none⟩ = some (.int .i64 0) := Go.Joins.cell_of_block (heap_alloc_new w _) 0
  have x1 : (w.alloc (.cells #[.int .i64 0, .int .i64 0, .string ⟨#[]⟩] 34)).cell? ⟨w.heap.size, 1, none⟩ = some (.int .i64 0) := Go.Joins.cell_of_block (heap_alloc_new w _) 1
  have x2 : (w.alloc (.cells #[.int .i64 0, .int .i64 0, .string ⟨#[]⟩] 34)).cell? ⟨w.heap.size, 2, none⟩ = some (.string ⟨#[]⟩) := Go.Joins.cell_of_block (heap_alloc_new w _) 2
  go_enter Try.func10, Try.ntmps10
  go_wp2_with fail
  refine (C.out _).mono ?_
  rintro e w' ⟨rfl, rfl⟩
  go_wp2
  refine bodyPost_ret (v := .tuple #[enV (0, 0, ⟨#[]⟩), .bool false]) (by simp [results, Try.results10, go_sem, x0, x1, x2]) rfl ⟨rfl, (Below.refl _ w).alloc (Nat.le_refl _) _⟩
set_option maxRecDepth 100000 in
theorem first_none (w : World) (B ab pb mb : Nat) (v : Value) (last : Nat) (h : AgAt w B ab pb mb v [] last) : Calls Try.prog 10 #[.pointer (some ⟨ab, 0, none⟩)] w fun e w' => e = .returned (.tuple #[enV (0, 0, ⟨#[]⟩), .bool false]) ∧ Below w.heap.size w w' := by
  have C := Lib.hid (aglen_any _ B ab pb mb v [] last (h.move ((Below.refl _ w).alloc (Nat.le_refl _) (.cells #[.int .i64 0, .int .i64 0, .string ⟨#[]⟩] 34))))
  have x0 : (w.alloc (.cells #[.int .i64 0, .int .i64 0, .string ⟨#[]⟩] 34)).cell? ⟨w.heap.size, 0, none⟩ = some (.int .i64 0) := Go.Joins.cell_of_block (heap_alloc_new w _) 0
  have x1 : (w.alloc (.cells #[.int .i64 0, .int .i64 0, .string ⟨#[]⟩] 34)).cell? ⟨w.heap.size, 1, none⟩ = some (.int .i64 0) := Go.Joins.cell_of_block (heap_alloc_new w _) 1
  have x2 : (w.alloc (.cells #[.int .i64 0, .int .i64 0, .string ⟨#[]⟩] 34)).cell? ⟨w.heap.size, 2, none⟩ = some (.string ⟨#[]⟩) := Go.Joins.cell_of_block (heap_alloc_new w _) 2
  clear h
  go_enter Try.func10, Try.ntmps10
  go_wp2_with fail
  refine C.out.mono ?_
  rintro e w' ⟨rfl, rfl⟩
  go_wp2
  refine bodyPost_ret (v := .tuple #[enV (0, 0, ⟨#[]⟩), .bool false]) (by simp [results, Try.results10, go_sem, x0, x1, x2]) rfl ⟨rfl, (Below.refl _ w).alloc (Nat.le_refl _) _⟩
set_option maxRecDepth 100000 in
set_option maxHeartbeats 1000000 in
theorem first_some (w : World) (B ab pb mb : Nat) (v : Value) (x : En) (L : List En) (last : Nat) (h : AgAt w B ab pb mb v (x :: L) last) : Calls Try.prog 10 #[.pointer (some ⟨ab, 0, none⟩)] w fun e w' => e = .returned (.tuple #[enV x, .bool true]) ∧ Below w.heap.size w w' := by
  have BA := (Below.refl _ w).alloc (Nat.le_refl _) (.cells #[.int .i64 0, .int .i64 0, .string ⟨#[]⟩] 34)
  have C := aglen_any _ B ab pb mb v (x :: L) last (h.move BA)
  obtain ⟨l, hl, hp⟩ := h.out
  obtain ⟨f, P, Q⟩ := hl.hp.out
  have h0 := heap_head hl.heap hp h.sorted
  have hll := (List.getElem?_eq_some_iff.1 h0).1
  obtain ⟨A, c, ev⟩ := rowSlice P.row
  subst ev
  have c0 := pw_cell_below BA (show w.cell? ⟨ab, 0, none⟩ = some (.pointer (some ⟨pb, 0, none⟩)) from Go.Joins.cell_of_block h.cell 0)
  have d0 := pw_cell_below BA (show w.cell? ⟨pb, 0, none⟩ = some (.slice A l.length c) from Go.Joins.cell_of_block P.cell 0)
  obtain ⟨k, rfl, x0, x1, x2, fz⟩ := rowEnt P.row 0 x h0
  obtain ⟨t, a, s⟩ := x
  replace x0 := pw_cell_below BA x0
  replace x1 := pw_cell_below BA x1
  replace x2 := pw_cell_below BA x2
  simp only [Nat.zero_mul, Nat.zero_add] at x0 x1 x2
  have y0 : (w.alloc (.cells #[.int .i64 t, .int .i64 a, .string s] 34)).cell? ⟨w.heap.size, 0, none⟩ = some (.int .i64 t) := Go.Joins.cell_of_block (heap_alloc_new w _) 0
  have y1 : (w.alloc (.cells #[.int .i64 t, .int .i64 a, .string s] 34)).cell? ⟨w.heap.size, 1, none⟩ = some (.int .i64 a) := Go.Joins.cell_of_block (heap_alloc_new w _) 1
  have y2 : (w.alloc (.cells #[.int .i64 t, .int .i64 a, .string s] 34)).cell? ⟨w.heap.size, 2, none⟩ = some (.string s) := Go.Joins.cell_of_block (heap_alloc_new w _) 2
  have tl : (((((t, a, s) :: L).length : Nat) : Int) == 0) = false := by simp; omega
  replace C := Lib.hid C
  clear h hl hp P Q h0 fz BA
  go_enter Try.func10, Try.ntmps10
  go_wp2_with fail
  refine C.out.mono ?_
  rintro e w' ⟨rfl, rfl⟩
  go_wp2
  refine bodyPost_ret (v := .tuple #[enV (t, a, s), .bool true]) (by simp [results, Try.results10, go_sem, y0, y1, y2]) rfl ⟨rfl, (Below.refl _ w).alloc (Nat.le_refl _) _⟩
end Go.Proofs.Ytmanlmhiiijlmaa
