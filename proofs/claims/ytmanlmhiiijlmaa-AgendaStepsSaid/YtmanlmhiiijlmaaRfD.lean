/- The reference's agenda in memory: Put, Drop, Move. -/
import Derived.Test.YtmanlmhiiijlmaaRfC
namespace Go.Proofs.Ytmanlmhiiijlmaa
open Go.RowKit Go.Proofs.YtmanlmhiiijlmaaW.PrintWords Go.Lib
theorem rputq_bad (w : World) (rb : Option Addr) (a : Int) (s : ByteArray) (hm : momB a = false) :
    Calls Try.prog 16 #[.pointer rb, .int .i64 a, .string s] w fun e w' => e = .returned (.tuple #[.int .i64 0, .int .i64 1]) ∧ w = w' := by
  have C := rmoment_any a w
  rw [hm] at C
  replace C := Lib.hid C
  clear hm
  go_enter Try.func16, Try.ntmps16
  go_wp2_with fail
  refine C.out.mono ?_
  rintro e w' ⟨rfl, rfl⟩
  go_wp2
  go_ret2
  exact ⟨rfl, rfl⟩
set_option maxRecDepth 100000 in
set_option maxHeartbeats 2000000 in
theorem rputq_full (w : World) (B rb : Nat) (u : Value) (L : List En) (last : Nat) (h : RefAt w B rb u L last) (a : Int) (s : ByteArray) (hm : momB a = true) (hf : L.length = 512) :
    Calls Try.prog 16 #[.pointer (some ⟨rb, 0, none⟩), .int .i64 a, .string s] w fun e w' => e = .returned (.tuple #[.int .i64 0, .int .i64 5]) ∧ w = w' := by
  have C := rmoment_any a w
  rw [hm] at C
  obtain ⟨A, c, eu, -, -⟩ := h.lies.out
  subst eu
  have c0 : w.cell? ⟨rb, 0, none⟩ = some (.slice A L.length c) := Go.Joins.cell_of_block h.cell 0
  rw [hf] at c0
  replace C := Lib.hid C
  clear hm h hf
  go_enter Try.func16, Try.ntmps16
  go_wp2_with fail
  refine C.out.mono ?_
  rintro e w' ⟨rfl, rfl⟩
  go_wp2
  go_ret2
  exact ⟨rfl, rfl⟩
theorem RefAt.setLast {w : World} {B rb : Nat} {u : Value} {L : List En} {last : Nat} (h : RefAt w B rb u L last) (n : Nat) : RefAt (w.setCell ⟨rb, 1, none⟩ (.int .i64 (n : Int))) B rb u L n :=
  ⟨Go.Joins.block_setCell h.cell _, h.lies.set h.cell 1 _, h.ge⟩
set_option maxRecDepth 100000 in
set_option maxHeartbeats 2000000 in
theorem rputq_ok (w : World) (B rb : Nat) (u : Value) (L : List En) (last : Nat) (h : RefAt w B rb u L last) (a : Int) (s : ByteArray) (hm : momB a = true) (hf : L.length < 512) (hl : last ≤ 1000000) (hB : B ≤ w.heap.size) :
    Calls Try.prog 16 #[.pointer (some ⟨rb, 0, none⟩), .int .i64 a, .string s] w fun e w' => e = .returned (.tuple #[.int .i64 ((last : Int) + 1), .int .i64 0]) ∧ ∃ u', RefAt w' B rb u' (ins ((last : Int) + 1, a, s) L) (last + 1) ∧ RK rb w w' := by
  have C := rmoment_any a w
  rw [hm] at C
  obtain ⟨A, c, eu, -, -⟩ := h.lies.out
  subst eu
  have c0 : w.cell? ⟨rb, 0, none⟩ = some (.slice A L.length c) := Go.Joins.cell_of_block h.cell 0
  have c1 : w.cell? ⟨rb, 1, none⟩ = some (.int .i64 (last : Int)) := Go.Joins.cell_of_block h.cell 1
  have f1 : w.frozen? ⟨rb, 1, none⟩ = false := Go.Joins.unfrozen_of_block h.cell 1
  have h1 := h.setLast (last + 1)
  rw [show ((last + 1 : Nat) : Int) = (last : Int) + 1 by omega] at h1
  have k1 := RK.of_set rb 1 w (.int .i64 ((last : Int) + 1))
  have d1 : (w.setCell ⟨rb, 1, none⟩ (.int .i64 ((last : Int) + 1))).cell? ⟨rb, 1, none⟩ = some (.int .i64 ((last : Int) + 1)) := by
    have := Go.Joins.cell_of_block h1.cell 1
    rw [show ((last + 1 : Nat) : Int) = (last : Int) + 1 by omega] at this
    exact this
  have C2 := rput_any _ B rb _ L (last + 1) h1 ((last : Int) + 1, a, s) (by omega) (Nat.le_trans hB k1.size)
  obtain ⟨E, hE⟩ : ∃ E, E = enV ((last : Int) + 1, a, s) := ⟨_, rfl⟩
  have hfin : (L.length : Int) < 512 := by omega
  replace C := Lib.hid C
  replace C2 := Lib.hid C2
  replace k1 := Lib.hid k1
  replace hE := Lib.hid hE
  clear hm h hf h1
  go_enter Try.func16, Try.ntmps16
  go_wp2_with fail
  refine C.out.mono ?_
  rintro e w' ⟨rfl, rfl⟩
  go_wp2_with fail
  refine C2.out.mono ?_
  rintro e w2 ⟨rfl, u', R2, K2⟩
  have e1 : w2.cell? ⟨rb, 1, none⟩ = some (.int .i64 ((last : Int) + 1)) := by
    have := Go.Joins.cell_of_block R2.cell 1
    rw [show ((last + 1 : Nat) : Int) = (last : Int) + 1 by omega] at this
    exact this
  replace R2 := Lib.hid R2
  replace K2 := Lib.hid K2
  go_wp2
  go_ret2
  first | exact ⟨rfl, ⟨_, R2.out⟩, k1.out.trans K2.out⟩ | exact ⟨rfl, _, R2.out, k1.out.trans K2.out⟩
theorem rdrop_bad (w : World) (rb : Option Addr) (t : Int) (ht : t < 1) :
    Calls Try.prog 17 #[.pointer rb, .int .i64 t] w fun e w' => e = .returned (.tuple #[.bool false, .int .i64 1]) ∧ w = w' := by
  go_enter Try.func17, Try.ntmps17
  go_wp2
  go_ret2
  exact ⟨rfl, rfl⟩
set_option maxRecDepth 100000 in
set_option maxHeartbeats 2000000 in
theorem rdrop_go (w : World) (B rb : Nat) (u : Value) (L : List En) (last : Nat) (h : RefAt w B rb u L last) (t : Int) (ht : ¬ t < 1) (hl : L.length ≤ 600) (hB : B ≤ w.heap.size) :
    Calls Try.prog 17 #[.pointer (some ⟨rb, 0, none⟩), .int .i64 t] w fun e w' => e = .returned (.tuple #[.bool (L.foldl (stepF t) (dE, false)).2, .int .i64 0]) ∧ ∃ u', RefAt w' B rb u' (del t L) last ∧ RK rb w w' := by
  have C := rtakeE_any w B rb u L last h t hl hB
  obtain ⟨⟨⟨et, ea, es⟩, d⟩, hF⟩ : ∃ F, F = L.foldl (stepF t) (dE, false) := ⟨_, rfl⟩
  rw [← hF] at C ⊢
  replace C := Lib.hid C
  replace hF := Lib.hid hF
  clear h
  go_enter Try.func17, Try.ntmps17
  go_wp2_with fail
  refine C.out.mono ?_
  rintro e w2 ⟨rfl, u', R2, K2⟩
  have b2 := (Below.refl _ w2).alloc (Nat.le_refl _) (.cells #[.int .i64 et, .int .i64 ea, .string es] 38)
  have R3 := R2.move b2
  have K3 := K2.trans (RK.of_below b2)
  replace R2 := Lib.hid R2
  replace R3 := Lib.hid R3
  replace K2 := Lib.hid K2
  replace K3 := Lib.hid K3
  replace b2 := Lib.hid b2
  go_wp2
  go_ret2
  first | exact ⟨rfl, ⟨_, R3.out⟩, K3.out⟩ | exact ⟨rfl, _, R3.out, K3.out⟩
theorem rmove_bad (w : World) (rb : Option Addr) (t a : Int) (ht : t < 1 ∨ momB a = false) :
    Calls Try.prog 18 #[.pointer rb, .int .i64 t, .int .i64 a] w fun e w' => e = .returned (.int .i64 1) ∧ w = w' := by
  by_cases h1 : t < 1
  · clear ht
    go_enter Try.func18, Try.ntmps18
    go_wp2
    go_ret
    exact ⟨rfl, rfl⟩
  · have hm : momB a = false := by rcases ht with ht | ht; exact absurd ht h1; exact ht
    have C := rmoment_any a w
    rw [hm] at C
    replace C := Lib.hid C
    clear ht hm
    go_enter Try.func18, Try.ntmps18
    go_wp2_with fail
    refine C.out.mono ?_
    rintro e w' ⟨rfl, rfl⟩
    go_wp2
    go_ret
    exact ⟨rfl, rfl⟩
set_option maxRecDepth 100000 in
set_option maxHeartbeats 2000000 in
theorem rmove_none (w : World) (B rb : Nat) (u : Value) (L : List En) (last : Nat) (h : RefAt w B rb u L last) (t a : Int) (ht : ¬ t < 1) (hm : momB a = true) (hn : ∀ e ∈ L, e.1 ≠ t) (hl : L.length ≤ 600) (hB : B ≤ w.heap.size) :
    Calls Try.prog 18 #[.pointer (some ⟨rb, 0, none⟩), .int .i64 t, .int .i64 a] w fun e w' => e = .returned (.int .i64 6) ∧ ∃ u', RefAt w' B rb u' L last ∧ RK rb w w' := by
  have C0 := rmoment_any a w
  rw [hm] at C0
  have C := rtakeE_any w B rb u L last h t hl hB
  rw [stepF_none _ hn, del_none hn] at C
  replace C := Lib.hid C
  replace C0 := Lib.hid C0
  clear h hn hm
  go_enter Try.func18, Try.ntmps18
  go_wp2_with fail
  refine C0.out.mono ?_
  rintro e w' ⟨rfl, rfl⟩
  go_wp2_with fail
  refine C.out.mono ?_
  rintro e w2 ⟨rfl, u', R2, K2⟩
  have b2 := (Below.refl _ w2).alloc (Nat.le_refl _) (.cells #[.int .i64 0, .int .i64 0, .string ⟨#[]⟩] 38)
  have R3 := R2.move b2
  have K3 := K2.trans (RK.of_below b2)
  replace R2 := Lib.hid R2
  replace R3 := Lib.hid R3
  replace K2 := Lib.hid K2
  replace K3 := Lib.hid K3
  replace b2 := Lib.hid b2
  go_wp2
  go_ret
  first | exact ⟨rfl, ⟨_, R3.out⟩, K3.out⟩ | exact ⟨rfl, _, R3.out, K3.out⟩
set_option maxRecDepth 100000 in
set_option maxHeartbeats 4000000 in
theorem rmove_ok (w : World) (B rb : Nat) (u : Value) (L : List En) (last : Nat) (h : RefAt w B rb u L last) (x : En) (hx : x ∈ L) (hn : (L.map (·.1)).Nodup) (a : Int) (ht : ¬ x.1 < 1) (hm : momB a = true) (hl : L.length ≤ 600) (hB : B ≤ w.heap.size) :
    Calls Try.prog 18 #[.pointer (some ⟨rb, 0, none⟩), .int .i64 x.1, .int .i64 a] w fun e w' => e = .returned (.int .i64 0) ∧ ∃ u', RefAt w' B rb u' (ins (x.1, a, x.2.2) (del x.1 L)) last ∧ RK rb w w' := by
  have C0 := rmoment_any a w
  rw [hm] at C0
  have C := rtakeE_any w B rb u L last h x.1 hl hB
  rw [stepF_some _ hn hx] at C
  have hdl := del_len x.1 L
  obtain ⟨xt, xa, xs⟩ := x
  replace C := Lib.hid C
  replace C0 := Lib.hid C0
  simp only at ht
  clear h hn hm hx
  go_enter Try.func18, Try.ntmps18
  go_wp2_with fail
  refine C0.out.mono ?_
  rintro e w' ⟨rfl, rfl⟩
  go_wp2_with fail
  refine C.out.mono ?_
  rintro e w2 ⟨rfl, u', R2, K2⟩
  have b2 := (Below.refl _ w2).alloc (Nat.le_refl _) (.cells #[.int .i64 xt, .int .i64 xa, .string xs] 38)
  have b3 := (Below.refl _ w2).alloc (Nat.le_refl _) (.cells #[.int .i64 xt, .int .i64 a, .string xs] 38)
  have n3 : (w2.alloc (.cells #[.int .i64 xt, .int .i64 a, .string xs] 38)).heap[w2.heap.size]? = some (.cells #[.int .i64 xt, .int .i64 a, .string xs] 38 (0, 0)) := heap_alloc_new w2 _
  have y0 : (w2.alloc (.cells #[.int .i64 xt, .int .i64 a, .string xs] 38)).cell? ⟨w2.heap.size, 0, none⟩ = some (.int .i64 xt) := Go.Joins.cell_of_block n3 0
  have y1 : (w2.alloc (.cells #[.int .i64 xt, .int .i64 a, .string xs] 38)).cell? ⟨w2.heap.size, 1, none⟩ = some (.int .i64 a) := Go.Joins.cell_of_block n3 1
  have y2 : (w2.alloc (.cells #[.int .i64 xt, .int .i64 a, .string xs] 38)).cell? ⟨w2.heap.size, 2, none⟩ = some (.string xs) := Go.Joins.cell_of_block n3 2
  have R3 := R2.move b3
  have K3 := K2.trans (RK.of_below b3)
  have C3 := rput_any _ B rb _ _ last R3 (xt, a, xs) (by omega) (Nat.le_trans hB K3.size)
  replace C3 := Lib.hid C3
  replace R2 := Lib.hid R2
  replace R3 := Lib.hid R3
  replace K2 := Lib.hid K2
  replace K3 := Lib.hid K3
  replace b2 := Lib.hid b2
  replace b3 := Lib.hid b3
  replace n3 := Lib.hid n3
  go_wp2_with fail
  refine C3.out.mono ?_
  rintro e w4 ⟨rfl, u4, R4, K4⟩
  replace R4 := Lib.hid R4
  replace K4 := Lib.hid K4
  go_wp2
  go_ret
  first | exact ⟨rfl, ⟨_, R4.out⟩, K3.out.trans K4.out⟩ | exact ⟨rfl, _, R4.out, K3.out.trans K4.out⟩
end Go.Proofs.Ytmanlmhiiijlmaa
