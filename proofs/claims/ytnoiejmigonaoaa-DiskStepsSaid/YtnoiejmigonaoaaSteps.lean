/- DiskSteps: whatever steps are told, the law's function answers true. -/
import Derived.Test.YtnoiejmigonaoaaAbc
import Derived.Test.YtnoiejmigonaoaaOpen
import Derived.OpenShut
import Derived.IntWalk
namespace Go.Proofs.Ytnoiejmigonaoaa
open Go.RowKit Go.Proofs.YtnoiejmigonaoaaW.PrintWords Go.Lib

theorem len_u (B g : Nat) (S R : ByteArray) (w : World) (h : FileAt w B g (S ++ R) S.size) :
    Calls Try.prog 9 #[.pointer (some ⟨g, 0, none⟩)] w fun e w' => e = .returned (.tuple #[.int .i64 ((S.size : Int) + (R.size : Int)), .int .i64 S.size]) ∧ ∃ n, w' = w.drewN n := by
  have := len_any B g (S ++ R) S.size w h
  rw [size_app, Int.natCast_add] at this
  exact this

set_option maxHeartbeats 2000000 in
theorem steps_long (A : Option Addr) (len c : Nat) (w : World) (hl : ¬ len ≤ 300) (hm : len ≤ 140737488351232) :
    Calls Try.prog 3 #[.slice A len c] w fun e w' => e = .returned (.bool true) ∧ Below w.heap.size w w' := by
  have h1 : (300 : Int) < (len : Int) := by omega
  clear hl
  go_enter Try.func3, Try.ntmps3
  go_wp2_with (first
    | (go_at_call 6; (with_reducible refine (new_any _).mono ?_); rintro e w1 ⟨rfl, rfl⟩)
    | (go_at_call 7; (with_reducible refine (abc_any _).mono ?_); rintro e w1 ⟨rfl, hb⟩))
  go_ret
  exact ⟨rfl, below_then ((Below.refl w.heap.size w).alloc (Nat.le_refl _) _) (by simp) hb⟩

theorem add_off (a : Addr) (m j : Nat) (hj : j ≠ 0) : a.add (m + j) = ⟨(a.add m).block, (a.add m).off + j, none⟩ := by
  unfold Addr.add
  by_cases hm : m = 0
  · subst hm
    simp [hj]
  · rw [if_neg (by omega), if_neg hm]
    simp [Nat.add_assoc]

theorem bytes_q (B g : Nat) (b : ByteArray) (sy : Nat) (w : World) (h : FileAt w B g b sy) :
    Calls Try.prog 10 #[.pointer (some ⟨g, 0, none⟩)] w fun e w' => e = .returned (.string b) ∧ w' = w :=
  (bytes_any B g b sy w h).mono fun _ _ h => ⟨h.1, h.2.symm⟩

/-- What holds between two steps. -/
def Between (w wr : World) : Prop := ∃ S R, St wr w.heap.size w.heap.size (w.heap.size + 1) S R ∧ Below w.heap.size w wr
theorem Between.start (w : World) : Between w ((w.alloc (.cells #[.slice none 0 0, .int .i64 0] 45)).alloc (.cells #[.string ⟨#[]⟩, .string ⟨#[]⟩] 28)) := by
  refine ⟨⟨#[]⟩, ⟨#[]⟩, ⟨?_, ?_, by omega⟩, ((Below.refl w.heap.size w).alloc (Nat.le_refl _) _).alloc (by simp) _⟩
  · obtain ⟨⟨v, hv, hb⟩, h1, h2, h3⟩ := FileAt.new w
    exact ⟨⟨v, (Go.heap_alloc_old _ _ (by simp)).trans hv, hb.move fun k hk => Go.heap_alloc_old _ _ (hb.typed k hk).2.1⟩, h1, h2, h3⟩
  · have := heap_alloc_new (w.alloc (.cells #[.slice none 0 0, .int .i64 0] 45)) (.cells #[.string ⟨#[]⟩, .string ⟨#[]⟩] 28)
    simpa [RefAt] using this

set_option maxHeartbeats 4000000 in
set_option maxRecDepth 100000 in
theorem steps_short (A : Option Addr) (c : Nat) (l : List (Int × Int × Int × ByteArray)) (w : World) (hl : l.length ≤ 300) (hr : Steps4 w A l) (hok : ∀ x ∈ l, StepOk x) :
    Calls Try.prog 3 #[.slice A l.length c] w fun e w' => e = .returned (.bool true) ∧ Below w.heap.size w w' := by
  have h1 : ¬ (300 : Int) < (l.length : Int) := by omega
  have N := Lib.hid (FileAt.new w)
  have HR := Lib.hid hr
  have HOK := Lib.hid hok
  clear hr hok
  go_enter Try.func3, Try.ntmps3
  go_wp2_with (first
    | (go_at_call 6; (with_reducible refine (new_any _).mono ?_); rintro e w1 ⟨rfl, rfl⟩))
  go_loopw [26] (fun i wr => ∃ k : Nat, k ≤ l.length ∧ i = .int .i64 k ∧ Between w wr) (fun i _ => l.length - (intOf i).toNat)
  case atStart => exact ⟨0, Nat.zero_le _, rfl, Between.start w⟩
  case round =>
    obtain ⟨k, hk, rfl, hbt⟩ := hrel
    obtain ⟨S, R, hst, hbe⟩ := hbt
    by_cases hlt : k < l.length
    · obtain ⟨ad, e, hc⟩ := HR.out.2 (by omega)
      cases e
      obtain ⟨c0, c1, c2, c3⟩ := hc k l[k] (List.getElem?_eq_getElem hlt)
      rw [add_off ad _ 1 (by omega)] at c1
      rw [add_off ad _ 2 (by omega)] at c2
      rw [add_off ad _ 3 (by omega)] at c3
      obtain ⟨ok0, ok1, ok2, ok3⟩ := HOK.out l[k] (List.getElem_mem hlt)
      generalize l[k] = x at *
      obtain ⟨what, n, mask, y⟩ := x
      have d0 := pw_cell_below hbe c0
      have d1 := pw_cell_below hbe c1
      have d2 := pw_cell_below hbe c2
      have d3 := pw_cell_below hbe c3
      clear c0 c1 c2 c3 hc
      have HST := Lib.hid hst
      have HBE := Lib.hid hbe
      have hsz := hst.size
      have hwz : w.heap.size + 1 < wr.heap.size := (Array.getElem?_eq_some_iff.1 hst.r).1
      have hn := Lib.hid (bounds_i64 ok1)
      clear hst hbe ok0 ok1 ok2
      go_wp2_with fail
      refine (does_any w.heap.size w.heap.size (w.heap.size + 1) S R y what n mask _ (HST.out.alloc _) ok3 hn.out (by simp; omega)).mono ?_
      rintro e w1 ⟨rfl, S', R', hst1, hb1⟩
      have hbe1 : Below w.heap.size w w1 := ((HBE.out.alloc (Nat.le_of_lt (by omega)) _).trans hb1)
      have hsz1 := hst1.size
      have HST1 := Lib.hid hst1
      have HBE1 := Lib.hid hbe1
      clear hst1 hb1 hbe1 hsz HST HBE d0 d1 d2 d3
      go_wp2_with (first
        | (go_at_call 9; (with_reducible refine (len_u _ _ S' R' _ HST1.out.f).mono ?_); rintro e w2 ⟨rfl, m, hw2⟩; have HW2 := Lib.hid hw2; clear hw2))
      have hw2 := HW2.out
      have HST2 := Lib.hid (show St w2 w.heap.size w.heap.size (w.heap.size + 1) S' R' by rw [hw2]; exact ⟨HST1.out.f.drewN m, HST1.out.r.drewN m, HST1.out.hB⟩)
      have HBE2 := Lib.hid (show Below w.heap.size w w2 by rw [hw2]; exact pw_below_drewN HBE1.out m)
      clear hw2 HW2 HST1 HBE1
      have C10 := Lib.hid (fun nq => bytes_q w.heap.size w.heap.size (S' ++ R') S'.size (w2.drewN nq) (HST2.out.f.drewN nq))
      have r0 := HST2.out.r.c0
      have r1 := HST2.out.r.c1
      have hww : IntKind.i64.wrap ((S'.size : Int) + (R'.size : Int)) = (S'.size : Int) + (R'.size : Int) := IntWalk.i64_in _ (by omega)
      have hadd := fun w => run_string_add_sum (P := Try.prog) w S' R' (Nat.le_trans hsz1 (by decide))
      clear hsz1
      by_cases h5 : (S'.size : Int) + (R'.size : Int) < 5000
      · have h5' : decide ((S'.size : Int) + (R'.size : Int) < 5000) = true := by simp only [decide_eq_true_eq]; exact h5
        go_quiet ((go_at_call 10; exact Calls.quiet_of_same (C10.out _)))
        go_wp2
        go_roundw
        case rel => exact ⟨k + 1, by omega, by go_num, S', R', ⟨HST2.out.f.drewN _, HST2.out.r.drewN _, HST2.out.hB⟩, pw_below_drewN HBE2.out _⟩
        case measure => simp [intOf]; omega
      · have h5' : decide ((S'.size : Int) + (R'.size : Int) < 5000) = false := by simp only [decide_eq_false_iff_not]; exact h5
        go_quiet (fail)
        go_wp2
        go_roundw
        case rel => exact ⟨k + 1, by omega, by go_num, S', R', ⟨HST2.out.f.drewN _, HST2.out.r.drewN _, HST2.out.hB⟩, pw_below_drewN HBE2.out _⟩
        case measure => simp [intOf]; omega
    · have HST := Lib.hid hst
      have HBE := Lib.hid hbe
      have r0 := hst.r.c0
      have r1 := hst.r.c1
      have hsz := fun w => run_string_add_sum (P := Try.prog) w S R (Nat.le_trans hst.size (by decide))
      clear hst hbe
      go_wp2
      go_region_held3 (fun w' => w'.cell? ⟨w.heap.size + 1, 0, none⟩ = some (.string S) ∧ w'.cell? ⟨w.heap.size + 1, 1, none⟩ = some (.string R)) (first | exact ⟨r0, r1⟩ | exact ⟨q0, q1⟩) (first
        | (go_at_call 10; (with_reducible refine (bytes_any w.heap.size w.heap.size (S ++ R) S.size _ ?hF).mono ?_); (case hF => exact HST.out.f.drewN 1); rintro e w2 ⟨rfl, rfl⟩)
        | (go_at_call 7; (with_reducible refine (abc_any _).mono ?_); rintro e w3 ⟨rfl, hb3⟩; have q0 := pw_cell_below hb3 r0; have q1 := pw_cell_below hb3 r1; have HB3 := Lib.hid hb3; clear hb3))
      all_goals
        go_wp2
        go_ret
        exact ⟨rfl, below_then (pw_below_drewN HBE.out 1) HBE.out.size HB3.out⟩

end Go.Proofs.Ytnoiejmigonaoaa
