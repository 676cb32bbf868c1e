/- The small case that each law of this chapter asks beside: true. -/
import Derived.Test.YtnoiejmigonaoaaDoes4
namespace Go.Proofs.Ytnoiejmigonaoaa
open Go.RowKit Go.Proofs.YtnoiejmigonaoaaW.PrintWords Go.Lib

theorem abc_bytes : crashed ((⟨#[]⟩ ++ ⟨#[97, 98]⟩ : ByteArray) ++ ⟨#[99, 100]⟩) 2 1 1 = ⟨#[97, 98, 99, 101]⟩ := by decide +kernel

set_option maxHeartbeats 2000000 in
theorem abc_any (w : World) : Calls Try.prog 7 #[] w fun e w' => e = .returned (.bool true) ∧ Below w.heap.size w w' := by
  have N := Lib.hid (FileAt.new w)
  have B0 := Lib.hid ((Below.refl w.heap.size w).alloc (Nat.le_refl _) (.cells #[.slice none 0 0, .int .i64 0] 45))
  go_enter Try.func7, Try.ntmps7
  go_wp2_with (first
    | (go_at_call 6; (with_reducible refine (new_any _).mono ?_); rintro e w1 ⟨rfl, rfl⟩))
  refine (append_room w.heap.size w.heap.size ⟨#[]⟩ 0 ⟨#[97, 98]⟩ _ N.out (by decide)).mono ?_
  rintro e w2 ⟨rfl, F2, K2⟩
  have HF2 := Lib.hid F2
  have HK2 := Lib.hid K2
  clear F2 K2
  go_wp2_with fail
  refine (sync_any w.heap.size w.heap.size (⟨#[]⟩ ++ ⟨#[97, 98]⟩) 0 w2 HF2.out).mono ?_
  rintro e w3 ⟨rfl, F3, K3⟩
  have HF3 := Lib.hid F3
  have HK3 := Lib.hid K3
  clear F3 K3
  go_wp2_with fail
  refine (append_room w.heap.size w.heap.size (⟨#[]⟩ ++ ⟨#[97, 98]⟩) 2 ⟨#[99, 100]⟩ w3 HF3.out (by decide)).mono ?_
  rintro e w4 ⟨rfl, F4, K4⟩
  have HF4 := Lib.hid F4
  have HK4 := Lib.hid K4
  clear F4 K4
  go_wp2_with fail
  refine (crash_any w.heap.size w.heap.size ((⟨#[]⟩ ++ ⟨#[97, 98]⟩) ++ ⟨#[99, 100]⟩) 2 1 1 w4 HF4.out (by decide) (by decide)).mono ?_
  rintro e w5 ⟨rfl, F5, K5⟩
  rw [abc_bytes] at F5
  have HF5 := Lib.hid F5
  have HK5 := Lib.hid K5
  clear F5 K5
  go_wp2_with (first
    | (go_at_call 10; (with_reducible refine (bytes_any _ _ _ _ _ HF5.out).mono ?_); rintro e w6 ⟨rfl, rfl⟩))
  go_ret
  have hz : w.heap.size ≤ (w.alloc (.cells #[.slice none 0 0, .int .i64 0] 45)).heap.size := by simp
  have h := ((HK2.out.trans HK3.out).trans HK4.out).trans HK5.out
  exact ⟨rfl, h.below B0.out (Nat.le_refl _) hz⟩

theorem nil_len (w : World) : Calls Try.prog 9 #[.pointer none] w fun e w' => e = .returned (.tuple #[.int .i64 0, .int .i64 0]) ∧ w = w' := by
  go_enter Try.func9, Try.ntmps9
  go_wp2
  go_ret2
  exact ⟨rfl, rfl⟩
theorem nil_bytes (w : World) : Calls Try.prog 10 #[.pointer none] w fun e w' => e = .returned (.string ⟨#[]⟩) ∧ w = w' := by
  go_enter Try.func10, Try.ntmps10
  go_wp2
  go_ret
  exact ⟨rfl, rfl⟩
theorem nil_append (y : ByteArray) (w : World) : Calls Try.prog 11 #[.pointer none, .string y] w fun e w' => e = .returned (.int .i64 5) ∧ w = w' := by
  go_enter Try.func11, Try.ntmps11
  go_wp2
  go_ret
  exact ⟨rfl, rfl⟩
theorem nil_sync (w : World) : Calls Try.prog 12 #[.pointer none] w fun e w' => e = .returned (.int .i64 7) ∧ w = w' := by
  go_enter Try.func12, Try.ntmps12
  go_wp2
  go_ret
  exact ⟨rfl, rfl⟩
theorem nil_cut (n : Int) (w : World) : Calls Try.prog 14 #[.pointer none, .int .i64 n] w fun e w' => e = .returned (.int .i64 1) ∧ w = w' := by
  go_enter Try.func14, Try.ntmps14
  go_wp2
  go_ret
  exact ⟨rfl, rfl⟩
theorem nil_crash (n m : Int) (w : World) : Calls Try.prog 13 #[.pointer none, .int .i64 n, .int .i64 m] w fun e w' => e = .returned (.int .i64 1) ∧ ∃ k, w' = w.drewN k := by
  go_enter Try.func13, Try.ntmps13
  go_wp2
  go_quiet (fail)
  go_wp2
  go_ret
  exact ⟨rfl, _, rfl⟩

set_option maxHeartbeats 2000000 in
theorem nil_any (n mask : Int) (w : World) : Calls Try.prog 5 #[.int .i64 n, .int .i64 mask] w fun e w' => e = .returned (.bool true) ∧ Below w.heap.size w w' := by
  go_enter Try.func5, Try.ntmps5
  go_wp2_with (first
    | (go_at_call 9; (with_reducible refine (nil_len _).mono ?_); rintro e w1 ⟨rfl, rfl⟩)
    | (go_at_call 10; (with_reducible refine (nil_bytes _).mono ?_); rintro e w1 ⟨rfl, rfl⟩)
    | (go_at_call 11; (with_reducible refine (nil_append _ _).mono ?_); rintro e w1 ⟨rfl, rfl⟩)
    | (go_at_call 12; (with_reducible refine (nil_sync _).mono ?_); rintro e w1 ⟨rfl, rfl⟩)
    | (go_at_call 14; (with_reducible refine (nil_cut _ _).mono ?_); rintro e w1 ⟨rfl, rfl⟩)
    | (go_at_call 13; (with_reducible refine (nil_crash _ _ _).mono ?_); rintro e w1 ⟨rfl, k, rfl⟩)
    | (go_at_call 7; (with_reducible refine (abc_any _).mono ?_); rintro e w2 ⟨rfl, hb⟩))
  go_ret
  exact ⟨rfl, hb.os, hb.tape, hb.output, hb.size, hb.block⟩

end Go.Proofs.Ytnoiejmigonaoaa
