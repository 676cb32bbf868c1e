/- DiskLasts: what was synced lasts, however the file crashes: the law's function answers true. -/
import Derived.Test.YtnoiejmigonaoaaSteps
namespace Go.Proofs.Ytnoiejmigonaoaa
open Go.RowKit Go.Proofs.YtnoiejmigonaoaaW.PrintWords Go.Lib

theorem lasts (a b : ByteArray) (k m : Nat) (hk : k ≤ b.size) (hm : m ≤ 255) :
    ∃ o, nextX a b k m = (o, ⟨#[]⟩) ∧ codeX b k m = 0 ∧ a.size + k ≤ o.size ∧ o.size ≤ a.size + k + 1 ∧ o.extract 0 (a.size + k) = a ++ b.extract 0 k ∧ (k = b.size → o = a ++ b) ∧ (m = 0 → o.size = a.size + k) := by
  have hc : 0 ≤ (k : Int) ∧ (k : Int) ≤ b.size ∧ 0 ≤ (m : Int) ∧ (m : Int) ≤ 255 := by omega
  have hs : (a ++ b.extract 0 k).size = a.size + k := by rw [size_app]; simp; omega
  refine ⟨refCrashed a b k m, by unfold nextX; rw [if_pos hc]; simp, by unfold codeX; rw [if_pos hc], ?_⟩
  unfold refCrashed
  have he : ∀ x : ByteArray, x.size = a.size + k → x.extract 0 (a.size + k) = x := fun x hx => by
    apply Go.WideShapes.bytes_inj
    rw [Lib.extract_data]
    simp only [List.drop_zero, Nat.sub_zero]
    rw [List.take_of_length_le (by simp; omega)]
  by_cases h : k < b.size ∧ 0 < m
  · rw [dif_pos h]
    refine ⟨by rw [size_app, hs]; omega, by rw [size_app, hs]; exact Nat.le_refl _, ?_, fun e => by omega, fun e => by omega⟩
    apply Go.WideShapes.bytes_inj
    rw [Lib.extract_data, Go.Joins.data_append]
    simp only [List.drop_zero, Nat.sub_zero]
    rw [List.take_append_of_le_length (by simp; omega), List.take_of_length_le (by simp; omega)]
  · rw [dif_neg h]
    refine ⟨by omega, by omega, he _ hs, fun e => ?_, fun _ => hs⟩
    subst e
    congr 1
    apply Go.WideShapes.bytes_inj
    rw [Lib.extract_data]
    simp only [List.drop_zero, Nat.sub_zero]
    rw [List.take_of_length_le (by simp)]

theorem nil_app (S : ByteArray) : (⟨#[]⟩ : ByteArray) ++ S = S := by
  apply Go.WideShapes.bytes_inj
  rw [Go.Joins.data_append]
  simp

set_option maxHeartbeats 2000000 in
theorem lasts_long (a b y : ByteArray) (what n mask : Int) (w : World) (hl : ¬ a.size + b.size ≤ 10000) (ha : a.size ≤ 140737488351232) (hb : b.size ≤ 140737488351232) :
    Calls Try.prog 4 #[.string a, .string b, .agg #[.int .i64 what, .int .i64 n, .int .i64 mask, .string y]] w fun e w' => e = .returned (.bool true) ∧ Below w.heap.size w w' := by
  have h1 : (10000 : Int) < (a.size : Int) + (b.size : Int) := by omega
  clear hl
  go_enter Try.func4, Try.ntmps4
  go_wp2_with (first
    | (go_at_call 6; (with_reducible refine (new_any _).mono ?_); rintro e w1 ⟨rfl, rfl⟩)
    | (go_at_call 7; (with_reducible refine (abc_any _).mono ?_); rintro e w1 ⟨rfl, hb⟩))
  go_ret
  exact ⟨rfl, below_then (((Below.refl w.heap.size w).alloc (Nat.le_refl _) _).alloc (by simp) _) (by simp; omega) hb⟩

theorem lasts_end {w W w4 w5 w7 w8 : World} {m n : Nat} (h0 : Below w.heap.size w W) (h1 : Keeps (w.heap.size + 1) (w.heap.size + 1) W w4) (h2 : Keeps (w.heap.size + 1) (w.heap.size + 1) w4 w5) (h3 : w7 = w5.drewN m) (h4 : Below (w7.drewN n).heap.size (w7.drewN n) w8) : Below w.heap.size w w8 := by
  subst h3
  have hk := h1.trans h2
  have h5 : Below w.heap.size w w5 := ⟨hk.os.trans h0.os, hk.tape.trans h0.tape, hk.output.trans h0.output, Nat.le_trans h0.size hk.size, fun k hk' => (hk.block k (Nat.lt_of_lt_of_le hk' h0.size) (by omega) (.inl (by omega))).trans (h0.block k hk')⟩
  exact below_then (pw_below_drewN (pw_below_drewN h5 m) n) h5.size h4

set_option maxHeartbeats 4000000 in
theorem lasts_ii (a b y : ByteArray) (what : Int) (k : Nat) (m : Nat) (w : World) (hl : a.size + b.size ≤ 10000) (hk : k ≤ b.size) (hm : m ≤ 255) :
    Calls Try.prog 4 #[.string a, .string b, .agg #[.int .i64 what, .int .i64 (k : Int), .int .i64 (m : Int), .string y]] w fun e w' => e = .returned (.bool true) ∧ Below w.heap.size w w' := by
  have h1 : ¬ (10000 : Int) < (a.size : Int) + (b.size : Int) := by omega
  obtain ⟨o, ho1, ho2, ho3, ho4, ho5, ho6, ho7⟩ := lasts a b k m hk hm
  have C13 := Lib.hid (fun X hX => crash_u (w.heap.size + 1) (w.heap.size + 1) a b (k : Int) (m : Int) X hX (by omega))
  rw [ho1, ho2] at C13
  rw [app_nil] at C13
  have N := Lib.hid (show FileAt ((w.alloc (.cells #[.int .i64 what, .int .i64 (k : Int), .int .i64 (m : Int), .string y] 30)).alloc (.cells #[.slice none 0 0, .int .i64 0] 45)) (w.heap.size + 1) (w.heap.size + 1) ⟨#[]⟩ 0 by
    have := FileAt.new (w.alloc (.cells #[.int .i64 what, .int .i64 (k : Int), .int .i64 (m : Int), .string y] 30))
    simpa using this)
  have hbox : ((w.alloc (.cells #[.int .i64 what, .int .i64 (k : Int), .int .i64 (m : Int), .string y] 30)).alloc (.cells #[.slice none 0 0, .int .i64 0] 45)).heap[w.heap.size]? = some (.cells #[.int .i64 what, .int .i64 (k : Int), .int .i64 (m : Int), .string y] 30 (0, 0)) :=
    (Go.heap_alloc_old _ _ (by simp)).trans (heap_alloc_new w _)
  have HBX := Lib.hid hbox
  have B0 := Lib.hid (((Below.refl (w.heap.size) w).alloc (Nat.le_refl _) (.cells #[.int .i64 what, .int .i64 (k : Int), .int .i64 (m : Int), .string y] 30)).alloc (by simp) (.cells #[.slice none 0 0, .int .i64 0] 45))
  have t3 : ¬ o.size < a.size + k := by omega
  have t4 : ¬ a.size + k + 1 < o.size := by omega
  have t3' : decide (o.size < a.size + k) = false := by simp; omega
  have t4' : decide (a.size + k + 1 < o.size) = false := by simp; omega
  have t3i : decide ((o.size : Int) < (a.size : Int) + (k : Nat)) = false := by simp; omega
  have t4i : decide ((a.size : Int) + (k : Nat) + 1 < (o.size : Int)) = false := by simp; omega
  have t5 : ((a.size : Int) + (k : Nat)).toNat = a.size + k := by omega
  have tw : IntKind.i64.wrap ((a.size : Int) + (k : Nat)) = (a.size : Int) + (k : Nat) := IntWalk.i64_in _ (by omega)
  have tw1 : IntKind.i64.wrap ((a.size : Int) + (k : Nat) + 1) = (a.size : Int) + (k : Nat) + 1 := IntWalk.i64_in _ (by omega)
  have t0 : 0 ≤ (a.size : Int) + (k : Nat) := by omega
  have tle : (a.size : Int) + (k : Nat) ≤ (o.size : Int) := by omega
  have hadd := fun w => run_string_add_sum (P := Try.prog) w a (b.extract 0 k) (by simp only [ByteArray.size_extract]; omega)
  have HO6 := Lib.hid ho6
  have HO7 := Lib.hid ho7
  have tn : decide ((k : Int) < 0) = false := by simp
  have tn2 : decide ((b.size : Int) < (k : Int)) = false := by simp; omega
  have tn3 : decide (b.size < k) = false := by simp; omega
  have tm : decide ((m : Int) < 0) = false := by simp
  have tm2 : decide (255 < (m : Int)) = false := by simp; omega
  have tm3 : decide (255 < m) = false := by simp; omega
  clear ho1 ho2 ho3 ho4 ho6 ho7 hbox
  go_enter Try.func4, Try.ntmps4
  go_wp2_with (first
    | (go_at_call 6; (with_reducible refine (new_any _).mono ?_); rintro e w1 ⟨rfl, rfl⟩))
  refine (append_room _ _ ⟨#[]⟩ 0 a _ N.out (by simp only [ByteArray.size]; show 0 + a.data.size ≤ _; have : a.data.size = a.size := rfl; omega)).mono ?_
  rintro e w2 ⟨rfl, F2, K2⟩
  rw [nil_app] at F2
  have HF2 := Lib.hid F2
  have HK2 := Lib.hid K2
  have HB2 := Lib.hid (keeps_box K2 HBX.out N.out.blk)
  clear F2 K2
  go_wp2_with fail
  refine (sync_any _ _ a 0 w2 HF2.out).mono ?_
  rintro e w3 ⟨rfl, F3, K3⟩
  have HF3 := Lib.hid F3
  have HK3 := Lib.hid K3
  have HB3 := Lib.hid (keeps_box K3 HB2.out HF2.out.blk)
  clear F3 K3
  go_wp2_with fail
  refine (append_room _ _ a a.size b w3 HF3.out (by omega)).mono ?_
  rintro e w4 ⟨rfl, F4, K4⟩
  have HF4 := Lib.hid F4
  have HK4 := Lib.hid K4
  have hb4 := keeps_box K4 HB3.out HF3.out.blk
  have x1 : w4.cell? ⟨w.heap.size, 1, none⟩ = some (.int .i64 (k : Int)) := Go.Joins.cell_of_block hb4 1
  have x2 : w4.cell? ⟨w.heap.size, 2, none⟩ = some (.int .i64 (m : Int)) := Go.Joins.cell_of_block hb4 2
  clear F4 K4 hb4
  go_wp2_with (first
    | (go_at_call 13; (with_reducible refine (C13.out _ HF4.out).mono ?_); rintro e w5 ⟨rfl, F5, K5⟩; have HF5 := Lib.hid F5; have HK5 := Lib.hid K5; clear F5 K5)
    | (go_at_call 10; (with_reducible refine (bytes_any _ _ _ _ _ HF5.out).mono ?_); rintro e w6 ⟨rfl, rfl⟩)
    | (go_at_call 9; (with_reducible refine (len_any _ _ _ _ _ HF5.out).mono ?_); rintro e w7 ⟨rfl, m7, hw7⟩; have HW7 := Lib.hid hw7; clear hw7))
  have hadd2 := fun w => run_string_add_sum (P := Try.prog) w a b (by omega)
  go_quiet (fail)
  by_cases hk2 : k = b.size
  · by_cases hm2 : m = 0
    · skip
      have qk : ((k : Int) == (b.size : Int)) = true := by simp; omega
      have qk2 : (k == b.size) = true := by simp; omega
      have qo : (o.toList != (a ++ b).toList) = false := by rw [HO6.out hk2]; simp
      have qo2 : (o.toList == (a ++ b).toList) = true := by rw [HO6.out hk2]; simp
      have qm : ((m : Int) == 0) = true := by simp; omega
      have qm2 : (m == 0) = true := by simp; omega
      have qs : ((o.size : Int) != (a.size : Int) + (k : Nat)) = false := by rw [HO7.out hm2]; simp
      have qs2 : (o.size != a.size + k) = false := by rw [HO7.out hm2]; simp
      clear hk2
      clear hm2
      go_wp2_with (first
        | (go_at_call 7; (with_reducible refine (abc_any _).mono ?_); rintro e w8 ⟨rfl, hb8⟩; have HB8 := Lib.hid hb8; clear hb8))
      go_ret
      exact ⟨rfl, lasts_end B0.out ((HK2.out.trans HK3.out).trans HK4.out) HK5.out HW7.out HB8.out⟩
    · skip
      have qk : ((k : Int) == (b.size : Int)) = true := by simp; omega
      have qk2 : (k == b.size) = true := by simp; omega
      have qo : (o.toList != (a ++ b).toList) = false := by rw [HO6.out hk2]; simp
      have qo2 : (o.toList == (a ++ b).toList) = true := by rw [HO6.out hk2]; simp
      have qm : ((m : Int) == 0) = false := by simp; omega
      have qm2 : (m == 0) = false := by simp; omega
      clear hk2
      clear hm2
      go_wp2_with (first
        | (go_at_call 7; (with_reducible refine (abc_any _).mono ?_); rintro e w8 ⟨rfl, hb8⟩; have HB8 := Lib.hid hb8; clear hb8))
      go_ret
      exact ⟨rfl, lasts_end B0.out ((HK2.out.trans HK3.out).trans HK4.out) HK5.out HW7.out HB8.out⟩
  · by_cases hm2 : m = 0
    · skip
      have qk : ((k : Int) == (b.size : Int)) = false := by simp; omega
      have qk2 : (k == b.size) = false := by simp; omega
      have qm : ((m : Int) == 0) = true := by simp; omega
      have qm2 : (m == 0) = true := by simp; omega
      have qs : ((o.size : Int) != (a.size : Int) + (k : Nat)) = false := by rw [HO7.out hm2]; simp
      have qs2 : (o.size != a.size + k) = false := by rw [HO7.out hm2]; simp
      clear hk2
      clear hm2
      go_wp2_with (first
        | (go_at_call 7; (with_reducible refine (abc_any _).mono ?_); rintro e w8 ⟨rfl, hb8⟩; have HB8 := Lib.hid hb8; clear hb8))
      go_ret
      exact ⟨rfl, lasts_end B0.out ((HK2.out.trans HK3.out).trans HK4.out) HK5.out HW7.out HB8.out⟩
    · skip
      have qk : ((k : Int) == (b.size : Int)) = false := by simp; omega
      have qk2 : (k == b.size) = false := by simp; omega
      have qm : ((m : Int) == 0) = false := by simp; omega
      have qm2 : (m == 0) = false := by simp; omega
      clear hk2
      clear hm2
      go_wp2_with (first
        | (go_at_call 7; (with_reducible refine (abc_any _).mono ?_); rintro e w8 ⟨rfl, hb8⟩; have HB8 := Lib.hid hb8; clear hb8))
      go_ret
      exact ⟨rfl, lasts_end B0.out ((HK2.out.trans HK3.out).trans HK4.out) HK5.out HW7.out HB8.out⟩

set_option maxHeartbeats 4000000 in
theorem lasts_iol (a b y : ByteArray) (what : Int) (k : Nat) (mask : Int) (w : World) (hl : a.size + b.size ≤ 10000) (hk : k ≤ b.size) (hmk : mask < 0) :
    Calls Try.prog 4 #[.string a, .string b, .agg #[.int .i64 what, .int .i64 (k : Int), .int .i64 mask, .string y]] w fun e w' => e = .returned (.bool true) ∧ Below w.heap.size w w' := by
  have h1 : ¬ (10000 : Int) < (a.size : Int) + (b.size : Int) := by omega
  obtain ⟨o, ho1, ho2, ho3, ho4, ho5, ho6, ho7⟩ := lasts a b k 0 hk (by omega)
  have ho1 : nextX a b (k : Int) 0 = (o, ⟨#[]⟩) := ho1
  have ho2 : codeX b (k : Int) 0 = 0 := ho2
  have C13 := Lib.hid (fun X hX => crash_u (w.heap.size + 1) (w.heap.size + 1) a b (k : Int) 0 X hX (by omega))
  rw [ho1, ho2] at C13
  rw [app_nil] at C13
  have N := Lib.hid (show FileAt ((w.alloc (.cells #[.int .i64 what, .int .i64 (k : Int), .int .i64 mask, .string y] 30)).alloc (.cells #[.slice none 0 0, .int .i64 0] 45)) (w.heap.size + 1) (w.heap.size + 1) ⟨#[]⟩ 0 by
    have := FileAt.new (w.alloc (.cells #[.int .i64 what, .int .i64 (k : Int), .int .i64 mask, .string y] 30))
    simpa using this)
  have hbox : ((w.alloc (.cells #[.int .i64 what, .int .i64 (k : Int), .int .i64 mask, .string y] 30)).alloc (.cells #[.slice none 0 0, .int .i64 0] 45)).heap[w.heap.size]? = some (.cells #[.int .i64 what, .int .i64 (k : Int), .int .i64 mask, .string y] 30 (0, 0)) :=
    (Go.heap_alloc_old _ _ (by simp)).trans (heap_alloc_new w _)
  have HBX := Lib.hid hbox
  have B0 := Lib.hid (((Below.refl (w.heap.size) w).alloc (Nat.le_refl _) (.cells #[.int .i64 what, .int .i64 (k : Int), .int .i64 mask, .string y] 30)).alloc (by simp) (.cells #[.slice none 0 0, .int .i64 0] 45))
  have t3 : ¬ o.size < a.size + k := by omega
  have t4 : ¬ a.size + k + 1 < o.size := by omega
  have t3' : decide (o.size < a.size + k) = false := by simp; omega
  have t4' : decide (a.size + k + 1 < o.size) = false := by simp; omega
  have t3i : decide ((o.size : Int) < (a.size : Int) + (k : Nat)) = false := by simp; omega
  have t4i : decide ((a.size : Int) + (k : Nat) + 1 < (o.size : Int)) = false := by simp; omega
  have t5 : ((a.size : Int) + (k : Nat)).toNat = a.size + k := by omega
  have tw : IntKind.i64.wrap ((a.size : Int) + (k : Nat)) = (a.size : Int) + (k : Nat) := IntWalk.i64_in _ (by omega)
  have tw1 : IntKind.i64.wrap ((a.size : Int) + (k : Nat) + 1) = (a.size : Int) + (k : Nat) + 1 := IntWalk.i64_in _ (by omega)
  have t0 : 0 ≤ (a.size : Int) + (k : Nat) := by omega
  have tle : (a.size : Int) + (k : Nat) ≤ (o.size : Int) := by omega
  have hadd := fun w => run_string_add_sum (P := Try.prog) w a (b.extract 0 k) (by simp only [ByteArray.size_extract]; omega)
  have HO6 := Lib.hid ho6
  have HO7 := Lib.hid (ho7 rfl)
  have tn : decide ((k : Int) < 0) = false := by simp
  have tn2 : decide ((b.size : Int) < (k : Int)) = false := by simp; omega
  have tn3 : decide (b.size < k) = false := by simp; omega
  clear ho1 ho2 ho3 ho4 ho6 ho7 hbox
  have tm : decide (mask < 0) = true := by simp; omega
  clear hmk
  go_enter Try.func4, Try.ntmps4
  go_wp2_with (first
    | (go_at_call 6; (with_reducible refine (new_any _).mono ?_); rintro e w1 ⟨rfl, rfl⟩))
  refine (append_room _ _ ⟨#[]⟩ 0 a _ N.out (by simp only [ByteArray.size]; show 0 + a.data.size ≤ _; have : a.data.size = a.size := rfl; omega)).mono ?_
  rintro e w2 ⟨rfl, F2, K2⟩
  rw [nil_app] at F2
  have HF2 := Lib.hid F2
  have HK2 := Lib.hid K2
  have HB2 := Lib.hid (keeps_box K2 HBX.out N.out.blk)
  clear F2 K2
  go_wp2_with fail
  refine (sync_any _ _ a 0 w2 HF2.out).mono ?_
  rintro e w3 ⟨rfl, F3, K3⟩
  have HF3 := Lib.hid F3
  have HK3 := Lib.hid K3
  have HB3 := Lib.hid (keeps_box K3 HB2.out HF2.out.blk)
  clear F3 K3
  go_wp2_with fail
  refine (append_room _ _ a a.size b w3 HF3.out (by omega)).mono ?_
  rintro e w4 ⟨rfl, F4, K4⟩
  have HF4 := Lib.hid F4
  have HK4 := Lib.hid K4
  have hb4 := keeps_box K4 HB3.out HF3.out.blk
  have x1 : w4.cell? ⟨w.heap.size, 1, none⟩ = some (.int .i64 (k : Int)) := Go.Joins.cell_of_block hb4 1
  have x2 : w4.cell? ⟨w.heap.size, 2, none⟩ = some (.int .i64 mask) := Go.Joins.cell_of_block hb4 2
  clear F4 K4 hb4
  go_wp2_with (first
    | (go_at_call 13; (with_reducible refine (C13.out _ HF4.out).mono ?_); rintro e w5 ⟨rfl, F5, K5⟩; have HF5 := Lib.hid F5; have HK5 := Lib.hid K5; clear F5 K5)
    | (go_at_call 10; (with_reducible refine (bytes_any _ _ _ _ _ HF5.out).mono ?_); rintro e w6 ⟨rfl, rfl⟩)
    | (go_at_call 9; (with_reducible refine (len_any _ _ _ _ _ HF5.out).mono ?_); rintro e w7 ⟨rfl, m7, hw7⟩; have HW7 := Lib.hid hw7; clear hw7))
  have hadd2 := fun w => run_string_add_sum (P := Try.prog) w a b (by omega)
  go_quiet (fail)
  by_cases hk2 : k = b.size
  · skip
    have qk : ((k : Int) == (b.size : Int)) = true := by simp; omega
    have qk2 : (k == b.size) = true := by simp; omega
    have qo : (o.toList != (a ++ b).toList) = false := by rw [HO6.out hk2]; simp
    have qo2 : (o.toList == (a ++ b).toList) = true := by rw [HO6.out hk2]; simp
    have qs : ((o.size : Int) != (a.size : Int) + (k : Nat)) = false := by rw [HO7.out]; simp
    have qs2 : (o.size != a.size + k) = false := by rw [HO7.out]; simp
    clear hk2
    go_wp2_with (first
      | (go_at_call 7; (with_reducible refine (abc_any _).mono ?_); rintro e w8 ⟨rfl, hb8⟩; have HB8 := Lib.hid hb8; clear hb8))
    go_ret
    exact ⟨rfl, lasts_end B0.out ((HK2.out.trans HK3.out).trans HK4.out) HK5.out HW7.out HB8.out⟩
  · skip
    have qk : ((k : Int) == (b.size : Int)) = false := by simp; omega
    have qk2 : (k == b.size) = false := by simp; omega
    have qs : ((o.size : Int) != (a.size : Int) + (k : Nat)) = false := by rw [HO7.out]; simp
    have qs2 : (o.size != a.size + k) = false := by rw [HO7.out]; simp
    clear hk2
    go_wp2_with (first
      | (go_at_call 7; (with_reducible refine (abc_any _).mono ?_); rintro e w8 ⟨rfl, hb8⟩; have HB8 := Lib.hid hb8; clear hb8))
    go_ret
    exact ⟨rfl, lasts_end B0.out ((HK2.out.trans HK3.out).trans HK4.out) HK5.out HW7.out HB8.out⟩

set_option maxHeartbeats 4000000 in
theorem lasts_iog (a b y : ByteArray) (what : Int) (k : Nat) (mask : Int) (w : World) (hl : a.size + b.size ≤ 10000) (hk : k ≤ b.size) (hmk : 255 < mask) :
    Calls Try.prog 4 #[.string a, .string b, .agg #[.int .i64 what, .int .i64 (k : Int), .int .i64 mask, .string y]] w fun e w' => e = .returned (.bool true) ∧ Below w.heap.size w w' := by
  have h1 : ¬ (10000 : Int) < (a.size : Int) + (b.size : Int) := by omega
  obtain ⟨o, ho1, ho2, ho3, ho4, ho5, ho6, ho7⟩ := lasts a b k 0 hk (by omega)
  have ho1 : nextX a b (k : Int) 0 = (o, ⟨#[]⟩) := ho1
  have ho2 : codeX b (k : Int) 0 = 0 := ho2
  have C13 := Lib.hid (fun X hX => crash_u (w.heap.size + 1) (w.heap.size + 1) a b (k : Int) 0 X hX (by omega))
  rw [ho1, ho2] at C13
  rw [app_nil] at C13
  have N := Lib.hid (show FileAt ((w.alloc (.cells #[.int .i64 what, .int .i64 (k : Int), .int .i64 mask, .string y] 30)).alloc (.cells #[.slice none 0 0, .int .i64 0] 45)) (w.heap.size + 1) (w.heap.size + 1) ⟨#[]⟩ 0 by
    have := FileAt.new (w.alloc (.cells #[.int .i64 what, .int .i64 (k : Int), .int .i64 mask, .string y] 30))
    simpa using this)
  have hbox : ((w.alloc (.cells #[.int .i64 what, .int .i64 (k : Int), .int .i64 mask, .string y] 30)).alloc (.cells #[.slice none 0 0, .int .i64 0] 45)).heap[w.heap.size]? = some (.cells #[.int .i64 what, .int .i64 (k : Int), .int .i64 mask, .string y] 30 (0, 0)) :=
    (Go.heap_alloc_old _ _ (by simp)).trans (heap_alloc_new w _)
  have HBX := Lib.hid hbox
  have B0 := Lib.hid (((Below.refl (w.heap.size) w).alloc (Nat.le_refl _) (.cells #[.int .i64 what, .int .i64 (k : Int), .int .i64 mask, .string y] 30)).alloc (by simp) (.cells #[.slice none 0 0, .int .i64 0] 45))
  have t3 : ¬ o.size < a.size + k := by omega
  have t4 : ¬ a.size + k + 1 < o.size := by omega
  have t3' : decide (o.size < a.size + k) = false := by simp; omega
  have t4' : decide (a.size + k + 1 < o.size) = false := by simp; omega
  have t3i : decide ((o.size : Int) < (a.size : Int) + (k : Nat)) = false := by simp; omega
  have t4i : decide ((a.size : Int) + (k : Nat) + 1 < (o.size : Int)) = false := by simp; omega
  have t5 : ((a.size : Int) + (k : Nat)).toNat = a.size + k := by omega
  have tw : IntKind.i64.wrap ((a.size : Int) + (k : Nat)) = (a.size : Int) + (k : Nat) := IntWalk.i64_in _ (by omega)
  have tw1 : IntKind.i64.wrap ((a.size : Int) + (k : Nat) + 1) = (a.size : Int) + (k : Nat) + 1 := IntWalk.i64_in _ (by omega)
  have t0 : 0 ≤ (a.size : Int) + (k : Nat) := by omega
  have tle : (a.size : Int) + (k : Nat) ≤ (o.size : Int) := by omega
  have hadd := fun w => run_string_add_sum (P := Try.prog) w a (b.extract 0 k) (by simp only [ByteArray.size_extract]; omega)
  have HO6 := Lib.hid ho6
  have HO7 := Lib.hid (ho7 rfl)
  have tn : decide ((k : Int) < 0) = false := by simp
  have tn2 : decide ((b.size : Int) < (k : Int)) = false := by simp; omega
  have tn3 : decide (b.size < k) = false := by simp; omega
  clear ho1 ho2 ho3 ho4 ho6 ho7 hbox
  have tm : decide (mask < 0) = false := by simp; omega
  have tm2 : decide (255 < mask) = true := by simp; omega
  clear hmk
  go_enter Try.func4, Try.ntmps4
  go_wp2_with (first
    | (go_at_call 6; (with_reducible refine (new_any _).mono ?_); rintro e w1 ⟨rfl, rfl⟩))
  refine (append_room _ _ ⟨#[]⟩ 0 a _ N.out (by simp only [ByteArray.size]; show 0 + a.data.size ≤ _; have : a.data.size = a.size := rfl; omega)).mono ?_
  rintro e w2 ⟨rfl, F2, K2⟩
  rw [nil_app] at F2
  have HF2 := Lib.hid F2
  have HK2 := Lib.hid K2
  have HB2 := Lib.hid (keeps_box K2 HBX.out N.out.blk)
  clear F2 K2
  go_wp2_with fail
  refine (sync_any _ _ a 0 w2 HF2.out).mono ?_
  rintro e w3 ⟨rfl, F3, K3⟩
  have HF3 := Lib.hid F3
  have HK3 := Lib.hid K3
  have HB3 := Lib.hid (keeps_box K3 HB2.out HF2.out.blk)
  clear F3 K3
  go_wp2_with fail
  refine (append_room _ _ a a.size b w3 HF3.out (by omega)).mono ?_
  rintro e w4 ⟨rfl, F4, K4⟩
  have HF4 := Lib.hid F4
  have HK4 := Lib.hid K4
  have hb4 := keeps_box K4 HB3.out HF3.out.blk
  have x1 : w4.cell? ⟨w.heap.size, 1, none⟩ = some (.int .i64 (k : Int)) := Go.Joins.cell_of_block hb4 1
  have x2 : w4.cell? ⟨w.heap.size, 2, none⟩ = some (.int .i64 mask) := Go.Joins.cell_of_block hb4 2
  clear F4 K4 hb4
  go_wp2_with (first
    | (go_at_call 13; (with_reducible refine (C13.out _ HF4.out).mono ?_); rintro e w5 ⟨rfl, F5, K5⟩; have HF5 := Lib.hid F5; have HK5 := Lib.hid K5; clear F5 K5)
    | (go_at_call 10; (with_reducible refine (bytes_any _ _ _ _ _ HF5.out).mono ?_); rintro e w6 ⟨rfl, rfl⟩)
    | (go_at_call 9; (with_reducible refine (len_any _ _ _ _ _ HF5.out).mono ?_); rintro e w7 ⟨rfl, m7, hw7⟩; have HW7 := Lib.hid hw7; clear hw7))
  have hadd2 := fun w => run_string_add_sum (P := Try.prog) w a b (by omega)
  go_quiet (fail)
  by_cases hk2 : k = b.size
  · skip
    have qk : ((k : Int) == (b.size : Int)) = true := by simp; omega
    have qk2 : (k == b.size) = true := by simp; omega
    have qo : (o.toList != (a ++ b).toList) = false := by rw [HO6.out hk2]; simp
    have qo2 : (o.toList == (a ++ b).toList) = true := by rw [HO6.out hk2]; simp
    have qs : ((o.size : Int) != (a.size : Int) + (k : Nat)) = false := by rw [HO7.out]; simp
    have qs2 : (o.size != a.size + k) = false := by rw [HO7.out]; simp
    clear hk2
    go_wp2_with (first
      | (go_at_call 7; (with_reducible refine (abc_any _).mono ?_); rintro e w8 ⟨rfl, hb8⟩; have HB8 := Lib.hid hb8; clear hb8))
    go_ret
    exact ⟨rfl, lasts_end B0.out ((HK2.out.trans HK3.out).trans HK4.out) HK5.out HW7.out HB8.out⟩
  · skip
    have qk : ((k : Int) == (b.size : Int)) = false := by simp; omega
    have qk2 : (k == b.size) = false := by simp; omega
    have qs : ((o.size : Int) != (a.size : Int) + (k : Nat)) = false := by rw [HO7.out]; simp
    have qs2 : (o.size != a.size + k) = false := by rw [HO7.out]; simp
    clear hk2
    go_wp2_with (first
      | (go_at_call 7; (with_reducible refine (abc_any _).mono ?_); rintro e w8 ⟨rfl, hb8⟩; have HB8 := Lib.hid hb8; clear hb8))
    go_ret
    exact ⟨rfl, lasts_end B0.out ((HK2.out.trans HK3.out).trans HK4.out) HK5.out HW7.out HB8.out⟩

set_option maxHeartbeats 4000000 in
theorem lasts_oiL (a b y : ByteArray) (what : Int) (n : Int) (m : Nat) (w : World) (hl : a.size + b.size ≤ 10000) (hn : n < 0) (hm : m ≤ 255) :
    Calls Try.prog 4 #[.string a, .string b, .agg #[.int .i64 what, .int .i64 n, .int .i64 (m : Int), .string y]] w fun e w' => e = .returned (.bool true) ∧ Below w.heap.size w w' := by
  have h1 : ¬ (10000 : Int) < (a.size : Int) + (b.size : Int) := by omega
  obtain ⟨o, ho1, ho2, ho3, ho4, ho5, ho6, ho7⟩ := lasts a b b.size m (Nat.le_refl _) hm
  have C13 := Lib.hid (fun X hX => crash_u (w.heap.size + 1) (w.heap.size + 1) a b (b.size : Int) (m : Int) X hX (by omega))
  rw [ho1, ho2] at C13
  rw [app_nil] at C13
  have N := Lib.hid (show FileAt ((w.alloc (.cells #[.int .i64 what, .int .i64 n, .int .i64 (m : Int), .string y] 30)).alloc (.cells #[.slice none 0 0, .int .i64 0] 45)) (w.heap.size + 1) (w.heap.size + 1) ⟨#[]⟩ 0 by
    have := FileAt.new (w.alloc (.cells #[.int .i64 what, .int .i64 n, .int .i64 (m : Int), .string y] 30))
    simpa using this)
  have hbox : ((w.alloc (.cells #[.int .i64 what, .int .i64 n, .int .i64 (m : Int), .string y] 30)).alloc (.cells #[.slice none 0 0, .int .i64 0] 45)).heap[w.heap.size]? = some (.cells #[.int .i64 what, .int .i64 n, .int .i64 (m : Int), .string y] 30 (0, 0)) :=
    (Go.heap_alloc_old _ _ (by simp)).trans (heap_alloc_new w _)
  have HBX := Lib.hid hbox
  have B0 := Lib.hid (((Below.refl (w.heap.size) w).alloc (Nat.le_refl _) (.cells #[.int .i64 what, .int .i64 n, .int .i64 (m : Int), .string y] 30)).alloc (by simp) (.cells #[.slice none 0 0, .int .i64 0] 45))
  have t3 : ¬ o.size < a.size + b.size := by omega
  have t4 : ¬ a.size + b.size + 1 < o.size := by omega
  have t3' : decide (o.size < a.size + b.size) = false := by simp; omega
  have t4' : decide (a.size + b.size + 1 < o.size) = false := by simp; omega
  have t3i : decide ((o.size : Int) < (a.size : Int) + (b.size : Nat)) = false := by simp; omega
  have t4i : decide ((a.size : Int) + (b.size : Nat) + 1 < (o.size : Int)) = false := by simp; omega
  have t5 : ((a.size : Int) + (b.size : Nat)).toNat = a.size + b.size := by omega
  have tw : IntKind.i64.wrap ((a.size : Int) + (b.size : Nat)) = (a.size : Int) + (b.size : Nat) := IntWalk.i64_in _ (by omega)
  have tw1 : IntKind.i64.wrap ((a.size : Int) + (b.size : Nat) + 1) = (a.size : Int) + (b.size : Nat) + 1 := IntWalk.i64_in _ (by omega)
  have t0 : 0 ≤ (a.size : Int) + (b.size : Nat) := by omega
  have tle : (a.size : Int) + (b.size : Nat) ≤ (o.size : Int) := by omega
  have hadd := fun w => run_string_add_sum (P := Try.prog) w a (b.extract 0 b.size) (by simp only [ByteArray.size_extract]; omega)
  have HO6 := Lib.hid (ho6 rfl)
  have HO7 := Lib.hid ho7
  have tm : decide ((m : Int) < 0) = false := by simp
  have tm2 : decide (255 < (m : Int)) = false := by simp; omega
  have tm3 : decide (255 < m) = false := by simp; omega
  clear ho1 ho2 ho3 ho4 ho6 ho7 hbox
  have tn : decide (n < 0) = true := by simp; omega
  clear hn
  go_enter Try.func4, Try.ntmps4
  go_wp2_with (first
    | (go_at_call 6; (with_reducible refine (new_any _).mono ?_); rintro e w1 ⟨rfl, rfl⟩))
  refine (append_room _ _ ⟨#[]⟩ 0 a _ N.out (by simp only [ByteArray.size]; show 0 + a.data.size ≤ _; have : a.data.size = a.size := rfl; omega)).mono ?_
  rintro e w2 ⟨rfl, F2, K2⟩
  rw [nil_app] at F2
  have HF2 := Lib.hid F2
  have HK2 := Lib.hid K2
  have HB2 := Lib.hid (keeps_box K2 HBX.out N.out.blk)
  clear F2 K2
  go_wp2_with fail
  refine (sync_any _ _ a 0 w2 HF2.out).mono ?_
  rintro e w3 ⟨rfl, F3, K3⟩
  have HF3 := Lib.hid F3
  have HK3 := Lib.hid K3
  have HB3 := Lib.hid (keeps_box K3 HB2.out HF2.out.blk)
  clear F3 K3
  go_wp2_with fail
  refine (append_room _ _ a a.size b w3 HF3.out (by omega)).mono ?_
  rintro e w4 ⟨rfl, F4, K4⟩
  have HF4 := Lib.hid F4
  have HK4 := Lib.hid K4
  have hb4 := keeps_box K4 HB3.out HF3.out.blk
  have x1 : w4.cell? ⟨w.heap.size, 1, none⟩ = some (.int .i64 n) := Go.Joins.cell_of_block hb4 1
  have x2 : w4.cell? ⟨w.heap.size, 2, none⟩ = some (.int .i64 (m : Int)) := Go.Joins.cell_of_block hb4 2
  clear F4 K4 hb4
  go_wp2_with (first
    | (go_at_call 13; (with_reducible refine (C13.out _ HF4.out).mono ?_); rintro e w5 ⟨rfl, F5, K5⟩; have HF5 := Lib.hid F5; have HK5 := Lib.hid K5; clear F5 K5)
    | (go_at_call 10; (with_reducible refine (bytes_any _ _ _ _ _ HF5.out).mono ?_); rintro e w6 ⟨rfl, rfl⟩)
    | (go_at_call 9; (with_reducible refine (len_any _ _ _ _ _ HF5.out).mono ?_); rintro e w7 ⟨rfl, m7, hw7⟩; have HW7 := Lib.hid hw7; clear hw7))
  have hadd2 := fun w => run_string_add_sum (P := Try.prog) w a b (by omega)
  go_quiet (fail)
  by_cases hm2 : m = 0
  · skip
    have qo : (o.toList != (a ++ b).toList) = false := by rw [HO6.out]; simp
    have qo2 : (o.toList == (a ++ b).toList) = true := by rw [HO6.out]; simp
    have qm : ((m : Int) == 0) = true := by simp; omega
    have qm2 : (m == 0) = true := by simp; omega
    have qs : ((o.size : Int) != (a.size : Int) + (b.size : Nat)) = false := by rw [HO7.out hm2]; simp
    have qs2 : (o.size != a.size + b.size) = false := by rw [HO7.out hm2]; simp
    clear hm2
    go_wp2_with (first
      | (go_at_call 7; (with_reducible refine (abc_any _).mono ?_); rintro e w8 ⟨rfl, hb8⟩; have HB8 := Lib.hid hb8; clear hb8))
    go_ret
    exact ⟨rfl, lasts_end B0.out ((HK2.out.trans HK3.out).trans HK4.out) HK5.out HW7.out HB8.out⟩
  · skip
    have qo : (o.toList != (a ++ b).toList) = false := by rw [HO6.out]; simp
    have qo2 : (o.toList == (a ++ b).toList) = true := by rw [HO6.out]; simp
    have qm : ((m : Int) == 0) = false := by simp; omega
    have qm2 : (m == 0) = false := by simp; omega
    clear hm2
    go_wp2_with (first
      | (go_at_call 7; (with_reducible refine (abc_any _).mono ?_); rintro e w8 ⟨rfl, hb8⟩; have HB8 := Lib.hid hb8; clear hb8))
    go_ret
    exact ⟨rfl, lasts_end B0.out ((HK2.out.trans HK3.out).trans HK4.out) HK5.out HW7.out HB8.out⟩

set_option maxHeartbeats 4000000 in
theorem lasts_oiG (a b y : ByteArray) (what : Int) (n : Int) (m : Nat) (w : World) (hl : a.size + b.size ≤ 10000) (hn : b.size < n) (hm : m ≤ 255) :
    Calls Try.prog 4 #[.string a, .string b, .agg #[.int .i64 what, .int .i64 n, .int .i64 (m : Int), .string y]] w fun e w' => e = .returned (.bool true) ∧ Below w.heap.size w w' := by
  have h1 : ¬ (10000 : Int) < (a.size : Int) + (b.size : Int) := by omega
  obtain ⟨o, ho1, ho2, ho3, ho4, ho5, ho6, ho7⟩ := lasts a b b.size m (Nat.le_refl _) hm
  have C13 := Lib.hid (fun X hX => crash_u (w.heap.size + 1) (w.heap.size + 1) a b (b.size : Int) (m : Int) X hX (by omega))
  rw [ho1, ho2] at C13
  rw [app_nil] at C13
  have N := Lib.hid (show FileAt ((w.alloc (.cells #[.int .i64 what, .int .i64 n, .int .i64 (m : Int), .string y] 30)).alloc (.cells #[.slice none 0 0, .int .i64 0] 45)) (w.heap.size + 1) (w.heap.size + 1) ⟨#[]⟩ 0 by
    have := FileAt.new (w.alloc (.cells #[.int .i64 what, .int .i64 n, .int .i64 (m : Int), .string y] 30))
    simpa using this)
  have hbox : ((w.alloc (.cells #[.int .i64 what, .int .i64 n, .int .i64 (m : Int), .string y] 30)).alloc (.cells #[.slice none 0 0, .int .i64 0] 45)).heap[w.heap.size]? = some (.cells #[.int .i64 what, .int .i64 n, .int .i64 (m : Int), .string y] 30 (0, 0)) :=
    (Go.heap_alloc_old _ _ (by simp)).trans (heap_alloc_new w _)
  have HBX := Lib.hid hbox
  have B0 := Lib.hid (((Below.refl (w.heap.size) w).alloc (Nat.le_refl _) (.cells #[.int .i64 what, .int .i64 n, .int .i64 (m : Int), .string y] 30)).alloc (by simp) (.cells #[.slice none 0 0, .int .i64 0] 45))
  have t3 : ¬ o.size < a.size + b.size := by omega
  have t4 : ¬ a.size + b.size + 1 < o.size := by omega
  have t3' : decide (o.size < a.size + b.size) = false := by simp; omega
  have t4' : decide (a.size + b.size + 1 < o.size) = false := by simp; omega
  have t3i : decide ((o.size : Int) < (a.size : Int) + (b.size : Nat)) = false := by simp; omega
  have t4i : decide ((a.size : Int) + (b.size : Nat) + 1 < (o.size : Int)) = false := by simp; omega
  have t5 : ((a.size : Int) + (b.size : Nat)).toNat = a.size + b.size := by omega
  have tw : IntKind.i64.wrap ((a.size : Int) + (b.size : Nat)) = (a.size : Int) + (b.size : Nat) := IntWalk.i64_in _ (by omega)
  have tw1 : IntKind.i64.wrap ((a.size : Int) + (b.size : Nat) + 1) = (a.size : Int) + (b.size : Nat) + 1 := IntWalk.i64_in _ (by omega)
  have t0 : 0 ≤ (a.size : Int) + (b.size : Nat) := by omega
  have tle : (a.size : Int) + (b.size : Nat) ≤ (o.size : Int) := by omega
  have hadd := fun w => run_string_add_sum (P := Try.prog) w a (b.extract 0 b.size) (by simp only [ByteArray.size_extract]; omega)
  have HO6 := Lib.hid (ho6 rfl)
  have HO7 := Lib.hid ho7
  have tm : decide ((m : Int) < 0) = false := by simp
  have tm2 : decide (255 < (m : Int)) = false := by simp; omega
  have tm3 : decide (255 < m) = false := by simp; omega
  clear ho1 ho2 ho3 ho4 ho6 ho7 hbox
  have tn : decide (n < 0) = false := by simp; omega
  have tn2 : decide ((b.size : Int) < n) = true := by simp; omega
  clear hn
  go_enter Try.func4, Try.ntmps4
  go_wp2_with (first
    | (go_at_call 6; (with_reducible refine (new_any _).mono ?_); rintro e w1 ⟨rfl, rfl⟩))
  refine (append_room _ _ ⟨#[]⟩ 0 a _ N.out (by simp only [ByteArray.size]; show 0 + a.data.size ≤ _; have : a.data.size = a.size := rfl; omega)).mono ?_
  rintro e w2 ⟨rfl, F2, K2⟩
  rw [nil_app] at F2
  have HF2 := Lib.hid F2
  have HK2 := Lib.hid K2
  have HB2 := Lib.hid (keeps_box K2 HBX.out N.out.blk)
  clear F2 K2
  go_wp2_with fail
  refine (sync_any _ _ a 0 w2 HF2.out).mono ?_
  rintro e w3 ⟨rfl, F3, K3⟩
  have HF3 := Lib.hid F3
  have HK3 := Lib.hid K3
  have HB3 := Lib.hid (keeps_box K3 HB2.out HF2.out.blk)
  clear F3 K3
  go_wp2_with fail
  refine (append_room _ _ a a.size b w3 HF3.out (by omega)).mono ?_
  rintro e w4 ⟨rfl, F4, K4⟩
  have HF4 := Lib.hid F4
  have HK4 := Lib.hid K4
  have hb4 := keeps_box K4 HB3.out HF3.out.blk
  have x1 : w4.cell? ⟨w.heap.size, 1, none⟩ = some (.int .i64 n) := Go.Joins.cell_of_block hb4 1
  have x2 : w4.cell? ⟨w.heap.size, 2, none⟩ = some (.int .i64 (m : Int)) := Go.Joins.cell_of_block hb4 2
  clear F4 K4 hb4
  go_wp2_with (first
    | (go_at_call 13; (with_reducible refine (C13.out _ HF4.out).mono ?_); rintro e w5 ⟨rfl, F5, K5⟩; have HF5 := Lib.hid F5; have HK5 := Lib.hid K5; clear F5 K5)
    | (go_at_call 10; (with_reducible refine (bytes_any _ _ _ _ _ HF5.out).mono ?_); rintro e w6 ⟨rfl, rfl⟩)
    | (go_at_call 9; (with_reducible refine (len_any _ _ _ _ _ HF5.out).mono ?_); rintro e w7 ⟨rfl, m7, hw7⟩; have HW7 := Lib.hid hw7; clear hw7))
  have hadd2 := fun w => run_string_add_sum (P := Try.prog) w a b (by omega)
  go_quiet (fail)
  by_cases hm2 : m = 0
  · skip
    have qo : (o.toList != (a ++ b).toList) = false := by rw [HO6.out]; simp
    have qo2 : (o.toList == (a ++ b).toList) = true := by rw [HO6.out]; simp
    have qm : ((m : Int) == 0) = true := by simp; omega
    have qm2 : (m == 0) = true := by simp; omega
    have qs : ((o.size : Int) != (a.size : Int) + (b.size : Nat)) = false := by rw [HO7.out hm2]; simp
    have qs2 : (o.size != a.size + b.size) = false := by rw [HO7.out hm2]; simp
    clear hm2
    go_wp2_with (first
      | (go_at_call 7; (with_reducible refine (abc_any _).mono ?_); rintro e w8 ⟨rfl, hb8⟩; have HB8 := Lib.hid hb8; clear hb8))
    go_ret
    exact ⟨rfl, lasts_end B0.out ((HK2.out.trans HK3.out).trans HK4.out) HK5.out HW7.out HB8.out⟩
  · skip
    have qo : (o.toList != (a ++ b).toList) = false := by rw [HO6.out]; simp
    have qo2 : (o.toList == (a ++ b).toList) = true := by rw [HO6.out]; simp
    have qm : ((m : Int) == 0) = false := by simp; omega
    have qm2 : (m == 0) = false := by simp; omega
    clear hm2
    go_wp2_with (first
      | (go_at_call 7; (with_reducible refine (abc_any _).mono ?_); rintro e w8 ⟨rfl, hb8⟩; have HB8 := Lib.hid hb8; clear hb8))
    go_ret
    exact ⟨rfl, lasts_end B0.out ((HK2.out.trans HK3.out).trans HK4.out) HK5.out HW7.out HB8.out⟩

set_option maxHeartbeats 4000000 in
theorem lasts_ooLl (a b y : ByteArray) (what : Int) (n : Int) (mask : Int) (w : World) (hl : a.size + b.size ≤ 10000) (hn : n < 0) (hmk : mask < 0) :
    Calls Try.prog 4 #[.string a, .string b, .agg #[.int .i64 what, .int .i64 n, .int .i64 mask, .string y]] w fun e w' => e = .returned (.bool true) ∧ Below w.heap.size w w' := by
  have h1 : ¬ (10000 : Int) < (a.size : Int) + (b.size : Int) := by omega
  obtain ⟨o, ho1, ho2, ho3, ho4, ho5, ho6, ho7⟩ := lasts a b b.size 0 (Nat.le_refl _) (by omega)
  have ho1 : nextX a b (b.size : Int) 0 = (o, ⟨#[]⟩) := ho1
  have ho2 : codeX b (b.size : Int) 0 = 0 := ho2
  have C13 := Lib.hid (fun X hX => crash_u (w.heap.size + 1) (w.heap.size + 1) a b (b.size : Int) 0 X hX (by omega))
  rw [ho1, ho2] at C13
  rw [app_nil] at C13
  have N := Lib.hid (show FileAt ((w.alloc (.cells #[.int .i64 what, .int .i64 n, .int .i64 mask, .string y] 30)).alloc (.cells #[.slice none 0 0, .int .i64 0] 45)) (w.heap.size + 1) (w.heap.size + 1) ⟨#[]⟩ 0 by
    have := FileAt.new (w.alloc (.cells #[.int .i64 what, .int .i64 n, .int .i64 mask, .string y] 30))
    simpa using this)
  have hbox : ((w.alloc (.cells #[.int .i64 what, .int .i64 n, .int .i64 mask, .string y] 30)).alloc (.cells #[.slice none 0 0, .int .i64 0] 45)).heap[w.heap.size]? = some (.cells #[.int .i64 what, .int .i64 n, .int .i64 mask, .string y] 30 (0, 0)) :=
    (Go.heap_alloc_old _ _ (by simp)).trans (heap_alloc_new w _)
  have HBX := Lib.hid hbox
  have B0 := Lib.hid (((Below.refl (w.heap.size) w).alloc (Nat.le_refl _) (.cells #[.int .i64 what, .int .i64 n, .int .i64 mask, .string y] 30)).alloc (by simp) (.cells #[.slice none 0 0, .int .i64 0] 45))
  have t3 : ¬ o.size < a.size + b.size := by omega
  have t4 : ¬ a.size + b.size + 1 < o.size := by omega
  have t3' : decide (o.size < a.size + b.size) = false := by simp; omega
  have t4' : decide (a.size + b.size + 1 < o.size) = false := by simp; omega
  have t3i : decide ((o.size : Int) < (a.size : Int) + (b.size : Nat)) = false := by simp; omega
  have t4i : decide ((a.size : Int) + (b.size : Nat) + 1 < (o.size : Int)) = false := by simp; omega
  have t5 : ((a.size : Int) + (b.size : Nat)).toNat = a.size + b.size := by omega
  have tw : IntKind.i64.wrap ((a.size : Int) + (b.size : Nat)) = (a.size : Int) + (b.size : Nat) := IntWalk.i64_in _ (by omega)
  have tw1 : IntKind.i64.wrap ((a.size : Int) + (b.size : Nat) + 1) = (a.size : Int) + (b.size : Nat) + 1 := IntWalk.i64_in _ (by omega)
  have t0 : 0 ≤ (a.size : Int) + (b.size : Nat) := by omega
  have tle : (a.size : Int) + (b.size : Nat) ≤ (o.size : Int) := by omega
  have hadd := fun w => run_string_add_sum (P := Try.prog) w a (b.extract 0 b.size) (by simp only [ByteArray.size_extract]; omega)
  have HO6 := Lib.hid (ho6 rfl)
  have HO7 := Lib.hid (ho7 rfl)
  clear ho1 ho2 ho3 ho4 ho6 ho7 hbox
  have tn : decide (n < 0) = true := by simp; omega
  have tm : decide (mask < 0) = true := by simp; omega
  clear hn
  clear hmk
  go_enter Try.func4, Try.ntmps4
  go_wp2_with (first
    | (go_at_call 6; (with_reducible refine (new_any _).mono ?_); rintro e w1 ⟨rfl, rfl⟩))
  refine (append_room _ _ ⟨#[]⟩ 0 a _ N.out (by simp only [ByteArray.size]; show 0 + a.data.size ≤ _; have : a.data.size = a.size := rfl; omega)).mono ?_
  rintro e w2 ⟨rfl, F2, K2⟩
  rw [nil_app] at F2
  have HF2 := Lib.hid F2
  have HK2 := Lib.hid K2
  have HB2 := Lib.hid (keeps_box K2 HBX.out N.out.blk)
  clear F2 K2
  go_wp2_with fail
  refine (sync_any _ _ a 0 w2 HF2.out).mono ?_
  rintro e w3 ⟨rfl, F3, K3⟩
  have HF3 := Lib.hid F3
  have HK3 := Lib.hid K3
  have HB3 := Lib.hid (keeps_box K3 HB2.out HF2.out.blk)
  clear F3 K3
  go_wp2_with fail
  refine (append_room _ _ a a.size b w3 HF3.out (by omega)).mono ?_
  rintro e w4 ⟨rfl, F4, K4⟩
  have HF4 := Lib.hid F4
  have HK4 := Lib.hid K4
  have hb4 := keeps_box K4 HB3.out HF3.out.blk
  have x1 : w4.cell? ⟨w.heap.size, 1, none⟩ = some (.int .i64 n) := Go.Joins.cell_of_block hb4 1
  have x2 : w4.cell? ⟨w.heap.size, 2, none⟩ = some (.int .i64 mask) := Go.Joins.cell_of_block hb4 2
  clear F4 K4 hb4
  go_wp2_with (first
    | (go_at_call 13; (with_reducible refine (C13.out _ HF4.out).mono ?_); rintro e w5 ⟨rfl, F5, K5⟩; have HF5 := Lib.hid F5; have HK5 := Lib.hid K5; clear F5 K5)
    | (go_at_call 10; (with_reducible refine (bytes_any _ _ _ _ _ HF5.out).mono ?_); rintro e w6 ⟨rfl, rfl⟩)
    | (go_at_call 9; (with_reducible refine (len_any _ _ _ _ _ HF5.out).mono ?_); rintro e w7 ⟨rfl, m7, hw7⟩; have HW7 := Lib.hid hw7; clear hw7))
  have hadd2 := fun w => run_string_add_sum (P := Try.prog) w a b (by omega)
  go_quiet (fail)
  have qo : (o.toList != (a ++ b).toList) = false := by rw [HO6.out]; simp
  have qo2 : (o.toList == (a ++ b).toList) = true := by rw [HO6.out]; simp
  have qs : ((o.size : Int) != (a.size : Int) + (b.size : Nat)) = false := by rw [HO7.out]; simp
  have qs2 : (o.size != a.size + b.size) = false := by rw [HO7.out]; simp
  go_wp2_with (first
    | (go_at_call 7; (with_reducible refine (abc_any _).mono ?_); rintro e w8 ⟨rfl, hb8⟩; have HB8 := Lib.hid hb8; clear hb8))
  go_ret
  exact ⟨rfl, lasts_end B0.out ((HK2.out.trans HK3.out).trans HK4.out) HK5.out HW7.out HB8.out⟩

set_option maxHeartbeats 4000000 in
theorem lasts_ooLg (a b y : ByteArray) (what : Int) (n : Int) (mask : Int) (w : World) (hl : a.size + b.size ≤ 10000) (hn : n < 0) (hmk : 255 < mask) :
    Calls Try.prog 4 #[.string a, .string b, .agg #[.int .i64 what, .int .i64 n, .int .i64 mask, .string y]] w fun e w' => e = .returned (.bool true) ∧ Below w.heap.size w w' := by
  have h1 : ¬ (10000 : Int) < (a.size : Int) + (b.size : Int) := by omega
  obtain ⟨o, ho1, ho2, ho3, ho4, ho5, ho6, ho7⟩ := lasts a b b.size 0 (Nat.le_refl _) (by omega)
  have ho1 : nextX a b (b.size : Int) 0 = (o, ⟨#[]⟩) := ho1
  have ho2 : codeX b (b.size : Int) 0 = 0 := ho2
  have C13 := Lib.hid (fun X hX => crash_u (w.heap.size + 1) (w.heap.size + 1) a b (b.size : Int) 0 X hX (by omega))
  rw [ho1, ho2] at C13
  rw [app_nil] at C13
  have N := Lib.hid (show FileAt ((w.alloc (.cells #[.int .i64 what, .int .i64 n, .int .i64 mask, .string y] 30)).alloc (.cells #[.slice none 0 0, .int .i64 0] 45)) (w.heap.size + 1) (w.heap.size + 1) ⟨#[]⟩ 0 by
    have := FileAt.new (w.alloc (.cells #[.int .i64 what, .int .i64 n, .int .i64 mask, .string y] 30))
    simpa using this)
  have hbox : ((w.alloc (.cells #[.int .i64 what, .int .i64 n, .int .i64 mask, .string y] 30)).alloc (.cells #[.slice none 0 0, .int .i64 0] 45)).heap[w.heap.size]? = some (.cells #[.int .i64 what, .int .i64 n, .int .i64 mask, .string y] 30 (0, 0)) :=
    (Go.heap_alloc_old _ _ (by simp)).trans (heap_alloc_new w _)
  have HBX := Lib.hid hbox
  have B0 := Lib.hid (((Below.refl (w.heap.size) w).alloc (Nat.le_refl _) (.cells #[.int .i64 what, .int .i64 n, .int .i64 mask, .string y] 30)).alloc (by simp) (.cells #[.slice none 0 0, .int .i64 0] 45))
  have t3 : ¬ o.size < a.size + b.size := by omega
  have t4 : ¬ a.size + b.size + 1 < o.size := by omega
  have t3' : decide (o.size < a.size + b.size) = false := by simp; omega
  have t4' : decide (a.size + b.size + 1 < o.size) = false := by simp; omega
  have t3i : decide ((o.size : Int) < (a.size : Int) + (b.size : Nat)) = false := by simp; omega
  have t4i : decide ((a.size : Int) + (b.size : Nat) + 1 < (o.size : Int)) = false := by simp; omega
  have t5 : ((a.size : Int) + (b.size : Nat)).toNat = a.size + b.size := by omega
  have tw : IntKind.i64.wrap ((a.size : Int) + (b.size : Nat)) = (a.size : Int) + (b.size : Nat) := IntWalk.i64_in _ (by omega)
  have tw1 : IntKind.i64.wrap ((a.size : Int) + (b.size : Nat) + 1) = (a.size : Int) + (b.size : Nat) + 1 := IntWalk.i64_in _ (by omega)
  have t0 : 0 ≤ (a.size : Int) + (b.size : Nat) := by omega
  have tle : (a.size : Int) + (b.size : Nat) ≤ (o.size : Int) := by omega
  have hadd := fun w => run_string_add_sum (P := Try.prog) w a (b.extract 0 b.size) (by simp only [ByteArray.size_extract]; omega)
  have HO6 := Lib.hid (ho6 rfl)
  have HO7 := Lib.hid (ho7 rfl)
  clear ho1 ho2 ho3 ho4 ho6 ho7 hbox
  have tn : decide (n < 0) = true := by simp; omega
  have tm : decide (mask < 0) = false := by simp; omega
  have tm2 : decide (255 < mask) = true := by simp; omega
  clear hn
  clear hmk
  go_enter Try.func4, Try.ntmps4
  go_wp2_with (first
    | (go_at_call 6; (with_reducible refine (new_any _).mono ?_); rintro e w1 ⟨rfl, rfl⟩))
  refine (append_room _ _ ⟨#[]⟩ 0 a _ N.out (by simp only [ByteArray.size]; show 0 + a.data.size ≤ _; have : a.data.size = a.size := rfl; omega)).mono ?_
  rintro e w2 ⟨rfl, F2, K2⟩
  rw [nil_app] at F2
  have HF2 := Lib.hid F2
  have HK2 := Lib.hid K2
  have HB2 := Lib.hid (keeps_box K2 HBX.out N.out.blk)
  clear F2 K2
  go_wp2_with fail
  refine (sync_any _ _ a 0 w2 HF2.out).mono ?_
  rintro e w3 ⟨rfl, F3, K3⟩
  have HF3 := Lib.hid F3
  have HK3 := Lib.hid K3
  have HB3 := Lib.hid (keeps_box K3 HB2.out HF2.out.blk)
  clear F3 K3
  go_wp2_with fail
  refine (append_room _ _ a a.size b w3 HF3.out (by omega)).mono ?_
  rintro e w4 ⟨rfl, F4, K4⟩
  have HF4 := Lib.hid F4
  have HK4 := Lib.hid K4
  have hb4 := keeps_box K4 HB3.out HF3.out.blk
  have x1 : w4.cell? ⟨w.heap.size, 1, none⟩ = some (.int .i64 n) := Go.Joins.cell_of_block hb4 1
  have x2 : w4.cell? ⟨w.heap.size, 2, none⟩ = some (.int .i64 mask) := Go.Joins.cell_of_block hb4 2
  clear F4 K4 hb4
  go_wp2_with (first
    | (go_at_call 13; (with_reducible refine (C13.out _ HF4.out).mono ?_); rintro e w5 ⟨rfl, F5, K5⟩; have HF5 := Lib.hid F5; have HK5 := Lib.hid K5; clear F5 K5)
    | (go_at_call 10; (with_reducible refine (bytes_any _ _ _ _ _ HF5.out).mono ?_); rintro e w6 ⟨rfl, rfl⟩)
    | (go_at_call 9; (with_reducible refine (len_any _ _ _ _ _ HF5.out).mono ?_); rintro e w7 ⟨rfl, m7, hw7⟩; have HW7 := Lib.hid hw7; clear hw7))
  have hadd2 := fun w => run_string_add_sum (P := Try.prog) w a b (by omega)
  go_quiet (fail)
  have qo : (o.toList != (a ++ b).toList) = false := by rw [HO6.out]; simp
  have qo2 : (o.toList == (a ++ b).toList) = true := by rw [HO6.out]; simp
  have qs : ((o.size : Int) != (a.size : Int) + (b.size : Nat)) = false := by rw [HO7.out]; simp
  have qs2 : (o.size != a.size + b.size) = false := by rw [HO7.out]; simp
  go_wp2_with (first
    | (go_at_call 7; (with_reducible refine (abc_any _).mono ?_); rintro e w8 ⟨rfl, hb8⟩; have HB8 := Lib.hid hb8; clear hb8))
  go_ret
  exact ⟨rfl, lasts_end B0.out ((HK2.out.trans HK3.out).trans HK4.out) HK5.out HW7.out HB8.out⟩

set_option maxHeartbeats 4000000 in
theorem lasts_ooGl (a b y : ByteArray) (what : Int) (n : Int) (mask : Int) (w : World) (hl : a.size + b.size ≤ 10000) (hn : b.size < n) (hmk : mask < 0) :
    Calls Try.prog 4 #[.string a, .string b, .agg #[.int .i64 what, .int .i64 n, .int .i64 mask, .string y]] w fun e w' => e = .returned (.bool true) ∧ Below w.heap.size w w' := by
  have h1 : ¬ (10000 : Int) < (a.size : Int) + (b.size : Int) := by omega
  obtain ⟨o, ho1, ho2, ho3, ho4, ho5, ho6, ho7⟩ := lasts a b b.size 0 (Nat.le_refl _) (by omega)
  have ho1 : nextX a b (b.size : Int) 0 = (o, ⟨#[]⟩) := ho1
  have ho2 : codeX b (b.size : Int) 0 = 0 := ho2
  have C13 := Lib.hid (fun X hX => crash_u (w.heap.size + 1) (w.heap.size + 1) a b (b.size : Int) 0 X hX (by omega))
  rw [ho1, ho2] at C13
  rw [app_nil] at C13
  have N := Lib.hid (show FileAt ((w.alloc (.cells #[.int .i64 what, .int .i64 n, .int .i64 mask, .string y] 30)).alloc (.cells #[.slice none 0 0, .int .i64 0] 45)) (w.heap.size + 1) (w.heap.size + 1) ⟨#[]⟩ 0 by
    have := FileAt.new (w.alloc (.cells #[.int .i64 what, .int .i64 n, .int .i64 mask, .string y] 30))
    simpa using this)
  have hbox : ((w.alloc (.cells #[.int .i64 what, .int .i64 n, .int .i64 mask, .string y] 30)).alloc (.cells #[.slice none 0 0, .int .i64 0] 45)).heap[w.heap.size]? = some (.cells #[.int .i64 what, .int .i64 n, .int .i64 mask, .string y] 30 (0, 0)) :=
    (Go.heap_alloc_old _ _ (by simp)).trans (heap_alloc_new w _)
  have HBX := Lib.hid hbox
  have B0 := Lib.hid (((Below.refl (w.heap.size) w).alloc (Nat.le_refl _) (.cells #[.int .i64 what, .int .i64 n, .int .i64 mask, .string y] 30)).alloc (by simp) (.cells #[.slice none 0 0, .int .i64 0] 45))
  have t3 : ¬ o.size < a.size + b.size := by omega
  have t4 : ¬ a.size + b.size + 1 < o.size := by omega
  have t3' : decide (o.size < a.size + b.size) = false := by simp; omega
  have t4' : decide (a.size + b.size + 1 < o.size) = false := by simp; omega
  have t3i : decide ((o.size : Int) < (a.size : Int) + (b.size : Nat)) = false := by simp; omega
  have t4i : decide ((a.size : Int) + (b.size : Nat) + 1 < (o.size : Int)) = false := by simp; omega
  have t5 : ((a.size : Int) + (b.size : Nat)).toNat = a.size + b.size := by omega
  have tw : IntKind.i64.wrap ((a.size : Int) + (b.size : Nat)) = (a.size : Int) + (b.size : Nat) := IntWalk.i64_in _ (by omega)
  have tw1 : IntKind.i64.wrap ((a.size : Int) + (b.size : Nat) + 1) = (a.size : Int) + (b.size : Nat) + 1 := IntWalk.i64_in _ (by omega)
  have t0 : 0 ≤ (a.size : Int) + (b.size : Nat) := by omega
  have tle : (a.size : Int) + (b.size : Nat) ≤ (o.size : Int) := by omega
  have hadd := fun w => run_string_add_sum (P := Try.prog) w a (b.extract 0 b.size) (by simp only [ByteArray.size_extract]; omega)
  have HO6 := Lib.hid (ho6 rfl)
  have HO7 := Lib.hid (ho7 rfl)
  clear ho1 ho2 ho3 ho4 ho6 ho7 hbox
  have tn : decide (n < 0) = false := by simp; omega
  have tn2 : decide ((b.size : Int) < n) = true := by simp; omega
  have tm : decide (mask < 0) = true := by simp; omega
  clear hn
  clear hmk
  go_enter Try.func4, Try.ntmps4
  go_wp2_with (first
    | (go_at_call 6; (with_reducible refine (new_any _).mono ?_); rintro e w1 ⟨rfl, rfl⟩))
  refine (append_room _ _ ⟨#[]⟩ 0 a _ N.out (by simp only [ByteArray.size]; show 0 + a.data.size ≤ _; have : a.data.size = a.size := rfl; omega)).mono ?_
  rintro e w2 ⟨rfl, F2, K2⟩
  rw [nil_app] at F2
  have HF2 := Lib.hid F2
  have HK2 := Lib.hid K2
  have HB2 := Lib.hid (keeps_box K2 HBX.out N.out.blk)
  clear F2 K2
  go_wp2_with fail
  refine (sync_any _ _ a 0 w2 HF2.out).mono ?_
  rintro e w3 ⟨rfl, F3, K3⟩
  have HF3 := Lib.hid F3
  have HK3 := Lib.hid K3
  have HB3 := Lib.hid (keeps_box K3 HB2.out HF2.out.blk)
  clear F3 K3
  go_wp2_with fail
  refine (append_room _ _ a a.size b w3 HF3.out (by omega)).mono ?_
  rintro e w4 ⟨rfl, F4, K4⟩
  have HF4 := Lib.hid F4
  have HK4 := Lib.hid K4
  have hb4 := keeps_box K4 HB3.out HF3.out.blk
  have x1 : w4.cell? ⟨w.heap.size, 1, none⟩ = some (.int .i64 n) := Go.Joins.cell_of_block hb4 1
  have x2 : w4.cell? ⟨w.heap.size, 2, none⟩ = some (.int .i64 mask) := Go.Joins.cell_of_block hb4 2
  clear F4 K4 hb4
  go_wp2_with (first
    | (go_at_call 13; (with_reducible refine (C13.out _ HF4.out).mono ?_); rintro e w5 ⟨rfl, F5, K5⟩; have HF5 := Lib.hid F5; have HK5 := Lib.hid K5; clear F5 K5)
    | (go_at_call 10; (with_reducible refine (bytes_any _ _ _ _ _ HF5.out).mono ?_); rintro e w6 ⟨rfl, rfl⟩)
    | (go_at_call 9; (with_reducible refine (len_any _ _ _ _ _ HF5.out).mono ?_); rintro e w7 ⟨rfl, m7, hw7⟩; have HW7 := Lib.hid hw7; clear hw7))
  have hadd2 := fun w => run_string_add_sum (P := Try.prog) w a b (by omega)
  go_quiet (fail)
  have qo : (o.toList != (a ++ b).toList) = false := by rw [HO6.out]; simp
  have qo2 : (o.toList == (a ++ b).toList) = true := by rw [HO6.out]; simp
  have qs : ((o.size : Int) != (a.size : Int) + (b.size : Nat)) = false := by rw [HO7.out]; simp
  have qs2 : (o.size != a.size + b.size) = false := by rw [HO7.out]; simp
  go_wp2_with (first
    | (go_at_call 7; (with_reducible refine (abc_any _).mono ?_); rintro e w8 ⟨rfl, hb8⟩; have HB8 := Lib.hid hb8; clear hb8))
  go_ret
  exact ⟨rfl, lasts_end B0.out ((HK2.out.trans HK3.out).trans HK4.out) HK5.out HW7.out HB8.out⟩

set_option maxHeartbeats 4000000 in
theorem lasts_ooGg (a b y : ByteArray) (what : Int) (n : Int) (mask : Int) (w : World) (hl : a.size + b.size ≤ 10000) (hn : b.size < n) (hmk : 255 < mask) :
    Calls Try.prog 4 #[.string a, .string b, .agg #[.int .i64 what, .int .i64 n, .int .i64 mask, .string y]] w fun e w' => e = .returned (.bool true) ∧ Below w.heap.size w w' := by
  have h1 : ¬ (10000 : Int) < (a.size : Int) + (b.size : Int) := by omega
  obtain ⟨o, ho1, ho2, ho3, ho4, ho5, ho6, ho7⟩ := lasts a b b.size 0 (Nat.le_refl _) (by omega)
  have ho1 : nextX a b (b.size : Int) 0 = (o, ⟨#[]⟩) := ho1
  have ho2 : codeX b (b.size : Int) 0 = 0 := ho2
  have C13 := Lib.hid (fun X hX => crash_u (w.heap.size + 1) (w.heap.size + 1) a b (b.size : Int) 0 X hX (by omega))
  rw [ho1, ho2] at C13
  rw [app_nil] at C13
  have N := Lib.hid (show FileAt ((w.alloc (.cells #[.int .i64 what, .int .i64 n, .int .i64 mask, .string y] 30)).alloc (.cells #[.slice none 0 0, .int .i64 0] 45)) (w.heap.size + 1) (w.heap.size + 1) ⟨#[]⟩ 0 by
    have := FileAt.new (w.alloc (.cells #[.int .i64 what, .int .i64 n, .int .i64 mask, .string y] 30))
    simpa using this)
  have hbox : ((w.alloc (.cells #[.int .i64 what, .int .i64 n, .int .i64 mask, .string y] 30)).alloc (.cells #[.slice none 0 0, .int .i64 0] 45)).heap[w.heap.size]? = some (.cells #[.int .i64 what, .int .i64 n, .int .i64 mask, .string y] 30 (0, 0)) :=
    (Go.heap_alloc_old _ _ (by simp)).trans (heap_alloc_new w _)
  have HBX := Lib.hid hbox
  have B0 := Lib.hid (((Below.refl (w.heap.size) w).alloc (Nat.le_refl _) (.cells #[.int .i64 what, .int .i64 n, .int .i64 mask, .string y] 30)).alloc (by simp) (.cells #[.slice none 0 0, .int .i64 0] 45))
  have t3 : ¬ o.size < a.size + b.size := by omega
  have t4 : ¬ a.size + b.size + 1 < o.size := by omega
  have t3' : decide (o.size < a.size + b.size) = false := by simp; omega
  have t4' : decide (a.size + b.size + 1 < o.size) = false := by simp; omega
  have t3i : decide ((o.size : Int) < (a.size : Int) + (b.size : Nat)) = false := by simp; omega
  have t4i : decide ((a.size : Int) + (b.size : Nat) + 1 < (o.size : Int)) = false := by simp; omega
  have t5 : ((a.size : Int) + (b.size : Nat)).toNat = a.size + b.size := by omega
  have tw : IntKind.i64.wrap ((a.size : Int) + (b.size : Nat)) = (a.size : Int) + (b.size : Nat) := IntWalk.i64_in _ (by omega)
  have tw1 : IntKind.i64.wrap ((a.size : Int) + (b.size : Nat) + 1) = (a.size : Int) + (b.size : Nat) + 1 := IntWalk.i64_in _ (by omega)
  have t0 : 0 ≤ (a.size : Int) + (b.size : Nat) := by omega
  have tle : (a.size : Int) + (b.size : Nat) ≤ (o.size : Int) := by omega
  have hadd := fun w => run_string_add_sum (P := Try.prog) w a (b.extract 0 b.size) (by simp only [ByteArray.size_extract]; omega)
  have HO6 := Lib.hid (ho6 rfl)
  have HO7 := Lib.hid (ho7 rfl)
  clear ho1 ho2 ho3 ho4 ho6 ho7 hbox
  have tn : decide (n < 0) = false := by simp; omega
  have tn2 : decide ((b.size : Int) < n) = true := by simp; omega
  have tm : decide (mask < 0) = false := by simp; omega
  have tm2 : decide (255 < mask) = true := by simp; omega
  clear hn
  clear hmk
  go_enter Try.func4, Try.ntmps4
  go_wp2_with (first
    | (go_at_call 6; (with_reducible refine (new_any _).mono ?_); rintro e w1 ⟨rfl, rfl⟩))
  refine (append_room _ _ ⟨#[]⟩ 0 a _ N.out (by simp only [ByteArray.size]; show 0 + a.data.size ≤ _; have : a.data.size = a.size := rfl; omega)).mono ?_
  rintro e w2 ⟨rfl, F2, K2⟩
  rw [nil_app] at F2
  have HF2 := Lib.hid F2
  have HK2 := Lib.hid K2
  have HB2 := Lib.hid (keeps_box K2 HBX.out N.out.blk)
  clear F2 K2
  go_wp2_with fail
  refine (sync_any _ _ a 0 w2 HF2.out).mono ?_
  rintro e w3 ⟨rfl, F3, K3⟩
  have HF3 := Lib.hid F3
  have HK3 := Lib.hid K3
  have HB3 := Lib.hid (keeps_box K3 HB2.out HF2.out.blk)
  clear F3 K3
  go_wp2_with fail
  refine (append_room _ _ a a.size b w3 HF3.out (by omega)).mono ?_
  rintro e w4 ⟨rfl, F4, K4⟩
  have HF4 := Lib.hid F4
  have HK4 := Lib.hid K4
  have hb4 := keeps_box K4 HB3.out HF3.out.blk
  have x1 : w4.cell? ⟨w.heap.size, 1, none⟩ = some (.int .i64 n) := Go.Joins.cell_of_block hb4 1
  have x2 : w4.cell? ⟨w.heap.size, 2, none⟩ = some (.int .i64 mask) := Go.Joins.cell_of_block hb4 2
  clear F4 K4 hb4
  go_wp2_with (first
    | (go_at_call 13; (with_reducible refine (C13.out _ HF4.out).mono ?_); rintro e w5 ⟨rfl, F5, K5⟩; have HF5 := Lib.hid F5; have HK5 := Lib.hid K5; clear F5 K5)
    | (go_at_call 10; (with_reducible refine (bytes_any _ _ _ _ _ HF5.out).mono ?_); rintro e w6 ⟨rfl, rfl⟩)
    | (go_at_call 9; (with_reducible refine (len_any _ _ _ _ _ HF5.out).mono ?_); rintro e w7 ⟨rfl, m7, hw7⟩; have HW7 := Lib.hid hw7; clear hw7))
  have hadd2 := fun w => run_string_add_sum (P := Try.prog) w a b (by omega)
  go_quiet (fail)
  have qo : (o.toList != (a ++ b).toList) = false := by rw [HO6.out]; simp
  have qo2 : (o.toList == (a ++ b).toList) = true := by rw [HO6.out]; simp
  have qs : ((o.size : Int) != (a.size : Int) + (b.size : Nat)) = false := by rw [HO7.out]; simp
  have qs2 : (o.size != a.size + b.size) = false := by rw [HO7.out]; simp
  go_wp2_with (first
    | (go_at_call 7; (with_reducible refine (abc_any _).mono ?_); rintro e w8 ⟨rfl, hb8⟩; have HB8 := Lib.hid hb8; clear hb8))
  go_ret
  exact ⟨rfl, lasts_end B0.out ((HK2.out.trans HK3.out).trans HK4.out) HK5.out HW7.out HB8.out⟩

theorem lasts_any (a b y : ByteArray) (what n mask : Int) (w : World) (ha : a.size ≤ 140737488351232) (hb : b.size ≤ 140737488351232) :
    Calls Try.prog 4 #[.string a, .string b, .agg #[.int .i64 what, .int .i64 n, .int .i64 mask, .string y]] w fun e w' => e = .returned (.bool true) ∧ Below w.heap.size w w' := by
  by_cases hl : a.size + b.size ≤ 10000
  · by_cases h1 : 0 ≤ n ∧ n ≤ b.size
    · obtain ⟨k, rfl⟩ := Int.eq_ofNat_of_zero_le h1.1
      by_cases h2 : 0 ≤ mask ∧ mask ≤ 255
      · obtain ⟨m, rfl⟩ := Int.eq_ofNat_of_zero_le h2.1
        exact lasts_ii a b y what k m w hl (by omega) (by omega)
      · by_cases h3 : mask < 0
        · exact lasts_iol a b y what k mask w hl (by omega) h3
        · exact lasts_iog a b y what k mask w hl (by omega) (by omega)
    · by_cases h2 : 0 ≤ mask ∧ mask ≤ 255
      · obtain ⟨m, rfl⟩ := Int.eq_ofNat_of_zero_le h2.1
        by_cases h4 : n < 0
        · exact lasts_oiL a b y what n m w hl h4 (by omega)
        · exact lasts_oiG a b y what n m w hl (by omega) (by omega)
      · by_cases h4 : n < 0
        · by_cases h3 : mask < 0
          · exact lasts_ooLl a b y what n mask w hl h4 h3
          · exact lasts_ooLg a b y what n mask w hl h4 (by omega)
        · by_cases h3 : mask < 0
          · exact lasts_ooGl a b y what n mask w hl (by omega) h3
          · exact lasts_ooGg a b y what n mask w hl (by omega) (by omega)
  · exact lasts_long a b y what n mask w hl ha hb

end Go.Proofs.Ytnoiejmigonaoaa
