/- The law AgendaNil, walked. -/
import Derived.Test.YtmanlmhiiijlmaaThr
namespace Go.Proofs.Ytmanlmhiiijlmaa
open Go.RowKit Go.Proofs.YtmanlmhiiijlmaaW.PrintWords Go.Lib
theorem drop_nil_bad (w : World) (t : Int) (ht : t < 1) : Calls Try.prog 13 #[.pointer none, .int .i64 t] w fun e w' => e = .returned (.tuple #[.bool false, .int .i64 1]) ∧ w = w' := drop_bad w none t ht
theorem below_trans {n : Nat} {w w1 w2 : World} (h : Below n w w1) (hn : n ≤ w1.heap.size) (k : Below w1.heap.size w1 w2) : Below n w w2 :=
  ⟨k.os.trans h.os, k.tape.trans h.tape, k.output.trans h.output, Nat.le_trans h.size k.size, fun i hi => (k.block i (by omega)).trans (h.block i hi)⟩
set_option maxRecDepth 100000 in
set_option maxHeartbeats 8000000 in
theorem law_AgendaNil (n a : Int) (w : World) (_w0 : (Lit.int .i64 n).wf = true) (_w1 : (Lit.int .i64 a).wf = true) : Calls Try.prog 5 #[.int .i64 n, .int .i64 a] w fun e w' => e = .returned (.bool true) ∧ Below w.heap.size w w' := by
  have C8 := Lib.hid (fun X => three_any X)
  have C11 := Lib.hid (fun X => len_nil X)
  have C10 := Lib.hid (fun X => first_nil X)
  clear _w0 _w1
  by_cases h1 : n < 1
  · by_cases h2 : a < 0
    · have hm : momB a = false := by simp [momB]; omega
      as_aux_lemma =>
        have C12 := Lib.hid (put_bad w none a ⟨#[120]⟩ hm)
        have C15 := Lib.hid (fun X => take_bad X none a hm)
        have C13 := Lib.hid (drop_nil_bad w n h1)
        have C14 := Lib.hid (fun X => move_bad X none n a (.inl h1))
        clear hm
        go_enter Try.func5, Try.ntmps5
        go_wp2_with fail
        refine C12.out.mono ?_
        rintro e w1 ⟨rfl, rfl⟩
        go_wp2_with fail
        refine C13.out.mono ?_
        rintro e w1 ⟨rfl, rfl⟩
        go_wp2_with fail
        refine (C15.out _).mono ?_
        rintro e w2 ⟨rfl, rfl⟩
        go_wp2_with fail
        refine (C10.out _).mono ?_
        rintro e w3 ⟨rfl, B3⟩
        replace B3 := Lib.hid B3
        go_wp2_with fail
        refine (C11.out _).mono ?_
        rintro e w4 ⟨rfl, rfl⟩
        go_wp2_with fail
        refine (C14.out _).mono ?_
        rintro e w5 ⟨rfl, rfl⟩
        go_wp2_with fail
        refine (C8.out _).mono ?_
        rintro e w6 ⟨rfl, B6⟩
        replace B6 := Lib.hid B6
        go_wp2
        go_ret
        have b3 := B3.out
        have b4 := b3.alloc b3.size (.cells #[.int .i64 0, .int .i64 0, .string ⟨#[]⟩] 34)
        exact ⟨rfl, below_trans b4 b4.size B6.out⟩
    · by_cases h3 : 1099511627776 < a
      · have hm : momB a = false := by simp [momB]; omega
        have e3 : decide (a ≤ 1099511627776) = false := by simp; omega
        as_aux_lemma =>
          have C12 := Lib.hid (put_bad w none a ⟨#[120]⟩ hm)
          have C15 := Lib.hid (fun X => take_bad X none a hm)
          have C13 := Lib.hid (drop_nil_bad w n h1)
          have C14 := Lib.hid (fun X => move_bad X none n a (.inl h1))
          clear hm
          go_enter Try.func5, Try.ntmps5
          go_wp2_with fail
          refine C12.out.mono ?_
          rintro e w1 ⟨rfl, rfl⟩
          go_wp2_with fail
          refine C13.out.mono ?_
          rintro e w1 ⟨rfl, rfl⟩
          go_wp2_with fail
          refine (C15.out _).mono ?_
          rintro e w2 ⟨rfl, rfl⟩
          go_wp2_with fail
          refine (C10.out _).mono ?_
          rintro e w3 ⟨rfl, B3⟩
          replace B3 := Lib.hid B3
          go_wp2_with fail
          refine (C11.out _).mono ?_
          rintro e w4 ⟨rfl, rfl⟩
          go_wp2_with fail
          refine (C14.out _).mono ?_
          rintro e w5 ⟨rfl, rfl⟩
          go_wp2_with fail
          refine (C8.out _).mono ?_
          rintro e w6 ⟨rfl, B6⟩
          replace B6 := Lib.hid B6
          go_wp2
          go_ret
          have b3 := B3.out
          have b4 := b3.alloc b3.size (.cells #[.int .i64 0, .int .i64 0, .string ⟨#[]⟩] 34)
          exact ⟨rfl, below_trans b4 b4.size B6.out⟩
      · have hm : momB a = true := by simp [momB]; omega
        as_aux_lemma =>
          have C12 := Lib.hid (put_nil w a ⟨#[120]⟩ hm)
          have C15 := Lib.hid (fun X => take_nil X a hm)
          have C13 := Lib.hid (drop_nil_bad w n h1)
          have C14 := Lib.hid (fun X => move_bad X none n a (.inl h1))
          clear hm
          go_enter Try.func5, Try.ntmps5
          go_wp2_with fail
          refine C12.out.mono ?_
          rintro e w1 ⟨rfl, rfl⟩
          go_wp2_with fail
          refine C13.out.mono ?_
          rintro e w1 ⟨rfl, rfl⟩
          go_wp2_with fail
          refine (C15.out _).mono ?_
          rintro e w2 ⟨rfl, B2⟩
          replace B2 := Lib.hid B2
          go_wp2_with fail
          refine (C10.out _).mono ?_
          rintro e w3 ⟨rfl, B3⟩
          replace B3 := Lib.hid B3
          go_wp2_with fail
          refine (C11.out _).mono ?_
          rintro e w4 ⟨rfl, rfl⟩
          go_wp2_with fail
          refine (C14.out _).mono ?_
          rintro e w5 ⟨rfl, rfl⟩
          go_wp2_with fail
          refine (C8.out _).mono ?_
          rintro e w6 ⟨rfl, B6⟩
          replace B6 := Lib.hid B6
          go_wp2
          go_ret
          have b3 := below_trans B2.out B2.out.size B3.out
          have b4 := b3.alloc b3.size (.cells #[.int .i64 0, .int .i64 0, .string ⟨#[]⟩] 34)
          exact ⟨rfl, below_trans b4 b4.size B6.out⟩
  · by_cases h2 : a < 0
    · have hm : momB a = false := by simp [momB]; omega
      as_aux_lemma =>
        have C12 := Lib.hid (put_bad w none a ⟨#[120]⟩ hm)
        have C15 := Lib.hid (fun X => take_bad X none a hm)
        have C13 := Lib.hid (drop_nil w n h1)
        have C14 := Lib.hid (fun X => move_bad X none n a (.inr hm))
        clear hm
        go_enter Try.func5, Try.ntmps5
        go_wp2_with fail
        refine C12.out.mono ?_
        rintro e w1 ⟨rfl, rfl⟩
        go_wp2_with fail
        refine C13.out.mono ?_
        rintro e w1 ⟨rfl, rfl⟩
        go_wp2_with fail
        refine (C15.out _).mono ?_
        rintro e w2 ⟨rfl, rfl⟩
        go_wp2_with fail
        refine (C10.out _).mono ?_
        rintro e w3 ⟨rfl, B3⟩
        replace B3 := Lib.hid B3
        go_wp2_with fail
        refine (C11.out _).mono ?_
        rintro e w4 ⟨rfl, rfl⟩
        go_wp2_with fail
        refine (C14.out _).mono ?_
        rintro e w5 ⟨rfl, rfl⟩
        go_wp2_with fail
        refine (C8.out _).mono ?_
        rintro e w6 ⟨rfl, B6⟩
        replace B6 := Lib.hid B6
        go_wp2
        go_ret
        have b3 := B3.out
        have b4 := b3.alloc b3.size (.cells #[.int .i64 0, .int .i64 0, .string ⟨#[]⟩] 34)
        exact ⟨rfl, below_trans b4 b4.size B6.out⟩
    · by_cases h3 : 1099511627776 < a
      · have hm : momB a = false := by simp [momB]; omega
        have e3 : decide (a ≤ 1099511627776) = false := by simp; omega
        as_aux_lemma =>
          have C12 := Lib.hid (put_bad w none a ⟨#[120]⟩ hm)
          have C15 := Lib.hid (fun X => take_bad X none a hm)
          have C13 := Lib.hid (drop_nil w n h1)
          have C14 := Lib.hid (fun X => move_bad X none n a (.inr hm))
          clear hm
          go_enter Try.func5, Try.ntmps5
          go_wp2_with fail
          refine C12.out.mono ?_
          rintro e w1 ⟨rfl, rfl⟩
          go_wp2_with fail
          refine C13.out.mono ?_
          rintro e w1 ⟨rfl, rfl⟩
          go_wp2_with fail
          refine (C15.out _).mono ?_
          rintro e w2 ⟨rfl, rfl⟩
          go_wp2_with fail
          refine (C10.out _).mono ?_
          rintro e w3 ⟨rfl, B3⟩
          replace B3 := Lib.hid B3
          go_wp2_with fail
          refine (C11.out _).mono ?_
          rintro e w4 ⟨rfl, rfl⟩
          go_wp2_with fail
          refine (C14.out _).mono ?_
          rintro e w5 ⟨rfl, rfl⟩
          go_wp2_with fail
          refine (C8.out _).mono ?_
          rintro e w6 ⟨rfl, B6⟩
          replace B6 := Lib.hid B6
          go_wp2
          go_ret
          have b3 := B3.out
          have b4 := b3.alloc b3.size (.cells #[.int .i64 0, .int .i64 0, .string ⟨#[]⟩] 34)
          exact ⟨rfl, below_trans b4 b4.size B6.out⟩
      · have hm : momB a = true := by simp [momB]; omega
        as_aux_lemma =>
          have C12 := Lib.hid (put_nil w a ⟨#[120]⟩ hm)
          have C15 := Lib.hid (fun X => take_nil X a hm)
          have C13 := Lib.hid (drop_nil w n h1)
          have C14 := Lib.hid (fun X => move_nil X n a h1 hm)
          clear hm
          go_enter Try.func5, Try.ntmps5
          go_wp2_with fail
          refine C12.out.mono ?_
          rintro e w1 ⟨rfl, rfl⟩
          go_wp2_with fail
          refine C13.out.mono ?_
          rintro e w1 ⟨rfl, rfl⟩
          go_wp2_with fail
          refine (C15.out _).mono ?_
          rintro e w2 ⟨rfl, B2⟩
          replace B2 := Lib.hid B2
          go_wp2_with fail
          refine (C10.out _).mono ?_
          rintro e w3 ⟨rfl, B3⟩
          replace B3 := Lib.hid B3
          go_wp2_with fail
          refine (C11.out _).mono ?_
          rintro e w4 ⟨rfl, rfl⟩
          go_wp2_with fail
          refine (C14.out _).mono ?_
          rintro e w5 ⟨rfl, rfl⟩
          go_wp2_with fail
          refine (C8.out _).mono ?_
          rintro e w6 ⟨rfl, B6⟩
          replace B6 := Lib.hid B6
          go_wp2
          go_ret
          have b3 := below_trans B2.out B2.out.size B3.out
          have b4 := b3.alloc b3.size (.cells #[.int .i64 0, .int .i64 0, .string ⟨#[]⟩] 34)
          exact ⟨rfl, below_trans b4 b4.size B6.out⟩
end Go.Proofs.Ytmanlmhiiijlmaa
