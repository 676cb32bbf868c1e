/- The agenda's three entries: three answers true. -/
import Derived.Test.YtmanlmhiiijlmaaAgT
namespace Go.Proofs.Ytmanlmhiiijlmaa
open Go.RowKit Go.Proofs.YtmanlmhiiijlmaaW.PrintWords Go.Lib
theorem AK.below {B ab pb mb : Nat} {v : Value} {L : List En} {last : Nat} {w0 w w' : World} (h : AK ab pb mb v w w') (hA : AgAt w B ab pb mb v L last) (hb : Below B w0 w) : Below B w0 w' := by
  have hg := hA.geAll
  have hl := hA.lt
  exact ⟨h.os.trans hb.os, h.tape.trans hb.tape, h.output.trans hb.output, Nat.le_trans hb.size h.size, fun k hk => (h.block k (by omega) (by omega) (by omega) (by omega) (fun e => by have := hg.2.2.2 k e; omega)).trans (hb.block k hk)⟩
/-- An agenda that a call made, beside all that was there. -/
structure Ag (w w' : World) (ab pb mb : Nat) (v : Value) (L : List En) (last : Nat) : Prop where
  at_ : AgAt w' w.heap.size ab pb mb v L last
  below : Below w.heap.size w w'
theorem Ag.step {w w' w2 : World} {ab pb mb : Nat} {v v' : Value} {L L' : List En} {last last' : Nat} (h : Ag w w' ab pb mb v L last) (h2 : AgAt w2 w.heap.size ab pb mb v' L' last') (hk : AK ab pb mb v w' w2) : Ag w w2 ab pb mb v' L' last' := ⟨h2, hk.below h.at_ h.below⟩
theorem put_ag (w w' : World) (ab pb mb : Nat) (v : Value) (L : List En) (last : Nat) (h : Ag w w' ab pb mb v L last) (a : Int) (s : ByteArray) (hm : momB a = true) (hf : L.length < 512) (hl : last ≤ 1000000) :
    Calls Try.prog 12 #[.pointer (some ⟨ab, 0, none⟩), .int .i64 a, .string s] w' fun e w2 => e = .returned (.tuple #[.int .i64 ((last : Int) + 1), .int .i64 0]) ∧
      ∃ v', Ag w w2 ab pb mb v' (ins ((last : Int) + 1, a, s) L) (last + 1) ∧ AK ab pb mb v w' w2 ∧ Moved w' v v' := by
  refine (put_ok w' _ ab pb mb v L last h.at_ a s hm hf hl h.below.size).mono ?_
  rintro e w2 ⟨rfl, v', hA, hK, hM⟩
  exact ⟨rfl, v', h.step hA hK, hK, hM⟩
set_option maxRecDepth 100000 in
set_option maxHeartbeats 4000000 in
theorem three_any (w : World) : Calls Try.prog 8 #[] w fun e w' => e = .returned (.bool true) ∧ Below w.heap.size w w' := by
  go_enter Try.func8, Try.ntmps8
  go_wp2_with fail
  refine (new_any w).mono ?_
  rintro e w1 ⟨ab, pb, mb, rfl, A1, B1⟩
  have P1 : Calls Try.prog 12 #[.pointer (some ⟨ab, 0, none⟩), .int .i64 9, .string ⟨#[97]⟩] w1 fun e w2 => e = .returned (.tuple #[.int .i64 1, .int .i64 0]) ∧ ∃ v', Ag w w2 ab pb mb v' [(1, 9, ⟨#[97]⟩)] 1 := by
    refine (put_ag w w1 ab pb mb _ [] 0 ⟨A1, B1⟩ 9 ⟨#[97]⟩ rfl (by decide) (by decide)).mono ?_
    rintro e w2 ⟨rfl, v', h, -, -⟩
    exact ⟨rfl, v', h⟩
  replace P1 := Lib.hid P1
  replace A1 := Lib.hid A1
  replace B1 := Lib.hid B1
  go_wp2_with fail
  refine P1.out.mono ?_
  rintro e w2 ⟨rfl, v2, A2⟩
  have P2 : Calls Try.prog 12 #[.pointer (some ⟨ab, 0, none⟩), .int .i64 3, .string ⟨#[98]⟩] w2 fun e w3 => e = .returned (.tuple #[.int .i64 2, .int .i64 0]) ∧ ∃ v', Ag w w3 ab pb mb v' [(2, 3, ⟨#[98]⟩), (1, 9, ⟨#[97]⟩)] 2 := by
    refine (put_ag w w2 ab pb mb _ _ 1 A2 3 ⟨#[98]⟩ rfl (by decide) (by decide)).mono ?_
    rintro e w2 ⟨rfl, v', h, -, -⟩
    exact ⟨rfl, v', h⟩
  replace P2 := Lib.hid P2
  replace A2 := Lib.hid A2
  go_wp2_with fail
  refine P2.out.mono ?_
  rintro e w3 ⟨rfl, v3, A3⟩
  have P3 : Calls Try.prog 12 #[.pointer (some ⟨ab, 0, none⟩), .int .i64 9, .string ⟨#[99]⟩] w3 fun e w4 => e = .returned (.tuple #[.int .i64 3, .int .i64 0]) ∧ ∃ v', Ag w w4 ab pb mb v' [(2, 3, ⟨#[98]⟩), (1, 9, ⟨#[97]⟩), (3, 9, ⟨#[99]⟩)] 3 := by
    refine (put_ag w w3 ab pb mb _ _ 2 A3 9 ⟨#[99]⟩ rfl (by decide) (by decide)).mono ?_
    rintro e w2 ⟨rfl, v', h, -, -⟩
    exact ⟨rfl, v', h⟩
  replace P3 := Lib.hid P3
  replace A3 := Lib.hid A3
  go_wp2_with fail
  refine P3.out.mono ?_
  rintro e w4 ⟨rfl, v4, A4⟩
  have T1 : Calls Try.prog 15 #[.pointer (some ⟨ab, 0, none⟩), .int .i64 9] w4 fun e w5 => ∃ k c, e = .returned (.tuple #[.slice (some ⟨k, 0, none⟩) 3 c, .int .i64 0]) ∧ Below w.heap.size w w5 ∧ w5.cell? ⟨k, 2, none⟩ = some (.string ⟨#[98]⟩) ∧ w5.cell? ⟨k, 5, none⟩ = some (.string ⟨#[97]⟩) ∧ w5.cell? ⟨k, 8, none⟩ = some (.string ⟨#[99]⟩) := by
    refine (take_ok w4 _ ab pb mb _ _ 3 A4.at_ 9 rfl).mono ?_
    rintro e w5 ⟨u, rfl, v', hA, -, hK, hr⟩
    obtain ⟨A, c, eu⟩ := rowSlice hr
    subst eu
    obtain ⟨k, rfl, -, -, y0, -⟩ := rowEnt hr 0 (2, 3, ⟨#[98]⟩) rfl
    obtain ⟨k', ek, -, -, y1, -⟩ := rowEnt hr 1 (1, 9, ⟨#[97]⟩) rfl
    obtain ⟨k'', ek', -, -, y2, -⟩ := rowEnt hr 2 (3, 9, ⟨#[99]⟩) rfl
    obtain rfl : k = k' := by simpa using ek
    obtain rfl : k = k'' := by simpa using ek'
    exact ⟨k, c, rfl, hK.below A4.at_ A4.below, y0, y1, y2⟩
  replace T1 := Lib.hid T1
  replace A4 := Lib.hid A4
  go_wp2_with fail
  refine T1.out.mono ?_
  rintro e w5 ⟨k, c, rfl, B5, y0, y1, y2⟩
  replace B5 := Lib.hid B5
  go_wp2
  go_ret
  exact ⟨rfl, B5.out⟩
end Go.Proofs.Ytmanlmhiiijlmaa
