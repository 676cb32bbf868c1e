/- Lists told by both are the same. -/
import Derived.Test.YtmanlmhiiijlmaaRfD
namespace Go.Proofs.Ytmanlmhiiijlmaa
open Go.RowKit Go.Proofs.YtmanlmhiiijlmaaW.PrintWords Go.Lib
set_option maxRecDepth 100000 in
set_option maxHeartbeats 4000000 in
theorem same_any (w : World) (n₀ B : Nat) (u1 u2 : Value) (T : List En) (h1 : w.ownsRow n₀ 34 3 u1 T.length (flat T)) (h2 : L3 w B u2 T) (hl : T.length ≤ 512) :
    Calls Try.prog 20 #[u1, u2] w fun e w' => e = .returned (.bool true) ∧ Below w.heap.size w w' := by
  obtain ⟨A1, c1, rfl⟩ := rowSlice h1
  obtain ⟨A2, c2, rfl, -, -⟩ := h2.out
  have H1 := Lib.hid h1
  have H2 := Lib.hid h2
  clear h1 h2
  go_enter Try.func20, Try.ntmps20
  go_wp2_with fail
  go_loopg [13] T.length (fun gk v13 wr => ∃ k : Nat, k ≤ T.length ∧ gk = T.length - k ∧ v13 = .int .i64 (k : Int) ∧ Below w.heap.size w wr)
  case atStart => exact ⟨0, Nat.zero_le _, rfl, rfl, Below.refl _ _⟩
  case round =>
    obtain ⟨k, hk, rfl, rfl, hb⟩ := hrel
    by_cases hlt : k < T.length
    · have hx : T[k]? = some T[k] := List.getElem?_eq_getElem hlt
      generalize T[k] = x at hx
      obtain ⟨xt, xa, xs⟩ := x
      obtain ⟨k1, rfl, x0, x1, x2, -⟩ := rowEnt (pw_own_below H1.out hb) k _ hx
      obtain ⟨k2, off, rfl, y0, y1, y2⟩ := (H2.out.move hb).ent hx
      have q1 : (k : Int) < (T.length : Int) := by omega
      have q2 : (xt != xt) = false := by simp
      have q3 : (xa != xa) = false := by simp
      have q4 : (xs.toList != xs.toList) = false := by simp
      have q5 : (xs.toList == xs.toList) = true := by simp
      replace hb := Lib.hid hb
      replace hx := Lib.hid hx
      go_wp2_with fail
      go_region
      go_wp2
      go_roundg (T.length - (k + 1))
      case measure => omega
      case rel => exact ⟨k + 1, by omega, rfl, by go_num, hb.out.drew⟩
    · replace hb := Lib.hid hb
      go_wp2
      go_ret
      exact ⟨rfl, hb.out⟩
/-- Both agendas, of one list. -/
structure BSt (w wr : World) (ab pb mb : Nat) (v : Value) (L : List En) (last rb : Nat) (u : Value) : Prop where
  ag : Ag w wr ab pb mb v L last
  rf : RefAt wr w.heap.size rb u L last
theorem RefAt.ak {w w' : World} {B B' ab pb mb rb : Nat} {v u : Value} {L L' : List En} {last last' : Nat} (h : RefAt w B rb u L last) (hk : AK ab pb mb v w w') (hA : AgAt w B' ab pb mb v L' last') : RefAt w' B rb u L last :=
  ⟨hk.other hA h.cell (by decide) (by decide) (by decide), h.lies.kept fun k cur hc => hk.other hA hc (by decide) (by decide) (by decide), h.ge⟩
theorem L3.ak {w w' : World} {B B' ab pb mb : Nat} {v u : Value} {L L' : List En} {last' : Nat} (h : L3 w B u L) (hk : AK ab pb mb v w w') (hA : AgAt w B' ab pb mb v L' last') : L3 w' B u L :=
  h.kept fun k cur hc => hk.other hA hc (by decide) (by decide) (by decide)
theorem Ag.rk {w w' w2 : World} {B' ab pb mb rb : Nat} {v u : Value} {L L' : List En} {last last' : Nat} (h : Ag w w' ab pb mb v L last) (hk : RK rb w' w2) (hR : RefAt w' B' rb u L' last') (hB : w.heap.size ≤ B') : Ag w w2 ab pb mb v L last := by
  obtain ⟨a1, a2, a3, a4⟩ := h.at_.other hR.cell (by decide) (by decide) (by decide)
  refine ⟨h.at_.keep fun k hk1 _ ho => hk.block k hk1 fun e => ?_, ⟨hk.os.trans h.below.os, hk.tape.trans h.below.tape, hk.output.trans h.below.output, Nat.le_trans h.below.size hk.size, fun k hk1 => (hk.block k (by have := h.below.size; omega) (by have := hR.ge; omega)).trans (h.below.block k hk1)⟩⟩
  subst e
  rcases ho with ho | ho | ho | ho
  · exact a1 ho
  · exact a2 ho
  · exact a3 ho
  · exact a4 ho
theorem BSt.move {w w' w2 : World} {ab pb mb : Nat} {v : Value} {L : List En} {last rb : Nat} {u : Value} (h : BSt w w' ab pb mb v L last rb u) (hb : Below w'.heap.size w' w2) : BSt w w2 ab pb mb v L last rb u := ⟨h.ag.move hb, h.rf.move hb⟩
end Go.Proofs.Ytmanlmhiiijlmaa
