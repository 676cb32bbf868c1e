/- container/heap's up and down over the agenda's pile. -/
import Derived.Test.YtmanlmhiiijlmaaAgL
import Derived.Test.YtmanlmhiiijlmaaSwp
import Derived.Deep.LoopGhost
namespace Go.Proofs.Ytmanlmhiiijlmaa
open Go.RowKit Go.Proofs.YtmanlmhiiijlmaaW.PrintWords Go.Lib
theorem m_less (a : Addr) (w : World) : (method 199 52 (.pointer (some a)) "Less").run Try.prog w = .ok (50, .pointer (some a)) w := by kernel_rfl
theorem m_swap (a : Addr) (w : World) : (method 199 52 (.pointer (some a)) "Swap").run Try.prog w = .ok (53, .pointer (some a)) w := by kernel_rfl
theorem m_len (a : Addr) (w : World) : (method 199 52 (.pointer (some a)) "Len").run Try.prog w = .ok (21, .pointer (some a)) w := by kernel_rfl
theorem m_push (a : Addr) (w : World) : (method 199 52 (.pointer (some a)) "Push").run Try.prog w = .ok (52, .pointer (some a)) w := by kernel_rfl
theorem m_pop (a : Addr) (w : World) : (method 199 52 (.pointer (some a)) "Pop").run Try.prog w = .ok (51, .pointer (some a)) w := by kernel_rfl
/-- A pile whose map tells where each ticket stands. -/
structure Hp (w : World) (B pb mb : Nat) (v : Value) (l : List En) : Prop where
  out : ∃ f, PileAt w B pb mb v l f ∧ Plc l f
theorem Hp.move {w w' : World} {B pb mb : Nat} {v : Value} {l : List En} (h : Hp w B pb mb v l) (hb : Below w.heap.size w w') : Hp w' B pb mb v l := by
  obtain ⟨f, h1, h2⟩ := h.out
  exact ⟨f, h1.move hb, h2⟩
theorem hless (w : World) (B pb mb : Nat) (v : Value) (l : List En) (h : Hp w B pb mb v l) (i j : Nat) (hi : i < l.length) (hj : j < l.length) (b : Bool) (hb : ltE (HL.g dE l i) (HL.g dE l j) = b) :
    Calls Try.prog 50 #[.pointer (some ⟨pb, 0, none⟩), .int .i64 (i : Int), .int .i64 (j : Int)] w fun e w' => e = .returned (.bool b) ∧ Hp w' B pb mb v l ∧ PK pb mb v w w' := by
  obtain ⟨f, h1, h2⟩ := h.out
  have gi : l[i]? = some (HL.g dE l i) := by unfold HL.g; rw [List.getD_eq_getElem?_getD, List.getElem?_eq_getElem hi]; rfl
  have gj : l[j]? = some (HL.g dE l j) := by unfold HL.g; rw [List.getD_eq_getElem?_getD, List.getElem?_eq_getElem hj]; rfl
  refine (less_any w B pb mb v l f h1 i j _ _ gi gj).mono ?_
  rintro e w' ⟨rfl, hbl⟩
  exact ⟨by rw [hb], h.move hbl, PK.of_below hbl⟩
theorem hswap (w : World) (B pb mb : Nat) (v : Value) (l : List En) (h : Hp w B pb mb v l) (i j : Nat) (hi : i < l.length) (hj : j < l.length) :
    Calls Try.prog 53 #[.pointer (some ⟨pb, 0, none⟩), .int .i64 (i : Int), .int .i64 (j : Int)] w fun e w' => e = .returned (.tuple #[]) ∧ Hp w' B pb mb v (HL.swap dE l i j) ∧ PK pb mb v w w' := by
  obtain ⟨f, h1, h2⟩ := h.out
  have gi : l[i]? = some l[i] := List.getElem?_eq_getElem hi
  have gj : l[j]? = some l[j] := List.getElem?_eq_getElem hj
  refine (swap_any w B pb mb v l f h1 i j _ _ gi gj ⟨_, h2.at_ gi⟩ ⟨_, h2.at_ gj⟩).mono ?_
  rintro e w' ⟨rfl, hP, hK⟩
  exact ⟨rfl, ⟨_, hP, h2.swap gi gj⟩, hK⟩
set_option maxRecDepth 100000 in
set_option maxHeartbeats 2000000 in
theorem up_any (w : World) (B pb mb : Nat) (v : Value) (l : List En) (h : Hp w B pb mb v l) (j F : Nat) (hj : j < l.length) (hF : j < F) (hl : l.length ≤ 100000) :
    Calls Try.prog 31 #[.iface 52 (.pointer (some ⟨pb, 0, none⟩)), .int .i64 (j : Int)] w fun e w' => e = .returned (.tuple #[]) ∧ Hp w' B pb mb v (HL.up dE ltE F l j) ∧ PK pb mb v w w' := by
  have ml := m_less ⟨pb, 0, none⟩
  have ms := m_swap ⟨pb, 0, none⟩
  replace h := Lib.hid h
  go_enter Try.func31, Try.ntmps31
  go_wp2_with fail
  go_loopg [1] F (fun k v1 wr => ∃ j' : Nat, ∃ l' : List En, v1 = .int .i64 (j' : Int) ∧ j' < k ∧ j' < l'.length ∧ l'.length = l.length ∧ Hp wr B pb mb v l' ∧ PK pb mb v w wr ∧ HL.up dE ltE k l' j' = HL.up dE ltE F l j)
  case atStart => exact ⟨j, l, rfl, hF, hj, rfl, h.out, PK.refl _ _ _ _, rfl⟩
  case round =>
    obtain ⟨j', l', rfl, hk, hj', hll, hH, hK, hU⟩ := hrel
    obtain ⟨k, rfl⟩ : ∃ m, gk = m + 1 := ⟨gk - 1, by omega⟩
    rw [HL.up] at hU
    replace hll := Lib.hid hll
    replace hK := Lib.hid hK
    by_cases h0 : j' = 0
    · subst h0
      rw [if_pos rfl] at hU
      replace hU := Lib.hid hU
      replace hH := Lib.hid hH
      go_wp2
      go_end0
      exact ⟨rfl, hU.out ▸ hH.out, hK.out⟩
    · rw [if_neg h0] at hU
      have hp := HL.par_lt (Nat.pos_of_ne_zero h0)
      have hd : ((j' : Int) - 1) / 2 = (HL.par j' : Int) := by unfold HL.par; omega
      have hne : (((HL.par j' : Nat) : Int) == (j' : Int)) = false := by simp; omega
      by_cases hlt : ltE (HL.g dE l' j') (HL.g dE l' (HL.par j')) = true
      · rw [if_pos hlt] at hU
        have L1 := Lib.hid (hless wr B pb mb v l' hH j' (HL.par j') hj' (by omega) true hlt)
        replace hU := Lib.hid hU
        replace hlt := Lib.hid hlt
        have hj0 : j' < 100000 := by have := hll.out; omega
        generalize HL.par j' = p at *
        replace hH := Lib.hid hH
        clear h0
        go_wp2_with (go_at_call 50; refine L1.out.mono ?_; rintro e w2 ⟨rfl, H2, K2⟩; have S2 := Lib.hid (hswap _ B pb mb v l' H2 p j' (by omega) hj'); replace K2 := Lib.hid K2; replace H2 := Lib.hid H2)
        go_wp2_with (go_at_call 53; refine S2.out.mono ?_; rintro e w3 ⟨rfl, H3, K3⟩; replace H3 := Lib.hid H3; replace K3 := Lib.hid K3)
        go_roundg k
        case measure => omega
        case rel => exact ⟨p, HL.swap dE l' p j', rfl, by omega, by rw [HL.swap_len]; omega, by rw [HL.swap_len]; exact hll.out, H3.out, (hK.out.trans (.inl rfl) K2.out).trans (.inl rfl) K3.out, hU.out⟩
      · rw [if_neg hlt] at hU
        have L1 := Lib.hid (hless wr B pb mb v l' hH j' (HL.par j') hj' (by omega) false (by simpa using hlt))
        replace hU := Lib.hid hU
        have hj0 : j' < 100000 := by have := hll.out; omega
        clear hlt
        generalize HL.par j' = p at *
        clear hH h0
        go_wp2_with (go_at_call 50; refine L1.out.mono ?_; rintro e w2 ⟨rfl, H2, K2⟩; replace K2 := Lib.hid K2; replace H2 := Lib.hid H2)
        go_end0
        exact ⟨rfl, hU.out ▸ H2.out, hK.out.trans (.inl rfl) K2.out⟩
end Go.Proofs.Ytmanlmhiiijlmaa
