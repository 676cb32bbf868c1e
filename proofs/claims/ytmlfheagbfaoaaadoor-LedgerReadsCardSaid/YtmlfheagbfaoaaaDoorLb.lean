/- The law LedgerGrows, walked; the state of a ledger that a law itself has made. -/
import Derived.Test.YtmlfheagbfaoaaaDoorRo
import Derived.Test.YtmlfheagbfaoaaaDoorStrs
namespace Go.Proofs.YtmlfheagbfaoaaaDoor
open Go.RowKit Go.Proofs.YtmlfheagbfaoaaaDoorW.PrintWords Go.Proofs.YtmlfheagbfaoaaaDoorW.PrintMore Go.Lib
/-- A ledger that the law has made: its file is the law's first block. -/
structure LSt (w w' : World) (lg : Nat) (v : Value) (recs : List ByteArray) (sy syn : Nat) : Prop where
  at_ : LedgerV w' w.heap.size w.heap.size lg v (allB recs) sy recs syn
  below : Below w.heap.size w w'
  small : ∀ r ∈ recs, r.size ≤ 9000
theorem LSt.move {w w' w'' : World} {lg : Nat} {v : Value} {recs : List ByteArray} {sy syn : Nat} (h : LSt w w' lg v recs sy syn) (hb : Below w'.heap.size w' w'') : LSt w w'' lg v recs sy syn :=
  ⟨h.at_.move hb, below_then h.below h.below.size hb, h.small⟩
theorem LSt.tab {w w' : World} {lg : Nat} {v : Value} {recs : List ByteArray} {sy syn : Nat} (h : LSt w w' lg v recs sy syn) (hT : Tab w) : Tab w' := hT.below h.below
theorem new_st (w : World) (hT : Tab w) : Calls Tryd.prog 10 #[.pointer (some ⟨w.heap.size, 0, none⟩)] (w.alloc (.cells #[.slice none 0 0, .int .i64 0] 58)) fun e w' => ∃ lg v, e = .returned (.tuple #[.pointer (some ⟨lg, 0, none⟩), .int .i64 0]) ∧ LSt w w' lg v [] 0 0 := by
  have B1 := (Below.refl w.heap.size w).alloc (Nat.le_refl _) (.cells #[.slice none 0 0, .int .i64 0] 58)
  refine (open_nil w.heap.size w.heap.size 0 _ (Dk.FileAt.new w) (hT.below B1) (by simp)).mono ?_
  rintro e w2 ⟨lg, v, rfl, L2, K2⟩
  exact ⟨lg, v, rfl, L2, K2.below B1 (Nat.le_refl _) B1.size, by simp⟩
theorem append_st (w w' : World) (lg : Nat) (v : Value) (recs : List ByteArray) (sy syn : Nat) (r : ByteArray) (h : LSt w w' lg v recs sy syn) (hT : Tab w) (hr : r.size ≤ 9000) (hroom : (allB recs).size + (r.size + 6) ≤ 1048576) :
    Calls Tryd.prog 11 #[.pointer (some ⟨lg, 0, none⟩), .string r] w' fun e w2 => e = .returned (.tuple #[.int .i64 (recs.length : Nat), .int .i64 0]) ∧ ∃ v', LSt w w2 lg v' (recs ++ [r]) sy syn ∧ LK w.heap.size w.heap.size lg v w' w2 ∧ Moved w' v v' := by
  refine (lappend_room _ _ lg v _ sy recs syn r w' h.at_ (h.tab hT) h.below.size hr hroom).mono ?_
  rintro e w2 ⟨rfl, v', L, K, M⟩
  rw [← allB_snoc] at L
  refine ⟨rfl, v', ⟨L, K.below h.at_ h.below, ?_⟩, K, M⟩
  intro x hx
  rcases List.mem_append.1 hx with hx | hx
  · exact h.small x hx
  · obtain rfl := List.mem_singleton.1 hx
    exact hr
theorem allB_snoc_size (recs : List ByteArray) (r : ByteArray) : (allB (recs ++ [r])).size = (allB recs).size + r.size + 6 := by
  rw [allB_snoc, app_size, writtenB_size]
  omega
set_option maxRecDepth 100000 in
set_option maxHeartbeats 4000000 in
theorem law_LedgerGrows (A : Option Addr) (c : Nat) (l : List ByteArray) (r : ByteArray) (w : World) (_hl : l.length * 16 ≤ 140737488351232) (_hz : ∀ s ∈ l, s.size ≤ 140737488351232) (hrz : r.size ≤ 140737488351232) (hr : Kd.C Kd.string w A l.length l) (_hc : l.length ≤ c) (hT : Tab w) :
    Calls Tryd.prog 3 #[.slice A l.length c, .string r] w fun e w' => e = .returned (.bool true) ∧ Below w.heap.size w w' := by
  have HS := Lib.hid (strs_of hr rfl)
  have HT := Lib.hid hT
  have O1 := Lib.hid (one_any w hT)
  have N1 := Lib.hid (new_st w hT)
  have HZ := Lib.hid _hz
  clear hr hT _hz
  by_cases h1 : l.length ≤ 20
  · have t1 : ¬ (20 : Int) < (l.length : Int) := by omega
    by_cases h2 : r.size ≤ 3000
    · have t2 : ¬ (3000 : Int) < (r.size : Int) := by omega
      clear O1
      go_enter Tryd.func3, Tryd.ntmps3
      go_wp2_with fail
      refine (Dk.new_any w).mono ?_
      rintro e w1 ⟨rfl, rfl⟩
      go_wp2_with fail
      refine N1.out.mono ?_
      rintro e w2 ⟨lg, v, rfl, L2⟩
      go_wp2_with fail
      go_loopw [41] (fun v41 wr => ∃ k : Nat, k ≤ l.length ∧ v41 = .int .i64 (k : Int) ∧ ∃ v recs, LSt w wr lg v recs 0 0 ∧ (allB recs).size ≤ 2006 * k) (fun v41 _ => l.length - (intOf v41).toNat)
      case atStart => exact ⟨0, Nat.zero_le _, rfl, v, [], L2, Nat.le_refl _⟩
      case round =>
        clear L2
        obtain ⟨k, hk, rfl, v, recs, L, hsz⟩ := hrel
        by_cases hlt : k < l.length
        · obtain ⟨t, ht⟩ : ∃ s, l[k]? = some s := ⟨_, List.getElem?_eq_getElem hlt⟩
          obtain ⟨ad, rfl, hcl⟩ := HS.out k t ht
          have hcl := pw_cell_below L.below hcl
          have htz := HZ.out t (List.mem_of_getElem? ht)
          clear ht
          by_cases h3 : t.size ≤ 2000
          · have t3 : (t.size : Int) ≤ 2000 := by omega
            have A1 := Lib.hid (append_st w wr lg v recs 0 0 t L HT.out (by omega) (by omega))
            replace L := Lib.hid L
            go_wp2_with fail
            refine A1.out.mono ?_
            rintro e w3 ⟨rfl, v', L3, -, -⟩
            go_wp2
            go_roundw
            case rel => exact ⟨k + 1, by omega, by go_num, v', _, L3, by rw [allB_snoc_size]; omega⟩
            case measure => simp [intOf]; omega
          · have t3 : ¬ (t.size : Int) ≤ 2000 := by omega
            replace L := Lib.hid L
            go_wp2_with fail
            go_roundw
            case rel => exact ⟨k + 1, by omega, by go_num, v, _, L.out, by omega⟩
            case measure => simp [intOf]; omega
        · obtain rfl : k = l.length := by omega
          have hfew := L.at_.few
          obtain ⟨P, hP⟩ : ∃ P, P = allB recs := ⟨_, rfl⟩
          have Y1 := Dk.bytes_any _ _ _ _ wr L.at_.file
          rw [← hP] at Y1 hsz hfew
          have C1 := llen_any _ _ _ _ _ _ _ _ wr L.at_
          have hps : P.size ≤ 40120 := by omega
          replace hP := Lib.hid hP
          replace Y1 := Lib.hid Y1
          replace C1 := Lib.hid C1
          replace L := Lib.hid L
          go_wp2_with fail
          refine Y1.out.mono ?_
          rintro e w3 ⟨rfl, rfl⟩
          go_wp2_with fail
          refine C1.out.mono ?_
          rintro e w4 ⟨rfl, m, rfl⟩
          have L4 := L.out.move (pw_below_drewN (Below.refl _ wr) m)
          have A4 := Lib.hid (append_st w _ lg v recs 0 0 r L4 HT.out (by omega) (by rw [← hP.out]; omega))
          replace L4 := Lib.hid L4
          clear L Y1 C1
          go_wp2_with fail
          refine A4.out.mono ?_
          rintro e w5 ⟨rfl, v5, L5, -, -⟩
          have Y5 := Dk.bytes_any _ _ _ _ w5 L5.at_.file
          obtain ⟨Q, hQ⟩ : ∃ Q, Q = allB (recs ++ [r]) := ⟨_, rfl⟩
          have hqs : Q.size = P.size + r.size + 6 := by rw [hQ, hP.out]; exact allB_snoc_size recs r
          have hqe : Q.extract 0 P.size = P := by rw [hQ, allB_snoc, ← hP.out, ext_l _ _ _ _ (Nat.le_refl _), ext_whole _ _ (Nat.le_refl _)]
          rw [← hQ] at Y5
          have G5 := get_yes _ _ _ _ _ _ _ _ recs.length w5 L5.at_ (by simp)
          rw [show (recs ++ [r])[recs.length]'(by simp) = r by simp] at G5
          have O5 := Lib.hid (one_any w5 (L5.tab HT.out))
          replace Y5 := Lib.hid Y5
          replace G5 := Lib.hid G5
          have hq1 : ((Q.size : Int) == (P.size : Int) + (r.size : Int) + 6) = true := by rw [beq_iff_eq]; omega
          have hq2 : P.size ≤ Q.size := by omega
          have hq3 : Q.size ≤ 50000 := by omega
          replace hqs := Lib.hid hqs
          have hq4 : ((Q.extract 0 P.size).toList == P.toList) = true := by rw [hqe]; exact beq_self_eq_true _
          replace hqe := Lib.hid hqe
          replace hQ := Lib.hid hQ
          replace L5 := Lib.hid L5
          clear A4
          go_wp2_with fail
          refine Y5.out.mono ?_
          rintro e w6 ⟨rfl, rfl⟩
          go_wp2_with fail
          refine G5.out.mono ?_
          rintro e w7 ⟨rfl, rfl⟩
          go_wp2_with (go_at_call 8; refine O5.out.mono ?_; rintro e w8 ⟨rfl, hb8⟩; replace hb8 := Lib.hid hb8)
          go_ret
          exact ⟨rfl, below_then L5.out.below L5.out.below.size hb8.out⟩
    · have t2 : (3000 : Int) < (r.size : Int) := by omega
      go_enter Tryd.func3, Tryd.ntmps3
      go_wp2_with (go_at_call 8; refine O1.out.mono ?_; rintro e w1 ⟨rfl, hb⟩; replace hb := Lib.hid hb)
      go_ret
      exact ⟨rfl, hb.out⟩
  · have t1 : (20 : Int) < (l.length : Int) := by omega
    go_enter Tryd.func3, Tryd.ntmps3
    go_wp2_with (go_at_call 8; refine O1.out.mono ?_; rintro e w1 ⟨rfl, hb⟩; replace hb := Lib.hid hb)
    go_ret
    exact ⟨rfl, hb.out⟩
end Go.Proofs.YtmlfheagbfaoaaaDoor
