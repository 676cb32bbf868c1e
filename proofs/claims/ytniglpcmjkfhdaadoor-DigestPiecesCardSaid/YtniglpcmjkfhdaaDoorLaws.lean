/- The laws of digest: whatever is told, each answers true. -/
import Derived.Test.YtniglpcmjkfhdaaDoorDsum
import Derived.Test.YtniglpcmjkfhdaaDoorRSum
import Derived.Test.YtniglpcmjkfhdaaDoorAbc
import Derived.Test.YtniglpcmjkfhdaaDoorOpen
import Derived.Lib.ConvBytes
namespace Go.Proofs.YtniglpcmjkfhdaaDoor
open Go.RowKit Go.Proofs.YtniglpcmjkfhdaaDoorW.PrintWords Go.Proofs.YtniglpcmjkfhdaaDoorW.PrintMore Go.Lib

theorem HashAt.below {w w' : World} {B g : Nat} {s : ByteArray} (h : HashAt w B g s) (hb : Below w.heap.size w w') : HashAt w' B g s := by
  obtain ⟨⟨rv, rest, hg, hbuf, r⟩, hge⟩ := h
  exact ⟨⟨rv, rest, (hb.block g (Array.getElem?_eq_some_iff.1 hg).1).trans hg, hbuf.move (fun k hk => hb.block k (hbuf.typed k hk).2.1), r⟩, hge⟩

set_option maxHeartbeats 1000000 in
theorem abc_any (w : World) (hT : Tab w) : Calls Tryd.prog 8 #[] w fun e w' => e = .returned (.bool true) ∧ Below w.heap.size w w' := by
  have S := Lib.hid (sum_any w ⟨#[97, 98, 99]⟩ hT (by decide))
  rw [Sha.abc_hash] at S
  clear hT
  go_enter Tryd.func8, Tryd.ntmps8
  go_wp2_with fail
  refine S.out.mono ?_
  rintro e w1 ⟨rfl, hb⟩
  go_wp2
  go_ret
  exact ⟨rfl, hb⟩

set_option maxHeartbeats 1000000 in
theorem law_DigestSums (s : ByteArray) (w : World) (hs : s.size ≤ 140737488351232) (hT : Tab w) : Calls Tryd.prog 3 #[.string s] w fun e w' => e = .returned (.bool true) ∧ Below w.heap.size w w' := by
  have S := Lib.hid (sum_any w s hT (by omega))
  have R := Lib.hid (fun w => rsum_any w s hs)
  have A := Lib.hid (fun w' (hb : Below w.heap.size w w') => abc_any w' (hT.below hb))
  obtain ⟨H, hH⟩ : ∃ H, H = Sha.hash s := ⟨_, rfl⟩
  rw [← hH] at S R
  clear hT hs hH
  go_enter Tryd.func3, Tryd.ntmps3
  go_wp2_with fail
  refine S.out.mono ?_
  rintro e w1 ⟨rfl, hb1⟩
  replace hb1 := Lib.hid hb1
  go_wp2_with fail
  refine (R.out w1).mono ?_
  rintro e w2 ⟨rfl, hb2⟩
  have hb3 := below_then hb1.out hb1.out.size hb2
  have A2 := Lib.hid (A.out w2 hb3)
  replace hb3 := Lib.hid hb3
  clear hb2
  go_wp2_with fail
  refine A2.out.mono ?_
  rintro e w3 ⟨rfl, hb4⟩
  go_wp2
  go_ret
  exact ⟨rfl, below_then hb3.out hb3.out.size hb4⟩

theorem nil_write (y : ByteArray) (w : World) : Calls Tryd.prog 10 #[.pointer none, .string y] w fun e w' => e = .returned (.int .i64 7) ∧ w = w' := by
  go_enter Tryd.func10, Tryd.ntmps10
  go_wp2
  go_ret
  exact ⟨rfl, rfl⟩
theorem nil_sum (w : World) : Calls Tryd.prog 11 #[.pointer none] w fun e w' => e = .returned (.string ⟨#[]⟩) ∧ w = w' := by
  go_enter Tryd.func11, Tryd.ntmps11
  go_wp2
  go_ret
  exact ⟨rfl, rfl⟩
theorem nil_len (w : World) : Calls Tryd.prog 12 #[.pointer none] w fun e w' => e = .returned (.int .i64 0) ∧ w = w' := by
  go_enter Tryd.func12, Tryd.ntmps12
  go_wp2
  go_ret
  exact ⟨rfl, rfl⟩
set_option maxHeartbeats 1000000 in
theorem law_DigestNil (s : ByteArray) (w : World) (_hs : s.size ≤ 140737488351232) (hT : Tab w) : Calls Tryd.prog 5 #[.string s] w fun e w' => e = .returned (.bool true) ∧ Below w.heap.size w w' := by
  have A := Lib.hid (abc_any w hT)
  clear hT
  go_enter Tryd.func5, Tryd.ntmps5
  go_wp2_with fail
  refine (nil_write s w).mono ?_
  rintro e w1 ⟨rfl, rfl⟩
  go_wp2_with fail
  refine (nil_sum w).mono ?_
  rintro e w1 ⟨rfl, rfl⟩
  go_wp2_with fail
  refine (nil_len w).mono ?_
  rintro e w1 ⟨rfl, rfl⟩
  go_wp2_with fail
  refine A.out.mono ?_
  rintro e w1 ⟨rfl, hb⟩
  go_wp2
  go_ret
  exact ⟨rfl, hb⟩

/-- The strings of a slice. -/
def Strs (w : World) (A : Option Addr) (l : List ByteArray) : Prop := ∀ (i : Nat) (s : ByteArray), l[i]? = some s → ∃ ad, A = some ad ∧ w.cell? (ad.add i) = some (.string s)
theorem strs_of {w : World} {A : Option Addr} {n : Nat} {l : List ByteArray} (h : Kd.C Kd.string w A n l) (hn : n = l.length) : Strs w A l := by
  intro i s hs
  have hi := (List.getElem?_eq_some_iff.1 hs).1
  obtain ⟨_, _, h3⟩ := h
  obtain ⟨ad, rfl, h4⟩ := h3 (by omega)
  obtain ⟨cs, _, h5, h7⟩ := h4 i s hs
  refine ⟨ad, rfl, ?_⟩
  have := h7 0 (.string s) (by rw [h5]; rfl)
  simpa [Kd.string, Kd.scalar] using this
theorem Strs.below {w w' : World} {A : Option Addr} {l : List ByteArray} (h : Strs w A l) (hb : Below w.heap.size w w') : Strs w' A l := fun i s hs => by
  obtain ⟨ad, e, hc⟩ := h i s hs
  exact ⟨ad, e, pw_cell_below hb hc⟩
theorem len_u (w : World) (B g : Nat) (s y : ByteArray) (h : HashAt w B g (s ++ y)) : Calls Tryd.prog 12 #[.pointer (some ⟨g, 0, none⟩)] w fun e w' => e = .returned (.int .i64 ((s.size : Int) + (y.size : Int))) ∧ w' = w := by
  have := len_any w B g (s ++ y) h
  rw [size_app, Int.natCast_add] at this
  exact this
set_option maxHeartbeats 4000000 in
set_option maxRecDepth 100000 in
theorem law_DigestPieces (A : Option Addr) (c : Nat) (l : List ByteArray) (w : World) (hl16 : l.length * 16 ≤ 140737488351232) (hsz : ∀ s ∈ l, s.size ≤ 140737488351232) (hr : Kd.C Kd.string w A l.length l) (_hc : l.length ≤ c) (hT : Tab w) :
    Calls Tryd.prog 4 #[.slice A l.length c] w fun e w' => e = .returned (.bool true) ∧ Below w.heap.size w w' := by
  have hS := strs_of hr rfl
  have AB := Lib.hid (fun w' (hb : Below w.heap.size w w') => abc_any w' (hT.below hb))
  have hB1 : Below w.heap.size w (w.alloc (.cells (hashCells Sha.init (.slice none 0 0) 0) 44)) := (Below.refl _ w).alloc (Nat.le_refl _) _
  have H1 := Lib.hid (HashAt.new w)
  have hlt := hT.lt
  have HT := Lib.hid hT
  have HSZ := Lib.hid hsz
  have HS := Lib.hid hS
  replace hB1 := Lib.hid hB1
  clear hr hT hsz hS
  by_cases h100 : l.length ≤ 100
  · have t1 : decide (100 < (l.length : Int)) = false := by simp; omega
    have t2 : ¬ (100 : Int) < (l.length : Int) := by omega
    go_enter Tryd.func4, Tryd.ntmps4
    go_wp2_with fail
    refine (new_any w).mono ?_
    rintro e w1 ⟨rfl, rfl⟩
    go_wp2_with fail
    obtain ⟨B, eB⟩ : ∃ B : Nat, B = w.heap.size := ⟨_, rfl⟩
    rw [← eB] at AB hB1 H1 hlt ⊢
    generalize w.alloc (.cells (hashCells Sha.init (.slice none 0 0) 0) 44) = w1 at hB1 H1 ⊢
    replace eB := Lib.hid eB
    go_loopw [4, 22] (fun v4 v22 wr => ∃ (k : Nat) (t : ByteArray), k ≤ l.length ∧ v22 = .int .i64 (k : Int) ∧ v4 = .string t ∧ t.size ≤ 20000 ∧ HashAt wr B B t ∧ Below B w wr) (fun _ v22 _ => l.length - (intOf v22).toNat)
    case atStart => exact ⟨0, ⟨#[]⟩, Nat.zero_le _, rfl, rfl, Nat.zero_le _, H1.out, hB1.out⟩
    case round =>
      obtain ⟨k, t, hk, rfl, rfl, ht, hh, hb⟩ := hrel
      by_cases hlt : k < l.length
      · obtain ⟨s, hs⟩ : ∃ s, l[k]? = some s := ⟨_, List.getElem?_eq_getElem hlt⟩
        obtain ⟨ad, rfl, hcl⟩ := HS.out k s hs
        have hcl' := pw_cell_below (eB.out ▸ hb) hcl
        have hssz := HSZ.out s (List.mem_of_getElem? hs)
        have hadd := fun w => run_string_add_sum (P := Tryd.prog) w t s (by omega)
        clear hcl hs
        by_cases h2 : t.size + s.size ≤ 20000
        · have t3 : ¬ (20000 : Int) < (t.size : Int) + (s.size : Int) := by omega
          have W1 := Lib.hid (write_any wr B B t s (HT.out.below (eB.out ▸ hb)) (by assumption) (by have := hb.size; have := eB.out; omega) hh (by omega))
          replace hh := Lib.hid hh
          replace hb := Lib.hid hb
          go_wp2_with fail
          refine W1.out.mono ?_
          rintro e w2 ⟨rfl, hh2, hb2⟩
          have hb2' := hb.out.trans hb2
          replace hh2 := Lib.hid hh2
          replace hb2' := Lib.hid hb2'
          clear hb2 W1 hcl'
          obtain ⟨H, hH⟩ : ∃ H, H = Sha.hash (t ++ s) := ⟨_, rfl⟩
          have S1 := Lib.hid (hsum_any w2 B B (t ++ s) (HT.out.below (eB.out ▸ hb2'.out)) hh2.out (by rw [size_app]; omega))
          have R1 := Lib.hid (fun w => rsum_any w (t ++ s) (by rw [size_app]; omega))
          rw [← hH] at S1 R1
          replace hH := Lib.hid hH
          go_wp2_with fail
          refine S1.out.mono ?_
          rintro e w3 ⟨rfl, hb3⟩
          have hh3 := hh2.out.below hb3
          have hb3' := below_trans' hb2'.out (by have := hb2'.out.size; have := eB.out; omega) hb3
          replace hh3 := Lib.hid hh3
          replace hb3' := Lib.hid hb3'
          clear hb3 S1
          go_wp2_with fail
          refine (R1.out w3).mono ?_
          rintro e w4 ⟨rfl, hb4⟩
          have hh4 := hh3.out.below hb4
          have hb4' := below_trans' hb3'.out (by have := hb3'.out.size; have := eB.out; omega) hb4
          have L4 := Lib.hid (len_u w4 B B t s hh4)
          replace hh4 := Lib.hid hh4
          replace hb4' := Lib.hid hb4'
          clear hb4 R1
          go_wp2_with fail
          refine L4.out.mono ?_
          rintro e w5 ⟨rfl, rfl⟩
          go_wp2
          go_roundw
          case rel => exact ⟨k + 1, t ++ s, by omega, by go_num, rfl, by rw [size_app]; omega, hh4.out, hb4'.out⟩
          case measure => simp [intOf]; omega
        · have t3 : (20000 : Int) < (t.size : Int) + (s.size : Int) := by omega
          have AB1 := Lib.hid (AB.out wr hb)
          replace hh := Lib.hid hh
          replace hb := Lib.hid hb
          go_wp2_with fail
          refine AB1.out.mono ?_
          rintro e w2 ⟨rfl, hb2⟩
          go_wp2
          go_ret
          exact ⟨rfl, eB.out ▸ below_trans' hb.out (by have := hb.out.size; have := eB.out; omega) hb2⟩
      · obtain rfl : k = l.length := by omega
        obtain ⟨H, hH⟩ : ∃ H, H = Sha.hash t := ⟨_, rfl⟩
        have S1 := Lib.hid (hsum_any wr B B t (HT.out.below (eB.out ▸ hb)) hh (by omega))
        have D1 := Lib.hid (fun w' (hT : Tab w') => sum_any w' t hT (by omega))
        rw [← hH] at S1 D1
        replace hH := Lib.hid hH
        replace hh := Lib.hid hh
        replace hb := Lib.hid hb
        go_wp2_with fail
        refine S1.out.mono ?_
        rintro e w3 ⟨rfl, hb3⟩
        have hb3' := below_trans' hb.out (by have := hb.out.size; have := eB.out; omega) hb3
        have D2 := Lib.hid (D1.out w3 (HT.out.below (eB.out ▸ hb3')))
        replace hb3' := Lib.hid hb3'
        clear hb3 S1 D1
        go_wp2_with fail
        refine D2.out.mono ?_
        rintro e w4 ⟨rfl, hb4⟩
        have hb4' := below_trans' hb3'.out (by have := hb3'.out.size; have := eB.out; omega) hb4
        have AB1 := Lib.hid (AB.out w4 hb4')
        replace hb4' := Lib.hid hb4'
        clear hb4 D2
        go_wp2_with fail
        refine AB1.out.mono ?_
        rintro e w5 ⟨rfl, hb5⟩
        go_wp2
        go_ret
        exact ⟨rfl, eB.out ▸ below_trans' hb4'.out (by have := hb4'.out.size; have := eB.out; omega) hb5⟩
  · have t1 : decide (100 < (l.length : Int)) = true := by simp; omega
    have t2 : (100 : Int) < (l.length : Int) := by omega
    have AB1 := Lib.hid (AB.out _ hB1.out)
    go_enter Tryd.func4, Tryd.ntmps4
    go_wp2_with fail
    refine (new_any w).mono ?_
    rintro e w1 ⟨rfl, rfl⟩
    go_wp2_with fail
    refine AB1.out.mono ?_
    rintro e w2 ⟨rfl, hb2⟩
    go_wp2
    go_ret
    exact ⟨rfl, below_then hB1.out hB1.out.size hb2⟩
end Go.Proofs.YtniglpcmjkfhdaaDoor
