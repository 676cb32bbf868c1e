/- CastMarks: a text's mark, the first text of a mark: the package's functions and the reference's are one. -/
import Derived.Test.YtampdabniahncaaDoorDsum
import Derived.Test.YtampdabniahncaaDoorRSum
import Derived.Test.YtampdabniahncaaDoorStrs
import Derived.Test.YtampdabniahncaaDoorOpen
namespace Go.Proofs.YtampdabniahncaaDoor
open Go.RowKit Go.Proofs.YtampdabniahncaaDoorW.PrintWords Go.Proofs.YtampdabniahncaaDoorW.PrintMore Go.Lib

def mark (s : ByteArray) : ByteArray := if s.toList = [] then ⟨#[]⟩ else Sha.hash s
def findB (m : ByteArray) : List ByteArray → ByteArray × Bool
  | [] => (⟨#[]⟩, false)
  | t :: r => if ¬ t.toList = [] ∧ Sha.hash t = m then (t, true) else findB m r
theorem findB_step (m : ByteArray) (l : List ByteArray) (k : Nat) (s : ByteArray) (hs : l[k]? = some s) : findB m (l.drop k) = if ¬ s.toList = [] ∧ Sha.hash s = m then (s, true) else findB m (l.drop (k + 1)) := by
  obtain ⟨hk, rfl⟩ := List.getElem?_eq_some_iff.1 hs
  rw [List.drop_eq_getElem_cons hk]
  rfl

set_option maxHeartbeats 1000000 in
theorem mark_any (w : World) (s : ByteArray) (hT : Tab w) (hs : s.size ≤ 140737488351232) : Calls Tryd.prog 6 #[.string s] w fun e w' => e = .returned (.string (mark s)) ∧ Below w.heap.size w w' := by
  by_cases hne : s.toList = []
  · have hn0 : (s.toList == []) = true := by simp [hne]
    have hm : mark s = ⟨#[]⟩ := if_pos hne
    rw [hm]
    clear hne hT hm
    go_enter Tryd.func6, Tryd.ntmps6
    go_wp2_with fail
    go_ret
    exact ⟨rfl, Below.refl _ _⟩
  · have hn0 : (s.toList == []) = false := by simp [hne]
    have hm : mark s = Sha.hash s := if_neg hne
    rw [hm]
    have S := Lib.hid (sum_any w s hT (by omega))
    clear hne hT hm
    go_enter Tryd.func6, Tryd.ntmps6
    go_wp2_with fail
    refine S.out.mono ?_
    rintro e w1 ⟨rfl, hb⟩
    go_wp2
    go_ret
    exact ⟨rfl, hb⟩
set_option maxHeartbeats 1000000 in
theorem rmark_any (w : World) (s : ByteArray) (hs : s.size ≤ 140737488351232) : Calls Tryd.prog 8 #[.string s] w fun e w' => e = .returned (.string (mark s)) ∧ Below w.heap.size w w' := by
  by_cases hne : s.toList = []
  · have hn0 : (s.toList == []) = true := by simp [hne]
    have hm : mark s = ⟨#[]⟩ := if_pos hne
    rw [hm]
    clear hne hm
    go_enter Tryd.func8, Tryd.ntmps8
    go_wp2_with fail
    go_ret
    exact ⟨rfl, Below.refl _ _⟩
  · have hn0 : (s.toList == []) = false := by simp [hne]
    have hm : mark s = Sha.hash s := if_neg hne
    rw [hm]
    have S := Lib.hid (rsum_any w s hs)
    clear hne hm
    go_enter Tryd.func8, Tryd.ntmps8
    go_wp2_with fail
    refine S.out.mono ?_
    rintro e w1 ⟨rfl, hb⟩
    go_wp2
    go_ret
    exact ⟨rfl, hb⟩
set_option maxHeartbeats 2000000 in
theorem find_any (w : World) (m : ByteArray) (A : Option Addr) (c : Nat) (l : List ByteArray) (hlen : l.length ≤ 140737488351232) (hT : Tab w) (hS : Strs w A l) (hsz : ∀ s ∈ l, s.size ≤ 140737488351232) :
    Calls Tryd.prog 5 #[.string m, .slice A l.length c] w fun e w' => e = .returned (.tuple #[.string (findB m l).1, .bool (findB m l).2]) ∧ Below w.heap.size w w' := by
  have HS := Lib.hid hS
  have HT := Lib.hid hT
  have HZ := Lib.hid hsz
  clear hS hT hsz
  go_enter Tryd.func5, Tryd.ntmps5
  go_wp2_with fail
  go_loopw [10] (fun v10 wr => ∃ k : Nat, k ≤ l.length ∧ v10 = .int .i64 (k : Int) ∧ findB m (l.drop k) = findB m l ∧ Below w.heap.size w wr) (fun v10 _ => l.length - (intOf v10).toNat)
  case atStart => exact ⟨0, Nat.zero_le _, rfl, rfl, Below.refl _ _⟩
  case round =>
    obtain ⟨k, hk, rfl, hf, hb⟩ := hrel
    by_cases hlt : k < l.length
    · obtain ⟨s, hs⟩ : ∃ s, l[k]? = some s := ⟨_, List.getElem?_eq_getElem hlt⟩
      obtain ⟨ad, rfl, hcl⟩ := HS.out k s hs
      have hcl' := pw_cell_below hb hcl
      have hstep := findB_step m l k s hs
      have hssz := HZ.out s (List.mem_of_getElem? hs)
      clear hcl hs
      by_cases hne : s.toList = []
      · have hn0 : (s.toList == []) = true := by simp [hne]
        have hn1 : (s.toList != []) = false := by simp [hne]
        rw [if_neg (fun h => h.1 hne)] at hstep
        replace hstep := Lib.hid (hstep.symm.trans hf)
        replace hb := Lib.hid hb
        clear hne hf
        go_wp2_with fail
        go_roundw
        case rel => exact ⟨k + 1, by omega, by go_num, hstep.out, hb.out⟩
        case measure => simp [intOf]; omega
      · have hn0 : (s.toList == []) = false := by simp [hne]
        have hn1 : (s.toList != []) = true := by simp [hne]
        have hm : mark s = Sha.hash s := if_neg hne
        have M := Lib.hid (mark_any wr s (HT.out.below hb) hssz)
        rw [hm] at M
        by_cases he : Sha.hash s = m
        · rw [if_pos ⟨hne, he⟩] at hstep
          have hres := hstep.symm.trans hf
          rw [he] at M
          replace hres := Lib.hid hres
          replace hb := Lib.hid hb
          clear hne hf hstep he hm
          go_wp2_with fail
          refine M.out.mono ?_
          rintro e w1 ⟨rfl, hb1⟩
          go_wp2
          go_ret2
          rw [← hres.out]
          exact ⟨rfl, below_then hb.out hb.out.size hb1⟩
        · rw [if_neg (fun h => he h.2)] at hstep
          obtain ⟨H, hH⟩ : ∃ H, H = Sha.hash s := ⟨_, rfl⟩
          rw [← hH] at M he
          have e1 : (H.toList == m.toList) = false := by
            rw [beq_eq_false_iff_ne]
            intro h
            exact he (Go.WideShapes.bytes_inj (by rwa [ByteArray.toList_eq, ByteArray.toList_eq] at h))
          replace hstep := Lib.hid (hstep.symm.trans hf)
          replace hb := Lib.hid hb
          clear hne hf he hm
          replace hH := Lib.hid hH
          go_wp2_with fail
          refine M.out.mono ?_
          rintro e w1 ⟨rfl, hb1⟩
          have hb1' := below_then hb.out hb.out.size hb1
          replace hb1' := Lib.hid hb1'
          clear hb1
          go_wp2
          go_roundw
          case rel => exact ⟨k + 1, by omega, by go_num, hstep.out, hb1'.out⟩
          case measure => simp [intOf]; omega
    · obtain rfl : k = l.length := by omega
      rw [List.drop_length] at hf
      replace hf := Lib.hid hf
      replace hb := Lib.hid hb
      go_wp2
      go_ret2
      rw [← hf.out]
      exact ⟨rfl, hb.out⟩
set_option maxHeartbeats 2000000 in
theorem rfind_any (w : World) (m : ByteArray) (A : Option Addr) (c : Nat) (l : List ByteArray) (hlen : l.length ≤ 140737488351232) (hS : Strs w A l) (hsz : ∀ s ∈ l, s.size ≤ 140737488351232) :
    Calls Tryd.prog 7 #[.string m, .slice A l.length c] w fun e w' => e = .returned (.tuple #[.string (findB m l).1, .bool (findB m l).2]) ∧ Below w.heap.size w w' := by
  have HS := Lib.hid hS
  have HZ := Lib.hid hsz
  clear hS hsz
  go_enter Tryd.func7, Tryd.ntmps7
  go_wp2_with fail
  go_loopw [10] (fun v10 wr => ∃ k : Nat, k ≤ l.length ∧ v10 = .int .i64 (k : Int) ∧ findB m (l.drop k) = findB m l ∧ Below w.heap.size w wr) (fun v10 _ => l.length - (intOf v10).toNat)
  case atStart => exact ⟨0, Nat.zero_le _, rfl, rfl, Below.refl _ _⟩
  case round =>
    obtain ⟨k, hk, rfl, hf, hb⟩ := hrel
    by_cases hlt : k < l.length
    · obtain ⟨s, hs⟩ : ∃ s, l[k]? = some s := ⟨_, List.getElem?_eq_getElem hlt⟩
      obtain ⟨ad, rfl, hcl⟩ := HS.out k s hs
      have hcl' := pw_cell_below hb hcl
      have hstep := findB_step m l k s hs
      have hssz := HZ.out s (List.mem_of_getElem? hs)
      clear hcl hs
      by_cases hne : s.toList = []
      · have hn0 : (s.toList == []) = true := by simp [hne]
        have hn1 : (s.toList != []) = false := by simp [hne]
        rw [if_neg (fun h => h.1 hne)] at hstep
        replace hstep := Lib.hid (hstep.symm.trans hf)
        replace hb := Lib.hid hb
        clear hne hf
        go_wp2_with fail
        go_roundw
        case rel => exact ⟨k + 1, by omega, by go_num, hstep.out, hb.out⟩
        case measure => simp [intOf]; omega
      · have hn0 : (s.toList == []) = false := by simp [hne]
        have hn1 : (s.toList != []) = true := by simp [hne]
        have M := Lib.hid (rsum_any wr s hssz)
        by_cases he : Sha.hash s = m
        · rw [if_pos ⟨hne, he⟩] at hstep
          have hres := hstep.symm.trans hf
          rw [he] at M
          replace hres := Lib.hid hres
          replace hb := Lib.hid hb
          clear hne hf hstep he
          go_wp2_with fail
          refine M.out.mono ?_
          rintro e w1 ⟨rfl, hb1⟩
          go_wp2
          go_ret2
          rw [← hres.out]
          exact ⟨rfl, below_then hb.out hb.out.size hb1⟩
        · rw [if_neg (fun h => he h.2)] at hstep
          obtain ⟨H, hH⟩ : ∃ H, H = Sha.hash s := ⟨_, rfl⟩
          rw [← hH] at M he
          have e1 : (H.toList == m.toList) = false := by
            rw [beq_eq_false_iff_ne]
            intro h
            exact he (Go.WideShapes.bytes_inj (by rwa [ByteArray.toList_eq, ByteArray.toList_eq] at h))
          replace hstep := Lib.hid (hstep.symm.trans hf)
          replace hb := Lib.hid hb
          clear hne hf he
          replace hH := Lib.hid hH
          go_wp2_with fail
          refine M.out.mono ?_
          rintro e w1 ⟨rfl, hb1⟩
          have hb1' := below_then hb.out hb.out.size hb1
          replace hb1' := Lib.hid hb1'
          clear hb1
          go_wp2
          go_roundw
          case rel => exact ⟨k + 1, by omega, by go_num, hstep.out, hb1'.out⟩
          case measure => simp [intOf]; omega
    · obtain rfl : k = l.length := by omega
      rw [List.drop_length] at hf
      replace hf := Lib.hid hf
      replace hb := Lib.hid hb
      go_wp2
      go_ret2
      rw [← hf.out]
      exact ⟨rfl, hb.out⟩

theorem four_true : PDg.wardmotelaw16_four.f = some true := by
  simp only [PDg.wardmotelaw16_four.f, ByteArray.toList_eq]
  decide +kernel
theorem four_any (w : World) : Calls Tryd.prog 4 #[] w fun e w' => e = .returned (.bool true) ∧ Below w.heap.size w w' := PDg.wardmotelaw16_four.calls true w four_true
set_option maxHeartbeats 4000000 in
set_option maxRecDepth 100000 in
theorem law_CastMarks (s : ByteArray) (A : Option Addr) (c : Nat) (l : List ByteArray) (w : World) (hs : s.size ≤ 140737488351232) (hl16 : l.length * 16 ≤ 140737488351232) (hsz : ∀ s ∈ l, s.size ≤ 140737488351232) (hr : Kd.C Kd.string w A l.length l) (_hc : l.length ≤ c) (hT : Tab w) :
    Calls Tryd.prog 3 #[.string s, .slice A l.length c] w fun e w' => e = .returned (.bool true) ∧ Below w.heap.size w w' := by
  have HS := Lib.hid (strs_of hr rfl)
  have HT := Lib.hid hT
  have HZ := Lib.hid hsz
  clear hr hT hsz
  by_cases h1 : l.length ≤ 100
  · have t1 : ¬ (100 : Int) < (l.length : Int) := by omega
    by_cases h2 : s.size ≤ 10000
    · have t2 : ¬ (10000 : Int) < (s.size : Int) := by omega
      go_enter Tryd.func3, Tryd.ntmps3
      go_wp2_with fail
      go_loop [26] (fun v26 => ∃ k : Nat, k ≤ l.length ∧ v26 = .int .i64 (k : Int)) (fun v26 => l.length - (intOf v26).toNat)
      case atStart => exact ⟨0, Nat.zero_le _, rfl⟩
      case round =>
        obtain ⟨k, hk, rfl⟩ := hrel
        by_cases hlt : k < l.length
        · obtain ⟨t, ht⟩ : ∃ s, l[k]? = some s := ⟨_, List.getElem?_eq_getElem hlt⟩
          obtain ⟨ad, rfl, hcl⟩ := HS.out k t ht
          have htz := HZ.out t (List.mem_of_getElem? ht)
          clear ht
          by_cases h3 : t.size ≤ 10000
          · have t3 : ¬ (10000 : Int) < (t.size : Int) := by omega
            go_wp2_with fail
            go_round
            case rel => exact ⟨k + 1, by omega, by go_num⟩
            case measure => simp [intOf]; omega
          · have t3 : (10000 : Int) < (t.size : Int) := by omega
            go_wp2_with fail
            refine (four_any w).mono ?_
            rintro e w1 ⟨rfl, hb⟩
            go_wp2
            go_ret
            exact ⟨rfl, hb⟩
        · obtain rfl : k = l.length := by omega
          have M := Lib.hid (fun w' (hb : Below w.heap.size w w') => mark_any w' s (HT.out.below hb) hs)
          have F := Lib.hid (fun m w' (hb : Below w.heap.size w w') => find_any w' m A c l (by omega) (HT.out.below hb) (HS.out.below hb) HZ.out)
          have R := Lib.hid (fun m w' (hb : Below w.heap.size w w') => rfind_any w' m A c l (by omega) (HS.out.below hb) HZ.out)
          obtain ⟨m, hm⟩ : ∃ m, m = mark s := ⟨_, rfl⟩
          rw [← hm] at M
          have RM := Lib.hid (fun w' => rmark_any w' s hs)
          rw [← hm] at RM
          replace hm := Lib.hid hm
          have H0 := Lib.hid (Below.refl w.heap.size w)
          go_wp2_with fail
          refine (M.out w H0.out).mono ?_
          rintro e w1 ⟨rfl, hb1⟩
          have H1 := Lib.hid hb1
          clear hb1
          go_wp2_with fail
          refine (F.out m w1 H1.out).mono ?_
          rintro e w2 ⟨rfl, hb2⟩
          have H2 := Lib.hid (below_then H1.out H1.out.size hb2)
          clear hb2
          obtain ⟨p1, e1⟩ : ∃ p, p = (findB m l).1 := ⟨_, rfl⟩
          obtain ⟨p2, e2⟩ : ∃ p, p = (findB m l).2 := ⟨_, rfl⟩
          obtain ⟨q1, f1⟩ : ∃ p, p = (findB s l).1 := ⟨_, rfl⟩
          obtain ⟨q2, f2⟩ : ∃ p, p = (findB s l).2 := ⟨_, rfl⟩
          have Rm := Lib.hid (fun w' hb => R.out m w' hb)
          have Rs := Lib.hid (fun w' hb => R.out s w' hb)
          have Fs := Lib.hid (fun w' hb => F.out s w' hb)
          rw [← e1, ← e2] at Rm ⊢
          rw [← f1, ← f2] at Rs Fs
          replace e1 := Lib.hid e1
          replace e2 := Lib.hid e2
          replace f1 := Lib.hid f1
          replace f2 := Lib.hid f2
          clear R F
          go_wp2_with fail
          refine (RM.out w2).mono ?_
          rintro e w3 ⟨rfl, hb3⟩
          have H3 := Lib.hid (below_then H2.out H2.out.size hb3)
          clear hb3
          go_wp2_with fail
          refine (Rm.out w3 H3.out).mono ?_
          rintro e w4 ⟨rfl, hb4⟩
          have H4 := Lib.hid (below_then H3.out H3.out.size hb4)
          clear hb4
          go_wp2_with fail
          refine (Fs.out w4 H4.out).mono ?_
          rintro e w5 ⟨rfl, hb5⟩
          have H5 := Lib.hid (below_then H4.out H4.out.size hb5)
          clear hb5
          go_wp2_with fail
          refine (Rs.out w5 H5.out).mono ?_
          rintro e w6 ⟨rfl, hb6⟩
          have H6 := Lib.hid (below_then H5.out H5.out.size hb6)
          clear hb6
          go_wp2_with fail
          refine (M.out w6 H6.out).mono ?_
          rintro e w7 ⟨rfl, hb7⟩
          have H7 := Lib.hid (below_then H6.out H6.out.size hb7)
          clear hb7
          go_wp2_with fail
          refine (RM.out w7).mono ?_
          rintro e w8 ⟨rfl, hb8⟩
          have H8 := Lib.hid (below_then H7.out H7.out.size hb8)
          clear hb8
          go_wp2_with fail
          refine (four_any w8).mono ?_
          rintro e w9 ⟨rfl, hb9⟩
          have H9 := Lib.hid (below_then H8.out H8.out.size hb9)
          clear hb9
          go_wp2
          go_ret
          exact ⟨rfl, H9.out⟩
    · have t2 : (10000 : Int) < (s.size : Int) := by omega
      go_enter Tryd.func3, Tryd.ntmps3
      go_wp2_with fail
      refine (four_any w).mono ?_
      rintro e w1 ⟨rfl, hb⟩
      go_wp2
      go_ret
      exact ⟨rfl, hb⟩
  · have t1 : (100 : Int) < (l.length : Int) := by omega
    go_enter Tryd.func3, Tryd.ntmps3
    go_wp2_with fail
    refine (four_any w).mono ?_
    rintro e w1 ⟨rfl, hb⟩
    go_wp2
    go_ret
    exact ⟨rfl, hb⟩
end Go.Proofs.YtampdabniahncaaDoor
