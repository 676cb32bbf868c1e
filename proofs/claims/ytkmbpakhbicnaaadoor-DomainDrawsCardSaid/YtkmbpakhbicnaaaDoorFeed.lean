/- The walks of domain: what is hashed is handed on piece by piece; the bytes of a tag and parts. -/
import Derived.Test.YtkmbpakhbicnaaaDoorDsum
import Derived.Test.YtkmbpakhbicnaaaDoorDPlain
import Derived.Test.YtkmbpakhbicnaaaDoorStrs
namespace Go.Proofs.YtkmbpakhbicnaaaDoor
open Go.RowKit Go.Proofs.YtkmbpakhbicnaaaDoorW.PrintWords Go.Proofs.YtkmbpakhbicnaaaDoorW.PrintMore Go.Lib

theorem HashAt.below {w w' : World} {B g : Nat} {s : ByteArray} (h : HashAt w B g s) (hb : Below w.heap.size w w') : HashAt w' B g s := by
  obtain ⟨⟨rv, rest, hg, hbuf, r⟩, hge⟩ := h
  exact ⟨⟨rv, rest, (hb.block g (Array.getElem?_eq_some_iff.1 hg).1).trans hg, hbuf.move (fun k hk => hb.block k (hbuf.typed k hk).2.1), r⟩, hge⟩
theorem number_any (w : World) (n i : Nat) (hi : i ≤ 8) : Calls Tryd.prog 27 #[.int .i64 (n : Int), .int .i64 (i : Int)] w fun e w' => e = .returned (.string (beB n i)) ∧ Below w.heap.size w w' :=
  PDg.domain_number.calls 9 (n : Int) (i : Int) (beB n i) w (number_f n i hi 9 (by omega))
theorem partsB_app (l m : List ByteArray) : partsB (l ++ m) = partsB l ++ partsB m := by
  induction l with
  | nil =>
    apply bytes_ext
    rw [data_app]
    rfl
  | cons p r ih => rw [List.cons_append, partsB, partsB, ih, app_assoc, app_assoc, app_assoc]
theorem partsB_snoc (l : List ByteArray) (k : Nat) (p : ByteArray) (h : l[k]? = some p) : partsB (l.take (k + 1)) = partsB (l.take k) ++ (beB p.size 4 ++ p) := by
  rw [List.take_add_one, h, partsB_app]
  show _ = _
  rw [show (some p).toList = [p] from rfl, partsB, partsB, app_empty]
theorem total_take (l : List ByteArray) (k : Nat) : total (l.take k) ≤ total l := by
  induction l generalizing k with
  | nil => simp
  | cons p r ih =>
    cases k with
    | zero => simp [total]
    | succ k => rw [List.take_succ_cons, total, total]; have := ih k; omega
set_option maxHeartbeats 4000000 in
set_option maxRecDepth 100000 in
theorem feed_any (w0 w : World) (g : Nat) (s tag : ByteArray) (A : Option Addr) (c : Nat) (l : List ByteArray) (hb : Below w0.heap.size w0 w) (hT : Tab w0) (hS : Strs w0 A l) (h : HashAt w w0.heap.size g s) (ht : tag.size ≤ 40)
    (hz : s.size + 4 * l.length + total l ≤ 1099511627776) :
    Calls Tryd.prog 23 #[.func (.func 24) #[.pointer (some ⟨g, 0, none⟩)] #[], .string tag, .slice A l.length c] w fun e w' => e = .returned (.tuple #[]) ∧ HashAt w' w0.heap.size g (s ++ hashedB tag l) ∧ Below w0.heap.size w0 w' := by
  have hlt := hT.lt
  obtain ⟨B, eB⟩ : ∃ B : Nat, B = w0.heap.size := ⟨_, rfl⟩
  rw [← eB] at hlt h ⊢
  have N1 := Lib.hid (number_any w tag.size 1 (by omega))
  have HT := Lib.hid hT
  have HS := Lib.hid hS
  have H := Lib.hid h
  have HB := Lib.hid (eB ▸ hb : Below B w0 w)
  replace eB := Lib.hid eB
  clear hT hS h hb
  go_enter Tryd.func23, Tryd.ntmps23
  go_wp2_with fail
  refine N1.out.mono ?_
  rintro e w1 ⟨rfl, hb1⟩
  have h1 := H.out.below hb1
  have hbe1 := below_trans' HB.out (by have := HB.out.size; have := eB.out; omega) hb1
  have W1 := Lib.hid (write_any w1 B g s (beB tag.size 1) (HT.out.below (eB.out ▸ hbe1)) hlt (by have := hbe1.size; have := eB.out; omega) h1 (by rw [beB_size]; omega))
  replace hbe1 := Lib.hid hbe1
  clear h1 hb1
  go_wp2_with fail
  refine W1.out.mono ?_
  rintro e w2 ⟨rfl, h2, hb2⟩
  have hbe2 := hbe1.out.trans hb2
  have W2 := Lib.hid (write_any w2 B g _ tag (HT.out.below (eB.out ▸ hbe2)) hlt (by have := hbe2.size; have := eB.out; omega) h2 (by rw [app_size, beB_size]; omega))
  replace hbe2 := Lib.hid hbe2
  clear h2 hb2 hbe1 W1 N1
  go_wp2_with fail
  refine W2.out.mono ?_
  rintro e w3 ⟨rfl, h3, hb3⟩
  have hbe3 := hbe2.out.trans hb3
  replace h3 := Lib.hid h3
  replace hbe3 := Lib.hid hbe3
  clear hb3 hbe2 W2
  go_wp2_with fail
  go_loopw [18] (fun v18 wr => ∃ k : Nat, k ≤ l.length ∧ v18 = .int .i64 (k : Int) ∧ HashAt wr B g (s ++ beB tag.size 1 ++ tag ++ partsB (l.take k)) ∧ Below B w0 wr) (fun v18 _ => l.length - (intOf v18).toNat)
  case atStart => exact ⟨0, Nat.zero_le _, rfl, by rw [List.take_zero, partsB, app_empty]; exact h3.out, hbe3.out⟩
  case round =>
    obtain ⟨k, hk, rfl, hh, hbe⟩ := hrel
    by_cases hlt' : k < l.length
    · obtain ⟨q, hq⟩ : ∃ q, l[k]? = some q := ⟨_, List.getElem?_eq_getElem hlt'⟩
      obtain ⟨ad, rfl, hcl⟩ := HS.out.below (eB.out ▸ hbe) k q hq
      have hqz := total_le (List.mem_of_getElem? hq)
      have htk := total_take l k
      have hsn := partsB_snoc l k q hq
      have N2 := Lib.hid (number_any wr q.size 4 (by omega))
      replace hsn := Lib.hid hsn
      replace hh := Lib.hid hh
      replace hbe := Lib.hid hbe
      clear hq h3 hbe3
      have hsz2 : (s ++ beB tag.size 1 ++ tag ++ partsB (l.take k)).size ≤ 2199023255552 := by
        rw [app_size, app_size, app_size, beB_size, partsB_size, List.length_take]
        omega
      obtain ⟨S, hS⟩ : ∃ S, S = s ++ beB tag.size 1 ++ tag ++ partsB (l.take k) := ⟨_, rfl⟩
      rw [← hS] at hh hsz2
      replace hS := Lib.hid hS
      go_wp2_with fail
      refine N2.out.mono ?_
      rintro e w4 ⟨rfl, hb4⟩
      have h4 := hh.out.below hb4
      have hbe4 := below_trans' hbe.out (by have := hbe.out.size; have := eB.out; omega) hb4
      have W4 := Lib.hid (write_any w4 B g _ (beB q.size 4) (HT.out.below (eB.out ▸ hbe4)) hlt (by have := hbe4.size; have := eB.out; omega) h4 (by rw [beB_size]; omega))
      replace hbe4 := Lib.hid hbe4
      clear h4 hb4 N2 hh hbe
      go_wp2_with fail
      refine W4.out.mono ?_
      rintro e w5 ⟨rfl, h5, hb5⟩
      have hbe5 := hbe4.out.trans hb5
      have W5 := Lib.hid (write_any w5 B g _ q (HT.out.below (eB.out ▸ hbe5)) hlt (by have := hbe5.size; have := eB.out; omega) h5 (by rw [app_size, beB_size]; omega))
      replace hbe5 := Lib.hid hbe5
      clear h5 hb5 hbe4 W4
      go_wp2_with fail
      refine W5.out.mono ?_
      rintro e w6 ⟨rfl, h6, hb6⟩
      have hbe6 := hbe5.out.trans hb6
      have h6' : HashAt w6 B g (s ++ beB tag.size 1 ++ tag ++ partsB (l.take (k + 1))) := by
        rw [hsn.out, ← app_assoc, ← app_assoc, ← hS.out]
        exact h6
      replace h6' := Lib.hid h6'
      replace hbe6 := Lib.hid hbe6
      clear h6 hb6 hbe5 W5
      go_wp2
      go_roundw
      case rel => exact ⟨k + 1, by omega, by go_num, h6'.out, hbe6.out⟩
      case measure => simp [intOf]; omega
    · obtain rfl : k = l.length := by omega
      have hh' : HashAt wr B g (s ++ hashedB tag l) := by
        rw [List.take_length] at hh
        rw [hashedB, ← app_assoc, ← app_assoc]
        exact hh
      replace hh' := Lib.hid hh'
      replace hbe := Lib.hid hbe
      clear hh
      go_wp2
      go_end0
      exact ⟨rfl, hh'.out, hbe.out⟩
set_option maxHeartbeats 2000000 in
theorem bytes_any (w : World) (tag : ByteArray) (A : Option Addr) (c : Nat) (l : List ByteArray) (hT : Tab w) (hS : Strs w A l) (ht : 1 ≤ tag.size ∧ tag.size ≤ 40) (hz : 4 * l.length + total l ≤ 1099511627776) :
    Calls Tryd.prog 11 #[.string tag, .slice A l.length c] w fun e w' => e = .returned (.tuple #[.string (Sha.hash (hashedB tag l)), .int .i64 0]) ∧ Below w.heap.size w w' := by
  have hw : PDg.domain_wrong.f tag = some false := by rw [wrong_f, decide_eq_false (fun h => h ht)]
  have WR := Lib.hid (PDg.domain_wrong.calls tag false w hw)
  have HT := Lib.hid hT
  have HS := Lib.hid hS
  clear hT hS hw
  go_enter Tryd.func11, Tryd.ntmps11
  go_wp2_with fail
  refine WR.out.mono ?_
  rintro e w1 ⟨rfl, hD⟩
  have hb1 : Below w.heap.size w w1 := by
    obtain ⟨m, rfl⟩ := hD.out
    exact pw_below_drewN (Below.refl _ w) m
  have hT1 := HT.out.below hb1
  have H1 := HashAt.new w1
  have hB1 : Below w1.heap.size w1 (w1.alloc (.cells (hashCells Sha.init (.slice none 0 0) 0) 71)) := (Below.refl _ w1).alloc (Nat.le_refl _) _
  have F1 := Lib.hid (feed_any w1 _ w1.heap.size ⟨#[]⟩ tag A c l hB1 hT1 (HS.out.below hb1) H1 ht.2 (by show 0 + _ + _ ≤ _; omega))
  have HT1 := Lib.hid hT1
  replace hb1 := Lib.hid hb1
  clear H1 hT1 hB1 hD WR HS HT
  go_wp2_with fail
  refine (new_any w1).mono ?_
  rintro e w2 ⟨rfl, rfl⟩
  go_wp2_with fail
  refine F1.out.mono ?_
  rintro e w2 ⟨rfl, h2, hb2⟩
  rw [empty_app] at h2
  have S2 := Lib.hid (hsum_any w2 w1.heap.size w1.heap.size _ (HT1.out.below hb2) h2 (by rw [hashedB_size]; omega))
  have hb2' := below_then hb1.out hb1.out.size hb2
  replace hb2' := Lib.hid hb2'
  clear h2 hb2
  go_wp2_with fail
  refine S2.out.mono ?_
  rintro e w3 ⟨rfl, hb3⟩
  go_wp2
  go_ret2
  exact ⟨rfl, below_then hb2'.out hb2'.out.size hb3⟩
theorem one_hashed : hashedB ⟨#[116]⟩ [⟨#[97]⟩] = ⟨#[1, 116, 0, 0, 0, 1, 97]⟩ := by decide +kernel
set_option maxHeartbeats 2000000 in
theorem one_any (w : World) (hT : Tab w) : Calls Tryd.prog 8 #[] w fun e w' => e = .returned (.bool true) ∧ Below w.heap.size w w' := by
  have hb1 : Below w.heap.size w (w.alloc (.cells #[.string ⟨#[97]⟩] 9)) := (Below.refl _ w).alloc (Nat.le_refl _) _
  have hS : Strs (w.alloc (.cells #[.string ⟨#[97]⟩] 9)) (some ⟨w.heap.size, 0, none⟩) [⟨#[97]⟩] := fun i s hs => by
    match i, hs with
    | 0, hs =>
      obtain rfl := Option.some.inj hs
      exact ⟨_, rfl, Go.Joins.cell_of_block (heap_alloc_new w _) 0⟩
  have B1 := Lib.hid (bytes_any _ ⟨#[116]⟩ (some ⟨w.heap.size, 0, none⟩) 1 [⟨#[97]⟩] (hT.below hb1) hS (by decide) (by decide))
  have D1 := Lib.hid (fun w' (hb : Below w.heap.size w w') => sum_any w' ⟨#[1, 116, 0, 0, 0, 1, 97]⟩ (hT.below hb) (by decide))
  rw [one_hashed] at B1
  obtain ⟨H, hH⟩ : ∃ H, H = Sha.hash ⟨#[1, 116, 0, 0, 0, 1, 97]⟩ := ⟨_, rfl⟩
  have h32 : H.size = 32 := by rw [hH]; exact Sha.hash_size _
  rw [← hH] at B1 D1
  replace hH := Lib.hid hH
  replace hb1 := Lib.hid hb1
  clear hS hT
  go_enter Tryd.func8, Tryd.ntmps8
  go_wp2_with fail
  refine B1.out.mono ?_
  rintro e w2 ⟨rfl, hb2⟩
  have hb2' := below_then hb1.out hb1.out.size hb2
  have D2 := Lib.hid (D1.out w2 hb2')
  replace hb2' := Lib.hid hb2'
  clear hb2
  go_wp2_with fail
  refine D2.out.mono ?_
  rintro e w3 ⟨rfl, hb3⟩
  go_wp2
  go_ret
  exact ⟨rfl, below_then hb2'.out hb2'.out.size hb3⟩
end Go.Proofs.YtkmbpakhbicnaaaDoor
