/- The seal of a record, of the package and of the reference; a record as it is written. -/
import Derived.Test.YtmlfheagbfaoaaaDoorTb
import Derived.Test.YtmlfheagbfaoaaaDoorRSum
import Derived.Test.YtmlfheagbfaoaaaDoorLPlain
import Derived.Lib.Strings
namespace Go.Proofs.YtmlfheagbfaoaaaDoor
open Go.RowKit Go.Proofs.YtmlfheagbfaoaaaDoorW.PrintWords Go.Proofs.YtmlfheagbfaoaaaDoorW.PrintMore Go.Lib

theorem HashAt.below {w w' : World} {B g : Nat} {s : ByteArray} (h : HashAt w B g s) (hb : Below w.heap.size w w') : HashAt w' B g s := by
  obtain ⟨⟨rv, rest, hg, hbuf, r⟩, hge⟩ := h
  exact ⟨⟨rv, rest, (hb.block g (Array.getElem?_eq_some_iff.1 hg).1).trans hg, hbuf.move (fun k hk => hb.block k (hbuf.typed k hk).2.1), r⟩, hge⟩
/-- A record's seal, and a record as it stands in the file. -/
def sealB (n : Nat) (r : ByteArray) : ByteArray := (Sha.hash (beB n 8 ++ r)).extract 0 4
def writtenB (n : Nat) (r : ByteArray) : ByteArray := beB r.size 2 ++ r ++ sealB n r
theorem sealB_size (n : Nat) (r : ByteArray) : (sealB n r).size = 4 := by
  unfold sealB
  rw [ByteArray.size_extract, Sha.hash_size]
  rfl
theorem writtenB_size (n : Nat) (r : ByteArray) : (writtenB n r).size = r.size + 6 := by
  rw [writtenB, app_size, app_size, beB_size, sealB_size]
  omega

theorem HashAt.of_new {w : World} {B : Nat} (h : w.heap[B]? = some (.cells (hashCells Sha.init (.slice none 0 0) 0) 82 (0, 0))) : HashAt w B B ⟨#[]⟩ :=
  ⟨⟨.slice none 0 0, ⟨#[]⟩, h, .nil _ _ _ _ rfl, rfl, fun i hi => absurd hi (Nat.not_lt_zero i)⟩, Nat.le_refl _⟩
/-- The bytes of a number, the first i of eight. -/
def numF (n i x : Nat) : Nat := if x < i then n / 256 ^ (7 - x) % 256 else 0
theorem num_step {w : World} {g : Nat} {t : TypeId} {n i : Nat} (h : NRow w g t .u8 8 (numF n i)) (hi : i < 8) (z : Int) (hz : z = ((n / 256 ^ (7 - i) % 256 : Nat) : Int)) : NRow (w.setCell ⟨g, i, none⟩ (.int .u8 z)) g t .u8 8 (numF n (i + 1)) := by
  subst hz
  refine (h.set i _ hi).eq (fun x _ => ?_)
  unfold numF
  by_cases e : x = i
  · rw [if_pos e, if_pos (by omega), e]
  · rw [if_neg e]
    by_cases hx : x < i
    · rw [if_pos hx, if_pos (by omega)]
    · rw [if_neg hx, if_neg (by omega)]
theorem num_bytes (n : Nat) : (⟨((List.range 8).map fun i => UInt8.ofNat (numF n 8 i)).toArray⟩ : ByteArray) = beB n 8 := by
  have e : ∀ m : Nat, UInt8.ofNat (m % 256) = UInt8.ofNat m := fun m => UInt8.toNat_inj.1 (by simp)
  unfold beB
  congr 1
  congr 1
  simp [List.range_succ, numF, beL, e]
set_option maxHeartbeats 8000000 in
set_option maxRecDepth 100000 in
theorem seal_any (w : World) (n : Nat) (r : ByteArray) (hT : Tab w) (hn : n < 1099511627776) (hr : r.size ≤ 1099511627776) :
    Calls Tryd.prog 31 #[.int .i64 (n : Int), .string r] w fun e w' => e = .returned (.string (sealB n r)) ∧ Below w.heap.size w w' := by
  have hlt := hT.lt
  have HT := Lib.hid hT
  clear hT
  have hB1 : Below w.heap.size w (w.alloc (.cells (hashCells Sha.init (.slice none 0 0) 0) 82)) := (Below.refl _ w).alloc (Nat.le_refl _) _
  have hB2 := hB1.alloc hB1.size (.cells #[.int .u8 0, .int .u8 0, .int .u8 0, .int .u8 0, .int .u8 0, .int .u8 0, .int .u8 0, .int .u8 0] 71)
  have hR1 : NRow ((w.alloc (.cells (hashCells Sha.init (.slice none 0 0) 0) 82)).alloc (.cells #[.int .u8 0, .int .u8 0, .int .u8 0, .int .u8 0, .int .u8 0, .int .u8 0, .int .u8 0, .int .u8 0] 71)) (w.heap.size + 1) 71 .u8 8 (numF n 0) :=
    ⟨_, heap_alloc2_new _ _ _, rfl, fun i hi => by
      show (Array.replicate 8 (Value.int .u8 0))[i]? = _
      rw [Array.getElem?_replicate, if_pos hi]
      rfl⟩
  have hg1 : ((w.alloc (.cells (hashCells Sha.init (.slice none 0 0) 0) 82)).alloc (.cells #[.int .u8 0, .int .u8 0, .int .u8 0, .int .u8 0, .int .u8 0, .int .u8 0, .int .u8 0, .int .u8 0] 71)).heap[w.heap.size]? = some (.cells (hashCells Sha.init (.slice none 0 0) 0) 82 (0, 0)) := heap_alloc2_old _ _ _
  replace hB2 := Lib.hid hB2
  replace hR1 := Lib.hid hR1
  replace hg1 := Lib.hid hg1
  clear hB1
  go_enter Tryd.func31, Tryd.ntmps31
  go_wp2_with fail
  refine (new_any w).mono ?_
  rintro e w1 ⟨rfl, rfl⟩
  go_wp2_with fail
  obtain ⟨B, eB⟩ : ∃ B : Nat, B = w.heap.size := ⟨_, rfl⟩
  rw [← eB] at hR1 hg1 hB2 hlt ⊢
  generalize (w.alloc (.cells (hashCells Sha.init (.slice none 0 0) 0) 82)).alloc (.cells #[.int .u8 0, .int .u8 0, .int .u8 0, .int .u8 0, .int .u8 0, .int .u8 0, .int .u8 0, .int .u8 0] 71) = w2 at hR1 hg1 hB2 ⊢
  replace eB := Lib.hid eB
  go_loopw [9] (fun v9 wr => ∃ i : Nat, i ≤ 8 ∧ v9 = .int .i64 (i : Int) ∧ NRow wr (B + 1) 71 .u8 8 (numF n i) ∧ wr.heap[B]? = some (.cells (hashCells Sha.init (.slice none 0 0) 0) 82 (0, 0)) ∧ Below B w wr) (fun v9 _ => 8 - (intOf v9).toNat)
  case atStart => exact ⟨0, by omega, rfl, hR1.out, hg1.out, hB2.out⟩
  case round =>
    obtain ⟨i, hi, rfl, hro, hgw, hbe⟩ := hrel
    by_cases hi8 : i < 8
    · have hci := hro.cell i hi8
      have hfz := hro.free i
      generalize numF n i i = old at hci
      replace hro := Lib.hid hro
      replace hgw := Lib.hid hgw
      replace hbe := Lib.hid hbe
      obtain rfl | rfl | rfl | rfl | rfl | rfl | rfl | rfl : i = 0 ∨ i = 1 ∨ i = 2 ∨ i = 3 ∨ i = 4 ∨ i = 5 ∨ i = 6 ∨ i = 7 := by omega
      · have hv : ((n / 256 ^ (7 - 0) % 256 : Nat) : Int) = (n : Int) / 72057594037927936 % 256 := by
          show ((n / 72057594037927936 % 256 : Nat) : Int) = _
          omega
        replace hv := Lib.hid hv
        go_wp2
        go_roundw
        case rel => exact ⟨1, by omega, by go_num, num_step hro.out (by decide) _ (by rw [hv.out]; try omega), (Below.heap_setCell wr ⟨B + 1, 0, none⟩ _ B (by show B ≠ B + 1; omega)).trans hgw.out, hbe.out.setCell (by show B ≤ B + 1; omega) _⟩
        case measure => simp [intOf]
      · have hv : ((n / 256 ^ (7 - 1) % 256 : Nat) : Int) = (n : Int) / 281474976710656 % 256 := by
          show ((n / 281474976710656 % 256 : Nat) : Int) = _
          omega
        replace hv := Lib.hid hv
        go_wp2
        go_roundw
        case rel => exact ⟨2, by omega, by go_num, num_step hro.out (by decide) _ (by rw [hv.out]; try omega), (Below.heap_setCell wr ⟨B + 1, 1, none⟩ _ B (by show B ≠ B + 1; omega)).trans hgw.out, hbe.out.setCell (by show B ≤ B + 1; omega) _⟩
        case measure => simp [intOf]
      · have hv : ((n / 256 ^ (7 - 2) % 256 : Nat) : Int) = (n : Int) / 1099511627776 % 256 := by
          show ((n / 1099511627776 % 256 : Nat) : Int) = _
          omega
        replace hv := Lib.hid hv
        go_wp2
        go_roundw
        case rel => exact ⟨3, by omega, by go_num, num_step hro.out (by decide) _ (by rw [hv.out]; try omega), (Below.heap_setCell wr ⟨B + 1, 2, none⟩ _ B (by show B ≠ B + 1; omega)).trans hgw.out, hbe.out.setCell (by show B ≤ B + 1; omega) _⟩
        case measure => simp [intOf]
      · have hv : ((n / 256 ^ (7 - 3) % 256 : Nat) : Int) = (n : Int) / 4294967296 % 256 := by
          show ((n / 4294967296 % 256 : Nat) : Int) = _
          omega
        replace hv := Lib.hid hv
        go_wp2
        go_roundw
        case rel => exact ⟨4, by omega, by go_num, num_step hro.out (by decide) _ (by rw [hv.out]; try omega), (Below.heap_setCell wr ⟨B + 1, 3, none⟩ _ B (by show B ≠ B + 1; omega)).trans hgw.out, hbe.out.setCell (by show B ≤ B + 1; omega) _⟩
        case measure => simp [intOf]
      · have hv : ((n / 256 ^ (7 - 4) % 256 : Nat) : Int) = (n : Int) / 16777216 % 256 := by
          show ((n / 16777216 % 256 : Nat) : Int) = _
          omega
        replace hv := Lib.hid hv
        go_wp2
        go_roundw
        case rel => exact ⟨5, by omega, by go_num, num_step hro.out (by decide) _ (by rw [hv.out]; try omega), (Below.heap_setCell wr ⟨B + 1, 4, none⟩ _ B (by show B ≠ B + 1; omega)).trans hgw.out, hbe.out.setCell (by show B ≤ B + 1; omega) _⟩
        case measure => simp [intOf]
      · have hv : ((n / 256 ^ (7 - 5) % 256 : Nat) : Int) = (n : Int) / 65536 % 256 := by
          show ((n / 65536 % 256 : Nat) : Int) = _
          omega
        replace hv := Lib.hid hv
        go_wp2
        go_roundw
        case rel => exact ⟨6, by omega, by go_num, num_step hro.out (by decide) _ (by rw [hv.out]; try omega), (Below.heap_setCell wr ⟨B + 1, 5, none⟩ _ B (by show B ≠ B + 1; omega)).trans hgw.out, hbe.out.setCell (by show B ≤ B + 1; omega) _⟩
        case measure => simp [intOf]
      · have hv : ((n / 256 ^ (7 - 6) % 256 : Nat) : Int) = (n : Int) / 256 % 256 := by
          show ((n / 256 % 256 : Nat) : Int) = _
          omega
        replace hv := Lib.hid hv
        go_wp2
        go_roundw
        case rel => exact ⟨7, by omega, by go_num, num_step hro.out (by decide) _ (by rw [hv.out]; try omega), (Below.heap_setCell wr ⟨B + 1, 6, none⟩ _ B (by show B ≠ B + 1; omega)).trans hgw.out, hbe.out.setCell (by show B ≤ B + 1; omega) _⟩
        case measure => simp [intOf]
      · have hv : ((n / 256 ^ (7 - 7) % 256 : Nat) : Int) = (n : Int) / 1 % 256 := by
          show ((n / 1 % 256 : Nat) : Int) = _
          omega
        replace hv := Lib.hid hv
        go_wp2
        go_roundw
        case rel => exact ⟨8, by omega, by go_num, num_step hro.out (by decide) _ (by rw [hv.out]; try omega), (Below.heap_setCell wr ⟨B + 1, 7, none⟩ _ B (by show B ≠ B + 1; omega)).trans hgw.out, hbe.out.setCell (by show B ≤ B + 1; omega) _⟩
        case measure => simp [intOf]
    · obtain rfl : i = 8 := by omega
      have hcv := hro.string (c := 8) Tryd.underlying56 Tryd.underlying5 Tryd.underlying9 (by decide)
      rw [num_bytes] at hcv
      replace hcv : (convert 56 9 (.slice (some ⟨B + 1, 0, none⟩) 8 8)).run Tryd.prog wr = .ok (.string (beB n 8)) wr := hcv
      have hH := HashAt.of_new hgw
      have W1 := Lib.hid (write_any wr B B ⟨#[]⟩ (beB n 8) (HT.out.below (eB.out ▸ hbe)) hlt (by have := hbe.size; have := eB.out; omega) hH (by rw [beB_size]; decide))
      replace hbe := Lib.hid hbe
      clear hro hgw hH
      go_wp2_with fail
      refine W1.out.mono ?_
      rintro e w3 ⟨rfl, h3, hb3⟩
      rw [empty_app] at h3
      have hbe3 := hbe.out.trans hb3
      have W2 := Lib.hid (write_any w3 B B _ r (HT.out.below (eB.out ▸ hbe3)) hlt (by have := hbe3.size; have := eB.out; omega) h3 (by rw [beB_size]; omega))
      replace hbe3 := Lib.hid hbe3
      clear h3 hb3 W1 hbe
      go_wp2_with fail
      refine W2.out.mono ?_
      rintro e w4 ⟨rfl, h4, hb4⟩
      have hbe4 := hbe3.out.trans hb4
      have S1 := Lib.hid (hsum_any w4 B B _ (HT.out.below (eB.out ▸ hbe4)) h4 (by rw [app_size, beB_size]; omega))
      obtain ⟨H, hH⟩ : ∃ H, H = Sha.hash (beB n 8 ++ r) := ⟨_, rfl⟩
      have h32 : H.size = 32 := by rw [hH]; exact Sha.hash_size _
      rw [← hH] at S1
      have hs : sealB n r = H.extract 0 4 := by rw [hH]; rfl
      replace hbe4 := Lib.hid hbe4
      replace hH := Lib.hid hH
      replace hs := Lib.hid hs
      clear h4 hb4 W2 hbe3
      go_wp2_with fail
      refine S1.out.mono ?_
      rintro e w5 ⟨rfl, hb5⟩
      go_wp2
      go_ret
      exact ⟨by rw [hs.out]; try rfl, eB.out ▸ below_trans' hbe4.out (by have := hbe4.out.size; have := eB.out; omega) hb5⟩
end Go.Proofs.YtmlfheagbfaoaaaDoor
