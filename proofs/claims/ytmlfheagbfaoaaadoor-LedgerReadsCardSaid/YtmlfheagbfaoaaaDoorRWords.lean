/- The walk of the reference's words of a padded text. -/
import Derived.Test.YtmlfheagbfaoaaaDoorFin
import Derived.RegionTactic
import Derived.ChangeAlike
import Derived.BigRegion
namespace Go.Proofs.YtmlfheagbfaoaaaDoor
open Go.RowKit Go.Proofs.YtmlfheagbfaoaaaDoorW.PrintWords Go.Proofs.YtmlfheagbfaoaaaDoorW.PrintMore Go.Lib

theorem info_int : (Tryd.prog.info? 3).map (fun i => (i.zero, i.size, i.bytes)) = some (some (.int .i64 0), 1, 8) := by kernel_rfl
theorem lastN_whole (s : ByteArray) (j x : Nat) (hz : 8 * s.size / 256 ^ j = 0) (hj : j ≤ 7) (hx : x < 64 * Sha.blocks s.size) : lastN s (8 * s.size) (Sha.blocks s.size) j x = Sha.padded s x := by
  have hb : s.size + 9 ≤ 64 * Sha.blocks s.size := by unfold Sha.blocks; omega
  unfold lastN lastB Sha.padded
  by_cases h : 64 * Sha.blocks s.size ≤ x + j ∧ x < 64 * Sha.blocks s.size
  · have e1 : ¬ x < s.size := by omega
    have e2 : ¬ x = s.size := by omega
    rw [if_pos h, if_neg e1, if_neg e2]
  · rw [if_neg h]
    by_cases h1 : x < s.size
    · rw [if_pos h1, if_pos h1]
    · by_cases h2 : x = s.size
      · rw [if_neg h1, if_neg h1, if_pos h2, if_pos h2]
      · rw [if_neg h1, if_neg h1, if_neg h2, if_neg h2, div_pow_zero hz (by omega)]

set_option maxHeartbeats 4000000 in
set_option maxRecDepth 100000 in
theorem words_any (w : World) (s : ByteArray) (hs : s.size ≤ 140737488351232) :
    Calls Tryd.prog 37 #[.string s] w fun e w' => (∃ g, e = .returned (.slice (some ⟨g, 0, none⟩) (16 * Sha.blocks s.size) (16 * Sha.blocks s.size)) ∧ NRow w' g 3 .i64 (16 * Sha.blocks s.size) (Sha.word (Sha.padded s)) ∧ w.heap.size ≤ g) ∧ Below w.heap.size w w' := by
  obtain ⟨i0, hi, hz0, hz1, hz2⟩ := info_parts info_u8
  obtain ⟨j0, hj0, hz0', hz1', hz2'⟩ := info_parts info_int
  obtain ⟨K, hK⟩ : ∃ K : Nat, K = Sha.blocks s.size := ⟨_, rfl⟩
  have hK1 : s.size + 9 ≤ 64 * K := by rw [hK]; unfold Sha.blocks; omega
  have hK2 : 64 * K ≤ s.size + 72 := by rw [hK]; unfold Sha.blocks; omega
  rw [← hK]
  replace hK := Lib.hid hK
  go_enter Tryd.func37, Tryd.ntmps37
  go_wp2_with fail
  go_loop [3] (fun v3 => ∃ z : Nat, v3 = .int .i64 (z : Int) ∧ s.size + 9 ≤ z ∧ z ≤ 64 * K) (fun v3 => 64 * K - (intOf v3).toNat)
  case atStart => exact ⟨s.size + 9, by go_num, by omega, by omega⟩
  case round =>
    obtain ⟨z, rfl, hz3, hz4⟩ := hrel
    by_cases hm : z % 64 = 0
    · obtain rfl : z = 64 * K := by omega
      clear hm hz3 hz4
      go_wp2_with (first
        | (at_make; refine wpList_make_row rfl _ _ 56 rfl 5 i0 .u8 Tryd.underlying56 hi hz0 hz1 _ _ _ _ (64 * K) (64 * K) rfl rfl (by omega) (by omega) (by omega) (by rw [hz2]; omega) (by omega) ?_))
      intro w1 HR1 HB1 HS1
      obtain ⟨gb, egb⟩ : ∃ gb : Nat, gb = w.heap.size := ⟨_, rfl⟩
      rw [← egb] at HR1 HS1 HB1 ⊢
      replace egb := Lib.hid egb
      go_wp2_with fail
      go_loopw [5] (fun v5 wr => ∃ i : Nat, i ≤ s.size ∧ v5 = .int .i64 (i : Int) ∧ NRow wr gb 5 .u8 (64 * K) (fun x => if x < i then Sha.by8 s x else 0) ∧ Below gb w wr) (fun v5 _ => s.size - (intOf v5).toNat)
      case atStart => exact ⟨0, by omega, rfl, HR1.out.eq (fun x _ => by rw [if_neg (Nat.not_lt_zero x)]), HB1.out⟩
      case round =>
        obtain ⟨i, hil, rfl, hrow, hbe⟩ := hrel
        by_cases hlt : i < s.size
        · have hcl := hrow.cell i (by omega)
          have hfz := hrow.free i
          simp only [Nat.lt_irrefl, if_false] at hcl
          have hi64 : i < 64 * K := by omega
          have hset := (hrow.set i (s[i]'hlt).toNat hi64).eq (f' := fun x => if x < i + 1 then Sha.by8 s x else 0) (fun x _ => by
            by_cases e : x = i
            · subst e
              rw [if_pos rfl, if_pos (by omega), by8_at]
            · rw [if_neg e]
              by_cases h : x < i
              · rw [if_pos h, if_pos (by omega)]
              · rw [if_neg h, if_neg (by omega)])
          replace hset := Lib.hid hset
          replace hbe := Lib.hid hbe
          clear hrow
          go_wp2
          go_roundw
          case rel => exact ⟨i + 1, by omega, by go_num, hset.out, hbe.out.setCell (Nat.le_refl _) _⟩
          case measure => simp [intOf]; omega
        · obtain rfl : i = s.size := by omega
          have hcl := hrow.cell s.size (by omega)
          have hfz := hrow.free s.size
          simp only [Nat.lt_irrefl, if_false] at hcl
          have hsk : s.size < 64 * K := by omega
          have hsk' : (s.size : Int) < 64 * (K : Int) := by omega
          have hset := (hrow.set s.size 128 hsk).eq (f' := lastN s (8 * s.size) K 0) (fun x _ => by
            rw [lastN_zero]
            unfold lastB
            by_cases e : x = s.size
            · rw [if_pos e, if_neg (by omega), if_pos e]
            · rw [if_neg e]
              by_cases h : x < s.size
              · rw [if_pos h, if_pos h]
              · rw [if_neg h, if_neg h, if_neg e])
          have hbe1 := hbe.setCell (p := ⟨gb, s.size, none⟩) (Nat.le_refl _) (.int .u8 128)
          replace hset := Lib.hid hset
          replace hbe1 := Lib.hid hbe1
          clear hrow hbe
          go_wp2
          generalize wr.setCell ⟨gb, s.size, none⟩ (.int .u8 128) = w2 at hset hbe1 ⊢
          go_loopw [6, 7] (fun v6 v7 wr => ∃ (j z : Nat) (i : Int), z = 8 * s.size / 256 ^ j ∧ j ≤ 7 ∧ i = 64 * (K : Int) - 1 - (j : Int) ∧ v7 = .int .i64 i ∧ v6 = .int .i64 (z : Int) ∧
            NRow wr gb 5 .u8 (64 * K) (lastN s (8 * s.size) K j) ∧ Below gb w wr) (fun v6 _ _ => (intOf v6).toNat)
          case atStart => exact ⟨0, 8 * s.size, 64 * (K : Int) - 1, by simp, by omega, by omega, rfl, by go_num, hset.out, hbe1.out⟩
          case round =>
            obtain ⟨j, z, i, hz, hj, hi', rfl, rfl, hrow, hbe⟩ := hrel
            by_cases h0 : 0 < z
            · have hj7 : j < 7 := by
                rcases Nat.lt_or_ge j 7 with h | h
                · exact h
                · have : j = 7 := by omega
                  rw [this, z_small s.size (by omega)] at hz
                  omega
              obtain ⟨p, rfl⟩ : ∃ p : Nat, i = (p : Int) := ⟨i.toNat, by omega⟩
              have hp : p + j + 1 = 64 * K := by omega
              have hp1 : p < 64 * K := by omega
              have hp2 : (p : Int) < 64 * (K : Int) := by omega
              have hfz := hrow.free p
              have hzz : z / 256 = 8 * s.size / 256 ^ (j + 1) := by rw [hz, Nat.div_div_eq_div_mul, Nat.pow_succ]
              have hzb : z ≤ 8 * s.size := by rw [hz]; exact Nat.div_le_self _ _
              obtain ⟨v, hv⟩ : ∃ v : Nat, v = z % 256 := ⟨_, rfl⟩
              have hv0 : (z : Int).tmod 256 = (v : Int) := by rw [Int.tmod_eq_emod_of_nonneg (by omega)]; omega
              have hv2 : v < 256 := by omega
              have hv1 : IntKind.u8.wrap (v : Int) = (v : Int) := by simp [IntKind.wrap, IntKind.signed, IntKind.bits]; omega
              have hset := (hrow.set p v hp1).eq (f' := lastN s (8 * s.size) K (j + 1)) (fun x _ => by
                rw [hv, hz]
                exact lastN_set s (8 * s.size) K j p x hp)
              have hcl := hrow.cell p hp1
              generalize lastN s (8 * s.size) K j p = old at hcl
              replace hz := Lib.hid hz
              replace hzz := Lib.hid hzz
              replace hi' := Lib.hid hi'
              replace hp := Lib.hid hp
              replace hv := Lib.hid hv
              replace hset := Lib.hid hset
              replace hbe := Lib.hid hbe
              clear hrow
              go_wp2
              go_roundw
              case rel => exact ⟨j + 1, z / 256, (p : Int) - 1, hzz.out, by omega, by have := hi'.out; omega, by go_num, by go_num, hset.out, hbe.out.setCell (Nat.le_refl _) _⟩
              case measure => simp [intOf]; omega
            · obtain rfl : z = 0 := by omega
              have hend := hrow.eq (f' := Sha.padded s) (fun x hx => by
                have h := lastN_whole s j x hz.symm hj (by rw [← hK.out]; exact hx)
                rwa [← hK.out] at h)
              replace hend := Lib.hid hend
              replace hbe := Lib.hid hbe
              replace hz := Lib.hid hz
              replace hi' := Lib.hid hi'
              clear hrow
              have eq4 : (64 * (K : Int)).tdiv 4 = 16 * (K : Int) := by rw [Int.tdiv_eq_ediv_of_nonneg (by omega)]; omega
              go_wp2_with (first
                | (at_make; refine wpList_make_row rfl _ _ 74 rfl 3 j0 .i64 Tryd.underlying74 hj0 hz0' hz1' _ _ _ _ (16 * K) (16 * K) rfl rfl (by omega) (by omega) (by omega) (by rw [hz2']; omega) (by omega) ?_))
              intro w3 HR3 HB3 HS3
              have hgb3 : NRow w3 gb 5 .u8 (64 * K) (Sha.padded s) := hend.out.below HB3.out hend.out.lt
              have hbe3 : Below gb w w3 := below_trans' hbe.out (Nat.le_of_lt hend.out.lt) HB3.out
              have hlt := hend.out.lt
              obtain ⟨go, ego⟩ : ∃ go : Nat, go = wr.heap.size := ⟨_, rfl⟩
              rw [← ego] at HR3 HS3 hlt ⊢
              replace ego := Lib.hid ego
              replace hgb3 := Lib.hid hgb3
              replace hbe3 := Lib.hid hbe3
              clear hend hbe HB3
              go_wp2_with fail
              go_loopw [9] (fun v9 wr => ∃ i : Nat, i ≤ 64 * K ∧ v9 = .int .i64 (i : Int) ∧ NRow wr go 3 .i64 (16 * K) (fun x => Sha.pw (Sha.padded s) x (min 4 (i - 4 * x))) ∧ NRow wr gb 5 .u8 (64 * K) (Sha.padded s) ∧ Below gb w wr) (fun v9 _ => 64 * K - (intOf v9).toNat)
              case atStart => exact ⟨0, by omega, rfl, HR3.out.eq (fun x _ => by simp [Sha.pw]), hgb3.out, hbe3.out⟩
              case round =>
                obtain ⟨i, hik, rfl, hro, hrb, hbe⟩ := hrel
                by_cases hlt4 : i < 64 * K
                · obtain ⟨j, hj⟩ : ∃ j : Nat, j = i / 4 := ⟨_, rfl⟩
                  have hj16 : j < 16 * K := by omega
                  have hj16' : (j : Int) < 16 * (K : Int) := by omega
                  have hi64' : (i : Int) < 64 * (K : Int) := by omega
                  have e1 : (i : Int).tdiv 4 = (j : Int) := by rw [Int.tdiv_eq_ediv_of_nonneg (by omega)]; omega
                  have hcj := hro.cell j hj16
                  have hfz := hro.free j
                  have hcb := hrb.cell i hlt4
                  obtain ⟨p, hp⟩ : ∃ p : Nat, p = Sha.pw (Sha.padded s) j (min 4 (i - 4 * j)) := ⟨_, rfl⟩
                  simp only [← hp] at hcj
                  obtain ⟨q, hq⟩ : ∃ q : Nat, q = Sha.padded s i := ⟨_, rfl⟩
                  rw [← hq] at hcb
                  have hpl : p < 16777216 := by rw [hp, show min 4 (i - 4 * j) = i % 4 by omega]; exact Nat.lt_of_lt_of_le (Sha.pw_lt j (i % 4) (fun k _ => padded_lt s _)) (Nat.pow_le_pow_right (n := 256) (j := 3) (by decide) (by omega))
                  have hql : q < 256 := by rw [hq]; exact padded_lt s i
                  have hset := (hro.set j (256 * p + q) hj16).eq (f' := fun x => Sha.pw (Sha.padded s) x (min 4 (i + 1 - 4 * x))) (fun x _ => word_step (Sha.padded s) i j x (256 * p + q) (by rw [hp, hq, Nat.mul_comm]) hj)
                  have hcst : ((256 * p + q : Nat) : Int) = 256 * (p : Int) + (q : Int) := by omega
                  rw [hcst] at hset
                  have hrb' := hrb.other ⟨go, j, none⟩ (.int .i64 (256 * (p : Int) + (q : Int))) (by show gb ≠ go; omega)
                  replace hset := Lib.hid hset
                  replace hrb' := Lib.hid hrb'
                  replace hbe := Lib.hid hbe
                  replace hp := Lib.hid hp
                  replace hq := Lib.hid hq
                  replace hj := Lib.hid hj
                  clear hro hrb hcst
                  go_wp2
                  go_region
                  all_goals go_wp2
                  go_roundw
                  case rel => exact ⟨i + 1, by omega, by go_num, hset.out.drewN 1, hrb'.out.drewN 1, (hbe.out.setCell (p := ⟨go, j, none⟩) (by show gb ≤ go; omega) _).drew⟩
                  case measure => simp [intOf]; omega
                · obtain rfl : i = 64 * K := by omega
                  have hfin := hro.eq (f' := Sha.word (Sha.padded s)) (fun x hx => by
                    rw [show min 4 (64 * K - 4 * x) = 4 by omega]
                    rfl)
                  replace hfin := Lib.hid hfin
                  replace hbe := Lib.hid hbe
                  clear hro hrb
                  go_wp2
                  go_ret
                  exact ⟨⟨go, rfl, hfin.out, by rw [← egb.out]; omega⟩, by rw [← egb.out]; exact hbe.out⟩
    · have e1 : ((z : Int).tmod 64 == 0) = false := by rw [Int.tmod_eq_emod_of_nonneg (by omega)]; simp; omega
      have e2 : ((z : Int).tmod 64 != 0) = true := by rw [Int.tmod_eq_emod_of_nonneg (by omega)]; simp; omega
      go_wp2
      go_round
      case rel => exact ⟨z + 1, by go_num, by omega, by omega⟩
      case measure => simp [intOf]; omega
end Go.Proofs.YtmlfheagbfaoaaaDoor
