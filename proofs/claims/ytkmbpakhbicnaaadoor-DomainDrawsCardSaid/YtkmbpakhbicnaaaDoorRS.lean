/- The walk of the reference's words of a padded text.
The reference's words, rounds and schedule, plainly: they are the sum's.
The walk of the reference's sum. -/
import Derived.Test.YtkmbpakhbicnaaaDoorFin
import Derived.RegionTactic
import Derived.ChangeAlike
import Derived.BigRegion
import Derived.Test.YtkmbpakhbicnaaaDoorPDgx
import Derived.Test.YtkmbpakhbicnaaaDoorSha
import Derived.StillTailTactics
import Derived.LoopTactic
namespace Go.Proofs.YtkmbpakhbicnaaaDoor
open Go.RowKit Go.Proofs.YtkmbpakhbicnaaaDoorW.PrintWords Go.Proofs.YtkmbpakhbicnaaaDoorW.PrintMore Go.Lib

theorem info_int : (Tryd.prog.info? 3).map (fun i => (i.zero, i.size, i.bytes)) = some (some (.int .i64 0), 1, 8) := by kernel_rfl
theorem lastN_whole (s : ByteArray) (j x : Nat) (hz : 8 * s.size / 256 ^ j = 0) (hj : j ≤ 7) (hx : x < 64 * Sha.blocks s.size) : lastN s (8 * s.size) (Sha.blocks s.size) j x = Sha.padded s x := by
  have hb : s.size + 9 ≤ 64 * Sha.blocks s.size := by unfold Sha.blocks; omega
  unfold lastN lastB Sha.padded
  by_cases h : 64 * Sha.blocks s.size ≤ x + j ∧ x < 64 * Sha.blocks s.size
  · have e1 : ¬ x < s.size := by omega
    have e2 : ¬ x = s.size := by omega
    rw [if_pos h, if_neg e1, if_neg e2]
  · rw [if_neg h]
    by_cases h1 : x < s.size
    · rw [if_pos h1, if_pos h1]
    · by_cases h2 : x = s.size
      · rw [if_neg h1, if_neg h1, if_pos h2, if_pos h2]
      · rw [if_neg h1, if_neg h1, if_neg h2, if_neg h2, div_pow_zero hz (by omega)]

set_option maxHeartbeats 4000000 in
set_option maxRecDepth 100000 in
theorem words_any (w : World) (s : ByteArray) (hs : s.size ≤ 140737488351232) :
    Calls Tryd.prog 36 #[.string s] w fun e w' => (∃ g, e = .returned (.slice (some ⟨g, 0, none⟩) (16 * Sha.blocks s.size) (16 * Sha.blocks s.size)) ∧ NRow w' g 3 .i64 (16 * Sha.blocks s.size) (Sha.word (Sha.padded s)) ∧ w.heap.size ≤ g) ∧ Below w.heap.size w w' := by
  obtain ⟨i0, hi, hz0, hz1, hz2⟩ := info_parts info_u8
  obtain ⟨j0, hj0, hz0', hz1', hz2'⟩ := info_parts info_int
  obtain ⟨K, hK⟩ : ∃ K : Nat, K = Sha.blocks s.size := ⟨_, rfl⟩
  have hK1 : s.size + 9 ≤ 64 * K := by rw [hK]; unfold Sha.blocks; omega
  have hK2 : 64 * K ≤ s.size + 72 := by rw [hK]; unfold Sha.blocks; omega
  rw [← hK]
  replace hK := Lib.hid hK
  go_enter Tryd.func36, Tryd.ntmps36
  go_wp2_with fail
  go_loop [3] (fun v3 => ∃ z : Nat, v3 = .int .i64 (z : Int) ∧ s.size + 9 ≤ z ∧ z ≤ 64 * K) (fun v3 => 64 * K - (intOf v3).toNat)
  case atStart => exact ⟨s.size + 9, by go_num, by omega, by omega⟩
  case round =>
    obtain ⟨z, rfl, hz3, hz4⟩ := hrel
    by_cases hm : z % 64 = 0
    · obtain rfl : z = 64 * K := by omega
      clear hm hz3 hz4
      go_wp2_with (first
        | (at_make; refine wpList_make_row rfl _ _ 67 rfl 5 i0 .u8 Tryd.underlying67 hi hz0 hz1 _ _ _ _ (64 * K) (64 * K) rfl rfl (by omega) (by omega) (by omega) (by rw [hz2]; omega) (by omega) ?_))
      intro w1 HR1 HB1 HS1
      obtain ⟨gb, egb⟩ : ∃ gb : Nat, gb = w.heap.size := ⟨_, rfl⟩
      rw [← egb] at HR1 HS1 HB1 ⊢
      replace egb := Lib.hid egb
      go_wp2_with fail
      go_loopw [5] (fun v5 wr => ∃ i : Nat, i ≤ s.size ∧ v5 = .int .i64 (i : Int) ∧ NRow wr gb 5 .u8 (64 * K) (fun x => if x < i then Sha.by8 s x else 0) ∧ Below gb w wr) (fun v5 _ => s.size - (intOf v5).toNat)
      case atStart => exact ⟨0, by omega, rfl, HR1.out.eq (fun x _ => by rw [if_neg (Nat.not_lt_zero x)]), HB1.out⟩
      case round =>
        obtain ⟨i, hil, rfl, hrow, hbe⟩ := hrel
        by_cases hlt : i < s.size
        · have hcl := hrow.cell i (by omega)
          have hfz := hrow.free i
          simp only [Nat.lt_irrefl, if_false] at hcl
          have hi64 : i < 64 * K := by omega
          have hset := (hrow.set i (s[i]'hlt).toNat hi64).eq (f' := fun x => if x < i + 1 then Sha.by8 s x else 0) (fun x _ => by
            by_cases e : x = i
            · subst e
              rw [if_pos rfl, if_pos (by omega), by8_at]
            · rw [if_neg e]
              by_cases h : x < i
              · rw [if_pos h, if_pos (by omega)]
              · rw [if_neg h, if_neg (by omega)])
          replace hset := Lib.hid hset
          replace hbe := Lib.hid hbe
          clear hrow
          go_wp2
          go_roundw
          case rel => exact ⟨i + 1, by omega, by go_num, hset.out, hbe.out.setCell (Nat.le_refl _) _⟩
          case measure => simp [intOf]; omega
        · obtain rfl : i = s.size := by omega
          have hcl := hrow.cell s.size (by omega)
          have hfz := hrow.free s.size
          simp only [Nat.lt_irrefl, if_false] at hcl
          have hsk : s.size < 64 * K := by omega
          have hsk' : (s.size : Int) < 64 * (K : Int) := by omega
          have hset := (hrow.set s.size 128 hsk).eq (f' := lastN s (8 * s.size) K 0) (fun x _ => by
            rw [lastN_zero]
            unfold lastB
            by_cases e : x = s.size
            · rw [if_pos e, if_neg (by omega), if_pos e]
            · rw [if_neg e]
              by_cases h : x < s.size
              · rw [if_pos h, if_pos h]
              · rw [if_neg h, if_neg h, if_neg e])
          have hbe1 := hbe.setCell (p := ⟨gb, s.size, none⟩) (Nat.le_refl _) (.int .u8 128)
          replace hset := Lib.hid hset
          replace hbe1 := Lib.hid hbe1
          clear hrow hbe
          go_wp2
          generalize wr.setCell ⟨gb, s.size, none⟩ (.int .u8 128) = w2 at hset hbe1 ⊢
          go_loopw [6, 7] (fun v6 v7 wr => ∃ (j z : Nat) (i : Int), z = 8 * s.size / 256 ^ j ∧ j ≤ 7 ∧ i = 64 * (K : Int) - 1 - (j : Int) ∧ v7 = .int .i64 i ∧ v6 = .int .i64 (z : Int) ∧
            NRow wr gb 5 .u8 (64 * K) (lastN s (8 * s.size) K j) ∧ Below gb w wr) (fun v6 _ _ => (intOf v6).toNat)
          case atStart => exact ⟨0, 8 * s.size, 64 * (K : Int) - 1, by simp, by omega, by omega, rfl, by go_num, hset.out, hbe1.out⟩
          case round =>
            obtain ⟨j, z, i, hz, hj, hi', rfl, rfl, hrow, hbe⟩ := hrel
            by_cases h0 : 0 < z
            · have hj7 : j < 7 := by
                rcases Nat.lt_or_ge j 7 with h | h
                · exact h
                · have : j = 7 := by omega
                  rw [this, z_small s.size (by omega)] at hz
                  omega
              obtain ⟨p, rfl⟩ : ∃ p : Nat, i = (p : Int) := ⟨i.toNat, by omega⟩
              have hp : p + j + 1 = 64 * K := by omega
              have hp1 : p < 64 * K := by omega
              have hp2 : (p : Int) < 64 * (K : Int) := by omega
              have hfz := hrow.free p
              have hzz : z / 256 = 8 * s.size / 256 ^ (j + 1) := by rw [hz, Nat.div_div_eq_div_mul, Nat.pow_succ]
              have hzb : z ≤ 8 * s.size := by rw [hz]; exact Nat.div_le_self _ _
              obtain ⟨v, hv⟩ : ∃ v : Nat, v = z % 256 := ⟨_, rfl⟩
              have hv0 : (z : Int).tmod 256 = (v : Int) := by rw [Int.tmod_eq_emod_of_nonneg (by omega)]; omega
              have hv2 : v < 256 := by omega
              have hv1 : IntKind.u8.wrap (v : Int) = (v : Int) := by simp [IntKind.wrap, IntKind.signed, IntKind.bits]; omega
              have hset := (hrow.set p v hp1).eq (f' := lastN s (8 * s.size) K (j + 1)) (fun x _ => by
                rw [hv, hz]
                exact lastN_set s (8 * s.size) K j p x hp)
              have hcl := hrow.cell p hp1
              generalize lastN s (8 * s.size) K j p = old at hcl
              replace hz := Lib.hid hz
              replace hzz := Lib.hid hzz
              replace hi' := Lib.hid hi'
              replace hp := Lib.hid hp
              replace hv := Lib.hid hv
              replace hset := Lib.hid hset
              replace hbe := Lib.hid hbe
              clear hrow
              go_wp2
              go_roundw
              case rel => exact ⟨j + 1, z / 256, (p : Int) - 1, hzz.out, by omega, by have := hi'.out; omega, by go_num, by go_num, hset.out, hbe.out.setCell (Nat.le_refl _) _⟩
              case measure => simp [intOf]; omega
            · obtain rfl : z = 0 := by omega
              have hend := hrow.eq (f' := Sha.padded s) (fun x hx => by
                have h := lastN_whole s j x hz.symm hj (by rw [← hK.out]; exact hx)
                rwa [← hK.out] at h)
              replace hend := Lib.hid hend
              replace hbe := Lib.hid hbe
              replace hz := Lib.hid hz
              replace hi' := Lib.hid hi'
              clear hrow
              have eq4 : (64 * (K : Int)).tdiv 4 = 16 * (K : Int) := by rw [Int.tdiv_eq_ediv_of_nonneg (by omega)]; omega
              go_wp2_with (first
                | (at_make; refine wpList_make_row rfl _ _ 77 rfl 3 j0 .i64 Tryd.underlying77 hj0 hz0' hz1' _ _ _ _ (16 * K) (16 * K) rfl rfl (by omega) (by omega) (by omega) (by rw [hz2']; omega) (by omega) ?_))
              intro w3 HR3 HB3 HS3
              have hgb3 : NRow w3 gb 5 .u8 (64 * K) (Sha.padded s) := hend.out.below HB3.out hend.out.lt
              have hbe3 : Below gb w w3 := below_trans' hbe.out (Nat.le_of_lt hend.out.lt) HB3.out
              have hlt := hend.out.lt
              obtain ⟨go, ego⟩ : ∃ go : Nat, go = wr.heap.size := ⟨_, rfl⟩
              rw [← ego] at HR3 HS3 hlt ⊢
              replace ego := Lib.hid ego
              replace hgb3 := Lib.hid hgb3
              replace hbe3 := Lib.hid hbe3
              clear hend hbe HB3
              go_wp2_with fail
              go_loopw [9] (fun v9 wr => ∃ i : Nat, i ≤ 64 * K ∧ v9 = .int .i64 (i : Int) ∧ NRow wr go 3 .i64 (16 * K) (fun x => Sha.pw (Sha.padded s) x (min 4 (i - 4 * x))) ∧ NRow wr gb 5 .u8 (64 * K) (Sha.padded s) ∧ Below gb w wr) (fun v9 _ => 64 * K - (intOf v9).toNat)
              case atStart => exact ⟨0, by omega, rfl, HR3.out.eq (fun x _ => by simp [Sha.pw]), hgb3.out, hbe3.out⟩
              case round =>
                obtain ⟨i, hik, rfl, hro, hrb, hbe⟩ := hrel
                by_cases hlt4 : i < 64 * K
                · obtain ⟨j, hj⟩ : ∃ j : Nat, j = i / 4 := ⟨_, rfl⟩
                  have hj16 : j < 16 * K := by omega
                  have hj16' : (j : Int) < 16 * (K : Int) := by omega
                  have hi64' : (i : Int) < 64 * (K : Int) := by omega
                  have e1 : (i : Int).tdiv 4 = (j : Int) := by rw [Int.tdiv_eq_ediv_of_nonneg (by omega)]; omega
                  have hcj := hro.cell j hj16
                  have hfz := hro.free j
                  have hcb := hrb.cell i hlt4
                  obtain ⟨p, hp⟩ : ∃ p : Nat, p = Sha.pw (Sha.padded s) j (min 4 (i - 4 * j)) := ⟨_, rfl⟩
                  simp only [← hp] at hcj
                  obtain ⟨q, hq⟩ : ∃ q : Nat, q = Sha.padded s i := ⟨_, rfl⟩
                  rw [← hq] at hcb
                  have hpl : p < 16777216 := by rw [hp, show min 4 (i - 4 * j) = i % 4 by omega]; exact Nat.lt_of_lt_of_le (Sha.pw_lt j (i % 4) (fun k _ => padded_lt s _)) (Nat.pow_le_pow_right (n := 256) (j := 3) (by decide) (by omega))
                  have hql : q < 256 := by rw [hq]; exact padded_lt s i
                  have hset := (hro.set j (256 * p + q) hj16).eq (f' := fun x => Sha.pw (Sha.padded s) x (min 4 (i + 1 - 4 * x))) (fun x _ => word_step (Sha.padded s) i j x (256 * p + q) (by rw [hp, hq, Nat.mul_comm]) hj)
                  have hcst : ((256 * p + q : Nat) : Int) = 256 * (p : Int) + (q : Int) := by omega
                  rw [hcst] at hset
                  have hrb' := hrb.other ⟨go, j, none⟩ (.int .i64 (256 * (p : Int) + (q : Int))) (by show gb ≠ go; omega)
                  replace hset := Lib.hid hset
                  replace hrb' := Lib.hid hrb'
                  replace hbe := Lib.hid hbe
                  replace hp := Lib.hid hp
                  replace hq := Lib.hid hq
                  replace hj := Lib.hid hj
                  clear hro hrb hcst
                  go_wp2
                  go_region
                  all_goals go_wp2
                  go_roundw
                  case rel => exact ⟨i + 1, by omega, by go_num, hset.out.drewN 1, hrb'.out.drewN 1, (hbe.out.setCell (p := ⟨go, j, none⟩) (by show gb ≤ go; omega) _).drew⟩
                  case measure => simp [intOf]; omega
                · obtain rfl : i = 64 * K := by omega
                  have hfin := hro.eq (f' := Sha.word (Sha.padded s)) (fun x hx => by
                    rw [show min 4 (64 * K - 4 * x) = 4 by omega]
                    rfl)
                  replace hfin := Lib.hid hfin
                  replace hbe := Lib.hid hbe
                  clear hro hrb
                  go_wp2
                  go_ret
                  exact ⟨⟨go, rfl, hfin.out, by rw [← egb.out]; omega⟩, by rw [← egb.out]; exact hbe.out⟩
    · have e1 : ((z : Int).tmod 64 == 0) = false := by rw [Int.tmod_eq_emod_of_nonneg (by omega)]; simp; omega
      have e2 : ((z : Int).tmod 64 != 0) = true := by rw [Int.tmod_eq_emod_of_nonneg (by omega)]; simp; omega
      go_wp2
      go_round
      case rel => exact ⟨z + 1, by go_num, by omega, by omega⟩
      case measure => simp [intOf]; omega
end Go.Proofs.YtkmbpakhbicnaaaDoor
namespace Go.Proofs.YtkmbpakhbicnaaaDoor
open Go.RowKit Go.Proofs.YtkmbpakhbicnaaaDoorW.PrintWords Go.Proofs.YtkmbpakhbicnaaaDoorW.PrintMore Go.Lib

theorem s_f (x n : Nat) (hx : x < Sha.M) (h0 : 0 < n) (hn : n < 32) : wardmoteref04_s.f (x : Int) (n : Int) = some ((Sha.rot x n : Nat) : Int) := by
  unfold wardmoteref04_s.f
  rw [if_pos ⟨by omega, by show (x : Int) < 4294967296; have : x < 4294967296 := hx; omega, by omega, by omega⟩]
  rfl
theorem three_f (x i j k : Nat) (hx : x < Sha.M) (hi : 0 < i ∧ i < 32) (hj : 0 < j ∧ j < 32) (hk : 0 < k ∧ k < 32) :
    PDg.wardmoteref04_three.f (x : Int) (i : Int) (j : Int) (k : Int) = some ((Sha.rot x i ^^^ Sha.rot x j ^^^ Sha.rot x k : Nat) : Int) := by
  have ri := Sha.rot_lt x i hx hi.1 hi.2
  have rj := Sha.rot_lt x j hx hj.1 hj.2
  have rk := Sha.rot_lt x k hx hk.1 hk.2
  unfold PDg.wardmoteref04_three.f
  rw [s_f x i hx hi.1 hi.2, s_f x j hx hj.1 hj.2, s_f x k hx hk.1 hk.2]
  simp only [Option.bind_some]
  rw [(Sha.bits64 _ _ ri rj).1, (Sha.bits64 _ _ (Sha.xor_lt ri rj) rk).1]
theorem w64_nat (n : Nat) (h : n < 9223372036854775808) : wrap64 (n : Int) = (n : Int) := Sha.i64_nat h
theorem w64_add (a b : Nat) (h : a + b < 9223372036854775808) : wrap64 ((a : Int) + (b : Int)) = ((a + b : Nat) : Int) := by
  rw [← Int.natCast_add]
  exact Sha.i64_nat h
theorem tmod_nat (a : Nat) : Int.tmod (a : Int) 4294967296 = ((a % Sha.M : Nat) : Int) := by
  rw [Int.tmod_eq_emod_of_nonneg (by omega)]
  show _ = ((a % 4294967296 : Nat) : Int)
  omega
theorem round_f (x : Sha.Eight) (k w : Nat) (hx : x.ok) (hk : k < Sha.M) (hw : w < Sha.M) :
    PDg.wardmoteref04_round.f (x.a : Int) (x.b : Int) (x.c : Int) (x.d : Int) (x.e : Int) (x.f : Int) (x.g : Int) (x.h : Int) (k : Int) (w : Int) =
      some (((Sha.rnd x k w).a : Int), ((Sha.rnd x k w).b : Int), ((Sha.rnd x k w).c : Int), ((Sha.rnd x k w).d : Int), ((Sha.rnd x k w).e : Int), ((Sha.rnd x k w).f : Int), ((Sha.rnd x k w).g : Int), ((Sha.rnd x k w).h : Int)) := by
  obtain ⟨ha, hb, hc, hd, he, hf, hg, hh⟩ := hx.lt
  have hM : Sha.M = 4294967296 := rfl
  have h1 := three_f x.e 6 11 25 he (by decide) (by decide) (by decide)
  have h2 := three_f x.a 2 13 22 ha (by decide) (by decide) (by decide)
  have l1 : Sha.big1 x.e < Sha.M := Sha.big1_lt he
  have l0 : Sha.big0 x.a < Sha.M := Sha.big0_lt ha
  have lc : Sha.ch x.e x.f x.g < Sha.M := Sha.ch_lt hf hg
  have lm : Sha.maj x.a x.b x.c < Sha.M := Sha.maj_lt ha hb
  have ec : Go.bits .xor .i64 (Go.bits .and .i64 (x.e : Int) (x.f : Int)) (Go.bits .and .i64 (wrap64 (4294967295 - (x.e : Int))) (x.g : Int)) = ((Sha.ch x.e x.f x.g : Nat) : Int) := by
    rw [show wrap64 (4294967295 - (x.e : Int)) = ((Sha.M - 1 - x.e : Nat) : Int) by unfold wrap64; omega, (Sha.bits64 x.e x.f he hf).2.1, (Sha.bits64 _ x.g (by omega) hg).2.1, (Sha.bits64 _ _ (Sha.and_lt hf) (Sha.and_lt hg)).1, Sha.ch_ref x.e x.f x.g he hf hg]
  have em : Go.bits .xor .i64 (Go.bits .xor .i64 (Go.bits .and .i64 (x.a : Int) (x.b : Int)) (Go.bits .and .i64 (x.a : Int) (x.c : Int))) (Go.bits .and .i64 (x.b : Int) (x.c : Int)) = ((Sha.maj x.a x.b x.c : Nat) : Int) := by
    rw [(Sha.bits64 x.a x.b ha hb).2.1, (Sha.bits64 x.a x.c ha hc).2.1, (Sha.bits64 x.b x.c hb hc).2.1, (Sha.bits64 _ _ (Sha.and_lt hb) (Sha.and_lt hc)).1, (Sha.bits64 _ _ (Sha.xor_lt (Sha.and_lt hb) (Sha.and_lt hc)) (Sha.and_lt hc)).1, Sha.maj_ref]
  unfold PDg.wardmoteref04_round.f
  rw [show PDg.wardmoteref04_three.f (x.e : Int) 6 11 25 = _ from h1, show PDg.wardmoteref04_three.f (x.a : Int) 2 13 22 = _ from h2]
  simp only [Option.bind_some]
  rw [ec, em, show Sha.rot x.e 6 ^^^ Sha.rot x.e 11 ^^^ Sha.rot x.e 25 = Sha.big1 x.e from rfl, show Sha.rot x.a 2 ^^^ Sha.rot x.a 13 ^^^ Sha.rot x.a 22 = Sha.big0 x.a from rfl]
  unfold Sha.rnd Sha.up
  generalize Sha.ch x.e x.f x.g = c at *
  generalize Sha.maj x.a x.b x.c = m at *
  generalize Sha.big1 x.e = p at *
  generalize Sha.big0 x.a = q at *
  clear h1 h2 ec em
  rw [w64_add x.h p (by omega), w64_add _ c (by omega), w64_add _ k (by omega), w64_add _ w (by omega), w64_add q m (by omega), w64_add _ _ (by omega), w64_add _ _ (by omega), tmod_nat, tmod_nat]
  refine congrArg some ?_
  simp only [Prod.mk.injEq, true_and, and_true]
  refine ⟨congrArg Nat.cast ?_, congrArg Nat.cast ?_⟩
  · simp only [hM]
    omega
  · simp only [hM]
    omega

/-- The first n of f, as the program has them. -/
def natL (f : Nat → Nat) (n : Nat) : List Int := (List.range n).map fun i => (f i : Int)
theorem natL_len (f : Nat → Nat) (n : Nat) : (natL f n).length = n := by simp [natL]
theorem natL_rd (f : Nat → Nat) (n i : Nat) (h : i < n) : rd (natL f n) (i : Int) = (f i : Int) := by
  unfold rd natL
  rw [Int.toNat_natCast, List.getD_eq_getElem?_getD, List.getElem?_map, List.getElem?_range h]
  rfl
theorem natL_succ (f : Nat → Nat) (n : Nat) : natL f (n + 1) = natL f n ++ [(f n : Int)] := by
  simp [natL, List.range_succ]
theorem spread_step (l : Nat → Nat) (hl : ∀ i, i < 16 → l i < Sha.M) (t k : Nat) (ht : t + 16 < 64) :
    PDg.wardmoteref04_spread.l0 (k + 1) (natL (Sha.W l) (t + 16)) = PDg.wardmoteref04_spread.l0 k (natL (Sha.W l) (t + 16 + 1)) := by
  have hW : ∀ i, Sha.W l i < Sha.M := Sha.W_lt l hl
  have hM : Sha.M = 4294967296 := rfl
  have e15 : wrap64 (((t + 16 : Nat) : Int) - 15) = ((t + 1 : Nat) : Int) := by unfold wrap64; omega
  have e2 : wrap64 (((t + 16 : Nat) : Int) - 2) = ((t + 14 : Nat) : Int) := by unfold wrap64; omega
  have e7 : wrap64 (((t + 16 : Nat) : Int) - 7) = ((t + 9 : Nat) : Int) := by unfold wrap64; omega
  have e16 : wrap64 (((t + 16 : Nat) : Int) - 16) = ((t : Nat) : Int) := by unfold wrap64; omega
  have r15 := natL_rd (Sha.W l) (t + 16) (t + 1) (by omega)
  have r2 := natL_rd (Sha.W l) (t + 16) (t + 14) (by omega)
  have r7 := natL_rd (Sha.W l) (t + 16) (t + 9) (by omega)
  have r16 := natL_rd (Sha.W l) (t + 16) t (by omega)
  rw [PDg.wardmoteref04_spread.l0, natL_len, e15, e2, e7, e16, r15, r2, r7, r16]
  rw [if_pos (by omega), if_pos (by omega), if_pos (by omega)]
  have q7 := s_f (Sha.W l (t + 1)) 7 (hW _) (by decide) (by decide)
  have q18 := s_f (Sha.W l (t + 1)) 18 (hW _) (by decide) (by decide)
  have q17 := s_f (Sha.W l (t + 14)) 17 (hW _) (by decide) (by decide)
  have q19 := s_f (Sha.W l (t + 14)) 19 (hW _) (by decide) (by decide)
  rw [show wardmoteref04_s.f ((Sha.W l (t + 1) : Nat) : Int) 7 = _ from q7, show wardmoteref04_s.f ((Sha.W l (t + 1) : Nat) : Int) 18 = _ from q18, show wardmoteref04_s.f ((Sha.W l (t + 14) : Nat) : Int) 17 = _ from q17, show wardmoteref04_s.f ((Sha.W l (t + 14) : Nat) : Int) 19 = _ from q19]
  simp only [Option.bind_some]
  rw [if_pos (by omega), if_pos (by omega), if_pos (by omega), if_pos (by omega), if_pos (by omega), if_pos (by omega), if_pos (by omega)]
  have l7 := Sha.rot_lt (Sha.W l (t + 1)) 7 (hW _) (by decide) (by decide)
  have l18 := Sha.rot_lt (Sha.W l (t + 1)) 18 (hW _) (by decide) (by decide)
  have l17 := Sha.rot_lt (Sha.W l (t + 14)) 17 (hW _) (by decide) (by decide)
  have l19 := Sha.rot_lt (Sha.W l (t + 14)) 19 (hW _) (by decide) (by decide)
  have d8 : wrap64 (Int.tdiv ((Sha.W l (t + 1) : Nat) : Int) 8) = ((Sha.W l (t + 1) / 8 : Nat) : Int) := by
    have := hW (t + 1)
    rw [Int.tdiv_eq_ediv_of_nonneg (by omega)]
    unfold wrap64
    omega
  have d10 : wrap64 (Int.tdiv ((Sha.W l (t + 14) : Nat) : Int) 1024) = ((Sha.W l (t + 14) / 1024 : Nat) : Int) := by
    have := hW (t + 14)
    rw [Int.tdiv_eq_ediv_of_nonneg (by omega)]
    unfold wrap64
    omega
  have m8 : Sha.W l (t + 1) / 8 < Sha.M := Nat.lt_of_le_of_lt (Nat.div_le_self _ _) (hW _)
  have m10 : Sha.W l (t + 14) / 1024 < Sha.M := Nat.lt_of_le_of_lt (Nat.div_le_self _ _) (hW _)
  rw [d8, d10, (Sha.bits64 _ _ l17 l19).1, (Sha.bits64 _ _ (Sha.xor_lt l17 l19) m10).1, (Sha.bits64 _ _ l7 l18).1, (Sha.bits64 _ _ (Sha.xor_lt l7 l18) m8).1]
  rw [show Sha.rot (Sha.W l (t + 14)) 17 ^^^ Sha.rot (Sha.W l (t + 14)) 19 ^^^ Sha.W l (t + 14) / 1024 = Sha.sm1 (Sha.W l (t + 14)) from rfl, show Sha.rot (Sha.W l (t + 1)) 7 ^^^ Sha.rot (Sha.W l (t + 1)) 18 ^^^ Sha.W l (t + 1) / 8 = Sha.sm0 (Sha.W l (t + 1)) from rfl]
  have s1 : Sha.sm1 (Sha.W l (t + 14)) < Sha.M := Sha.sm1_lt (hW _)
  have s0 : Sha.sm0 (Sha.W l (t + 1)) < Sha.M := Sha.sm0_lt (hW _)
  have w7 := hW (t + 9)
  have w16 := hW t
  rw [natL_succ (Sha.W l) (t + 16), Sha.W_hi]
  generalize Sha.sm1 (Sha.W l (t + 14)) = a at *
  generalize Sha.sm0 (Sha.W l (t + 1)) = b at *
  generalize Sha.W l (t + 9) = c at *
  generalize Sha.W l t = d at *
  rw [w64_add a c (by omega), w64_add _ b (by omega), w64_add _ d (by omega), tmod_nat]
theorem spread_end (l : Nat → Nat) (hl : ∀ i, i < 16 → l i < Sha.M) : ∀ n t k, t + n = 48 → n < k → PDg.wardmoteref04_spread.l0 k (natL (Sha.W l) (t + 16)) = some (natL (Sha.W l) 64)
  | 0, t, k, h, hk => by
    obtain ⟨k, rfl⟩ : ∃ m, k = m + 1 := ⟨k - 1, by omega⟩
    obtain rfl : t = 48 := by omega
    rw [PDg.wardmoteref04_spread.l0, natL_len, if_neg (by omega)]
  | n + 1, t, k, h, hk => by
    obtain ⟨k, rfl⟩ : ∃ m, k = m + 1 := ⟨k - 1, by omega⟩
    rw [spread_step l hl t k (by omega), show t + 16 + 1 = (t + 1) + 16 by omega]
    exact spread_end l hl n (t + 1) k (by omega) (by omega)
theorem spread_f4 (l : Nat → Nat) (hl : ∀ i, i < 16 → l i < Sha.M) : PDg.wardmoteref04_spread.f 64 (natL l 16) = some (natL (Sha.W l) 64) := by
  have e : natL l 16 = natL (Sha.W l) (0 + 16) := by
    unfold natL
    refine List.map_congr_left (fun i hi => ?_)
    rw [Sha.W_lo l (by have := List.mem_range.1 hi; omega)]
  unfold PDg.wardmoteref04_spread.f
  rw [if_pos (by rw [natL_len]; decide), List.nil_append, e]
  exact spread_end l hl 48 0 64 (by omega) (by omega)
theorem cubes_f : PDg.wardmoteref04_cubes.f = some (natL Sha.kk 64) := by
  unfold PDg.wardmoteref04_cubes.f
  refine congrArg some ?_
  decide +kernel
end Go.Proofs.YtkmbpakhbicnaaaDoor
namespace Go.Proofs.YtkmbpakhbicnaaaDoor
open Go.RowKit Go.Proofs.YtkmbpakhbicnaaaDoorW.PrintWords Go.Proofs.YtkmbpakhbicnaaaDoorW.PrintMore Go.Lib

/-- The cells of numbers that were made and are written no more. -/
def Ints (w : World) (g n : Nat) (f : Nat → Nat) : Prop := ∀ i, i < n → w.cell? ⟨g, i, none⟩ = some (.int .i64 (f i : Int))
theorem ints_of_R {w : World} {e base : Nat} {ok : Nat → Prop} {v : Value} {f : Nat → Nat} {n : Nat} (h : Kd.R (Kd.int .i64) e w base ok v (natL f n)) (hn : 0 < n) :
    ∃ g cap, v = .slice (some ⟨g, 0, none⟩) n cap ∧ n ≤ cap ∧ base ≤ g ∧ g < w.heap.size ∧ Ints w g n f := by
  have ho := Kd.own_of_R h
  rw [natL_len] at ho
  rcases ho.2 with ⟨rfl, h0⟩ | ⟨g, cap, cur, rfl, hb, hh, hc, hm, hs, ht⟩
  · omega
  · refine ⟨g, cap, rfl, hc, hb, (Array.getElem?_eq_some_iff.1 hh).1, fun i hi => ?_⟩
    rw [World.ownsRow.cellAt ho i (by omega)]
    simp [encs, natL, hi]
theorem C_of_row {w : World} {g n : Nat} {t : TypeId} {f : Nat → Nat} (h : NRow w g t .i64 n f) (off m : Nat) (hm : off + m ≤ n) (hb : n ≤ 9223372036854775807) : Kd.C (Kd.int .i64) w (some ⟨g, off, none⟩) (natL (fun i => f (off + i)) m).length (natL (fun i => f (off + i)) m) := by
  refine ⟨rfl, by rw [natL_len]; omega, fun _ => ⟨_, rfl, ?_⟩⟩
  intro j p hp
  have hj : j < m := by have := (List.getElem?_eq_some_iff.1 hp).1; rwa [natL_len] at this
  unfold natL at hp
  rw [List.getElem?_map, List.getElem?_range hj] at hp
  obtain rfl := Option.some.inj hp
  refine ⟨[.int .i64 (f (off + j) : Int)], rfl, rfl, ?_⟩
  intro i u hu
  match i, hu with
  | 0, hu =>
    simp at hu
    subst hu
    rw [show (⟨g, off, none⟩ : Addr).add (j * (Kd.int .i64).sz + 0) = ⟨g, off + j, none⟩ by rw [add_at]; simp [Kd.int, Kd.scalar]]
    exact h.cell _ (by omega)
theorem new8 (w : World) (X : Sha.Eight) : NRow (w.alloc (.cells #[.int .i64 (X.a : Int), .int .i64 (X.b : Int), .int .i64 (X.c : Int), .int .i64 (X.d : Int), .int .i64 (X.e : Int), .int .i64 (X.f : Int), .int .i64 (X.g : Int), .int .i64 (X.h : Int)] 76)) w.heap.size 76 .i64 8 X.get :=
  ⟨_, heap_alloc_new w _, rfl, fun i hi => by
    match i, hi with
    | 0, _ => rfl
    | 1, _ => rfl
    | 2, _ => rfl
    | 3, _ => rfl
    | 4, _ => rfl
    | 5, _ => rfl
    | 6, _ => rfl
    | 7, _ => rfl⟩
theorem rspread_any (w : World) (A : Option Addr) (c : Nat) (l : Nat → Nat) (hl : ∀ i, i < 16 → l i < Sha.M) (hr : Kd.C (Kd.int .i64) w A (natL l 16).length (natL l 16)) (hc : 16 ≤ c) :
    Calls Tryd.prog 38 #[.slice A 16 c] w fun e w' => (∃ g cap, e = .returned (.slice (some ⟨g, 0, none⟩) 64 cap) ∧ 64 ≤ cap ∧ w.heap.size ≤ g ∧ g < w'.heap.size ∧ Ints w' g 64 (Sha.W l)) ∧ Below w.heap.size w w' := by
  have h := PDg.wardmoteref04_spread.calls 64 A c (natL l 16) (natL (Sha.W l) 64) w hr (by rw [natL_len]; exact hc) (spread_f4 l hl)
  have h16 : (natL l 16).length = 16 := natL_len l 16
  rw [h16] at h
  refine h.mono ?_
  rintro e w' ⟨v, rfl, hR, hb⟩
  obtain ⟨g, cap, rfl, h1, h2, h3, h4⟩ := ints_of_R hR (by decide)
  exact ⟨⟨g, cap, rfl, h1, h2, h3, h4⟩, hb⟩
theorem rround_any (w : World) (X Z : Sha.Eight) (k v : Nat) (hx : X.ok) (hk : k < Sha.M) (hv : v < Sha.M) (hZ : Z = Sha.rnd X k v) :
    Calls Tryd.prog 39 #[.agg #[.int .i64 (X.a : Int), .int .i64 (X.b : Int), .int .i64 (X.c : Int), .int .i64 (X.d : Int), .int .i64 (X.e : Int), .int .i64 (X.f : Int), .int .i64 (X.g : Int), .int .i64 (X.h : Int)], .int .i64 (k : Int), .int .i64 (v : Int)] w
      fun e w' => e = .returned (.agg #[.int .i64 (Z.a : Int), .int .i64 (Z.b : Int), .int .i64 (Z.c : Int), .int .i64 (Z.d : Int), .int .i64 (Z.e : Int), .int .i64 (Z.f : Int), .int .i64 (Z.g : Int), .int .i64 (Z.h : Int)]) ∧ Below w.heap.size w w' := by
  subst hZ
  exact PDg.wardmoteref04_round.calls _ _ _ _ _ _ _ _ _ _ _ _ _ _ _ _ _ _ w (round_f X k v hx hk hv)
theorem word_part (P : Nat → Nat) (m j : Nat) : Sha.word (fun i => P (64 * m + i)) j = Sha.word P (16 * m + j) := by
  have h : ∀ k, Sha.pw (fun i => P (64 * m + i)) j k = Sha.pw P (16 * m + j) k := fun k => by
    induction k with
    | zero => rfl
    | succ k ih => rw [Sha.pw, Sha.pw, ih, show 4 * (16 * m + j) + k = 64 * m + (4 * j + k) by omega]
  exact h 4
theorem plus_int (a b : Nat) : (((a + b) % Sha.M : Nat) : Int) = ((a : Int) + (b : Int)) % 4294967296 := by
  show (((a + b) % 4294967296 : Nat) : Int) = _
  omega
/-- What the answer holds when i words and q bytes of the next one are written. -/
def outF (X : Sha.Eight) (i q x : Nat) : Nat := if x < 4 * i ∨ (4 * i + 4 ≤ x + q ∧ x < 4 * i + 4) then outB X x else 0
theorem outF_set (X : Sha.Eight) (i q p x v : Nat) (hp : p + q = 3) (hv : v = X.get i / 256 ^ q % 256) : (if x = 4 * i + p then v else outF X i q x) = outF X i (q + 1) x := by
  unfold outF
  by_cases e : x = 4 * i + p
  · rw [if_pos e, if_pos (by omega), outB, hv, show x / 4 = i by omega, show 3 - x % 4 = q by omega]
  · rw [if_neg e]
    by_cases h : x < 4 * i ∨ (4 * i + 4 ≤ x + q ∧ x < 4 * i + 4)
    · rw [if_pos h, if_pos (by omega)]
    · rw [if_neg h, if_neg (by omega)]
theorem outF_next (X : Sha.Eight) (i x : Nat) : outF X i 4 x = outF X (i + 1) 0 x := by
  unfold outF
  by_cases h : x < 4 * i ∨ (4 * i + 4 ≤ x + 4 ∧ x < 4 * i + 4)
  · rw [if_pos h, if_pos (by omega)]
  · rw [if_neg h, if_neg (by omega)]
theorem outF_outs (X : Sha.Eight) : (List.range 32).map (fun i => UInt8.ofNat (outF X 8 0 i)) = Sha.outs X := by
  rw [← outs_eq]
  refine List.map_congr_left (fun i hi => ?_)
  have := List.mem_range.1 hi
  rw [outF, if_pos (by omega), if_pos this]
theorem new8t (w : World) (X : Sha.Eight) (t : TypeId) : NRow (w.alloc (.cells #[.int .i64 (X.a : Int), .int .i64 (X.b : Int), .int .i64 (X.c : Int), .int .i64 (X.d : Int), .int .i64 (X.e : Int), .int .i64 (X.f : Int), .int .i64 (X.g : Int), .int .i64 (X.h : Int)] t)) w.heap.size t .i64 8 X.get :=
  ⟨_, heap_alloc_new w _, rfl, fun i hi => by
    match i, hi with
    | 0, _ => rfl
    | 1, _ => rfl
    | 2, _ => rfl
    | 3, _ => rfl
    | 4, _ => rfl
    | 5, _ => rfl
    | 6, _ => rfl
    | 7, _ => rfl⟩
theorem plus_w (a b : Nat) (ha : a < Sha.M) (hb : b < Sha.M) : (wrap64 ((a : Int) + (b : Int))).tmod 4294967296 = (((a + b) % Sha.M : Nat) : Int) := by
  rw [w64_add a b (by have hM : Sha.M = 4294967296 := rfl; omega), tmod_nat]
/-- The eight cells of a struct. -/
theorem cells8 {w : World} {g : Nat} {t : TypeId} {X : Sha.Eight} (h : NRow w g t .i64 8 X.get) :
    w.cell? ⟨g, 0, none⟩ = some (.int .i64 (X.a : Int)) ∧ w.cell? ⟨g, 1, none⟩ = some (.int .i64 (X.b : Int)) ∧ w.cell? ⟨g, 2, none⟩ = some (.int .i64 (X.c : Int)) ∧ w.cell? ⟨g, 3, none⟩ = some (.int .i64 (X.d : Int)) ∧
      w.cell? ⟨g, 4, none⟩ = some (.int .i64 (X.e : Int)) ∧ w.cell? ⟨g, 5, none⟩ = some (.int .i64 (X.f : Int)) ∧ w.cell? ⟨g, 6, none⟩ = some (.int .i64 (X.g : Int)) ∧ w.cell? ⟨g, 7, none⟩ = some (.int .i64 (X.h : Int)) :=
  ⟨h.cell 0 (by decide), h.cell 1 (by decide), h.cell 2 (by decide), h.cell 3 (by decide), h.cell 4 (by decide), h.cell 5 (by decide), h.cell 6 (by decide), h.cell 7 (by decide)⟩
theorem store8 {w : World} {g : Nat} {t : TypeId} {X : Sha.Eight} (Z : Sha.Eight) (h : NRow w g t .i64 8 X.get) :
    NRow ((((((((w.setCell ⟨g, 0, none⟩ (.int .i64 (Z.a : Int))).setCell ⟨g, 1, none⟩ (.int .i64 (Z.b : Int))).setCell ⟨g, 2, none⟩ (.int .i64 (Z.c : Int))).setCell ⟨g, 3, none⟩ (.int .i64 (Z.d : Int))).setCell ⟨g, 4, none⟩ (.int .i64 (Z.e : Int))).setCell ⟨g, 5, none⟩ (.int .i64 (Z.f : Int))).setCell ⟨g, 6, none⟩ (.int .i64 (Z.g : Int))).setCell ⟨g, 7, none⟩ (.int .i64 (Z.h : Int))) g t .i64 8 Z.get :=
  ((((((((h.set 0 Z.a (by decide)).set 1 Z.b (by decide)).set 2 Z.c (by decide)).set 3 Z.d (by decide)).set 4 Z.e (by decide)).set 5 Z.f (by decide)).set 6 Z.g (by decide)).set 7 Z.h (by decide)).eq (fun i hi => by
    match i, hi with
    | 0, _ => rfl
    | 1, _ => rfl
    | 2, _ => rfl
    | 3, _ => rfl
    | 4, _ => rfl
    | 5, _ => rfl
    | 6, _ => rfl
    | 7, _ => rfl)
theorem Only.set8 {g : Nat} {w w1 : World} (h : Only g w w1) (a b c d e f i j : Value) :
    Only g w ((((((((w1.setCell ⟨g, 0, none⟩ a).setCell ⟨g, 1, none⟩ b).setCell ⟨g, 2, none⟩ c).setCell ⟨g, 3, none⟩ d).setCell ⟨g, 4, none⟩ e).setCell ⟨g, 5, none⟩ f).setCell ⟨g, 6, none⟩ i).setCell ⟨g, 7, none⟩ j) :=
  (((((((h.set 0 a).set 1 b).set 2 c).set 3 d).set 4 e).set 5 f).set 6 i).set 7 j
theorem Only.then_below {g : Nat} {w w1 w2 : World} (h : Only g w w1) (hb : Below w1.heap.size w1 w2) : Only g w w2 := h.trans (Only.of_below hb g)
set_option maxHeartbeats 12000000 in
set_option maxRecDepth 100000 in
theorem rsum_any (w : World) (s : ByteArray) (hs : s.size ≤ 140737488351232) :
    Calls Tryd.prog 26 #[.string s] w fun e w' => e = .returned (.string (Sha.hash s)) ∧ Below w.heap.size w w' := by
  obtain ⟨nb, hnb⟩ : ∃ n : Nat, n = Sha.blocks s.size := ⟨_, rfl⟩
  have hnb1 : 64 * nb ≤ s.size + 72 := by rw [hnb]; unfold Sha.blocks; omega
  have hW := Lib.hid (fun w => words_any w s hs)
  rw [← hnb] at hW
  replace hnb := Lib.hid hnb
  go_enter Tryd.func26, Tryd.ntmps26
  go_wp2_with fail
  refine (hW.out _).mono ?_
  rintro e w2 ⟨⟨gl, rfl, hrow, hgl⟩, hb2⟩
  have hx2 := (new8 w Sha.init).below hb2 (by simp)
  have hbe2 : Below w.heap.size w w2 := below_then ((Below.refl _ w).alloc (Nat.le_refl _) (.cells #[.int .i64 (Sha.init.a : Int), .int .i64 (Sha.init.b : Int), .int .i64 (Sha.init.c : Int), .int .i64 (Sha.init.d : Int), .int .i64 (Sha.init.e : Int), .int .i64 (Sha.init.f : Int), .int .i64 (Sha.init.g : Int), .int .i64 (Sha.init.h : Int)] 76)) (by simp) hb2
  replace hgl : w.heap.size < gl := by simp at hgl; omega
  have hlt2 := hrow.lt
  replace hrow := Lib.hid hrow
  replace hx2 := Lib.hid hx2
  replace hbe2 := Lib.hid hbe2
  clear hb2
  go_wp2_with fail
  refine (PDg.wardmoteref04_cubes.calls _ _ cubes_f).mono ?_
  rintro e w3 ⟨v0, rfl, hR, hb3⟩
  obtain ⟨gk, ck, rfl, hck, hgk, hgk3, hk⟩ := ints_of_R hR (by decide)
  have hrow3 := hrow.out.below hb3 hlt2
  have hx3 := hx2.out.below hb3 (by omega)
  have hbe3 := below_then hbe2.out hbe2.out.size hb3
  obtain ⟨gx, egx⟩ : ∃ gx : Nat, gx = w.heap.size := ⟨_, rfl⟩
  rw [← egx] at hx3 hgl ⊢
  have hgkl : gl < gk := by omega
  have hlt3 := hrow3.lt
  replace egx := Lib.hid egx
  replace hrow3 := Lib.hid hrow3
  replace hx3 := Lib.hid hx3
  replace hbe3 := Lib.hid hbe3
  replace hk := Lib.hid hk
  clear hR hb3 hrow hx2 hbe2 hlt2
  go_wp2_with fail
  obtain ⟨P, hP⟩ : ∃ P : Nat → Nat, P = Sha.padded s := ⟨_, rfl⟩
  rw [← hP] at hrow3
  have hPlt : ∀ x, P x < 256 := fun x => by rw [hP]; exact padded_lt s x
  replace hP := Lib.hid hP
  replace hPlt := Lib.hid hPlt
  go_loopw [6] (fun v6 wr => ∃ m : Nat, m ≤ nb ∧ v6 = .int .i64 (16 * (m : Int)) ∧ NRow wr gx 76 .i64 8 (Sha.many Sha.init P m).get ∧ NRow wr gl 3 .i64 (16 * nb) (Sha.word P) ∧ Ints wr gk 64 Sha.kk ∧ Below gx w wr) (fun v6 _ => 16 * nb - (intOf v6).toNat)
  case atStart => exact ⟨0, by omega, by go_num, hx3.out, hrow3.out, hk.out, by rw [egx.out]; exact hbe3.out⟩
  case round =>
    obtain ⟨m, hm, rfl, hx, hl, hk, hbe⟩ := hrel
    obtain ⟨X, hX⟩ : ∃ X : Sha.Eight, X = Sha.many Sha.init P m := ⟨_, rfl⟩
    rw [← hX] at hx
    have hXok : X.ok := by rw [hX]; exact Sha.many_ok Sha.init_ok _ _
    obtain ⟨c0, c1, c2, c3, c4, c5, c6, c7⟩ := cells8 hx
    by_cases hmn : m < nb
    · have hmn' : (m : Int) < (nb : Int) := by omega
      have hx4 := hx.alloc (.cells #[.int .i64 (X.a : Int), .int .i64 (X.b : Int), .int .i64 (X.c : Int), .int .i64 (X.d : Int), .int .i64 (X.e : Int), .int .i64 (X.f : Int), .int .i64 (X.g : Int), .int .i64 (X.h : Int)] 76)
      have hl4 := hl.alloc (.cells #[.int .i64 (X.a : Int), .int .i64 (X.b : Int), .int .i64 (X.c : Int), .int .i64 (X.d : Int), .int .i64 (X.e : Int), .int .i64 (X.f : Int), .int .i64 (X.g : Int), .int .i64 (X.h : Int)] 76)
      have hk4 : Ints (wr.alloc (.cells #[.int .i64 (X.a : Int), .int .i64 (X.b : Int), .int .i64 (X.c : Int), .int .i64 (X.d : Int), .int .i64 (X.e : Int), .int .i64 (X.f : Int), .int .i64 (X.g : Int), .int .i64 (X.h : Int)] 76)) gk 64 Sha.kk := fun i hi => pw_cell_below ((Below.refl _ wr).alloc (Nat.le_refl _) _) (hk i hi)
      have hb4 := hbe.alloc (by have := hx.lt; omega) (.cells #[.int .i64 (X.a : Int), .int .i64 (X.b : Int), .int .i64 (X.c : Int), .int .i64 (X.d : Int), .int .i64 (X.e : Int), .int .i64 (X.f : Int), .int .i64 (X.g : Int), .int .i64 (X.h : Int)] 76)
      have hy4 := new8 wr X
      have hgxy := hx.lt
      have hgly := hl.lt
      have hgky := World.block_lt_of_cell? wr ⟨gk, 0, none⟩ (hk 0 (by decide))
      have hCl := C_of_row hl4 (16 * m) 16 (by omega) (by omega)
      have hlp : ∀ i, i < 16 → Sha.word P (16 * m + i) < Sha.M := fun i _ => Sha.pw_lt (16 * m + i) 4 (fun k _ => hPlt.out _)
      have S4 := Lib.hid (rspread_any _ _ (16 * nb - 16 * m) (fun i => Sha.word P (16 * m + i)) hlp hCl (by omega))
      have hdrop : ¬ (16 * nb = 16 * m) := by omega
      replace hx4 := Lib.hid hx4
      replace hl4 := Lib.hid hl4
      replace hk4 := Lib.hid hk4
      replace hb4 := Lib.hid hb4
      replace hy4 := Lib.hid hy4
      replace hX := Lib.hid hX
      replace hXok := Lib.hid hXok
      replace hlp := Lib.hid hlp
      clear hx hl hk hbe hCl hx3 hrow3 hbe3
      go_wp2_with fail
      refine S4.out.mono ?_
      rintro e w5 ⟨⟨gw, cw, rfl, hcw, hgw, hgw5, hw5⟩, hb5⟩
      have hx5 := hx4.out.below hb5 hx4.out.lt
      have hl5 := hl4.out.below hb5 hl4.out.lt
      have hy5 := hy4.out.below hb5 hy4.out.lt
      have hk5 : Ints w5 gk 64 Sha.kk := fun i hi => pw_cell_below hb5 (hk4.out i hi)
      have hbe5 : Below gx w w5 := below_trans' hb4.out (by have := hx4.out.lt; omega) hb5
      obtain ⟨gy, egy⟩ : ∃ gy : Nat, gy = wr.heap.size := ⟨_, rfl⟩
      rw [← egy] at hy5 hgxy hgly hgky ⊢
      replace hgw : gy < gw := by simp at hgw; omega
      replace hx5 := Lib.hid hx5
      replace hl5 := Lib.hid hl5
      replace hy5 := Lib.hid hy5
      replace hk5 := Lib.hid hk5
      replace hw5 := Lib.hid hw5
      replace hbe5 := Lib.hid hbe5
      clear hb5 hx4 hl4 hy4 hk4 hb4 S4 egy c0 c1 c2 c3 c4 c5 c6 c7
      go_wp2_with fail
      obtain ⟨L, hL⟩ : ∃ L : Nat → Nat, L = fun i => Sha.word P (16 * m + i) := ⟨_, rfl⟩
      rw [← hL] at hw5
      have hLlt : ∀ i, i < 16 → L i < Sha.M := by rw [hL]; exact hlp.out
      replace hLlt := Lib.hid hLlt
      replace hL := Lib.hid hL
      go_loopw [9] (fun v9 wr => ∃ t : Nat, t ≤ 64 ∧ v9 = .int .i64 (t : Int) ∧ NRow wr gy 76 .i64 8 (Sha.st X L t).get ∧ Only gy w5 wr) (fun v9 _ => 64 - (intOf v9).toNat)
      case atStart => exact ⟨0, by omega, rfl, hy5.out, Only.refl _ _⟩
      case round =>
        obtain ⟨t, ht, rfl, hy, hO⟩ := hrel
        by_cases ht64 : t < 64
        · obtain ⟨Y, hY⟩ : ∃ Y : Sha.Eight, Y = Sha.st X L t := ⟨_, rfl⟩
          rw [← hY] at hy
          have hYok : Y.ok := by rw [hY]; exact Sha.st_ok hXok.out L t
          obtain ⟨c0, c1, c2, c3, c4, c5, c6, c7⟩ := cells8 hy
          obtain ⟨k, hkk⟩ : ∃ k : Nat, k = Sha.kk t := ⟨_, rfl⟩
          have ck' : wr.cell? ⟨gk, t, none⟩ = some (.int .i64 (k : Int)) := by rw [hkk]; exact hO.cell (hk5.out t ht64) (by show gk ≠ gy; omega)
          obtain ⟨v, hv⟩ : ∃ v : Nat, v = Sha.W L t := ⟨_, rfl⟩
          have cv : wr.cell? ⟨gw, t, none⟩ = some (.int .i64 (v : Int)) := by rw [hv]; exact hO.cell (hw5.out t ht64) (by show gw ≠ gy; omega)
          obtain ⟨Z, hZ⟩ : ∃ Z : Sha.Eight, Z = Sha.rnd Y k v := ⟨_, rfl⟩
          have R := Lib.hid (fun w => rround_any w Y Z k v hYok (by rw [hkk]; exact Sha.kk_lt t) (by rw [hv]; exact Sha.W_lt L hLlt.out t) hZ)
          have hZst : Z = Sha.st X L (t + 1) := by rw [hZ, hY, hkk, hv, Sha.st]
          replace hZst := Lib.hid hZst
          replace hY := Lib.hid hY
          replace hkk := Lib.hid hkk
          replace hv := Lib.hid hv
          replace hZ := Lib.hid hZ
          replace hYok := Lib.hid hYok
          replace hy := Lib.hid hy
          replace hO := Lib.hid hO
          have t0 : (t : Int) < 64 := by omega
          go_wp2_with fail
          go_still_tail 9, (by kernel_rfl)
          go_wp2_with fail
          refine (R.out _).mono ?_
          rintro e w7 ⟨rfl, hb7⟩
          have hy7 : NRow w7 gy 76 .i64 8 Y.get := NRow.below (hy.out.drewN 1) hb7 hy.out.lt
          have hO7 : Only gy w5 w7 := Only.then_below (hO.out.drewN 1) hb7
          have hyZ := (store8 Z hy7).eq (f' := (Sha.st X L (t + 1)).get) (fun i _ => by rw [← hZst.out])
          have hOZ := hO7.set8 (.int .i64 (Z.a : Int)) (.int .i64 (Z.b : Int)) (.int .i64 (Z.c : Int)) (.int .i64 (Z.d : Int)) (.int .i64 (Z.e : Int)) (.int .i64 (Z.f : Int)) (.int .i64 (Z.g : Int)) (.int .i64 (Z.h : Int))
          obtain ⟨d0, d1, d2, d3, d4, d5, d6, d7⟩ := cells8 hy7
          have fz := hy7.free
          have fz0 := fz 0
          have fz1 := fz 1
          have fz2 := fz 2
          have fz3 := fz 3
          have fz4 := fz 4
          have fz5 := fz 5
          have fz6 := fz 6
          have fz7 := fz 7
          replace hyZ := Lib.hid hyZ
          replace hOZ := Lib.hid hOZ
          clear hy7 hO7 hb7 fz c0 c1 c2 c3 c4 c5 c6 c7 ck' cv
          go_wp2
          go_roundw
          case rel => exact ⟨t + 1, by omega, by go_num, hyZ.out, hOZ.out⟩
          case measure => simp [intOf]; omega
        · obtain rfl : t = 64 := by omega
          obtain ⟨Y, hY⟩ : ∃ Y : Sha.Eight, Y = Sha.st X L 64 := ⟨_, rfl⟩
          rw [← hY] at hy
          have hYok : Y.ok := by rw [hY]; exact Sha.st_ok hXok.out L 64
          obtain ⟨c0, c1, c2, c3, c4, c5, c6, c7⟩ := cells8 hy
          have hx6 : NRow wr gx 76 .i64 8 X.get := hx5.out.only hO (by omega)
          have hl6 : NRow wr gl 3 .i64 (16 * nb) (Sha.word P) := hl5.out.only hO (by omega)
          have hk6 : Ints wr gk 64 Sha.kk := fun i hi => hO.cell (hk5.out i hi) (by show gk ≠ gy; omega)
          have hbe6 : Below gx w wr := hO.below' hbe5.out (by omega) (by have := hx5.out.lt; omega)
          obtain ⟨d0, d1, d2, d3, d4, d5, d6, d7⟩ := cells8 hx6
          obtain ⟨Z, hZ⟩ : ∃ Z : Sha.Eight, Z = Sha.plus X Y := ⟨_, rfl⟩
          obtain ⟨l0, l1, l2, l3, l4, l5, l6, l7⟩ := hXok.out.lt
          obtain ⟨m0, m1, m2, m3, m4, m5, m6, m7⟩ := hYok.lt
          have z0 : (wrap64 ((X.a : Int) + (Y.a : Int))).tmod 4294967296 = (Z.a : Int) := by rw [hZ]; exact plus_w _ _ l0 m0
          have z1 : (wrap64 ((X.b : Int) + (Y.b : Int))).tmod 4294967296 = (Z.b : Int) := by rw [hZ]; exact plus_w _ _ l1 m1
          have z2 : (wrap64 ((X.c : Int) + (Y.c : Int))).tmod 4294967296 = (Z.c : Int) := by rw [hZ]; exact plus_w _ _ l2 m2
          have z3 : (wrap64 ((X.d : Int) + (Y.d : Int))).tmod 4294967296 = (Z.d : Int) := by rw [hZ]; exact plus_w _ _ l3 m3
          have z4 : (wrap64 ((X.e : Int) + (Y.e : Int))).tmod 4294967296 = (Z.e : Int) := by rw [hZ]; exact plus_w _ _ l4 m4
          have z5 : (wrap64 ((X.f : Int) + (Y.f : Int))).tmod 4294967296 = (Z.f : Int) := by rw [hZ]; exact plus_w _ _ l5 m5
          have z6 : (wrap64 ((X.g : Int) + (Y.g : Int))).tmod 4294967296 = (Z.g : Int) := by rw [hZ]; exact plus_w _ _ l6 m6
          have z7 : (wrap64 ((X.h : Int) + (Y.h : Int))).tmod 4294967296 = (Z.h : Int) := by rw [hZ]; exact plus_w _ _ l7 m7
          have hZm : Z = Sha.many Sha.init P (m + 1) := by
            rw [hZ, Sha.many, ← hX.out, Sha.comp, hY, Sha.st_eq (l := L) (m := Sha.word (fun i => P (64 * m + i))) X (fun i hi => by rw [word_part, hL.out])]
          have hxZ := (store8 Z hx6).eq (f' := (Sha.many Sha.init P (m + 1)).get) (fun i _ => by rw [← hZm])
          have hOx := (Only.refl gx wr).set8 (.int .i64 (Z.a : Int)) (.int .i64 (Z.b : Int)) (.int .i64 (Z.c : Int)) (.int .i64 (Z.d : Int)) (.int .i64 (Z.e : Int)) (.int .i64 (Z.f : Int)) (.int .i64 (Z.g : Int)) (.int .i64 (Z.h : Int))
          have hlZ := hl6.only hOx (by omega)
          have hkZ : Ints _ gk 64 Sha.kk := fun i hi => hOx.cell (hk6 i hi) (by show gk ≠ gx; omega)
          have hbZ := hOx.below' hbe6 (Nat.le_refl _) (Nat.le_of_lt hx6.lt)
          have fz := hx6.free
          have fz0 := fz 0
          have fz1 := fz 1
          have fz2 := fz 2
          have fz3 := fz 3
          have fz4 := fz 4
          have fz5 := fz 5
          have fz6 := fz 6
          have fz7 := fz 7
          replace hxZ := Lib.hid hxZ
          replace hlZ := Lib.hid hlZ
          replace hkZ := Lib.hid hkZ
          replace hbZ := Lib.hid hbZ
          replace hZ := Lib.hid hZ
          replace hY := Lib.hid hY
          replace hZm := Lib.hid hZm
          replace hYok := Lib.hid hYok
          clear hx6 hl6 hk6 hbe6 hOx fz hy hO l0 l1 l2 l3 l4 l5 l6 l7 m0 m1 m2 m3 m4 m5 m6 m7
          go_wp2
          go_roundw
          case rel => exact ⟨m + 1, by omega, by go_num, hxZ.out, hlZ.out, hkZ.out, hbZ.out⟩
          case measure => simp [intOf]; omega
    · obtain rfl : m = nb := by omega
      have hXs : X = Sha.sum s := by rw [hX, hP.out, hnb.out]; rfl
      obtain ⟨i0, hi, hz0, hz1, hz2⟩ := info_parts info_u8
      have hgx1 := hx.lt
      replace hXs := Lib.hid hXs
      replace hX := Lib.hid hX
      replace hXok := Lib.hid hXok
      replace hx := Lib.hid hx
      replace hbe := Lib.hid hbe
      clear hl hk hx3 hrow3 hbe3
      go_wp2_with (first
        | (at_make; refine wpList_make_row rfl _ _ 67 rfl 5 i0 .u8 Tryd.underlying67 hi hz0 hz1 _ _ _ _ 32 32 rfl rfl rfl rfl (by omega) (by rw [hz2]; omega) (by omega) ?_))
      intro w8 HO8 HB8 HS8
      obtain ⟨d0, d1, d2, d3, d4, d5, d6, d7⟩ := cells8 (hx.out.below HB8.out hgx1)
      have hbe8 : Below gx w w8 := below_trans' hbe.out (by omega) HB8.out
      obtain ⟨go, ego⟩ : ∃ go : Nat, go = wr.heap.size := ⟨_, rfl⟩
      rw [← ego] at HO8 HS8 hgx1 ⊢
      replace ego := Lib.hid ego
      replace hbe8 := Lib.hid hbe8
      clear HB8 hx hbe c0 c1 c2 c3 c4 c5 c6 c7
      go_wp2_with fail
      have hout9 := HO8.out.alloc (.cells #[.int .i64 (X.a : Int), .int .i64 (X.b : Int), .int .i64 (X.c : Int), .int .i64 (X.d : Int), .int .i64 (X.e : Int), .int .i64 (X.f : Int), .int .i64 (X.g : Int), .int .i64 (X.h : Int)] 3)
      have hbe9 := hbe8.out.alloc (by have := HS8.out; omega) (.cells #[.int .i64 (X.a : Int), .int .i64 (X.b : Int), .int .i64 (X.c : Int), .int .i64 (X.d : Int), .int .i64 (X.e : Int), .int .i64 (X.f : Int), .int .i64 (X.g : Int), .int .i64 (X.h : Int)] 3)
      have hxs9 := new8t w8 X 3
      have hs8 := HS8.out
      obtain ⟨gb, egb⟩ : ∃ gb : Nat, gb = w8.heap.size := ⟨_, rfl⟩
      rw [← egb] at hxs9 hs8
      simp only [← egb]
      generalize w8.alloc (.cells #[.int .i64 (X.a : Int), .int .i64 (X.b : Int), .int .i64 (X.c : Int), .int .i64 (X.d : Int), .int .i64 (X.e : Int), .int .i64 (X.f : Int), .int .i64 (X.g : Int), .int .i64 (X.h : Int)] 3) = w9 at hout9 hbe9 hxs9 ⊢
      replace hout9 := Lib.hid (hout9.eq (f' := outF X 0 0) (fun x _ => by unfold outF; rw [if_neg (by omega)]))
      replace hbe9 := Lib.hid hbe9
      replace hxs9 := Lib.hid hxs9
      clear egb hbe8 HS8 HO8 d0 d1 d2 d3 d4 d5 d6 d7
      go_loopw [113] (fun v113 wr => ∃ i : Nat, i ≤ 8 ∧ v113 = .int .i64 (i : Int) ∧ NRow wr go 5 .u8 32 (outF X i 0) ∧ NRow wr gb 3 .i64 8 X.get ∧ Below gx w wr) (fun v113 _ => 8 - (intOf v113).toNat)
      case atStart => exact ⟨0, by omega, rfl, hout9.out, hxs9.out, hbe9.out⟩
      case round =>
        obtain ⟨i, hi8, rfl, hro, hrb, hb⟩ := hrel
        by_cases hil : i < 8
        · have hcb := hrb.cell i hil
          obtain ⟨y, hy⟩ : ∃ y : Nat, y = X.get i := ⟨_, rfl⟩
          rw [← hy] at hcb
          have hyl : y < 4294967296 := by rw [hy]; exact hXok.out i
          have hil' : (i : Int) < 8 := by omega
          replace hro := Lib.hid hro
          replace hrb := Lib.hid hrb
          replace hb := Lib.hid hb
          replace hy := Lib.hid hy
          go_wp2_with fail
          obtain ⟨wo, rfl⟩ : ∃ wo : World, wo = wr := ⟨_, rfl⟩
          go_loopw [12, 13] (fun v12 v13 wr => ∃ (q z : Nat) (jj : Int), q ≤ 4 ∧ z = y / 256 ^ q ∧ jj = 3 - (q : Int) ∧ v12 = .int .i64 (z : Int) ∧ v13 = .int .i64 jj ∧ NRow wr go 5 .u8 32 (outF X i q) ∧ NRow wr gb 3 .i64 8 X.get ∧ Below gx w wr) (fun _ v13 _ => (intOf v13 + 1).toNat)
          case atStart => exact ⟨0, y, 3, by omega, by simp, by omega, rfl, rfl, hro.out, hrb.out, hb.out⟩
          case round =>
            obtain ⟨q, z, jj, hq, hz, hjj, rfl, rfl, hrq, hrbq, hbq⟩ := hrel
            by_cases hq4 : q < 4
            · obtain ⟨p, rfl⟩ : ∃ p : Nat, jj = (p : Int) := ⟨jj.toNat, by omega⟩
              have hpq : p + q = 3 := by omega
              obtain ⟨r, hr⟩ : ∃ r : Nat, r = 4 * i + p := ⟨_, rfl⟩
              have er : 4 * (i : Int) + (p : Int) = (r : Int) := by omega
              have hr32 : r < 32 := by omega
              have hr32' : (r : Int) < 32 := by omega
              have hr0 : (0 : Int) ≤ (r : Int) := by omega
              have hpp : (0 : Int) ≤ (p : Int) := by omega
              have hp3 : p ≤ 3 := by omega
              have hcl := hrq.cell r hr32
              have hfz := hrq.free r
              generalize outF X i q r = old at hcl
              have hzb : z ≤ y := by rw [hz]; exact Nat.div_le_self _ _
              obtain ⟨v, hv⟩ : ∃ v : Nat, v = z % 256 := ⟨_, rfl⟩
              have hv0 : (z : Int).tmod 256 = (v : Int) := by rw [Int.tmod_eq_emod_of_nonneg (by omega)]; omega
              have hv2 : v < 256 := by omega
              have hv1 : IntKind.u8.wrap (v : Int) = (v : Int) := by simp [IntKind.wrap, IntKind.signed, IntKind.bits]; omega
              have hset := (hrq.set r v hr32).eq (f' := outF X i (q + 1)) (fun x _ => by rw [hr]; exact outF_set X i q p x v hpq (by rw [hv, hz, hy.out]))
              have hrb' := hrbq.other ⟨go, r, none⟩ (.int .u8 (v : Int)) (by show gb ≠ go; omega)
              have hb' := hbq.setCell (p := ⟨go, r, none⟩) (by show gx ≤ go; omega) (.int .u8 (v : Int))
              have hzz : z / 256 = y / 256 ^ (q + 1) := by rw [hz, Nat.div_div_eq_div_mul, Nat.pow_succ]
              replace hset := Lib.hid hset
              replace hrb' := Lib.hid hrb'
              replace hb' := Lib.hid hb'
              replace hz := Lib.hid hz
              replace hzz := Lib.hid hzz
              replace hv := Lib.hid hv
              replace hjj := Lib.hid hjj
              replace hpq := Lib.hid hpq
              replace hr := Lib.hid hr
              clear hrq hrbq hbq
              go_wp2
              go_roundw
              case rel => exact ⟨q + 1, z / 256, (p : Int) - 1, by omega, hzz.out, by have := hjj.out; omega, by go_num, by go_num, hset.out, hrb'.out, hb'.out⟩
              case measure => simp [intOf]
            · obtain rfl : q = 4 := by omega
              have hro4 := hrq.eq (f' := outF X (i + 1) 0) (fun x _ => outF_next X i x)
              replace hro4 := Lib.hid hro4
              replace hrbq := Lib.hid hrbq
              replace hbq := Lib.hid hbq
              replace hz := Lib.hid hz
              replace hjj := Lib.hid hjj
              have hj0 : jj < 0 := by have := hjj.out; omega
              clear hrq
              go_wp2
              go_roundw
              case rel => exact ⟨i + 1, by omega, by go_num, hro4.out, hrbq.out, hbq.out⟩
              case measure => simp [intOf]; omega
        · obtain rfl : i = 8 := by omega
          have hcv := hro.string (c := 32) Tryd.underlying67 Tryd.underlying5 Tryd.underlying9 (by decide)
          rw [outF_outs, hXs.out] at hcv
          replace hcv : (convert 67 9 (.slice (some ⟨go, 0, none⟩) 32 32)).run Tryd.prog wr = .ok (.string (Sha.hash s)) wr := hcv
          replace hb := Lib.hid hb
          clear hro hrb
          go_wp2
          go_ret
          exact ⟨rfl, by rw [← egx.out]; exact hb.out⟩
end Go.Proofs.YtkmbpakhbicnaaaDoor
