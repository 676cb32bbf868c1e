/- The reference's words, rounds and schedule, plainly: they are the sum's. -/
import Derived.Test.YtmlfheagbfaoaaaDoorPDgx
import Derived.Test.YtmlfheagbfaoaaaDoorSha
namespace Go.Proofs.YtmlfheagbfaoaaaDoor
open Go.RowKit Go.Proofs.YtmlfheagbfaoaaaDoorW.PrintWords Go.Proofs.YtmlfheagbfaoaaaDoorW.PrintMore Go.Lib

theorem s_f (x n : Nat) (hx : x < Sha.M) (h0 : 0 < n) (hn : n < 32) : wardmoteref04_s.f (x : Int) (n : Int) = some ((Sha.rot x n : Nat) : Int) := by
  unfold wardmoteref04_s.f
  rw [if_pos ⟨by omega, by show (x : Int) < 4294967296; have : x < 4294967296 := hx; omega, by omega, by omega⟩]
  rfl
theorem three_f (x i j k : Nat) (hx : x < Sha.M) (hi : 0 < i ∧ i < 32) (hj : 0 < j ∧ j < 32) (hk : 0 < k ∧ k < 32) :
    PDg.wardmoteref04_three.f (x : Int) (i : Int) (j : Int) (k : Int) = some ((Sha.rot x i ^^^ Sha.rot x j ^^^ Sha.rot x k : Nat) : Int) := by
  have ri := Sha.rot_lt x i hx hi.1 hi.2
  have rj := Sha.rot_lt x j hx hj.1 hj.2
  have rk := Sha.rot_lt x k hx hk.1 hk.2
  unfold PDg.wardmoteref04_three.f
  rw [s_f x i hx hi.1 hi.2, s_f x j hx hj.1 hj.2, s_f x k hx hk.1 hk.2]
  simp only [Option.bind_some]
  rw [(Sha.bits64 _ _ ri rj).1, (Sha.bits64 _ _ (Sha.xor_lt ri rj) rk).1]
theorem w64_nat (n : Nat) (h : n < 9223372036854775808) : wrap64 (n : Int) = (n : Int) := Sha.i64_nat h
theorem w64_add (a b : Nat) (h : a + b < 9223372036854775808) : wrap64 ((a : Int) + (b : Int)) = ((a + b : Nat) : Int) := by
  rw [← Int.natCast_add]
  exact Sha.i64_nat h
theorem tmod_nat (a : Nat) : Int.tmod (a : Int) 4294967296 = ((a % Sha.M : Nat) : Int) := by
  rw [Int.tmod_eq_emod_of_nonneg (by omega)]
  show _ = ((a % 4294967296 : Nat) : Int)
  omega
theorem round_f (x : Sha.Eight) (k w : Nat) (hx : x.ok) (hk : k < Sha.M) (hw : w < Sha.M) :
    PDg.wardmoteref04_round.f (x.a : Int) (x.b : Int) (x.c : Int) (x.d : Int) (x.e : Int) (x.f : Int) (x.g : Int) (x.h : Int) (k : Int) (w : Int) =
      some (((Sha.rnd x k w).a : Int), ((Sha.rnd x k w).b : Int), ((Sha.rnd x k w).c : Int), ((Sha.rnd x k w).d : Int), ((Sha.rnd x k w).e : Int), ((Sha.rnd x k w).f : Int), ((Sha.rnd x k w).g : Int), ((Sha.rnd x k w).h : Int)) := by
  obtain ⟨ha, hb, hc, hd, he, hf, hg, hh⟩ := hx.lt
  have hM : Sha.M = 4294967296 := rfl
  have h1 := three_f x.e 6 11 25 he (by decide) (by decide) (by decide)
  have h2 := three_f x.a 2 13 22 ha (by decide) (by decide) (by decide)
  have l1 : Sha.big1 x.e < Sha.M := Sha.big1_lt he
  have l0 : Sha.big0 x.a < Sha.M := Sha.big0_lt ha
  have lc : Sha.ch x.e x.f x.g < Sha.M := Sha.ch_lt hf hg
  have lm : Sha.maj x.a x.b x.c < Sha.M := Sha.maj_lt ha hb
  have ec : Go.bits .xor .i64 (Go.bits .and .i64 (x.e : Int) (x.f : Int)) (Go.bits .and .i64 (wrap64 (4294967295 - (x.e : Int))) (x.g : Int)) = ((Sha.ch x.e x.f x.g : Nat) : Int) := by
    rw [show wrap64 (4294967295 - (x.e : Int)) = ((Sha.M - 1 - x.e : Nat) : Int) by unfold wrap64; omega, (Sha.bits64 x.e x.f he hf).2.1, (Sha.bits64 _ x.g (by omega) hg).2.1, (Sha.bits64 _ _ (Sha.and_lt hf) (Sha.and_lt hg)).1, Sha.ch_ref x.e x.f x.g he hf hg]
  have em : Go.bits .xor .i64 (Go.bits .xor .i64 (Go.bits .and .i64 (x.a : Int) (x.b : Int)) (Go.bits .and .i64 (x.a : Int) (x.c : Int))) (Go.bits .and .i64 (x.b : Int) (x.c : Int)) = ((Sha.maj x.a x.b x.c : Nat) : Int) := by
    rw [(Sha.bits64 x.a x.b ha hb).2.1, (Sha.bits64 x.a x.c ha hc).2.1, (Sha.bits64 x.b x.c hb hc).2.1, (Sha.bits64 _ _ (Sha.and_lt hb) (Sha.and_lt hc)).1, (Sha.bits64 _ _ (Sha.xor_lt (Sha.and_lt hb) (Sha.and_lt hc)) (Sha.and_lt hc)).1, Sha.maj_ref]
  unfold PDg.wardmoteref04_round.f
  rw [show PDg.wardmoteref04_three.f (x.e : Int) 6 11 25 = _ from h1, show PDg.wardmoteref04_three.f (x.a : Int) 2 13 22 = _ from h2]
  simp only [Option.bind_some]
  rw [ec, em, show Sha.rot x.e 6 ^^^ Sha.rot x.e 11 ^^^ Sha.rot x.e 25 = Sha.big1 x.e from rfl, show Sha.rot x.a 2 ^^^ Sha.rot x.a 13 ^^^ Sha.rot x.a 22 = Sha.big0 x.a from rfl]
  unfold Sha.rnd Sha.up
  generalize Sha.ch x.e x.f x.g = c at *
  generalize Sha.maj x.a x.b x.c = m at *
  generalize Sha.big1 x.e = p at *
  generalize Sha.big0 x.a = q at *
  clear h1 h2 ec em
  rw [w64_add x.h p (by omega), w64_add _ c (by omega), w64_add _ k (by omega), w64_add _ w (by omega), w64_add q m (by omega), w64_add _ _ (by omega), w64_add _ _ (by omega), tmod_nat, tmod_nat]
  refine congrArg some ?_
  simp only [Prod.mk.injEq, true_and, and_true]
  refine ⟨congrArg Nat.cast ?_, congrArg Nat.cast ?_⟩
  · simp only [hM]
    omega
  · simp only [hM]
    omega

/-- The first n of f, as the program has them. -/
def natL (f : Nat → Nat) (n : Nat) : List Int := (List.range n).map fun i => (f i : Int)
theorem natL_len (f : Nat → Nat) (n : Nat) : (natL f n).length = n := by simp [natL]
theorem natL_rd (f : Nat → Nat) (n i : Nat) (h : i < n) : rd (natL f n) (i : Int) = (f i : Int) := by
  unfold rd natL
  rw [Int.toNat_natCast, List.getD_eq_getElem?_getD, List.getElem?_map, List.getElem?_range h]
  rfl
theorem natL_succ (f : Nat → Nat) (n : Nat) : natL f (n + 1) = natL f n ++ [(f n : Int)] := by
  simp [natL, List.range_succ]
theorem spread_step (l : Nat → Nat) (hl : ∀ i, i < 16 → l i < Sha.M) (t k : Nat) (ht : t + 16 < 64) :
    PDg.wardmoteref04_spread.l0 (k + 1) (natL (Sha.W l) (t + 16)) = PDg.wardmoteref04_spread.l0 k (natL (Sha.W l) (t + 16 + 1)) := by
  have hW : ∀ i, Sha.W l i < Sha.M := Sha.W_lt l hl
  have hM : Sha.M = 4294967296 := rfl
  have e15 : wrap64 (((t + 16 : Nat) : Int) - 15) = ((t + 1 : Nat) : Int) := by unfold wrap64; omega
  have e2 : wrap64 (((t + 16 : Nat) : Int) - 2) = ((t + 14 : Nat) : Int) := by unfold wrap64; omega
  have e7 : wrap64 (((t + 16 : Nat) : Int) - 7) = ((t + 9 : Nat) : Int) := by unfold wrap64; omega
  have e16 : wrap64 (((t + 16 : Nat) : Int) - 16) = ((t : Nat) : Int) := by unfold wrap64; omega
  have r15 := natL_rd (Sha.W l) (t + 16) (t + 1) (by omega)
  have r2 := natL_rd (Sha.W l) (t + 16) (t + 14) (by omega)
  have r7 := natL_rd (Sha.W l) (t + 16) (t + 9) (by omega)
  have r16 := natL_rd (Sha.W l) (t + 16) t (by omega)
  rw [PDg.wardmoteref04_spread.l0, natL_len, e15, e2, e7, e16, r15, r2, r7, r16]
  rw [if_pos (by omega), if_pos (by omega), if_pos (by omega)]
  have q7 := s_f (Sha.W l (t + 1)) 7 (hW _) (by decide) (by decide)
  have q18 := s_f (Sha.W l (t + 1)) 18 (hW _) (by decide) (by decide)
  have q17 := s_f (Sha.W l (t + 14)) 17 (hW _) (by decide) (by decide)
  have q19 := s_f (Sha.W l (t + 14)) 19 (hW _) (by decide) (by decide)
  rw [show wardmoteref04_s.f ((Sha.W l (t + 1) : Nat) : Int) 7 = _ from q7, show wardmoteref04_s.f ((Sha.W l (t + 1) : Nat) : Int) 18 = _ from q18, show wardmoteref04_s.f ((Sha.W l (t + 14) : Nat) : Int) 17 = _ from q17, show wardmoteref04_s.f ((Sha.W l (t + 14) : Nat) : Int) 19 = _ from q19]
  simp only [Option.bind_some]
  rw [if_pos (by omega), if_pos (by omega), if_pos (by omega), if_pos (by omega), if_pos (by omega), if_pos (by omega), if_pos (by omega)]
  have l7 := Sha.rot_lt (Sha.W l (t + 1)) 7 (hW _) (by decide) (by decide)
  have l18 := Sha.rot_lt (Sha.W l (t + 1)) 18 (hW _) (by decide) (by decide)
  have l17 := Sha.rot_lt (Sha.W l (t + 14)) 17 (hW _) (by decide) (by decide)
  have l19 := Sha.rot_lt (Sha.W l (t + 14)) 19 (hW _) (by decide) (by decide)
  have d8 : wrap64 (Int.tdiv ((Sha.W l (t + 1) : Nat) : Int) 8) = ((Sha.W l (t + 1) / 8 : Nat) : Int) := by
    have := hW (t + 1)
    rw [Int.tdiv_eq_ediv_of_nonneg (by omega)]
    unfold wrap64
    omega
  have d10 : wrap64 (Int.tdiv ((Sha.W l (t + 14) : Nat) : Int) 1024) = ((Sha.W l (t + 14) / 1024 : Nat) : Int) := by
    have := hW (t + 14)
    rw [Int.tdiv_eq_ediv_of_nonneg (by omega)]
    unfold wrap64
    omega
  have m8 : Sha.W l (t + 1) / 8 < Sha.M := Nat.lt_of_le_of_lt (Nat.div_le_self _ _) (hW _)
  have m10 : Sha.W l (t + 14) / 1024 < Sha.M := Nat.lt_of_le_of_lt (Nat.div_le_self _ _) (hW _)
  rw [d8, d10, (Sha.bits64 _ _ l17 l19).1, (Sha.bits64 _ _ (Sha.xor_lt l17 l19) m10).1, (Sha.bits64 _ _ l7 l18).1, (Sha.bits64 _ _ (Sha.xor_lt l7 l18) m8).1]
  rw [show Sha.rot (Sha.W l (t + 14)) 17 ^^^ Sha.rot (Sha.W l (t + 14)) 19 ^^^ Sha.W l (t + 14) / 1024 = Sha.sm1 (Sha.W l (t + 14)) from rfl, show Sha.rot (Sha.W l (t + 1)) 7 ^^^ Sha.rot (Sha.W l (t + 1)) 18 ^^^ Sha.W l (t + 1) / 8 = Sha.sm0 (Sha.W l (t + 1)) from rfl]
  have s1 : Sha.sm1 (Sha.W l (t + 14)) < Sha.M := Sha.sm1_lt (hW _)
  have s0 : Sha.sm0 (Sha.W l (t + 1)) < Sha.M := Sha.sm0_lt (hW _)
  have w7 := hW (t + 9)
  have w16 := hW t
  rw [natL_succ (Sha.W l) (t + 16), Sha.W_hi]
  generalize Sha.sm1 (Sha.W l (t + 14)) = a at *
  generalize Sha.sm0 (Sha.W l (t + 1)) = b at *
  generalize Sha.W l (t + 9) = c at *
  generalize Sha.W l t = d at *
  rw [w64_add a c (by omega), w64_add _ b (by omega), w64_add _ d (by omega), tmod_nat]
theorem spread_end (l : Nat → Nat) (hl : ∀ i, i < 16 → l i < Sha.M) : ∀ n t k, t + n = 48 → n < k → PDg.wardmoteref04_spread.l0 k (natL (Sha.W l) (t + 16)) = some (natL (Sha.W l) 64)
  | 0, t, k, h, hk => by
    obtain ⟨k, rfl⟩ : ∃ m, k = m + 1 := ⟨k - 1, by omega⟩
    obtain rfl : t = 48 := by omega
    rw [PDg.wardmoteref04_spread.l0, natL_len, if_neg (by omega)]
  | n + 1, t, k, h, hk => by
    obtain ⟨k, rfl⟩ : ∃ m, k = m + 1 := ⟨k - 1, by omega⟩
    rw [spread_step l hl t k (by omega), show t + 16 + 1 = (t + 1) + 16 by omega]
    exact spread_end l hl n (t + 1) k (by omega) (by omega)
theorem spread_f4 (l : Nat → Nat) (hl : ∀ i, i < 16 → l i < Sha.M) : PDg.wardmoteref04_spread.f 64 (natL l 16) = some (natL (Sha.W l) 64) := by
  have e : natL l 16 = natL (Sha.W l) (0 + 16) := by
    unfold natL
    refine List.map_congr_left (fun i hi => ?_)
    rw [Sha.W_lo l (by have := List.mem_range.1 hi; omega)]
  unfold PDg.wardmoteref04_spread.f
  rw [if_pos (by rw [natL_len]; decide), List.nil_append, e]
  exact spread_end l hl 48 0 64 (by omega) (by omega)
theorem cubes_f : PDg.wardmoteref04_cubes.f = some (natL Sha.kk 64) := by
  unfold PDg.wardmoteref04_cubes.f
  refine congrArg some ?_
  decide +kernel
end Go.Proofs.YtmlfheagbfaoaaaDoor
