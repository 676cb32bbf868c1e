/- The contract of the reference's turn of a word, as the print asks it. -/
import Derived.Test.YtkmbpakhbicnaaaDoorProg
import Derived.Test.YtkmbpakhbicnaaaDoorSha
import Derived.Lib.Hide
import Derived.Outline
import Derived.BigQuiet
import Derived.Deep.QuietTactic
namespace Go.Proofs.YtkmbpakhbicnaaaDoor
open Go.RowKit Go.Proofs.YtkmbpakhbicnaaaDoorW.PrintWords Go.Proofs.YtkmbpakhbicnaaaDoorW.PrintMore Go.Lib

def wardmoteref04_s.f (a0 a1 : Int) : Option Int := if 0 ≤ a0 ∧ a0 < 4294967296 ∧ 0 < a1 ∧ a1 < 32 then some ((Sha.rot a0.toNat a1.toNat : Nat) : Int) else none
theorem wrap64_two {n : Nat} (hn : n < 33) : wrap64 (2 ^ n) = ((2 ^ n : Nat) : Int) := by
  have : 2 ^ n ≤ 2 ^ 32 := Nat.pow_le_pow_right (by decide) (by omega)
  have h : ((2 ^ n : Nat) : Int) = 2 ^ n := by push_cast; rfl
  rw [← h]
  generalize 2 ^ n = p at this
  have : p ≤ 4294967296 := this
  unfold wrap64
  omega
theorem rot_eq (x n : Nat) (hx : x < 4294967296) (h0 : 0 < n) (hn : n < 32) :
    wrap64 (wrap64 ((x : Int).tdiv ((2 ^ n : Nat) : Int)) + wrap64 ((x : Int).tmod ((2 ^ n : Nat) : Int) * ((2 ^ (32 - n) : Nat) : Int))) = ((Sha.rot x n : Nat) : Int) := by
  have hl : x / 2 ^ n + x % 2 ^ n * 2 ^ (32 - n) < 4294967296 := Sha.rot_lt x n hx h0 hn
  rw [Int.tdiv_eq_ediv_of_nonneg (by omega), Int.tmod_eq_emod_of_nonneg (by omega), ← Int.natCast_ediv, ← Int.natCast_emod, ← Int.natCast_mul]
  unfold Sha.rot
  generalize x % 2 ^ n * 2 ^ (32 - n) = u at hl ⊢
  generalize x / 2 ^ n = v at hl ⊢
  unfold wrap64
  omega
set_option maxRecDepth 100000 in
theorem wardmoteref04_s.calls (a0 a1 r : Int) (w : World) (h : wardmoteref04_s.f a0 a1 = some r) :
    Calls Tryd.prog 48 #[.int .i64 a0, .int .i64 a1] w fun e w' => e = .returned (.int .i64 r) ∧ Drawn0 w w' := by
  unfold wardmoteref04_s.f at h
  split at h
  case isFalse => exact absurd h (by simp)
  rename_i hc
  obtain ⟨h0, h1, h2, h3⟩ := hc
  obtain rfl := Option.some.inj h
  clear h
  have e1 : IntKind.u64.wrap a1 = a1 := by simp [IntKind.wrap, IntKind.signed, IntKind.bits]; omega
  obtain ⟨m, hm⟩ : ∃ m : Int, m = 32 - a1 := ⟨_, rfl⟩
  have e2 : IntKind.i64.wrap (32 - a1) = m := by rw [IntKind.wrap_i64]; omega
  have e3 : IntKind.u64.wrap m = m := by simp [IntKind.wrap, IntKind.signed, IntKind.bits]; omega
  obtain ⟨p, p1⟩ : ∃ p : Int, wrap64 (2 ^ min a1.toNat 64) = p := ⟨_, rfl⟩
  obtain ⟨q, q1⟩ : ∃ q : Int, wrap64 (2 ^ min m.toNat 64) = q := ⟨_, rfl⟩
  have ht : ∀ n : Nat, n < 33 → wrap64 (2 ^ min n 64) = ((2 ^ n : Nat) : Int) := fun n hn => by
    rw [Nat.min_eq_left (by omega)]
    exact wrap64_two hn
  have hp2 : p = ((2 ^ a1.toNat : Nat) : Int) := p1.symm.trans (ht _ (by omega))
  have hq2 : q = ((2 ^ m.toNat : Nat) : Int) := q1.symm.trans (ht _ (by omega))
  have cp : (p = 0) = False := eq_false (by have := Nat.two_pow_pos a1.toNat; rw [hp2]; generalize 2 ^ a1.toNat = z at this; omega)
  clear ht
  replace hp2 := Lib.hid hp2
  replace hq2 := Lib.hid hq2
  have c1 : (decide (0 ≤ a1)) = true := decide_eq_true (by omega)
  have c2 : (decide (0 ≤ m)) = true := decide_eq_true (by omega)
  have b1 : 0 ≤ a1 := by omega
  have b2 : 0 ≤ m := by omega
  have HH := Lib.hid (show _ ∧ _ ∧ _ ∧ _ from ⟨h0, h1, h2, h3⟩)
  have HM := Lib.hid hm
  clear h0 h1 h2 h3 hm
  go_enter Tryd.func48, Tryd.ntmps48
  go_wp2
  go_ret
  refine ⟨?_, Drawn0.refl _⟩
  have H := HH.out
  have HM := HM.out
  have hp2 := hp2.out
  have hq2 := hq2.out
  clear HH e1 e2 e3 p1 q1 c1 c2 cp
  obtain ⟨h0, h1, h2, h3⟩ := H
  obtain ⟨x, rfl⟩ := Int.eq_ofNat_of_zero_le h0
  obtain ⟨n, rfl⟩ := Int.eq_ofNat_of_zero_le b1
  have hmn : m.toNat = 32 - n := by omega
  rw [hmn] at hq2
  refine congrArg (fun z => Ending.returned (.int .i64 z)) ?_
  simp only [Int.toNat_natCast] at hp2 ⊢
  rw [hp2, hq2]
  exact rot_eq x n (by omega) (by omega) (by omega)

end Go.Proofs.YtkmbpakhbicnaaaDoor
