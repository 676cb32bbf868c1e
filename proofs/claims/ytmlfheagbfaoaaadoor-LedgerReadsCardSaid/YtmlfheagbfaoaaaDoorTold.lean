/- The iterator that tells what bytes hold, and Read, which collects it: walked where loops over functions are (the wide fence), told as plain contracts. -/
import Derived.RangeFuncBox
import Derived.RangeFuncNested
import Derived.RangeFuncBound
import Derived.RangeFuncCalls
import Derived.RangeFuncLeaves
import Derived.Shelf.Abstract
import Derived.Shelf.RegionOpen
import Derived.WalkKit
import Derived.OwnWalkIn
import Derived.TacticsInMore
import Derived.LoopNIn
import Derived.LoopIn
import Derived.Maps.AppendAt
import Derived.Stop.RegionWithIn
import Derived.Test.YtmlfheagbfaoaaaDoorTp
namespace Go.Proofs.YtmlfheagbfaoaaaDoor
open Go.RowKit Go.Shelf Go.Proofs.YtmlfheagbfaoaaaDoorW.PrintWords Go.Proofs.YtmlfheagbfaoaaaDoorW.PrintMore Go.Lib
attribute [local go_sem] Oper.semAt_some

theorem grown_of_below {W W' : World} (h : Below W.heap.size W W') : W.grownBy W' none := ⟨h.os, h.tape, h.output, h.size, fun k hk _ => h.block k hk⟩
theorem told_in (n : Nat) (b : ByteArray) (w : World) :
    CallsIn Fence.wide n Tryd.prog 26 #[.string b] w fun e w' => e = .returned (.func (.func 32) #[] #[.pointer (some ⟨w.heap.size, 0, none⟩)]) ∧ w' = w.alloc (.cells #[.string b] 9) := by
  refine callsIn_of_wp Tryd.func26 rfl trivial ?_ rfl
  simp only [Tryd.ntmps26, List.size_toArray, List.length_cons, List.length_nil, Nat.reduceAdd, Nat.reduceSub, Array.replicate_succ, Array.replicate_zero, List.push_toArray, List.append_toArray, List.nil_append, List.cons_append]
  gi_wp2
  go_ret
  exact ⟨rfl, rfl⟩
/-- What a round keeps: what lay below n₀, and the box of the bytes. -/
def Kp (n₀ bx : Nat) (A C : World) : Prop := Below n₀ A C ∧ C.heap[bx]? = A.heap[bx]?
def encT (x : ByteArray × Nat) : Array Value := #[.string x.1, .int .i64 (x.2 : Int)]

theorem slice_str (w : World) (s : ByteArray) (lo hi : Nat) (z1 z2 : Int) (h1 : z1 = (lo : Int)) (h2 : z2 = (hi : Int)) (h : lo ≤ hi) (hs : hi ≤ s.size) :
    (Instr.slice 9 (.string s) (some (.int .i64 z1)) (some (.int .i64 z2)) none).run Tryd.prog w = .ok (.string (s.extract lo hi)) w := by
  subst h1 h2
  simp [Instr.slice, run_underlying Tryd.underlying9, go_sem, h, hs]
theorem toList_inj {a b : ByteArray} (h : a.toList = b.toList) : a = b := by
  rw [ByteArray.toList_eq, ByteArray.toList_eq] at h
  exact ByteArray.ext (Array.toList_inj.1 h)
theorem size_or (b : ByteArray) (i : Nat) : Go.bits .or .i64 ((Sha.by8 b i : Int) * 256) (Sha.by8 b (i + 1) : Int) = ((sizeAt b i : Nat) : Int) := by
  have h0 := Sha.by8_lt b i
  have h1 := Sha.by8_lt b (i + 1)
  rw [show (Sha.by8 b i : Int) * 256 = ((Sha.by8 b i * 256 : Nat) : Int) by omega]
  rw [(Sha.bits64 _ _ (by show _ < 4294967296; omega) (by show _ < 4294967296; omega)).2.2, Nat.mul_comm _ 256]
  unfold sizeAt
  generalize Sha.by8 b i = x
  rw [show 256 = 2 ^ 8 from rfl, ← Nat.two_pow_add_eq_or_of_lt h1]
theorem index_str (w : World) (s : ByteArray) (i : Nat) (z : Int) (hz : z = (i : Int)) (h : i < s.size) : (Instr.index 9 (.string s) (.int .i64 z)).run Tryd.prog w = .ok (.int .u8 (Sha.by8 s i : Int)) w := by
  subst hz
  rw [← by8_at s i h]
  simp [Instr.index, run_underlying Tryd.underlying9, asIntOf, go_sem, h]

set_option maxRecDepth 100000 in
set_option maxHeartbeats 4000000 in
theorem told1_in (n : Nat) (hn : 1 ≤ n) (l bx n₀ : Nat) (w0 : World) (b : ByteArray) (hb : b.size ≤ 1099511627776) (HT : Hid (Tab w0)) (hn0 : n₀ = w0.heap.size) (Bw : Nat) (J Jx : List (ByteArray × Nat) → World → Prop) (hJ : AbidesFrom Bw J)
    (hY : ∀ pre x W, J pre W → pre.length < (toldB b).length → YieldAt Fence.wide (n - 1) Tryd.prog l (encT x) W fun e W' =>
      (e = .returned (.bool true) ∧ J (pre ++ [x]) W' ∧ Kp n₀ bx W W') ∨ (e = .returned (.bool false) ∧ Jx (pre ++ [x]) W'))
    (W : World) (hbx : W.heap[bx]? = some (.cells #[.string b] 9)) (hW0 : Below n₀ w0 W) (h0 : J [] W) :
    CallsIn Fence.wide n Tryd.prog 32 #[.func (.yield l) #[] #[], .pointer (some ⟨bx, 0, none⟩)] W fun e W' => (∃ v, e = .returned v) ∧
      (J (toldB b) W' ∨ (∃ pre, pre <+: toldB b ∧ Jx pre W')) := by
  have hYB : ∀ pre x W (z : Int), z = (x.2 : Int) → J pre W → pre.length < (toldB b).length → YieldAt Fence.wide (n - 1) Tryd.prog l #[.string x.1, .int .i64 z] W fun e W' =>
      ∃ bb : Bool, e = .returned (.bool bb) ∧ Hid ((bb = true ∧ J (pre ++ [x]) W' ∧ Kp n₀ bx W W') ∨ (bb = false ∧ Jx (pre ++ [x]) W')) := by
    intro pre x W z hz hj hl
    subst hz
    refine (hY pre x W hj hl).mono ?_
    rintro e W' (⟨rfl, h1, h2⟩ | ⟨rfl, h1⟩)
    · exact ⟨true, rfl, Lib.hid (.inl ⟨rfl, h1, h2⟩)⟩
    · exact ⟨false, rfl, Lib.hid (.inr ⟨rfl, h1⟩)⟩
  clear hY
  have hF31 : ∀ f, Fence.wide.fn f := fun _ => trivial
  refine callsIn_of_wp Tryd.func32 rfl trivial ?_ rfl
  simp only [Tryd.ntmps32, List.size_toArray, List.length_cons, List.length_nil, Nat.reduceAdd, Nat.reduceSub, Array.replicate_succ, Array.replicate_zero, List.push_toArray, List.append_toArray, List.nil_append, List.cons_append]
  gi_wp2
  gi_loopw [3, 4] (fun p q wr => ∃ (pre : List (ByteArray × Nat)) (at' k : Nat), p = .int .i64 (at' : Int) ∧ q = .int .i64 (k : Int) ∧ at' ≤ b.size ∧ k ≤ at' ∧ toldB b = pre ++ toldFrom b at' k ∧ wr.heap[bx]? = some (.cells #[.string b] 9) ∧ Below n₀ w0 wr ∧ J pre wr)
    (fun p _ wr => b.size - (intOf p).toNat)
  case atStart =>
    exact ⟨[], 0, 0, rfl, rfl, by omega, by omega, rfl, hbx, hW0, h0⟩
  case round =>
    obtain ⟨pre, at', k, rfl, rfl, hat, hk, hx, hbr, hwr, hJs⟩ := hrel
    have hcb : wr.cell? ⟨bx, 0, none⟩ = some (.string b) := by simp [World.cell?, hbr]
    replace hJs := Lib.hid hJs
    replace hx := Lib.hid hx
    replace hbr := Lib.hid hbr
    replace hwr := Lib.hid hwr
    gi_wp2
    · have h6 : at' + 6 ≤ b.size := by omega
      have hi0 := fun w => index_str w b at' at' rfl (by omega)
      have hi1 := fun w => index_str w b (at' + 1) ((at' : Int) + 1) (by omega) (by omega)
      have hl0 := Sha.by8_lt b at'
      have hl1 := Sha.by8_lt b (at' + 1)
      gi_region
      clear hi0 hi1
      have hz : sizeAt b at' < 65536 := by unfold sizeAt; omega
      clear hl0 hl1
      rw [size_or]
      obtain ⟨sz, hsz⟩ : ∃ sz, sz = sizeAt b at' := ⟨_, rfl⟩
      rw [← hsz] at hz ⊢
      replace hsz := Lib.hid hsz
      by_cases hf : sz ≤ 9000 ∧ at' + 6 + sz ≤ b.size
      · obtain ⟨hf1, hf2⟩ := hf
        have hsl := fun w => slice_str w b (at' + 2) (at' + 2 + sz) ((at' : Int) + 2) ((at' : Int) + 6 + sz - 4) (by omega) (by omega) (by omega) (by omega)
        gi_wp2
        have hD : Below wr.heap.size wr wr.drew.drew := ((Below.refl _ wr).drew).drew
        have hTD : Tab wr.drew.drew := HT.out.below ((hn0 ▸ hwr.out).trans (hD.mono (by have := hwr.out.size; omega)))
        obtain ⟨sv, hsv⟩ : ∃ sv, sv = sealB k (b.extract (at' + 2) (at' + 2 + sz)) := ⟨_, rfl⟩
        have S1 := seal_any wr.drew.drew k (b.extract (at' + 2) (at' + 2 + sz)) hTD (by omega) (by rw [ByteArray.size_extract]; omega)
        rw [← hsv] at S1
        have hsl2 := fun w => slice_str w b (at' + 2 + sz) (at' + 6 + sz) (IntKind.i64.wrap ((at' : Int) + 6 + sz - 4)) ((at' : Int) + 6 + sz) (by rw [IntKind.wrap_i64]; omega) (by omega) (by omega) (by omega)
        have hX : ∀ w5, Below wr.heap.size wr.drew.drew w5 → w5.cell? ⟨bx, 0, none⟩ = some (.string b) ∧ Hid (w5.heap[bx]? = some (.cells #[.string b] 9)) ∧ Hid (J pre w5) ∧ Hid (Below n₀ w0 w5) := by
          intro w5 h5
          have h5' := hD.trans h5
          have hlt : bx < wr.heap.size := World.block_lt_of_cell? wr ⟨bx, 0, none⟩ hcb
          exact ⟨pw_cell_below h5' hcb, Lib.hid ((h5'.block bx hlt).trans hbr.out), Lib.hid (hJ _ wr _ none hJs.out (grown_of_below h5') (by simp)), Lib.hid (hwr.out.trans (h5'.mono (by have := hwr.out.size; omega)))⟩
        have hcd : wr.drew.drew.cell? ⟨bx, 0, none⟩ = some (.string b) := by simpa using hcb
        replace S1 := Lib.hid S1
        replace hsv := Lib.hid hsv
        replace hTD := Lib.hid hTD
        replace hD := Lib.hid hD
        replace hX := Lib.hid hX
        by_cases hs : b.extract (at' + 2 + sz) (at' + 6 + sz) = sv
        · have hbq : ((b.extract (at' + 2 + sz) (at' + 6 + sz)).toList == sv.toList) = true := by rw [hs]; exact beq_self_eq_true _
          have hyes := toldFrom_yes b at' k ⟨by unfold fitsAt; rw [← hsz.out]; omega, by unfold sealAt recAt; rw [← hsz.out, hs]; exact hsv.out⟩
          rw [← hsz.out] at hyes
          have hx2 := hx.out
          rw [hyes] at hx2
          have hrec : recAt b at' = b.extract (at' + 2) (at' + 2 + sz) := by unfold recAt; rw [← hsz.out]
          rw [hrec] at hx2
          replace hx2 := Lib.hid hx2
          clear hyes hrec hs
          gi_region_with (first
            | (gi_at_call 31; refine (callsIn_wide.2 S1.out).mono ?_; rintro e w5 ⟨rfl, h5⟩; obtain ⟨hc5, hb5, hJ5, hw5⟩ := hX.out w5 h5; replace h5 := Lib.hid h5; obtain ⟨fn, tmps, assign, body, hy, hR⟩ := hYB pre (b.extract (at' + 2) (at' + 2 + sz), at' + 6 + sz) w5 ((at' : Int) + 6 + sz) (by show _ = ((at' + 6 + sz : Nat) : Int); omega) hJ5.out (by have := hx2.out; rw [this]; simp))
            | (refine hR.mono ?_; rintro e W3 ⟨bb, rfl, h3⟩))
          all_goals (try clear hX hD hTD hsl2 S1 hbq)
          all_goals gi_wp2
          all_goals first
            | (refine bodyPost_ret (results_none rfl _ _ _) rfl ?_
               rcases h3.out with ⟨hb, _⟩ | ⟨_, h1⟩
               · exact absurd hb (by simp_all)
               · exact ⟨⟨_, rfl⟩, .inr ⟨_, ⟨toldFrom b (at' + 6 + sz) (k + 1), by rw [hx2.out]; simp⟩, h1⟩⟩)
            | (rcases h3.out with ⟨_, hJ3, hB3, hx3⟩ | ⟨hb, _⟩
               · go_roundw
                 case rel => exact ⟨pre ++ [(b.extract (at' + 2) (at' + 2 + sz), at' + 6 + sz)], at' + 6 + sz, k + 1, by congr 1, by congr 1, by omega, by omega, by rw [hx2.out]; simp, hx3.trans hb5.out, hw5.out.trans hB3, hJ3⟩
                 case measure => simp [intOf]; omega
               · exact absurd hb (by simp_all))
        · have hbq : ((b.extract (at' + 2 + sz) (at' + 6 + sz)).toList == sv.toList) = false := by
            rw [beq_eq_false_iff_ne]
            exact fun h => hs (toList_inj h)
          have hno : toldFrom b at' k = [] := toldFrom_no _ _ _ (fun h => hs (by rw [hsv.out]; have h2 := h.2; unfold sealAt recAt at h2; rw [← hsz.out] at h2; exact h2))
          have hpre : toldB b = pre := by have := hx.out; rwa [hno, List.append_nil] at this
          replace hpre := Lib.hid hpre
          first
          | gi_region_with (gi_at_call 31; refine (callsIn_wide.2 S1.out).mono ?_; rintro e w5 ⟨rfl, h5⟩; obtain ⟨hc5, hb5, hJ5, hw5⟩ := hX.out w5 h5; replace h5 := Lib.hid h5)
          | fail
          all_goals gi_wp2
          all_goals (refine bodyPost_ret (results_none rfl _ _ _) rfl ?_; exact ⟨⟨_, rfl⟩, .inl (by rw [hpre.out]; exact hJ5.out)⟩)
      · have hno : toldFrom b at' k = [] := toldFrom_no _ _ _ (fun h => hf (by have := hsz.out; unfold fitsAt at h; omega))
        have hJe : J (toldB b) wr.drew := hJ _ wr _ none (by have := hx.out; rw [hno, List.append_nil] at this; rw [this]; exact hJs.out) (grown_of_below ((Below.refl _ wr).drew)) (by simp)
        gi_wp2
        all_goals (refine bodyPost_ret (results_none rfl _ _ _) rfl ?_; exact ⟨⟨_, rfl⟩, .inl hJe⟩)
    · have hno : toldFrom b at' k = [] := toldFrom_no _ _ _ (fun h => by unfold fitsAt at h; omega)
      have hJe : J (toldB b) wr := by have := hx.out; rw [hno, List.append_nil] at this; rw [this]; exact hJs.out
      gi_wp2
      go_end0
      exact ⟨⟨_, rfl⟩, .inl hJe⟩
end Go.Proofs.YtmlfheagbfaoaaaDoor
