/- wardmoteref05.Scalar: a scalar of a tag and parts.
domain.Draw and wardmoteref05.Draw: a scalar of a seed, a label and a number.
The law DomainDraws.
The law DomainDraws, whole. -/
import Derived.Test.YtkmbpakhbicnaaaDoorLmQ
import Derived.Test.YtkmbpakhbicnaaaDoorApart
import Derived.Test.YtkmbpakhbicnaaaDoorRS
import Derived.Deep.RegionHeld3
namespace Go.Proofs.YtkmbpakhbicnaaaDoor
open Go.RowKit Go.Proofs.YtkmbpakhbicnaaaDoorW.PrintWords Go.Proofs.YtkmbpakhbicnaaaDoorW.PrintMore Go.Lib
namespace Lm
/-- The result's place. -/
structure SZ (w X : World) : Prop where
  below : Below w.heap.size w X
  z : X.heap[w.heap.size]? = some (.cells #[.int .u64 0, .int .u64 0, .int .u64 0, .int .u64 0] 38 (0, 0))
theorem SZ.call {w X X' : World} (h : SZ w X) (hb : Below X.heap.size X X') : SZ w X' :=
  ⟨below_then h.below h.below.size hb, (hb.block _ (Array.getElem?_eq_some_iff.1 h.z).1).trans h.z⟩
theorem SZ.alloc {w X : World} (h : SZ w X) (o : Obj) : SZ w (X.alloc o) := h.call ((Below.refl _ X).alloc (Nat.le_refl _) o)
theorem beB0 : beB 0 1 = ⟨#[0]⟩ := by decide +kernel
theorem beB1 : beB 1 1 = ⟨#[1]⟩ := by decide +kernel
set_option maxRecDepth 100000 in
set_option maxHeartbeats 1000000 in
theorem rscalar_any (w : World) (tag : ByteArray) (A : Option Addr) (c : Nat) (l : List ByteArray) (hr : Kd.C Kd.string w A l.length l) (hc : l.length ≤ c) (ht : 1 ≤ tag.size ∧ tag.size ≤ 40) (hz : 4 * l.length + total l ≤ 1000000000000) :
    Calls Tryd.prog 14 #[.string tag, .slice A l.length c] w fun e w' => e = .returned (.tuple #[numV (sclr (hashedB tag l)), .int .i64 0]) ∧ Below w.heap.size w w' := by
  have TG := Lib.hid (fun X => tag_any X tag)
  rw [show decide (1 ≤ tag.size ∧ tag.size ≤ 40) = true from decide_eq_true ht] at TG
  have n1 := heap_alloc_new w (.cells #[.int .u64 0, .int .u64 0, .int .u64 0, .int .u64 0] 38)
  have b1 := (Below.refl _ w).alloc (Nat.le_refl _) (.cells #[.int .u64 0, .int .u64 0, .int .u64 0, .int .u64 0] 38)
  have S0 : SZ w (w.alloc (.cells #[.int .u64 0, .int .u64 0, .int .u64 0, .int .u64 0] 38)) := ⟨b1, n1⟩
  have HA := Lib.hid (fun (X : World) (hx : Below w.heap.size w X) => hashed_any X A c l tag (Kd.C_below hr hx) hc (by omega) (by omega))
  obtain ⟨Y, hY⟩ : ∃ Y, Y = hashedB tag l := ⟨_, rfl⟩
  have hYz : Y.size ≤ 140737488350000 := by rw [hY, hashedB_size]; omega
  rw [← hY] at HA ⊢
  obtain ⟨s0, hs0⟩ : ∃ s, s = sumI 0 Y := ⟨_, rfl⟩
  obtain ⟨s1, hs1⟩ : ∃ s, s = sumI 1 Y := ⟨_, rfl⟩
  have RS0 : ∀ X, Calls Tryd.prog 26 #[.string (⟨#[0]⟩ ++ Y)] X fun e w' => e = .returned (.string s0) ∧ Below X.heap.size X w' := fun X => by
    rw [hs0, sumI, beB0]
    exact rsum_any X _ (by rw [app_size]; show 1 + _ ≤ _; omega)
  have RS1 : ∀ X, Calls Tryd.prog 26 #[.string (⟨#[1]⟩ ++ Y)] X fun e w' => e = .returned (.string s1) ∧ Below X.heap.size X w' := fun X => by
    rw [hs1, sumI, beB1]
    exact rsum_any X _ (by rw [app_size]; show 1 + _ ≤ _; omega)
  obtain ⟨f, hf0⟩ : ∃ f, f = fbs (sumI 0 Y) := ⟨_, rfl⟩
  obtain ⟨g, hg0⟩ : ∃ g, g = fbs (sumI 1 Y) := ⟨_, rfl⟩
  have FB0 : ∀ X, Calls Tryd.prog 31 #[.string s0] X fun e w' => e = .returned (.tuple #[numL f, .int .i64 0]) ∧ Below X.heap.size X w' := fun X => by
    rw [hf0, hs0]
    exact rfromBytes_any X _ (sumI_size 0 Y)
  have FB1 : ∀ X, Calls Tryd.prog 31 #[.string s1] X fun e w' => e = .returned (.tuple #[numL g, .int .i64 0]) ∧ Below X.heap.size X w' := fun X => by
    rw [hg0, hs1]
    exact rfromBytes_any X _ (sumI_size 1 Y)
  obtain ⟨r, hr0⟩ : ∃ r, r = sclr Y := ⟨_, rfl⟩
  rw [← hr0]
  have RR : ∀ X, Calls Tryd.prog 32 #[fieldL (lm Q) (lm CQ), .agg #[u (g 0), u (g 1), u (g 2), u (g 3), u (f 0), u (f 1), u (f 2), u (f 3)]] X fun e w' => e = .returned (numV r) ∧ Below X.heap.size X w' := fun X => by
    have hN := val8_lt (wl_lt Y)
    rw [hg0, hf0, wide_wl, hr0, sclr]
    generalize val8 (wl Y) = N at *
    exact rreduce_any X N hN
  have RC := rscalars_any
  generalize lm Q = fq at RR RC
  generalize lm CQ = fc at RR RC
  replace TG := Lib.hid TG
  replace RS0 := Lib.hid RS0
  replace RS1 := Lib.hid RS1
  replace FB0 := Lib.hid FB0
  replace FB1 := Lib.hid FB1
  replace RR := Lib.hid RR
  replace RC := Lib.hid RC
  replace S0 := Lib.hid S0
  replace HA := Lib.hid HA
  have c0 : ∀ X, (Op.stringOp .add ⟨#[0]⟩ Y).run Tryd.prog X = .ok (.string (⟨#[0]⟩ ++ Y)) X := fun X => run_string_add_sum X _ _ (by show 1 + _ ≤ _; omega)
  have c1 : ∀ X, (Op.stringOp .add ⟨#[1]⟩ Y).run Tryd.prog X = .ok (.string (⟨#[1]⟩ ++ Y)) X := fun X => run_string_add_sum X _ _ (by show 1 + _ ≤ _; omega)
  have c2 : ¬ (1 + Y.size > 9223372036854775807) := by omega
  clear hs0 hs1 hf0 hg0 hr0 hY n1 b1 hr hc ht hz hYz
  go_enter Tryd.func14, Tryd.ntmps14
  go_wp2_with fail
  refine (TG.out.out _).mono ?_
  rintro e w1 ⟨rfl, hD⟩
  have S1 := Lib.hid (by
    obtain ⟨m, rfl⟩ := hD
    exact ⟨pw_below_drewN S0.out.below m, S0.out.z⟩ : SZ w w1)
  clear hD S0
  go_wp2_with fail
  refine (HA.out.out w1 S1.out.below).mono ?_
  rintro e w2 ⟨rfl, hb2⟩
  have S2 := Lib.hid (S1.out.call hb2)
  clear hb2 S1
  go_wp2_with fail
  refine (RS0.out w2).mono ?_
  rintro e w3 ⟨rfl, hb3⟩
  have S3 := Lib.hid (S2.out.call hb3)
  clear hb3 S2
  go_wp2_with fail
  refine (FB0.out w3).mono ?_
  rintro e w4 ⟨rfl, hb4⟩
  have S4 := S3.out.call hb4
  have n4 := heap_alloc_new w4 (.cells #[u (f 0), u (f 1), u (f 2), u (f 3)] 38)
  have S5 := Lib.hid (S4.alloc (.cells #[u (f 0), u (f 1), u (f 2), u (f 3)] 38))
  replace n4 := Lib.hid n4
  clear hb4 S4 S3
  go_wp2_with fail
  refine (RS1.out _).mono ?_
  rintro e w6 ⟨rfl, hb6⟩
  have n6 := Lib.hid ((hb6.block _ (Array.getElem?_eq_some_iff.1 n4.out).1).trans n4.out)
  have S6 := Lib.hid (S5.out.call hb6)
  clear hb6 S5 n4
  go_wp2_with fail
  refine (FB1.out _).mono ?_
  rintro e w7 ⟨rfl, hb7⟩
  have n7 := (hb7.block _ (Array.getElem?_eq_some_iff.1 n6.out).1).trans n6.out
  have S7 := S6.out.call hb7
  have m8 := Lib.hid (heap_alloc_new w7 (.cells #[u (g 0), u (g 1), u (g 2), u (g 3)] 38))
  have n8 := Lib.hid ((((Below.refl _ w7).alloc (Nat.le_refl _) (.cells #[u (g 0), u (g 1), u (g 2), u (g 3)] 38)).block _ (Array.getElem?_eq_some_iff.1 n7).1).trans n7)
  have S8 := Lib.hid (S7.alloc (.cells #[u (g 0), u (g 1), u (g 2), u (g 3)] 38))
  clear hb7 S7 n7 n6 S6
  go_wp2_with fail
  refine (RC.out _).mono ?_
  rintro e w9 ⟨rfl, hb9⟩
  have m9 := (hb9.block _ (Array.getElem?_eq_some_iff.1 m8.out).1).trans m8.out
  have n9 := (hb9.block _ (Array.getElem?_eq_some_iff.1 n8.out).1).trans n8.out
  have S9 := S8.out.call hb9
  have hal := (Below.refl _ w9).alloc (Nat.le_refl _) (.cells #[u (fq 0), u (fq 1), u (fq 2), u (fq 3), u (fc 0), u (fc 1), u (fc 2), u (fc 3)] 47)
  have ma := (hal.block _ (Array.getElem?_eq_some_iff.1 m9).1).trans m9
  have na := (hal.block _ (Array.getElem?_eq_some_iff.1 n9).1).trans n9
  have fa := heap_alloc_new w9 (.cells #[u (fq 0), u (fq 1), u (fq 2), u (fq 3), u (fc 0), u (fc 1), u (fc 2), u (fc 3)] 47)
  have Sa := Lib.hid (S9.alloc (.cells #[u (fq 0), u (fq 1), u (fq 2), u (fq 3), u (fc 0), u (fc 1), u (fc 2), u (fc 3)] 47))
  clear hb9 hal S9 m9 n9 m8 n8 S8
  obtain ⟨p0, p1, p2, p3⟩ := cell4 ma
  obtain ⟨q0, q1, q2, q3⟩ := cell4 na
  obtain ⟨⟨k0, k1, k2, k3⟩, k4, k5, k6, k7⟩ := cell_field fa
  replace ma := Lib.hid ma
  replace na := Lib.hid na
  replace fa := Lib.hid fa
  go_wp2_with fail
  refine (RR.out _).mono ?_
  rintro e wb ⟨rfl, hbb⟩
  have Sb := Sa.out.call hbb
  obtain ⟨x0, x1, x2, x3⟩ := cell4 Sb.z
  obtain ⟨y0, y1, y2, y3⟩ := free4 Sb.z
  obtain ⟨o0, o1, o2, o3⟩ := cell4 (four_set Sb.z rfl (u (lm r 0)) (u (lm r 1)) (u (lm r 2)) (u (lm r 3)))
  have hB := Lib.hid (below_four Sb.below w.heap.size (Nat.le_refl _) (u (lm r 0)) (u (lm r 1)) (u (lm r 2)) (u (lm r 3)))
  replace Sb := Lib.hid Sb
  clear hbb Sa ma na fa p0 p1 p2 p3 q0 q1 q2 q3 k0 k1 k2 k3 k4 k5 k6 k7
  go_wp2
  refine bodyPost_ret (v := .tuple #[numV r, .int .i64 0]) (by simp [results, Tryd.results14, go_sem, o0, o1, o2, o3]) rfl ⟨rfl, hB.out⟩
end Lm
end Go.Proofs.YtkmbpakhbicnaaaDoor
namespace Go.Proofs.YtkmbpakhbicnaaaDoor
open Go.RowKit Go.Proofs.YtkmbpakhbicnaaaDoorW.PrintWords Go.Proofs.YtkmbpakhbicnaaaDoorW.PrintMore Go.Lib
namespace Lm
abbrev zero4 : Value := .agg #[.int .u64 0, .int .u64 0, .int .u64 0, .int .u64 0]
theorem zero4_eq : numV 0 = zero4 := by simp [lm]
/-- What is drawn. -/
def drawn (seed label : ByteArray) (n : Nat) : Nat := if sclr (hashedB label [seed, beB n 8]) = 0 then 1 else sclr (hashedB label [seed, beB n 8])
theorem drawn_pos (seed label : ByteArray) (n : Nat) : 0 < drawn seed label n ∧ drawn seed label n < Q := by
  unfold drawn
  split
  · exact ⟨by omega, by decide⟩
  · exact ⟨by omega, sclr_lt _⟩
theorem rnumber_any (w : World) (n i : Nat) (hn : n < 9223372036854775808) (hi : i ≤ 8) : Calls Tryd.prog 20 #[.int .i64 (n : Int), .int .i64 (i : Int)] w fun e w' => e = .returned (.string (beB n i)) ∧ Below w.heap.size w w' :=
  PDg.wardmoteref05_Number.calls 10 (n : Int) (i : Int) (beB n i) w (Number_f n i hn hi 10 (by omega))
theorem strs2 (w : World) (s t : ByteArray) : Strs (w.alloc (.cells #[.string s, .string t] 9)) (some ⟨w.heap.size, 0, none⟩) [s, t] := fun i x hs => by
  have h := heap_alloc_new w (.cells #[.string s, .string t] 9)
  match i, hs with
  | 0, hs =>
    obtain rfl := Option.some.inj hs
    exact ⟨_, rfl, Go.Joins.cell_of_block h 0⟩
  | 1, hs =>
    obtain rfl := Option.some.inj hs
    exact ⟨_, rfl, Go.Joins.cell_of_block h 1⟩
theorem kd2 (w : World) (s t : ByteArray) : Kd.C Kd.string (w.alloc (.cells #[.string s, .string t] 9)) (some ⟨w.heap.size, 0, none⟩) 2 [s, t] := by
  refine ⟨rfl, by decide, fun _ => ⟨_, rfl, ?_⟩⟩
  intro j p hp
  obtain ⟨ad, e, hc⟩ := strs2 w s t j p hp
  obtain rfl := Option.some.inj e
  refine ⟨[.string p], rfl, rfl, ?_⟩
  intro i u hu
  match i, hu with
  | 0, hu =>
    simp at hu
    subst hu
    simpa [Kd.string, Kd.scalar] using hc
set_option maxRecDepth 100000 in
set_option maxHeartbeats 1000000 in
theorem draw_bad1 (w : World) (seed label : ByteArray) (n : Int) (ht : ¬ (1 ≤ label.size ∧ label.size ≤ 40)) :
    Calls Tryd.prog 15 #[.string seed, .string label, .int .i64 n] w fun e w' => e = .returned (.tuple #[zero4, .int .i64 1]) ∧ Below w.heap.size w w' := by
  have TG := Lib.hid (fun X => PDg.domain_wrong.calls label true X (by rw [wrong_f, decide_eq_true ht]))
  have n1 := heap_alloc_new w (.cells #[.int .u64 0, .int .u64 0, .int .u64 0, .int .u64 0] 38)
  have b1 := (Below.refl _ w).alloc (Nat.le_refl _) (.cells #[.int .u64 0, .int .u64 0, .int .u64 0, .int .u64 0] 38)
  have S0 : SZ w (w.alloc (.cells #[.int .u64 0, .int .u64 0, .int .u64 0, .int .u64 0] 38)) := ⟨b1, n1⟩
  replace S0 := Lib.hid S0
  clear n1 b1
  clear ht
  go_enter Tryd.func15, Tryd.ntmps15
  go_wp2_with fail
  refine (TG.out _).mono ?_
  rintro e w1 ⟨rfl, hD⟩
  have S1 := (by
    obtain ⟨m, rfl⟩ := hD
    exact ⟨pw_below_drewN S0.out.below m, S0.out.z⟩ : SZ w w1)
  clear hD S0
  obtain ⟨x0, x1, x2, x3⟩ := cell4 S1.z
  obtain ⟨y0, y1, y2, y3⟩ := free4 S1.z
  obtain ⟨o0, o1, o2, o3⟩ := cell4 (four_set S1.z rfl (.int .u64 0) (.int .u64 0) (.int .u64 0) (.int .u64 0))
  have hB := Lib.hid (below_four S1.below w.heap.size (Nat.le_refl _) (.int .u64 0) (.int .u64 0) (.int .u64 0) (.int .u64 0))
  replace S1 := Lib.hid S1
  go_wp2
  refine bodyPost_ret (v := .tuple #[zero4, .int .i64 1]) (by simp [results, Tryd.results15, go_sem, o0, o1, o2, o3]) rfl ⟨rfl, hB.out⟩
set_option maxRecDepth 100000 in
set_option maxHeartbeats 1000000 in
theorem draw_bad2 (w : World) (seed label : ByteArray) (n : Int) (ht : 1 ≤ label.size ∧ label.size ≤ 40) (hn : n < 0) :
    Calls Tryd.prog 15 #[.string seed, .string label, .int .i64 n] w fun e w' => e = .returned (.tuple #[zero4, .int .i64 1]) ∧ Below w.heap.size w w' := by
  have TG := Lib.hid (fun X => PDg.domain_wrong.calls label false X (by rw [wrong_f, decide_eq_false (fun h => h ht)]))
  have n1 := heap_alloc_new w (.cells #[.int .u64 0, .int .u64 0, .int .u64 0, .int .u64 0] 38)
  have b1 := (Below.refl _ w).alloc (Nat.le_refl _) (.cells #[.int .u64 0, .int .u64 0, .int .u64 0, .int .u64 0] 38)
  have S0 : SZ w (w.alloc (.cells #[.int .u64 0, .int .u64 0, .int .u64 0, .int .u64 0] 38)) := ⟨b1, n1⟩
  replace S0 := Lib.hid S0
  clear n1 b1
  have q1 : decide (n < 0) = true := decide_eq_true hn
  clear ht
  go_enter Tryd.func15, Tryd.ntmps15
  go_wp2_with fail
  refine (TG.out _).mono ?_
  rintro e w1 ⟨rfl, hD⟩
  have S1 := (by
    obtain ⟨m, rfl⟩ := hD
    exact ⟨pw_below_drewN S0.out.below m, S0.out.z⟩ : SZ w w1)
  clear hD S0
  obtain ⟨x0, x1, x2, x3⟩ := cell4 S1.z
  obtain ⟨y0, y1, y2, y3⟩ := free4 S1.z
  obtain ⟨o0, o1, o2, o3⟩ := cell4 (four_set S1.z rfl (.int .u64 0) (.int .u64 0) (.int .u64 0) (.int .u64 0))
  have hB := Lib.hid (below_four S1.below w.heap.size (Nat.le_refl _) (.int .u64 0) (.int .u64 0) (.int .u64 0) (.int .u64 0))
  replace S1 := Lib.hid S1
  go_wp2
  refine bodyPost_ret (v := .tuple #[zero4, .int .i64 1]) (by simp [results, Tryd.results15, go_sem, o0, o1, o2, o3]) rfl ⟨rfl, hB.out⟩
set_option maxRecDepth 100000 in
set_option maxHeartbeats 1000000 in
theorem draw_bad3 (w : World) (seed label : ByteArray) (n : Int) (ht : 1 ≤ label.size ∧ label.size ≤ 40) (hn : 1099511627776 < n) :
    Calls Tryd.prog 15 #[.string seed, .string label, .int .i64 n] w fun e w' => e = .returned (.tuple #[zero4, .int .i64 1]) ∧ Below w.heap.size w w' := by
  have TG := Lib.hid (fun X => PDg.domain_wrong.calls label false X (by rw [wrong_f, decide_eq_false (fun h => h ht)]))
  have n1 := heap_alloc_new w (.cells #[.int .u64 0, .int .u64 0, .int .u64 0, .int .u64 0] 38)
  have b1 := (Below.refl _ w).alloc (Nat.le_refl _) (.cells #[.int .u64 0, .int .u64 0, .int .u64 0, .int .u64 0] 38)
  have S0 : SZ w (w.alloc (.cells #[.int .u64 0, .int .u64 0, .int .u64 0, .int .u64 0] 38)) := ⟨b1, n1⟩
  replace S0 := Lib.hid S0
  clear n1 b1
  have q1 : decide (n < 0) = false := decide_eq_false (by omega)
  have q2 : decide (1099511627776 < n) = true := decide_eq_true hn
  clear ht
  go_enter Tryd.func15, Tryd.ntmps15
  go_wp2_with fail
  refine (TG.out _).mono ?_
  rintro e w1 ⟨rfl, hD⟩
  have S1 := (by
    obtain ⟨m, rfl⟩ := hD
    exact ⟨pw_below_drewN S0.out.below m, S0.out.z⟩ : SZ w w1)
  clear hD S0
  obtain ⟨x0, x1, x2, x3⟩ := cell4 S1.z
  obtain ⟨y0, y1, y2, y3⟩ := free4 S1.z
  obtain ⟨o0, o1, o2, o3⟩ := cell4 (four_set S1.z rfl (.int .u64 0) (.int .u64 0) (.int .u64 0) (.int .u64 0))
  have hB := Lib.hid (below_four S1.below w.heap.size (Nat.le_refl _) (.int .u64 0) (.int .u64 0) (.int .u64 0) (.int .u64 0))
  replace S1 := Lib.hid S1
  go_wp2
  refine bodyPost_ret (v := .tuple #[zero4, .int .i64 1]) (by simp [results, Tryd.results15, go_sem, o0, o1, o2, o3]) rfl ⟨rfl, hB.out⟩
set_option maxRecDepth 100000 in
set_option maxHeartbeats 1000000 in
theorem rdraw_bad1 (w : World) (seed label : ByteArray) (n : Int) (ht : ¬ (1 ≤ label.size ∧ label.size ≤ 40)) :
    Calls Tryd.prog 16 #[.string seed, .string label, .int .i64 n] w fun e w' => e = .returned (.tuple #[zero4, .int .i64 1]) ∧ Below w.heap.size w w' := by
  have TG := Lib.hid (fun X => tag_any X label)
  rw [show decide (1 ≤ label.size ∧ label.size ≤ 40) = false by simpa using ht] at TG
  have n1 := heap_alloc_new w (.cells #[.int .u64 0, .int .u64 0, .int .u64 0, .int .u64 0] 38)
  have b1 := (Below.refl _ w).alloc (Nat.le_refl _) (.cells #[.int .u64 0, .int .u64 0, .int .u64 0, .int .u64 0] 38)
  have S0 : SZ w (w.alloc (.cells #[.int .u64 0, .int .u64 0, .int .u64 0, .int .u64 0] 38)) := ⟨b1, n1⟩
  replace S0 := Lib.hid S0
  clear n1 b1
  clear ht
  go_enter Tryd.func16, Tryd.ntmps16
  go_wp2_with fail
  refine (TG.out _).mono ?_
  rintro e w1 ⟨rfl, hD⟩
  have S1 := (by
    obtain ⟨m, rfl⟩ := hD
    exact ⟨pw_below_drewN S0.out.below m, S0.out.z⟩ : SZ w w1)
  clear hD S0
  obtain ⟨x0, x1, x2, x3⟩ := cell4 S1.z
  obtain ⟨y0, y1, y2, y3⟩ := free4 S1.z
  obtain ⟨o0, o1, o2, o3⟩ := cell4 (four_set S1.z rfl (.int .u64 0) (.int .u64 0) (.int .u64 0) (.int .u64 0))
  have hB := Lib.hid (below_four S1.below w.heap.size (Nat.le_refl _) (.int .u64 0) (.int .u64 0) (.int .u64 0) (.int .u64 0))
  replace S1 := Lib.hid S1
  go_wp2
  refine bodyPost_ret (v := .tuple #[zero4, .int .i64 1]) (by simp [results, Tryd.results16, go_sem, o0, o1, o2, o3]) rfl ⟨rfl, hB.out⟩
set_option maxRecDepth 100000 in
set_option maxHeartbeats 1000000 in
theorem rdraw_bad2 (w : World) (seed label : ByteArray) (n : Int) (ht : 1 ≤ label.size ∧ label.size ≤ 40) (hn : n < 0) :
    Calls Tryd.prog 16 #[.string seed, .string label, .int .i64 n] w fun e w' => e = .returned (.tuple #[zero4, .int .i64 1]) ∧ Below w.heap.size w w' := by
  have TG := Lib.hid (fun X => tag_any X label)
  rw [show decide (1 ≤ label.size ∧ label.size ≤ 40) = true by simpa using ht] at TG
  have n1 := heap_alloc_new w (.cells #[.int .u64 0, .int .u64 0, .int .u64 0, .int .u64 0] 38)
  have b1 := (Below.refl _ w).alloc (Nat.le_refl _) (.cells #[.int .u64 0, .int .u64 0, .int .u64 0, .int .u64 0] 38)
  have S0 : SZ w (w.alloc (.cells #[.int .u64 0, .int .u64 0, .int .u64 0, .int .u64 0] 38)) := ⟨b1, n1⟩
  replace S0 := Lib.hid S0
  clear n1 b1
  have q1 : decide (n < 0) = true := decide_eq_true hn
  clear ht
  go_enter Tryd.func16, Tryd.ntmps16
  go_wp2_with fail
  refine (TG.out _).mono ?_
  rintro e w1 ⟨rfl, hD⟩
  have S1 := (by
    obtain ⟨m, rfl⟩ := hD
    exact ⟨pw_below_drewN S0.out.below m, S0.out.z⟩ : SZ w w1)
  clear hD S0
  obtain ⟨x0, x1, x2, x3⟩ := cell4 S1.z
  obtain ⟨y0, y1, y2, y3⟩ := free4 S1.z
  obtain ⟨o0, o1, o2, o3⟩ := cell4 (four_set S1.z rfl (.int .u64 0) (.int .u64 0) (.int .u64 0) (.int .u64 0))
  have hB := Lib.hid (below_four S1.below w.heap.size (Nat.le_refl _) (.int .u64 0) (.int .u64 0) (.int .u64 0) (.int .u64 0))
  replace S1 := Lib.hid S1
  go_wp2
  refine bodyPost_ret (v := .tuple #[zero4, .int .i64 1]) (by simp [results, Tryd.results16, go_sem, o0, o1, o2, o3]) rfl ⟨rfl, hB.out⟩
set_option maxRecDepth 100000 in
set_option maxHeartbeats 1000000 in
theorem rdraw_bad3 (w : World) (seed label : ByteArray) (n : Int) (ht : 1 ≤ label.size ∧ label.size ≤ 40) (hn : 1099511627776 < n) :
    Calls Tryd.prog 16 #[.string seed, .string label, .int .i64 n] w fun e w' => e = .returned (.tuple #[zero4, .int .i64 1]) ∧ Below w.heap.size w w' := by
  have TG := Lib.hid (fun X => tag_any X label)
  rw [show decide (1 ≤ label.size ∧ label.size ≤ 40) = true by simpa using ht] at TG
  have n1 := heap_alloc_new w (.cells #[.int .u64 0, .int .u64 0, .int .u64 0, .int .u64 0] 38)
  have b1 := (Below.refl _ w).alloc (Nat.le_refl _) (.cells #[.int .u64 0, .int .u64 0, .int .u64 0, .int .u64 0] 38)
  have S0 : SZ w (w.alloc (.cells #[.int .u64 0, .int .u64 0, .int .u64 0, .int .u64 0] 38)) := ⟨b1, n1⟩
  replace S0 := Lib.hid S0
  clear n1 b1
  have q1 : decide (n < 0) = false := decide_eq_false (by omega)
  have q2 : decide (1099511627776 < n) = true := decide_eq_true hn
  clear ht
  go_enter Tryd.func16, Tryd.ntmps16
  go_wp2_with fail
  refine (TG.out _).mono ?_
  rintro e w1 ⟨rfl, hD⟩
  have S1 := (by
    obtain ⟨m, rfl⟩ := hD
    exact ⟨pw_below_drewN S0.out.below m, S0.out.z⟩ : SZ w w1)
  clear hD S0
  obtain ⟨x0, x1, x2, x3⟩ := cell4 S1.z
  obtain ⟨y0, y1, y2, y3⟩ := free4 S1.z
  obtain ⟨o0, o1, o2, o3⟩ := cell4 (four_set S1.z rfl (.int .u64 0) (.int .u64 0) (.int .u64 0) (.int .u64 0))
  have hB := Lib.hid (below_four S1.below w.heap.size (Nat.le_refl _) (.int .u64 0) (.int .u64 0) (.int .u64 0) (.int .u64 0))
  replace S1 := Lib.hid S1
  go_wp2
  refine bodyPost_ret (v := .tuple #[zero4, .int .i64 1]) (by simp [results, Tryd.results16, go_sem, o0, o1, o2, o3]) rfl ⟨rfl, hB.out⟩
set_option maxRecDepth 100000 in
set_option maxHeartbeats 1000000 in
theorem draw_good (w : World) (seed label : ByteArray) (n : Nat) (hT : Tab w) (ht : 1 ≤ label.size ∧ label.size ≤ 40) (hn : n ≤ 1099511627776) (hz : seed.size ≤ 900000000000) :
    Calls Tryd.prog 15 #[.string seed, .string label, .int .i64 (n : Int)] w fun e w' => e = .returned (.tuple #[numV (drawn seed label n), .int .i64 0]) ∧ Below w.heap.size w w' := by
  have TG := Lib.hid (fun X => PDg.domain_wrong.calls label false X (by rw [wrong_f, decide_eq_false (fun h => h ht)]))
  have n1 := heap_alloc_new w (.cells #[.int .u64 0, .int .u64 0, .int .u64 0, .int .u64 0] 38)
  have b1 := (Below.refl _ w).alloc (Nat.le_refl _) (.cells #[.int .u64 0, .int .u64 0, .int .u64 0, .int .u64 0] 38)
  have S0 : SZ w (w.alloc (.cells #[.int .u64 0, .int .u64 0, .int .u64 0, .int .u64 0] 38)) := ⟨b1, n1⟩
  replace S0 := Lib.hid S0
  clear n1 b1
  obtain ⟨t, ht8⟩ : ∃ t, t = beB n 8 := ⟨_, rfl⟩
  have hts : t.size = 8 := by rw [ht8, beB_size]
  have NU : ∀ X, Calls Tryd.prog 27 #[.int .i64 (n : Int), .int .i64 8] X fun e w' => e = .returned (.string t) ∧ Below X.heap.size X w' := fun X => by
    rw [ht8]
    exact number_any X n 8 (by omega)
  have hR : drawn seed label n = if sclr (hashedB label [seed, t]) = 0 then 1 else sclr (hashedB label [seed, t]) := by rw [ht8]; rfl
  rw [hR]
  have hx4 := sclr_lt4 (hashedB label [seed, t])
  have htot : total [seed, t] = seed.size + 8 := by simp [total, hts]
  have SCN : ∀ X, Below w.heap.size w X → Calls Tryd.prog 13 #[.string label, .slice (some ⟨X.heap.size, 0, none⟩) 2 2] (X.alloc (.cells #[.string seed, .string t] 9)) fun e w' => e = .returned (.tuple #[numV (sclr (hashedB label [seed, t])), .int .i64 0]) ∧ Below (X.alloc (.cells #[.string seed, .string t] 9)).heap.size (X.alloc (.cells #[.string seed, .string t] 9)) w' := fun X hx =>
    scalar_any _ label _ 2 [seed, t] (hT.below (hx.alloc hx.size _)) (strs2 X seed t) ht (by rw [htot]; show 4 * 2 + _ ≤ _; omega)
  obtain ⟨x, hx⟩ : ∃ x, x = sclr (hashedB label [seed, t]) := ⟨_, rfl⟩
  simp only [← hx] at hx4 SCN ⊢
  have q1 : decide ((n : Int) < 0) = false := decide_eq_false (by omega)
  have q2 : decide (1099511627776 < (n : Int)) = false := decide_eq_false (by omega)
  clear hx htot ht hz hT hn hR ht8 hts
  replace NU := Lib.hid NU
  by_cases h0 : x = 0
  · have hv : numV 1 = .agg #[.int .u64 1, u (lm x 1), u (lm x 2), u (lm x 3)] := by rw [h0]; simp [lm]
    rw [if_pos h0, hv]
    replace SCN := Lib.hid SCN
    have EQ : ∀ X, (Op.equalIn 10000 38 (numV x) zero4).run Tryd.prog X = .ok true X := fun X => by
      have := eqV hx4 (b := 0) (by decide) X
      rwa [zero4_eq, decide_eq_true h0] at this
    clear hx4 h0 hv
    go_enter Tryd.func15, Tryd.ntmps15
    go_wp2_with fail
    refine (TG.out _).mono ?_
    rintro e w1 ⟨rfl, hD⟩
    have S1 := Lib.hid (by
      obtain ⟨m, rfl⟩ := hD
      exact ⟨pw_below_drewN S0.out.below m, S0.out.z⟩ : SZ w w1)
    clear hD S0
    go_wp2_with fail
    refine (NU.out _).mono ?_
    rintro e w2 ⟨rfl, hb2⟩
    have S2 := Lib.hid (S1.out.call hb2)
    clear hb2 S1
    go_wp2_with fail
    refine (SCN.out w2 S2.out.below).mono ?_
    rintro e w3 ⟨rfl, hb3⟩
    have S3 := (S2.out.alloc (.cells #[.string seed, .string t] 9)).call hb3
    have n4 := heap_alloc_new w3 (.cells #[u (lm x 0), u (lm x 1), u (lm x 2), u (lm x 3)] 38)
    obtain ⟨k0, k1, k2, k3⟩ := cell4 n4
    have S4 := S3.alloc (.cells #[.int .u64 1, u (lm x 1), u (lm x 2), u (lm x 3)] 38)
    have n5 := heap_alloc_new w3 (.cells #[.int .u64 1, u (lm x 1), u (lm x 2), u (lm x 3)] 38)
    obtain ⟨j0, j1, j2, j3⟩ := cell4 n5
    obtain ⟨f0, f1, f2, f3⟩ := free4 n4
    replace n4 := Lib.hid n4
    replace n5 := Lib.hid n5
    replace S3 := Lib.hid S3
    clear hb3
    obtain ⟨x0, x1, x2, x3⟩ := cell4 S4.z
    obtain ⟨y0, y1, y2, y3⟩ := free4 S4.z
    obtain ⟨o0, o1, o2, o3⟩ := cell4 (four_set S4.z rfl (.int .u64 1) (u (lm x 1)) (u (lm x 2)) (u (lm x 3)))
    have hB := Lib.hid (below_four S4.below w.heap.size (Nat.le_refl _) (.int .u64 1) (u (lm x 1)) (u (lm x 2)) (u (lm x 3)))
    replace S4 := Lib.hid S4
    go_wp2
    refine bodyPost_ret (v := .tuple #[.agg #[.int .u64 1, u (lm x 1), u (lm x 2), u (lm x 3)], .int .i64 0]) (by simp [results, Tryd.results15, go_sem, o0, o1, o2, o3]) rfl ⟨rfl, hB.out⟩
  · rw [if_neg h0]
    replace SCN := Lib.hid SCN
    have EQ : ∀ X, (Op.equalIn 10000 38 (numV x) zero4).run Tryd.prog X = .ok false X := fun X => by
      have := eqV hx4 (b := 0) (by decide) X
      rwa [zero4_eq, decide_eq_false h0] at this
    clear hx4 h0
    go_enter Tryd.func15, Tryd.ntmps15
    go_wp2_with fail
    refine (TG.out _).mono ?_
    rintro e w1 ⟨rfl, hD⟩
    have S1 := Lib.hid (by
      obtain ⟨m, rfl⟩ := hD
      exact ⟨pw_below_drewN S0.out.below m, S0.out.z⟩ : SZ w w1)
    clear hD S0
    go_wp2_with fail
    refine (NU.out _).mono ?_
    rintro e w2 ⟨rfl, hb2⟩
    have S2 := Lib.hid (S1.out.call hb2)
    clear hb2 S1
    go_wp2_with fail
    refine (SCN.out w2 S2.out.below).mono ?_
    rintro e w3 ⟨rfl, hb3⟩
    have S3 := (S2.out.alloc (.cells #[.string seed, .string t] 9)).call hb3
    have n4 := heap_alloc_new w3 (.cells #[u (lm x 0), u (lm x 1), u (lm x 2), u (lm x 3)] 38)
    obtain ⟨k0, k1, k2, k3⟩ := cell4 n4
    have S4 := S3.alloc (.cells #[u (lm x 0), u (lm x 1), u (lm x 2), u (lm x 3)] 38)
    replace n4 := Lib.hid n4
    replace S3 := Lib.hid S3
    clear hb3
    obtain ⟨x0, x1, x2, x3⟩ := cell4 S4.z
    obtain ⟨y0, y1, y2, y3⟩ := free4 S4.z
    obtain ⟨o0, o1, o2, o3⟩ := cell4 (four_set S4.z rfl (u (lm x 0)) (u (lm x 1)) (u (lm x 2)) (u (lm x 3)))
    have hB := Lib.hid (below_four S4.below w.heap.size (Nat.le_refl _) (u (lm x 0)) (u (lm x 1)) (u (lm x 2)) (u (lm x 3)))
    replace S4 := Lib.hid S4
    go_wp2
    refine bodyPost_ret (v := .tuple #[numV x, .int .i64 0]) (by simp [results, Tryd.results15, go_sem, o0, o1, o2, o3]) rfl ⟨rfl, hB.out⟩
set_option maxRecDepth 100000 in
set_option maxHeartbeats 1000000 in
theorem rdraw_good (w : World) (seed label : ByteArray) (n : Nat) (ht : 1 ≤ label.size ∧ label.size ≤ 40) (hn : n ≤ 1099511627776) (hz : seed.size ≤ 900000000000) :
    Calls Tryd.prog 16 #[.string seed, .string label, .int .i64 (n : Int)] w fun e w' => e = .returned (.tuple #[numV (drawn seed label n), .int .i64 0]) ∧ Below w.heap.size w w' := by
  have TG := Lib.hid (fun X => tag_any X label)
  rw [show decide (1 ≤ label.size ∧ label.size ≤ 40) = true by simpa using ht] at TG
  have n1 := heap_alloc_new w (.cells #[.int .u64 0, .int .u64 0, .int .u64 0, .int .u64 0] 38)
  have b1 := (Below.refl _ w).alloc (Nat.le_refl _) (.cells #[.int .u64 0, .int .u64 0, .int .u64 0, .int .u64 0] 38)
  have S0 : SZ w (w.alloc (.cells #[.int .u64 0, .int .u64 0, .int .u64 0, .int .u64 0] 38)) := ⟨b1, n1⟩
  replace S0 := Lib.hid S0
  clear n1 b1
  obtain ⟨t, ht8⟩ : ∃ t, t = beB n 8 := ⟨_, rfl⟩
  have hts : t.size = 8 := by rw [ht8, beB_size]
  have NU : ∀ X, Calls Tryd.prog 20 #[.int .i64 (n : Int), .int .i64 8] X fun e w' => e = .returned (.string t) ∧ Below X.heap.size X w' := fun X => by
    rw [ht8]
    exact rnumber_any X n 8 (by omega) (by omega)
  have hR : drawn seed label n = if sclr (hashedB label [seed, t]) = 0 then 1 else sclr (hashedB label [seed, t]) := by rw [ht8]; rfl
  rw [hR]
  have hx4 := sclr_lt4 (hashedB label [seed, t])
  have htot : total [seed, t] = seed.size + 8 := by simp [total, hts]
  have SCN : ∀ X, Below w.heap.size w X → Calls Tryd.prog 14 #[.string label, .slice (some ⟨X.heap.size, 0, none⟩) 2 2] (X.alloc (.cells #[.string seed, .string t] 9)) fun e w' => e = .returned (.tuple #[numV (sclr (hashedB label [seed, t])), .int .i64 0]) ∧ Below (X.alloc (.cells #[.string seed, .string t] 9)).heap.size (X.alloc (.cells #[.string seed, .string t] 9)) w' := fun X hx =>
    rscalar_any _ label _ 2 [seed, t] (kd2 X seed t) (by simp) ht (by rw [htot]; show 4 * 2 + _ ≤ _; omega)
  obtain ⟨x, hx⟩ : ∃ x, x = sclr (hashedB label [seed, t]) := ⟨_, rfl⟩
  simp only [← hx] at hx4 SCN ⊢
  have q1 : decide ((n : Int) < 0) = false := decide_eq_false (by omega)
  have q2 : decide (1099511627776 < (n : Int)) = false := decide_eq_false (by omega)
  clear hx htot ht hz hn hR ht8 hts
  replace NU := Lib.hid NU
  by_cases h0 : x = 0
  · rw [if_pos h0, one4_eq]
    replace SCN := Lib.hid SCN
    have ZE := Lib.hid (fun X => rzero_any X x hx4)
    rw [show decide (x = 0) = true from decide_eq_true h0] at ZE
    clear hx4 h0
    go_enter Tryd.func16, Tryd.ntmps16
    go_wp2_with fail
    refine (TG.out _).mono ?_
    rintro e w1 ⟨rfl, hD⟩
    have S1 := Lib.hid (by
      obtain ⟨m, rfl⟩ := hD
      exact ⟨pw_below_drewN S0.out.below m, S0.out.z⟩ : SZ w w1)
    clear hD S0
    go_wp2_with fail
    refine (NU.out _).mono ?_
    rintro e w2 ⟨rfl, hb2⟩
    have S2 := Lib.hid (S1.out.call hb2)
    clear hb2 S1
    go_wp2_with fail
    refine (SCN.out w2 S2.out.below).mono ?_
    rintro e w3 ⟨rfl, hb3⟩
    have S3 := (S2.out.alloc (.cells #[.string seed, .string t] 9)).call hb3
    have n4 := heap_alloc_new w3 (.cells #[u (lm x 0), u (lm x 1), u (lm x 2), u (lm x 3)] 38)
    obtain ⟨k0, k1, k2, k3⟩ := cell4 n4
    have S3' := S3.alloc (.cells #[u (lm x 0), u (lm x 1), u (lm x 2), u (lm x 3)] 38)
    replace S3' := Lib.hid S3'
    replace n4 := Lib.hid n4
    replace S3 := Lib.hid S3
    clear hb3
    go_wp2_with fail
    refine (ZE.out _).mono ?_
    rintro e w5 ⟨rfl, hb5⟩
    have n5 := (hb5.block _ (Array.getElem?_eq_some_iff.1 n4.out).1).trans n4.out
    have S4 := S3'.out.call hb5
    clear k0 k1 k2 k3 hb5
    obtain ⟨k0, k1, k2, k3⟩ := cell4 n5
    replace n5 := Lib.hid n5
    obtain ⟨x0, x1, x2, x3⟩ := cell4 S4.z
    obtain ⟨y0, y1, y2, y3⟩ := free4 S4.z
    obtain ⟨o0, o1, o2, o3⟩ := cell4 (four_set S4.z rfl (.int .u64 1) (.int .u64 0) (.int .u64 0) (.int .u64 0))
    have hB := Lib.hid (below_four S4.below w.heap.size (Nat.le_refl _) (.int .u64 1) (.int .u64 0) (.int .u64 0) (.int .u64 0))
    replace S4 := Lib.hid S4
    go_wp2
    refine bodyPost_ret (v := .tuple #[one4, .int .i64 0]) (by simp [results, Tryd.results16, go_sem, o0, o1, o2, o3]) rfl ⟨rfl, hB.out⟩
  · rw [if_neg h0]
    replace SCN := Lib.hid SCN
    have ZE := Lib.hid (fun X => rzero_any X x hx4)
    rw [show decide (x = 0) = false from decide_eq_false h0] at ZE
    clear hx4 h0
    go_enter Tryd.func16, Tryd.ntmps16
    go_wp2_with fail
    refine (TG.out _).mono ?_
    rintro e w1 ⟨rfl, hD⟩
    have S1 := Lib.hid (by
      obtain ⟨m, rfl⟩ := hD
      exact ⟨pw_below_drewN S0.out.below m, S0.out.z⟩ : SZ w w1)
    clear hD S0
    go_wp2_with fail
    refine (NU.out _).mono ?_
    rintro e w2 ⟨rfl, hb2⟩
    have S2 := Lib.hid (S1.out.call hb2)
    clear hb2 S1
    go_wp2_with fail
    refine (SCN.out w2 S2.out.below).mono ?_
    rintro e w3 ⟨rfl, hb3⟩
    have S3 := (S2.out.alloc (.cells #[.string seed, .string t] 9)).call hb3
    have n4 := heap_alloc_new w3 (.cells #[u (lm x 0), u (lm x 1), u (lm x 2), u (lm x 3)] 38)
    obtain ⟨k0, k1, k2, k3⟩ := cell4 n4
    have S3' := S3.alloc (.cells #[u (lm x 0), u (lm x 1), u (lm x 2), u (lm x 3)] 38)
    replace S3' := Lib.hid S3'
    replace n4 := Lib.hid n4
    replace S3 := Lib.hid S3
    clear hb3
    go_wp2_with fail
    refine (ZE.out _).mono ?_
    rintro e w5 ⟨rfl, hb5⟩
    have n5 := (hb5.block _ (Array.getElem?_eq_some_iff.1 n4.out).1).trans n4.out
    have S4 := S3'.out.call hb5
    clear k0 k1 k2 k3 hb5
    obtain ⟨k0, k1, k2, k3⟩ := cell4 n5
    replace n5 := Lib.hid n5
    obtain ⟨x0, x1, x2, x3⟩ := cell4 S4.z
    obtain ⟨y0, y1, y2, y3⟩ := free4 S4.z
    obtain ⟨o0, o1, o2, o3⟩ := cell4 (four_set S4.z rfl (u (lm x 0)) (u (lm x 1)) (u (lm x 2)) (u (lm x 3)))
    have hB := Lib.hid (below_four S4.below w.heap.size (Nat.le_refl _) (u (lm x 0)) (u (lm x 1)) (u (lm x 2)) (u (lm x 3)))
    replace S4 := Lib.hid S4
    go_wp2
    refine bodyPost_ret (v := .tuple #[numV x, .int .i64 0]) (by simp [results, Tryd.results16, go_sem, o0, o1, o2, o3]) rfl ⟨rfl, hB.out⟩
end Lm
end Go.Proofs.YtkmbpakhbicnaaaDoor
namespace Go.Proofs.YtkmbpakhbicnaaaDoor
open Go.RowKit Go.Proofs.YtkmbpakhbicnaaaDoorW.PrintWords Go.Proofs.YtkmbpakhbicnaaaDoorW.PrintMore Go.Lib
namespace Lm
/-- An operation of a region that draws its order, taken first. -/
theorem take_h {P : Program} {md : Region.Mode} {ops : Array Oper} {Q : Exit → Act → World → Prop} {S : World → Prop} {i : Nat} {oi : Oper} {d : Option Tmp} {v : Value} {fuel : Nat} {listed : Array Bool} {a : Act} {w : World} (hi : ops[i]? = some oi) (hd : oi.dst = d)
    (hs : Region.noSelect ops = true) (hf : Region.free md ops listed i = true) (hr : (Region.ready md ops listed).contains i = true)
    (hQ : ∀ c a w, Q (.panic c) (a.put oi.dst v) w → Q (.panic c) a w) (hy : YieldsIf P ops S oi v a) (hS : S w)
    (h : wpAnyH P md ops Q S fuel (listed.setIfInBounds i true) (a.put d v) w) : wpAnyH P md ops Q S (fuel + 1) listed a w := by
  subst hd
  exact wpAnyH_take hi hs hf hr hQ hy hS h
/-- A number in memory, at g. -/
structure DX (w X : World) (g a : Nat) : Prop where
  below : Below w.heap.size w X
  c : X.heap[g]? = some (.cells #[u (lm a 0), u (lm a 1), u (lm a 2), u (lm a 3)] 38 (0, 0))
theorem DX.call {w X X' : World} {g a : Nat} (h : DX w X g a) (hb : Below X.heap.size X X') : DX w X' g a :=
  ⟨below_then h.below h.below.size hb, (hb.block _ (Array.getElem?_eq_some_iff.1 h.c).1).trans h.c⟩
theorem DX.drew {w X : World} {g a : Nat} (h : DX w X g a) : DX w X.drew g a := ⟨h.below.drew, h.c⟩
theorem DX.mkS {w X : World} {g a : Nat} (h : DX w X g a) : X.cell? ⟨g, 0, none⟩ = some (u (lm a 0)) ∧ X.cell? ⟨g, 1, none⟩ = some (u (lm a 1)) ∧ X.cell? ⟨g, 2, none⟩ = some (u (lm a 2)) ∧ X.cell? ⟨g, 3, none⟩ = some (u (lm a 3)) ∧ Hid (DX w X g a) := by
  obtain ⟨a, b, c, d⟩ := cell4 h.c
  exact ⟨a, b, c, d, Lib.hid h⟩
set_option maxRecDepth 100000 in
set_option maxHeartbeats 2000000 in
theorem draws_bad (w : World) (seed label : ByteArray) (n : Int) (a : Nat) (hT : Tab w) (hs : seed.size ≤ 140737488351232) (hl : label.size ≤ 140737488351232) (hlr : seed.size + label.size ≤ 20000) (ha4 : a < B4) (ha0 : a = 0)
    (D : ∀ X, Below w.heap.size w X → Calls Tryd.prog 15 #[.string seed, .string label, .int .i64 n] X fun e w' => e = .returned (.tuple #[numV a, .int .i64 1]) ∧ Below X.heap.size X w') (R : ∀ X, Below w.heap.size w X → Calls Tryd.prog 16 #[.string seed, .string label, .int .i64 n] X fun e w' => e = .returned (.tuple #[numV a, .int .i64 1]) ∧ Below X.heap.size X w') :
    Calls Tryd.prog 5 #[.string seed, .string label, .int .i64 n] w fun e w' => e = .returned (.bool true) ∧ Below w.heap.size w w' := by
  have EQ : ∀ X, (Op.equalIn 10000 38 (numV a) (numV a)).run Tryd.prog X = .ok true X := fun X => by
    have := eqV ha4 ha4 X
    rwa [decide_eq_true rfl] at this
  have EZ : ∀ X, (Op.equalIn 10000 38 (numV a) zero4).run Tryd.prog X = .ok true X := fun X => by
    have := eqV ha4 (b := 0) (by decide) X
    rwa [zero4_eq, decide_eq_true ha0] at this
  have w64 : wrap64 ((seed.size : Int) + (label.size : Int)) = ((seed.size + label.size : Nat) : Int) := by unfold wrap64; omega
  have q1 : decide (20000 < ((seed.size + label.size : Nat) : Int)) = false := decide_eq_false (by omega)
  have q2 : decide (20000 < (seed.size : Int) + (label.size : Int)) = false := decide_eq_false (by omega)
  have O := Lib.hid (fun w1 (hb : Below w.heap.size w w1) => one_any w1 (hT.below hb))
  clear ha4 ha0
  replace D := Lib.hid D
  replace R := Lib.hid R
  obtain ⟨z, hz⟩ : ∃ z : Nat, z = seed.size + label.size := ⟨_, rfl⟩
  rw [← hz] at w64 q1
  clear hT hs hl hlr hz
  go_enter Tryd.func5, Tryd.ntmps5
  go_wp2_with fail
  refine (D.out w (Below.refl _ w)).mono ?_
  rintro e w1 ⟨rfl, hb1⟩
  have D1 : DX w (w1.alloc (.cells #[u (lm a 0), u (lm a 1), u (lm a 2), u (lm a 3)] 38)) w1.heap.size a := ⟨hb1.alloc hb1.size _, heap_alloc_new w1 _⟩
  replace D1 := Lib.hid D1
  clear hb1
  go_wp2_with fail
  refine (R.out _ D1.out.below).mono ?_
  rintro e w2 ⟨rfl, hb2⟩
  have D2 := D1.out.call hb2
  have D3 := D2.call ((Below.refl _ w2).alloc (Nat.le_refl _) (.cells #[u (lm a 0), u (lm a 1), u (lm a 2), u (lm a 3)] 38))
  obtain ⟨x0, x1, x2, x3⟩ := cell4 D3.c
  obtain ⟨y0, y1, y2, y3⟩ := cell4 (heap_alloc_new w2 (.cells #[u (lm a 0), u (lm a 1), u (lm a 2), u (lm a 3)] 38))
  have D3d := Lib.hid D3.drew
  replace D3 := Lib.hid D3
  replace D2 := Lib.hid D2
  clear hb2 D1
  go_wp2_with fail
  refine wp_region_held_drew (S := (fun w' => w'.cell? ⟨w1.heap.size, 0, none⟩ = some (u (lm a 0)) ∧ w'.cell? ⟨w1.heap.size, 1, none⟩ = some (u (lm a 1)) ∧ w'.cell? ⟨w1.heap.size, 2, none⟩ = some (u (lm a 2)) ∧ w'.cell? ⟨w1.heap.size, 3, none⟩ = some (u (lm a 3)) ∧ Hid (DX w w' w1.heap.size a))) (by kernel_rfl) ?_ (fun hHeld => ?_)
  · exact D3d.out.mkS
  refine take_h (i := 0) (d := some 40) (v := ?v0) rfl rfl (by kernel_rfl) (by kernel_rfl) (by kernel_rfl) (fun _ _ _ h => h) (Or.inl ⟨by rfl, ?hy0⟩) (by assumption) ?rest0
  case hy0 => ((intro w hSw; (try dsimp only at hSw); go_simp) <;> with_reducible rfl)
  case rest0 =>
  (try simp only [Act.put, List.setIfInBounds_toArray, List.set_cons_zero, List.set_cons_succ])
  refine take_h (i := 1) (d := some 41) (v := ?v1) rfl rfl (by kernel_rfl) (by kernel_rfl) (by kernel_rfl) (fun _ _ _ h => h) (Or.inl ⟨by rfl, ?hy1⟩) (by assumption) ?rest1
  case hy1 => ((intro w hSw; (try dsimp only at hSw); go_simp) <;> with_reducible rfl)
  case rest1 =>
  (try simp only [Act.put, List.setIfInBounds_toArray, List.set_cons_zero, List.set_cons_succ])
  refine take_h (i := 2) (d := some 42) (v := ?v2) rfl rfl (by kernel_rfl) (by kernel_rfl) (by kernel_rfl) (fun _ _ _ h => h) (Or.inl ⟨by rfl, ?hy2⟩) (by assumption) ?rest2
  case hy2 => ((intro w hSw; (try dsimp only at hSw); go_simp) <;> with_reducible rfl)
  case rest2 =>
  (try simp only [Act.put, List.setIfInBounds_toArray, List.set_cons_zero, List.set_cons_succ])
  refine take_h (i := 3) (d := some 43) (v := ?v3) rfl rfl (by kernel_rfl) (by kernel_rfl) (by kernel_rfl) (fun _ _ _ h => h) (Or.inl ⟨by rfl, ?hy3⟩) (by assumption) ?rest3
  case hy3 => ((intro w hSw; (try dsimp only at hSw); go_simp) <;> with_reducible rfl)
  case rest3 =>
  (try simp only [Act.put, List.setIfInBounds_toArray, List.set_cons_zero, List.set_cons_succ])
  refine take_h (i := 4) (d := some 44) (v := ?v4) rfl rfl (by kernel_rfl) (by kernel_rfl) (by kernel_rfl) (fun _ _ _ h => h) (Or.inl ⟨by rfl, ?hy4⟩) (by assumption) ?rest4
  case hy4 => ((intro w hSw; (try dsimp only at hSw); go_simp) <;> with_reducible rfl)
  case rest4 =>
  (try simp only [Act.put, List.setIfInBounds_toArray, List.set_cons_zero, List.set_cons_succ])
  refine take_h (i := 5) (d := some 45) (v := ?v5) rfl rfl (by kernel_rfl) (by kernel_rfl) (by kernel_rfl) (fun _ _ _ h => h) (Or.inl ⟨by rfl, ?hy5⟩) (by assumption) ?rest5
  case hy5 => ((intro w hSw; (try dsimp only at hSw); go_simp) <;> with_reducible rfl)
  case rest5 =>
  (try simp only [Act.put, List.setIfInBounds_toArray, List.set_cons_zero, List.set_cons_succ])
  refine take_h (i := 6) (d := some 46) (v := ?v6) rfl rfl (by kernel_rfl) (by kernel_rfl) (by kernel_rfl) (fun _ _ _ h => h) (Or.inl ⟨by rfl, ?hy6⟩) (by assumption) ?rest6
  case hy6 => ((intro w hSw; (try dsimp only at hSw); go_simp) <;> with_reducible rfl)
  case rest6 =>
  (try simp only [Act.put, List.setIfInBounds_toArray, List.set_cons_zero, List.set_cons_succ])
  refine take_h (i := 7) (d := some 47) (v := ?v7) rfl rfl (by kernel_rfl) (by kernel_rfl) (by kernel_rfl) (fun _ _ _ h => h) (Or.inl ⟨by rfl, ?hy7⟩) (by assumption) ?rest7
  case hy7 => ((intro w hSw; (try dsimp only at hSw); go_simp) <;> with_reducible rfl)
  case rest7 =>
  (try simp only [Act.put, List.setIfInBounds_toArray, List.set_cons_zero, List.set_cons_succ])
  refine take_h (i := 8) (d := some 48) (v := undef) rfl rfl (by kernel_rfl) (by kernel_rfl) (by kernel_rfl) (fun _ _ _ h => h) (Or.inr ⟨by rfl, rfl⟩) (by assumption) ?_
  (try simp only [Act.put, List.setIfInBounds_toArray, List.set_cons_zero, List.set_cons_succ])
  refine take_h (i := 9) (d := some 49) (v := undef) rfl rfl (by kernel_rfl) (by kernel_rfl) (by kernel_rfl) (fun _ _ _ h => h) (Or.inr ⟨by rfl, rfl⟩) (by assumption) ?_
  (try simp only [Act.put, List.setIfInBounds_toArray, List.set_cons_zero, List.set_cons_succ])
  refine take_h (i := 10) (d := some 50) (v := undef) rfl rfl (by kernel_rfl) (by kernel_rfl) (by kernel_rfl) (fun _ _ _ h => h) (Or.inr ⟨by rfl, rfl⟩) (by assumption) ?_
  (try simp only [Act.put, List.setIfInBounds_toArray, List.set_cons_zero, List.set_cons_succ])
  refine take_h (i := 11) (d := some 51) (v := undef) rfl rfl (by kernel_rfl) (by kernel_rfl) (by kernel_rfl) (fun _ _ _ h => h) (Or.inr ⟨by rfl, rfl⟩) (by assumption) ?_
  (try simp only [Act.put, List.setIfInBounds_toArray, List.set_cons_zero, List.set_cons_succ])
  refine take_h (i := 12) (d := some 52) (v := undef) rfl rfl (by kernel_rfl) (by kernel_rfl) (by kernel_rfl) (fun _ _ _ h => h) (Or.inr ⟨by rfl, rfl⟩) (by assumption) ?_
  (try simp only [Act.put, List.setIfInBounds_toArray, List.set_cons_zero, List.set_cons_succ])
  refine take_h (i := 13) (d := some 53) (v := undef) rfl rfl (by kernel_rfl) (by kernel_rfl) (by kernel_rfl) (fun _ _ _ h => h) (Or.inr ⟨by rfl, rfl⟩) (by assumption) ?_
  (try simp only [Act.put, List.setIfInBounds_toArray, List.set_cons_zero, List.set_cons_succ])
  refine take_h (i := 14) (d := some 54) (v := undef) rfl rfl (by kernel_rfl) (by kernel_rfl) (by kernel_rfl) (fun _ _ _ h => h) (Or.inr ⟨by rfl, rfl⟩) (by assumption) ?_
  (try simp only [Act.put, List.setIfInBounds_toArray, List.set_cons_zero, List.set_cons_succ])
  refine take_h (i := 15) (d := some 55) (v := undef) rfl rfl (by kernel_rfl) (by kernel_rfl) (by kernel_rfl) (fun _ _ _ h => h) (Or.inr ⟨by rfl, rfl⟩) (by assumption) ?_
  (try simp only [Act.put, List.setIfInBounds_toArray, List.set_cons_zero, List.set_cons_succ])
  refine take_h (i := 16) (d := some 56) (v := undef) rfl rfl (by kernel_rfl) (by kernel_rfl) (by kernel_rfl) (fun _ _ _ h => h) (Or.inr ⟨by rfl, rfl⟩) (by assumption) ?_
  (try simp only [Act.put, List.setIfInBounds_toArray, List.set_cons_zero, List.set_cons_succ])
  refine take_h (i := 17) (d := some 57) (v := undef) rfl rfl (by kernel_rfl) (by kernel_rfl) (by kernel_rfl) (fun _ _ _ h => h) (Or.inr ⟨by rfl, rfl⟩) (by assumption) ?_
  (try simp only [Act.put, List.setIfInBounds_toArray, List.set_cons_zero, List.set_cons_succ])
  refine take_h (i := 18) (d := some 58) (v := undef) rfl rfl (by kernel_rfl) (by kernel_rfl) (by kernel_rfl) (fun _ _ _ h => h) (Or.inr ⟨by rfl, rfl⟩) (by assumption) ?_
  (try simp only [Act.put, List.setIfInBounds_toArray, List.set_cons_zero, List.set_cons_succ])
  refine take_h (i := 19) (d := some 59) (v := undef) rfl rfl (by kernel_rfl) (by kernel_rfl) (by kernel_rfl) (fun _ _ _ h => h) (Or.inr ⟨by rfl, rfl⟩) (by assumption) ?_
  (try simp only [Act.put, List.setIfInBounds_toArray, List.set_cons_zero, List.set_cons_succ])
  refine take_h (i := 20) (d := some 60) (v := ?v20) rfl rfl (by kernel_rfl) (by kernel_rfl) (by kernel_rfl) (fun _ _ _ h => h) (Or.inl ⟨by rfl, ?hy20⟩) (by assumption) ?rest20
  case hy20 => ((intro w hSw; (try dsimp only at hSw); go_simp) <;> with_reducible rfl)
  case rest20 =>
  (try simp only [Act.put, List.setIfInBounds_toArray, List.set_cons_zero, List.set_cons_succ])
  refine take_h (i := 21) (d := some 61) (v := ?v21) rfl rfl (by kernel_rfl) (by kernel_rfl) (by kernel_rfl) (fun _ _ _ h => h) (Or.inl ⟨by rfl, ?hy21⟩) (by assumption) ?rest21
  case hy21 => ((intro w hSw; (try dsimp only at hSw); go_simp) <;> with_reducible rfl)
  case rest21 =>
  (try simp only [Act.put, List.setIfInBounds_toArray, List.set_cons_zero, List.set_cons_succ])
  refine wpAnyH_ready (rs := [22]) (by kernel_rfl) (by simp) ?_
  refine AllReadyH.cons rfl (fun K hK => ?_) AllReadyH.nil
  go_simp
  refine (O.out _ D3d.out.below).mono ?_; rintro e w4 ⟨rfl, hb4⟩; have D4 := Lib.hid (D3d.out.call hb4); clear hb4
  refine hK.out _ _ ?_ (fun hHeld => ?_)
  · exact D4.out.mkS
  clear hK K
  (try simp only [Act.put, List.setIfInBounds_toArray, List.set_cons_zero, List.set_cons_succ])
  refine take_h (i := 23) (d := some 63) (v := ?v23) rfl rfl (by kernel_rfl) (by kernel_rfl) (by kernel_rfl) (fun _ _ _ h => h) (Or.inl ⟨by rfl, ?hy23⟩) (by assumption) ?rest23
  case hy23 => ((intro w hSw; (try dsimp only at hSw); go_simp) <;> with_reducible rfl)
  case rest23 =>
  (try simp only [Act.put, List.setIfInBounds_toArray, List.set_cons_zero, List.set_cons_succ])
  refine take_h (i := 24) (d := some 6) (v := ?v24) rfl rfl (by kernel_rfl) (by kernel_rfl) (by kernel_rfl) (fun _ _ _ h => h) (Or.inl ⟨by rfl, ?hy24⟩) (by assumption) ?rest24
  case hy24 => ((intro w hSw; (try dsimp only at hSw); go_simp) <;> with_reducible rfl)
  case rest24 =>
  (try simp only [Act.put, List.setIfInBounds_toArray, List.set_cons_zero, List.set_cons_succ])
  refine wpAnyH_done (by kernel_rfl) ?_ _
  go_wp2
  go_ret
  exact ⟨rfl, D4.out.below⟩
set_option maxRecDepth 100000 in
set_option maxHeartbeats 2000000 in
theorem draws_good (w : World) (seed label : ByteArray) (n : Int) (a : Nat) (hT : Tab w) (hs : seed.size ≤ 140737488351232) (hl : label.size ≤ 140737488351232) (hlr : seed.size + label.size ≤ 20000) (ha4 : a < B4) (ha0 : a ≠ 0) (haQ : a < Q)
    (D : ∀ X, Below w.heap.size w X → Calls Tryd.prog 15 #[.string seed, .string label, .int .i64 n] X fun e w' => e = .returned (.tuple #[numV a, .int .i64 0]) ∧ Below X.heap.size X w') (R : ∀ X, Below w.heap.size w X → Calls Tryd.prog 16 #[.string seed, .string label, .int .i64 n] X fun e w' => e = .returned (.tuple #[numV a, .int .i64 0]) ∧ Below X.heap.size X w') :
    Calls Tryd.prog 5 #[.string seed, .string label, .int .i64 n] w fun e w' => e = .returned (.bool true) ∧ Below w.heap.size w w' := by
  have EQ : ∀ X, (Op.equalIn 10000 38 (numV a) (numV a)).run Tryd.prog X = .ok true X := fun X => by
    have := eqV ha4 ha4 X
    rwa [decide_eq_true rfl] at this
  have EZ : ∀ X, (Op.equalIn 10000 38 (numV a) zero4).run Tryd.prog X = .ok false X := fun X => by
    have := eqV ha4 (b := 0) (by decide) X
    rwa [zero4_eq, decide_eq_false ha0] at this
  have w64 : wrap64 ((seed.size : Int) + (label.size : Int)) = ((seed.size + label.size : Nat) : Int) := by unfold wrap64; omega
  have q1 : decide (20000 < ((seed.size + label.size : Nat) : Int)) = false := decide_eq_false (by omega)
  have q2 : decide (20000 < (seed.size : Int) + (label.size : Int)) = false := decide_eq_false (by omega)
  have O := Lib.hid (fun w1 (hb : Below w.heap.size w w1) => one_any w1 (hT.below hb))
  have HA := fun X => rhas_any X a Q CQ ha4 Q_lt
  rw [decide_eq_true haQ] at HA
  have RC := rscalars_any
  generalize lm Q = fq at HA RC
  generalize lm CQ = fc at HA RC
  replace HA := Lib.hid HA
  replace RC := Lib.hid RC
  clear ha4 ha0 haQ
  replace D := Lib.hid D
  replace R := Lib.hid R
  obtain ⟨z, hz⟩ : ∃ z : Nat, z = seed.size + label.size := ⟨_, rfl⟩
  rw [← hz] at w64 q1
  clear hT hs hl hlr hz
  go_enter Tryd.func5, Tryd.ntmps5
  go_wp2_with fail
  refine (D.out w (Below.refl _ w)).mono ?_
  rintro e w1 ⟨rfl, hb1⟩
  have D1 : DX w (w1.alloc (.cells #[u (lm a 0), u (lm a 1), u (lm a 2), u (lm a 3)] 38)) w1.heap.size a := ⟨hb1.alloc hb1.size _, heap_alloc_new w1 _⟩
  replace D1 := Lib.hid D1
  clear hb1
  go_wp2_with fail
  refine (R.out _ D1.out.below).mono ?_
  rintro e w2 ⟨rfl, hb2⟩
  have D2 := D1.out.call hb2
  have D3 := D2.call ((Below.refl _ w2).alloc (Nat.le_refl _) (.cells #[u (lm a 0), u (lm a 1), u (lm a 2), u (lm a 3)] 38))
  obtain ⟨x0, x1, x2, x3⟩ := cell4 D3.c
  obtain ⟨y0, y1, y2, y3⟩ := cell4 (heap_alloc_new w2 (.cells #[u (lm a 0), u (lm a 1), u (lm a 2), u (lm a 3)] 38))
  have D3d := Lib.hid D3.drew
  replace D3 := Lib.hid D3
  replace D2 := Lib.hid D2
  clear hb2 D1
  go_wp2_with fail
  refine wp_region_held_drew (S := (fun w' => w'.cell? ⟨w1.heap.size, 0, none⟩ = some (u (lm a 0)) ∧ w'.cell? ⟨w1.heap.size, 1, none⟩ = some (u (lm a 1)) ∧ w'.cell? ⟨w1.heap.size, 2, none⟩ = some (u (lm a 2)) ∧ w'.cell? ⟨w1.heap.size, 3, none⟩ = some (u (lm a 3)) ∧ Hid (DX w w' w1.heap.size a))) (by kernel_rfl) ?_ (fun hHeld => ?_)
  · exact D3d.out.mkS
  refine take_h (i := 0) (d := some 40) (v := ?v0) rfl rfl (by kernel_rfl) (by kernel_rfl) (by kernel_rfl) (fun _ _ _ h => h) (Or.inl ⟨by rfl, ?hy0⟩) (by assumption) ?rest0
  case hy0 => ((intro w hSw; (try dsimp only at hSw); go_simp) <;> with_reducible rfl)
  case rest0 =>
  (try simp only [Act.put, List.setIfInBounds_toArray, List.set_cons_zero, List.set_cons_succ])
  refine take_h (i := 1) (d := some 41) (v := ?v1) rfl rfl (by kernel_rfl) (by kernel_rfl) (by kernel_rfl) (fun _ _ _ h => h) (Or.inl ⟨by rfl, ?hy1⟩) (by assumption) ?rest1
  case hy1 => ((intro w hSw; (try dsimp only at hSw); go_simp) <;> with_reducible rfl)
  case rest1 =>
  (try simp only [Act.put, List.setIfInBounds_toArray, List.set_cons_zero, List.set_cons_succ])
  refine take_h (i := 2) (d := some 42) (v := ?v2) rfl rfl (by kernel_rfl) (by kernel_rfl) (by kernel_rfl) (fun _ _ _ h => h) (Or.inl ⟨by rfl, ?hy2⟩) (by assumption) ?rest2
  case hy2 => ((intro w hSw; (try dsimp only at hSw); go_simp) <;> with_reducible rfl)
  case rest2 =>
  (try simp only [Act.put, List.setIfInBounds_toArray, List.set_cons_zero, List.set_cons_succ])
  refine take_h (i := 3) (d := some 43) (v := undef) rfl rfl (by kernel_rfl) (by kernel_rfl) (by kernel_rfl) (fun _ _ _ h => h) (Or.inr ⟨by rfl, rfl⟩) (by assumption) ?_
  (try simp only [Act.put, List.setIfInBounds_toArray, List.set_cons_zero, List.set_cons_succ])
  refine take_h (i := 4) (d := some 44) (v := undef) rfl rfl (by kernel_rfl) (by kernel_rfl) (by kernel_rfl) (fun _ _ _ h => h) (Or.inr ⟨by rfl, rfl⟩) (by assumption) ?_
  (try simp only [Act.put, List.setIfInBounds_toArray, List.set_cons_zero, List.set_cons_succ])
  refine take_h (i := 5) (d := some 45) (v := undef) rfl rfl (by kernel_rfl) (by kernel_rfl) (by kernel_rfl) (fun _ _ _ h => h) (Or.inr ⟨by rfl, rfl⟩) (by assumption) ?_
  (try simp only [Act.put, List.setIfInBounds_toArray, List.set_cons_zero, List.set_cons_succ])
  refine take_h (i := 6) (d := some 46) (v := ?v6) rfl rfl (by kernel_rfl) (by kernel_rfl) (by kernel_rfl) (fun _ _ _ h => h) (Or.inl ⟨by rfl, ?hy6⟩) (by assumption) ?rest6
  case hy6 => ((intro w hSw; (try dsimp only at hSw); go_simp) <;> with_reducible rfl)
  case rest6 =>
  (try simp only [Act.put, List.setIfInBounds_toArray, List.set_cons_zero, List.set_cons_succ])
  refine take_h (i := 7) (d := some 47) (v := ?v7) rfl rfl (by kernel_rfl) (by kernel_rfl) (by kernel_rfl) (fun _ _ _ h => h) (Or.inl ⟨by rfl, ?hy7⟩) (by assumption) ?rest7
  case hy7 => ((intro w hSw; (try dsimp only at hSw); go_simp) <;> with_reducible rfl)
  case rest7 =>
  (try simp only [Act.put, List.setIfInBounds_toArray, List.set_cons_zero, List.set_cons_succ])
  refine take_h (i := 8) (d := some 48) (v := ?v8) rfl rfl (by kernel_rfl) (by kernel_rfl) (by kernel_rfl) (fun _ _ _ h => h) (Or.inl ⟨by rfl, ?hy8⟩) (by assumption) ?rest8
  case hy8 => ((intro w hSw; (try dsimp only at hSw); go_simp) <;> with_reducible rfl)
  case rest8 =>
  (try simp only [Act.put, List.setIfInBounds_toArray, List.set_cons_zero, List.set_cons_succ])
  refine take_h (i := 9) (d := some 49) (v := ?v9) rfl rfl (by kernel_rfl) (by kernel_rfl) (by kernel_rfl) (fun _ _ _ h => h) (Or.inl ⟨by rfl, ?hy9⟩) (by assumption) ?rest9
  case hy9 => ((intro w hSw; (try dsimp only at hSw); go_simp) <;> with_reducible rfl)
  case rest9 =>
  (try simp only [Act.put, List.setIfInBounds_toArray, List.set_cons_zero, List.set_cons_succ])
  refine take_h (i := 10) (d := some 50) (v := ?v10) rfl rfl (by kernel_rfl) (by kernel_rfl) (by kernel_rfl) (fun _ _ _ h => h) (Or.inl ⟨by rfl, ?hy10⟩) (by assumption) ?rest10
  case hy10 => ((intro w hSw; (try dsimp only at hSw); go_simp) <;> with_reducible rfl)
  case rest10 =>
  (try simp only [Act.put, List.setIfInBounds_toArray, List.set_cons_zero, List.set_cons_succ])
  refine take_h (i := 11) (d := some 51) (v := ?v11) rfl rfl (by kernel_rfl) (by kernel_rfl) (by kernel_rfl) (fun _ _ _ h => h) (Or.inl ⟨by rfl, ?hy11⟩) (by assumption) ?rest11
  case hy11 => ((intro w hSw; (try dsimp only at hSw); go_simp) <;> with_reducible rfl)
  case rest11 =>
  (try simp only [Act.put, List.setIfInBounds_toArray, List.set_cons_zero, List.set_cons_succ])
  refine take_h (i := 12) (d := some 52) (v := ?v12) rfl rfl (by kernel_rfl) (by kernel_rfl) (by kernel_rfl) (fun _ _ _ h => h) (Or.inl ⟨by rfl, ?hy12⟩) (by assumption) ?rest12
  case hy12 => ((intro w hSw; (try dsimp only at hSw); go_simp) <;> with_reducible rfl)
  case rest12 =>
  (try simp only [Act.put, List.setIfInBounds_toArray, List.set_cons_zero, List.set_cons_succ])
  refine take_h (i := 13) (d := some 53) (v := ?v13) rfl rfl (by kernel_rfl) (by kernel_rfl) (by kernel_rfl) (fun _ _ _ h => h) (Or.inl ⟨by rfl, ?hy13⟩) (by assumption) ?rest13
  case hy13 => ((intro w hSw; (try dsimp only at hSw); go_simp) <;> with_reducible rfl)
  case rest13 =>
  (try simp only [Act.put, List.setIfInBounds_toArray, List.set_cons_zero, List.set_cons_succ])
  refine take_h (i := 14) (d := some 54) (v := ?v14) rfl rfl (by kernel_rfl) (by kernel_rfl) (by kernel_rfl) (fun _ _ _ h => h) (Or.inl ⟨by rfl, ?hy14⟩) (by assumption) ?rest14
  case hy14 => ((intro w hSw; (try dsimp only at hSw); go_simp) <;> with_reducible rfl)
  case rest14 =>
  (try simp only [Act.put, List.setIfInBounds_toArray, List.set_cons_zero, List.set_cons_succ])
  refine take_h (i := 15) (d := some 55) (v := ?v15) rfl rfl (by kernel_rfl) (by kernel_rfl) (by kernel_rfl) (fun _ _ _ h => h) (Or.inl ⟨by rfl, ?hy15⟩) (by assumption) ?rest15
  case hy15 => ((intro w hSw; (try dsimp only at hSw); go_simp) <;> with_reducible rfl)
  case rest15 =>
  (try simp only [Act.put, List.setIfInBounds_toArray, List.set_cons_zero, List.set_cons_succ])
  refine take_h (i := 17) (d := some 57) (v := ?v17) rfl rfl (by kernel_rfl) (by kernel_rfl) (by kernel_rfl) (fun _ _ _ h => h) (Or.inl ⟨by rfl, ?hy17⟩) (by assumption) ?rest17
  case hy17 => ((intro w hSw; (try dsimp only at hSw); go_simp) <;> with_reducible rfl)
  case rest17 =>
  (try simp only [Act.put, List.setIfInBounds_toArray, List.set_cons_zero, List.set_cons_succ])
  refine wpAnyH_ready (rs := [16]) (by kernel_rfl) (by simp) ?_
  refine AllReadyH.cons rfl (fun K hK => ?_) AllReadyH.nil
  go_simp
  refine (RC.out _).mono ?_; rintro e w4 ⟨rfl, hb4⟩; have D4 := Lib.hid (D3d.out.call hb4); clear hb4
  refine hK.out _ _ ?_ (fun hHeld => ?_)
  · exact D4.out.mkS
  clear hK K
  (try simp only [Act.put, List.setIfInBounds_toArray, List.set_cons_zero, List.set_cons_succ])
  refine wpAnyH_ready (rs := [18]) (by kernel_rfl) (by simp) ?_
  refine AllReadyH.cons rfl (fun K hK => ?_) AllReadyH.nil
  go_simp
  refine (HA.out _).mono ?_; rintro e w5 ⟨rfl, hb5⟩; have D5 := Lib.hid (D4.out.call hb5); clear hb5
  refine hK.out _ _ ?_ (fun hHeld => ?_)
  · exact D5.out.mkS
  clear hK K
  (try simp only [Act.put, List.setIfInBounds_toArray, List.set_cons_zero, List.set_cons_succ])
  refine take_h (i := 19) (d := some 59) (v := ?v19) rfl rfl (by kernel_rfl) (by kernel_rfl) (by kernel_rfl) (fun _ _ _ h => h) (Or.inl ⟨by rfl, ?hy19⟩) (by assumption) ?rest19
  case hy19 => ((intro w hSw; (try dsimp only at hSw); go_simp) <;> with_reducible rfl)
  case rest19 =>
  (try simp only [Act.put, List.setIfInBounds_toArray, List.set_cons_zero, List.set_cons_succ])
  refine take_h (i := 20) (d := some 60) (v := ?v20) rfl rfl (by kernel_rfl) (by kernel_rfl) (by kernel_rfl) (fun _ _ _ h => h) (Or.inl ⟨by rfl, ?hy20⟩) (by assumption) ?rest20
  case hy20 => ((intro w hSw; (try dsimp only at hSw); go_simp) <;> with_reducible rfl)
  case rest20 =>
  (try simp only [Act.put, List.setIfInBounds_toArray, List.set_cons_zero, List.set_cons_succ])
  refine take_h (i := 21) (d := some 61) (v := ?v21) rfl rfl (by kernel_rfl) (by kernel_rfl) (by kernel_rfl) (fun _ _ _ h => h) (Or.inl ⟨by rfl, ?hy21⟩) (by assumption) ?rest21
  case hy21 => ((intro w hSw; (try dsimp only at hSw); go_simp) <;> with_reducible rfl)
  case rest21 =>
  (try simp only [Act.put, List.setIfInBounds_toArray, List.set_cons_zero, List.set_cons_succ])
  refine wpAnyH_ready (rs := [22]) (by kernel_rfl) (by simp) ?_
  refine AllReadyH.cons rfl (fun K hK => ?_) AllReadyH.nil
  go_simp
  refine (O.out _ D5.out.below).mono ?_; rintro e w6 ⟨rfl, hb6⟩; have D6 := Lib.hid (D5.out.call hb6); clear hb6
  refine hK.out _ _ ?_ (fun hHeld => ?_)
  · exact D6.out.mkS
  clear hK K
  (try simp only [Act.put, List.setIfInBounds_toArray, List.set_cons_zero, List.set_cons_succ])
  refine take_h (i := 23) (d := some 63) (v := ?v23) rfl rfl (by kernel_rfl) (by kernel_rfl) (by kernel_rfl) (fun _ _ _ h => h) (Or.inl ⟨by rfl, ?hy23⟩) (by assumption) ?rest23
  case hy23 => ((intro w hSw; (try dsimp only at hSw); go_simp) <;> with_reducible rfl)
  case rest23 =>
  (try simp only [Act.put, List.setIfInBounds_toArray, List.set_cons_zero, List.set_cons_succ])
  refine take_h (i := 24) (d := some 6) (v := ?v24) rfl rfl (by kernel_rfl) (by kernel_rfl) (by kernel_rfl) (fun _ _ _ h => h) (Or.inl ⟨by rfl, ?hy24⟩) (by assumption) ?rest24
  case hy24 => ((intro w hSw; (try dsimp only at hSw); go_simp) <;> with_reducible rfl)
  case rest24 =>
  (try simp only [Act.put, List.setIfInBounds_toArray, List.set_cons_zero, List.set_cons_succ])
  refine wpAnyH_done (by kernel_rfl) ?_ _
  go_wp2
  go_ret
  exact ⟨rfl, D6.out.below⟩
end Lm
end Go.Proofs.YtkmbpakhbicnaaaDoor
namespace Go.Proofs.YtkmbpakhbicnaaaDoor
open Go.RowKit Go.Proofs.YtkmbpakhbicnaaaDoorW.PrintWords Go.Proofs.YtkmbpakhbicnaaaDoorW.PrintMore Go.Lib
namespace Lm
set_option maxRecDepth 100000 in
set_option maxHeartbeats 2000000 in
theorem draws_large (w : World) (seed label : ByteArray) (n : Int) (hT : Tab w) (hs : seed.size ≤ 140737488351232) (hl : label.size ≤ 140737488351232) (hlr : 20000 < seed.size + label.size) :
    Calls Tryd.prog 5 #[.string seed, .string label, .int .i64 n] w fun e w' => e = .returned (.bool true) ∧ Below w.heap.size w w' := by
  have w64 : wrap64 ((seed.size : Int) + (label.size : Int)) = ((seed.size + label.size : Nat) : Int) := by unfold wrap64; omega
  have q1 : decide (20000 < ((seed.size + label.size : Nat) : Int)) = true := decide_eq_true (by omega)
  have q2 : decide (20000 < (seed.size : Int) + (label.size : Int)) = true := decide_eq_true (by omega)
  have O := Lib.hid (one_any w hT)
  obtain ⟨z, hz⟩ : ∃ z : Nat, z = seed.size + label.size := ⟨_, rfl⟩
  rw [← hz] at w64 q1
  clear hT hs hl hlr hz
  go_enter Tryd.func5, Tryd.ntmps5
  go_wp2_with fail
  refine O.out.mono ?_
  rintro e w1 ⟨rfl, hb1⟩
  replace hb1 := Lib.hid hb1
  go_wp2
  go_ret
  exact ⟨rfl, hb1.out⟩
end Lm
theorem law_DomainDraws (seed label : ByteArray) (n : Int) (w : World) (hs : seed.size ≤ 140737488351232) (hl : label.size ≤ 140737488351232) (_hn : (Lit.int .i64 n).wf = true) (hT : Tab w) :
    Calls Tryd.prog 5 #[.string seed, .string label, .int .i64 n] w fun e w' => e = .returned (.bool true) ∧ Below w.heap.size w w' := by
  by_cases hlr : 20000 < seed.size + label.size
  · exact Lm.draws_large w seed label n hT hs hl hlr
  · by_cases ht : 1 ≤ label.size ∧ label.size ≤ 40
    · by_cases h0 : n < 0
      · exact Lm.draws_bad w seed label n 0 hT hs hl (by omega) (by decide) rfl (fun X _ => by rw [Lm.zero4_eq]; exact Lm.draw_bad2 X seed label n ht h0) (fun X _ => by rw [Lm.zero4_eq]; exact Lm.rdraw_bad2 X seed label n ht h0)
      · by_cases h1 : 1099511627776 < n
        · exact Lm.draws_bad w seed label n 0 hT hs hl (by omega) (by decide) rfl (fun X _ => by rw [Lm.zero4_eq]; exact Lm.draw_bad3 X seed label n ht h1) (fun X _ => by rw [Lm.zero4_eq]; exact Lm.rdraw_bad3 X seed label n ht h1)
        · obtain ⟨k, rfl⟩ : ∃ k : Nat, n = (k : Int) := ⟨n.toNat, by omega⟩
          have hd := Lm.drawn_pos seed label k
          exact Lm.draws_good w seed label k (Lm.drawn seed label k) hT hs hl (by omega) (Nat.lt_trans hd.2 Lm.Q_lt) (by omega) hd.2 (fun X hX => Lm.draw_good X seed label k (hT.below hX) ht (by omega) (by omega)) (fun X _ => Lm.rdraw_good X seed label k ht (by omega) (by omega))
    · exact Lm.draws_bad w seed label n 0 hT hs hl (by omega) (by decide) rfl (fun X _ => by rw [Lm.zero4_eq]; exact Lm.draw_bad1 X seed label n ht) (fun X _ => by rw [Lm.zero4_eq]; exact Lm.rdraw_bad1 X seed label n ht)
end Go.Proofs.YtkmbpakhbicnaaaDoor
