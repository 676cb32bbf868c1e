/- The law DomainBytes. -/
import Derived.Test.YtkmbpakhbicnaaaDoorLnD
namespace Go.Proofs.YtkmbpakhbicnaaaDoor
open Go.RowKit Go.Proofs.YtkmbpakhbicnaaaDoorW.PrintWords Go.Proofs.YtkmbpakhbicnaaaDoorW.PrintMore Go.Lib
namespace Lm
set_option maxRecDepth 100000 in
set_option maxHeartbeats 2000000 in
theorem bytes_bad (w : World) (tag : ByteArray) (A : Option Addr) (c k : Nat) (ht : ¬ (1 ≤ tag.size ∧ tag.size ≤ 40)) :
    Calls Tryd.prog 11 #[.string tag, .slice A k c] w fun e w' => e = .returned (.tuple #[.string ⟨#[]⟩, .int .i64 1]) ∧ Below w.heap.size w w' := by
  have TG := Lib.hid (fun X => PDg.domain_wrong.calls tag true X (by rw [wrong_f, decide_eq_true ht]))
  clear ht
  go_enter Tryd.func11, Tryd.ntmps11
  go_wp2_with fail
  refine (TG.out w).mono ?_
  rintro e w1 ⟨rfl, hD⟩
  have S1 := Lib.hid (by
    obtain ⟨m, rfl⟩ := hD
    exact pw_below_drewN (Below.refl _ w) m : Below w.heap.size w w1)
  clear hD
  go_wp2
  go_ret2
  exact ⟨rfl, S1.out⟩
set_option maxRecDepth 100000 in
set_option maxHeartbeats 2000000 in
theorem rbytes_bad (w : World) (tag : ByteArray) (A : Option Addr) (c k : Nat) (ht : ¬ (1 ≤ tag.size ∧ tag.size ≤ 40)) :
    Calls Tryd.prog 12 #[.string tag, .slice A k c] w fun e w' => e = .returned (.tuple #[.string ⟨#[]⟩, .int .i64 1]) ∧ Below w.heap.size w w' := by
  have TG := Lib.hid (fun X => tag_any X tag)
  rw [show decide (1 ≤ tag.size ∧ tag.size ≤ 40) = false by simpa using ht] at TG
  clear ht
  go_enter Tryd.func12, Tryd.ntmps12
  go_wp2_with fail
  refine (TG.out w).mono ?_
  rintro e w1 ⟨rfl, hD⟩
  have S1 := Lib.hid (by
    obtain ⟨m, rfl⟩ := hD
    exact pw_below_drewN (Below.refl _ w) m : Below w.heap.size w w1)
  clear hD
  go_wp2
  go_ret2
  exact ⟨rfl, S1.out⟩
set_option maxRecDepth 100000 in
set_option maxHeartbeats 2000000 in
theorem scalar_bad (w : World) (tag : ByteArray) (A : Option Addr) (c k : Nat) (ht : ¬ (1 ≤ tag.size ∧ tag.size ≤ 40)) :
    Calls Tryd.prog 13 #[.string tag, .slice A k c] w fun e w' => e = .returned (.tuple #[zero4, .int .i64 1]) ∧ Below w.heap.size w w' := by
  have TG := Lib.hid (fun X => PDg.domain_wrong.calls tag true X (by rw [wrong_f, decide_eq_true ht]))
  have n1 := heap_alloc_new w (.cells #[.int .u64 0, .int .u64 0, .int .u64 0, .int .u64 0] 38)
  have b1 := (Below.refl _ w).alloc (Nat.le_refl _) (.cells #[.int .u64 0, .int .u64 0, .int .u64 0, .int .u64 0] 38)
  have S0 : SZ w (w.alloc (.cells #[.int .u64 0, .int .u64 0, .int .u64 0, .int .u64 0] 38)) := ⟨b1, n1⟩
  replace S0 := Lib.hid S0
  clear n1 b1 ht
  go_enter Tryd.func13, Tryd.ntmps13
  go_wp2_with fail
  refine (TG.out _).mono ?_
  rintro e w1 ⟨rfl, hD⟩
  have S1 := (by
    obtain ⟨m, rfl⟩ := hD
    exact ⟨pw_below_drewN S0.out.below m, S0.out.z⟩ : SZ w w1)
  clear hD S0
  obtain ⟨x0, x1, x2, x3⟩ := cell4 S1.z
  obtain ⟨y0, y1, y2, y3⟩ := free4 S1.z
  obtain ⟨o0, o1, o2, o3⟩ := cell4 (four_set S1.z rfl (.int .u64 0) (.int .u64 0) (.int .u64 0) (.int .u64 0))
  have hB := Lib.hid (below_four S1.below w.heap.size (Nat.le_refl _) (.int .u64 0) (.int .u64 0) (.int .u64 0) (.int .u64 0))
  replace S1 := Lib.hid S1
  go_wp2
  refine bodyPost_ret (v := .tuple #[zero4, .int .i64 1]) (by simp [results, Tryd.results13, go_sem, o0, o1, o2, o3]) rfl ⟨rfl, hB.out⟩
set_option maxRecDepth 100000 in
set_option maxHeartbeats 2000000 in
theorem rscalar_bad (w : World) (tag : ByteArray) (A : Option Addr) (c k : Nat) (ht : ¬ (1 ≤ tag.size ∧ tag.size ≤ 40)) :
    Calls Tryd.prog 14 #[.string tag, .slice A k c] w fun e w' => e = .returned (.tuple #[zero4, .int .i64 1]) ∧ Below w.heap.size w w' := by
  have TG := Lib.hid (fun X => tag_any X tag)
  rw [show decide (1 ≤ tag.size ∧ tag.size ≤ 40) = false by simpa using ht] at TG
  have n1 := heap_alloc_new w (.cells #[.int .u64 0, .int .u64 0, .int .u64 0, .int .u64 0] 38)
  have b1 := (Below.refl _ w).alloc (Nat.le_refl _) (.cells #[.int .u64 0, .int .u64 0, .int .u64 0, .int .u64 0] 38)
  have S0 : SZ w (w.alloc (.cells #[.int .u64 0, .int .u64 0, .int .u64 0, .int .u64 0] 38)) := ⟨b1, n1⟩
  replace S0 := Lib.hid S0
  clear n1 b1 ht
  go_enter Tryd.func14, Tryd.ntmps14
  go_wp2_with fail
  refine (TG.out _).mono ?_
  rintro e w1 ⟨rfl, hD⟩
  have S1 := (by
    obtain ⟨m, rfl⟩ := hD
    exact ⟨pw_below_drewN S0.out.below m, S0.out.z⟩ : SZ w w1)
  clear hD S0
  obtain ⟨x0, x1, x2, x3⟩ := cell4 S1.z
  obtain ⟨y0, y1, y2, y3⟩ := free4 S1.z
  obtain ⟨o0, o1, o2, o3⟩ := cell4 (four_set S1.z rfl (.int .u64 0) (.int .u64 0) (.int .u64 0) (.int .u64 0))
  have hB := Lib.hid (below_four S1.below w.heap.size (Nat.le_refl _) (.int .u64 0) (.int .u64 0) (.int .u64 0) (.int .u64 0))
  replace S1 := Lib.hid S1
  go_wp2
  refine bodyPost_ret (v := .tuple #[zero4, .int .i64 1]) (by simp [results, Tryd.results14, go_sem, o0, o1, o2, o3]) rfl ⟨rfl, hB.out⟩
set_option maxRecDepth 100000 in
set_option maxHeartbeats 2000000 in
theorem rbytes_any (w : World) (tag : ByteArray) (A : Option Addr) (c : Nat) (l : List ByteArray) (hr : Kd.C Kd.string w A l.length l) (hc : l.length ≤ c) (ht : 1 ≤ tag.size ∧ tag.size ≤ 40) (hz : 4 * l.length + total l ≤ 1000000000000) :
    Calls Tryd.prog 12 #[.string tag, .slice A l.length c] w fun e w' => e = .returned (.tuple #[.string (Sha.hash (hashedB tag l)), .int .i64 0]) ∧ Below w.heap.size w w' := by
  have TG := Lib.hid (fun X => tag_any X tag)
  rw [show decide (1 ≤ tag.size ∧ tag.size ≤ 40) = true from decide_eq_true ht] at TG
  have HA := Lib.hid (fun (X : World) (hx : Below w.heap.size w X) => hashed_any X A c l tag (Kd.C_below hr hx) hc (by omega) (by omega))
  obtain ⟨Y, hY⟩ : ∃ Y, Y = hashedB tag l := ⟨_, rfl⟩
  have hYz : Y.size ≤ 140737488350000 := by rw [hY, hashedB_size]; omega
  rw [← hY] at HA ⊢
  have RS := fun X => rsum_any X Y (by omega)
  generalize Sha.hash Y = H at *
  replace RS := Lib.hid RS
  clear hY hr hc ht hz hYz
  go_enter Tryd.func12, Tryd.ntmps12
  go_wp2_with fail
  refine (TG.out w).mono ?_
  rintro e w1 ⟨rfl, hD⟩
  have S1 := Lib.hid (by
    obtain ⟨m, rfl⟩ := hD
    exact pw_below_drewN (Below.refl _ w) m : Below w.heap.size w w1)
  clear hD
  go_wp2_with fail
  refine (HA.out w1 S1.out).mono ?_
  rintro e w2 ⟨rfl, hb2⟩
  have S2 := Lib.hid (below_then S1.out S1.out.size hb2)
  clear hb2 S1
  go_wp2_with fail
  refine (RS.out w2).mono ?_
  rintro e w3 ⟨rfl, hb3⟩
  have S3 := Lib.hid (below_then S2.out S2.out.size hb3)
  clear hb3 S2
  go_wp2
  go_ret2
  exact ⟨rfl, S3.out⟩
set_option maxRecDepth 100000 in
set_option maxHeartbeats 2000000 in
theorem bytes_law (w : World) (tag : ByteArray) (A : Option Addr) (c : Nat) (l : List ByteArray) (hT : Tab w) (hr : Kd.C Kd.string w A l.length l) (hc : l.length ≤ c) (hbulk : tag.size + l.length + total l ≤ 1048576) (hlr : ¬ 20000 < tag.size + total l)
    (H : ByteArray) (r : Nat) (e : Int) (hr4 : r < B4)
    (C1 : ∀ X, Below w.heap.size w X → Calls Tryd.prog 11 #[.string tag, .slice A l.length c] X fun e' w' => e' = .returned (.tuple #[.string H, .int .i64 e]) ∧ Below X.heap.size X w')
    (C2 : ∀ X, Below w.heap.size w X → Calls Tryd.prog 12 #[.string tag, .slice A l.length c] X fun e' w' => e' = .returned (.tuple #[.string H, .int .i64 e]) ∧ Below X.heap.size X w')
    (C3 : ∀ X, Below w.heap.size w X → Calls Tryd.prog 13 #[.string tag, .slice A l.length c] X fun e' w' => e' = .returned (.tuple #[numV r, .int .i64 e]) ∧ Below X.heap.size X w')
    (C4 : ∀ X, Below w.heap.size w X → Calls Tryd.prog 14 #[.string tag, .slice A l.length c] X fun e' w' => e' = .returned (.tuple #[numV r, .int .i64 e]) ∧ Below X.heap.size X w') :
    Calls Tryd.prog 4 #[.string tag, .slice A l.length c] w fun e w' => e = .returned (.bool true) ∧ Below w.heap.size w w' := by
  have LA := large_any w A c l tag hr hc (by omega) (by omega)
  rw [decide_eq_false hlr] at LA
  have EQ : ∀ X, (Op.equalIn 10000 38 (numV r) (numV r)).run Tryd.prog X = .ok true X := fun X => by
    have := eqV hr4 hr4 X
    rwa [decide_eq_true rfl] at this
  have hbb : (H.toList == H.toList) = true := beq_self_eq_true _
  have hee : (e == e) = true := beq_self_eq_true _
  have O := Lib.hid (fun w1 (hb : Below w.heap.size w w1) => one_any w1 (hT.below hb))
  replace C1 := Lib.hid C1
  replace C2 := Lib.hid C2
  replace C3 := Lib.hid C3
  replace C4 := Lib.hid C4
  replace LA := Lib.hid LA
  clear hT hr hc hbulk hlr hr4
  go_enter Tryd.func4, Tryd.ntmps4
  go_wp2_with fail
  refine LA.out.mono ?_
  rintro e1 w1 ⟨rfl, hD⟩
  have S1 := Lib.hid (by
    obtain ⟨m, rfl⟩ := hD
    exact pw_below_drewN (Below.refl _ w) m : Below w.heap.size w w1)
  clear hD LA
  go_wp2_with fail
  refine (C1.out w1 S1.out).mono ?_
  rintro e2 w2 ⟨rfl, hb2⟩
  have S2 := Lib.hid (below_then S1.out S1.out.size hb2)
  clear hb2 S1
  go_wp2_with fail
  refine (C2.out w2 S2.out).mono ?_
  rintro e3 w3 ⟨rfl, hb3⟩
  have S3 := Lib.hid (below_then S2.out S2.out.size hb3)
  clear hb3 S2
  go_wp2_with fail
  refine (C3.out w3 S3.out).mono ?_
  rintro e4 w4 ⟨rfl, hb4⟩
  have S4 := below_then S3.out S3.out.size hb4
  have D4 : DX w (w4.alloc (.cells #[u (lm r 0), u (lm r 1), u (lm r 2), u (lm r 3)] 38)) w4.heap.size r := ⟨S4.alloc S4.size _, heap_alloc_new w4 _⟩
  replace D4 := Lib.hid D4
  clear hb4 S3 S4
  go_wp2_with fail
  refine (C4.out _ D4.out.below).mono ?_
  rintro e5 w5 ⟨rfl, hb5⟩
  have D5 := D4.out.call hb5
  have D6 := D5.call ((Below.refl _ w5).alloc (Nat.le_refl _) (.cells #[u (lm r 0), u (lm r 1), u (lm r 2), u (lm r 3)] 38))
  obtain ⟨x0, x1, x2, x3⟩ := cell4 D6.c
  obtain ⟨y0, y1, y2, y3⟩ := cell4 (heap_alloc_new w5 (.cells #[u (lm r 0), u (lm r 1), u (lm r 2), u (lm r 3)] 38))
  replace D6 := Lib.hid D6
  replace D5 := Lib.hid D5
  clear hb5 D4
  go_wp2_with fail
  refine (O.out _ D6.out.below).mono ?_
  rintro e6 w6 ⟨rfl, hb6⟩
  have S6 := Lib.hid (D6.out.call hb6)
  clear hb6
  go_wp2
  go_ret
  exact ⟨rfl, S6.out.below⟩
set_option maxRecDepth 100000 in
set_option maxHeartbeats 2000000 in
theorem bytes_large (w : World) (tag : ByteArray) (A : Option Addr) (c : Nat) (l : List ByteArray) (hT : Tab w) (hr : Kd.C Kd.string w A l.length l) (hc : l.length ≤ c) (hbulk : tag.size + l.length + total l ≤ 1048576) (hlr : 20000 < tag.size + total l) :
    Calls Tryd.prog 4 #[.string tag, .slice A l.length c] w fun e w' => e = .returned (.bool true) ∧ Below w.heap.size w w' := by
  have LA := large_any w A c l tag hr hc (by omega) (by omega)
  rw [decide_eq_true hlr] at LA
  have O := Lib.hid (fun w1 (hb : Below w.heap.size w w1) => one_any w1 (hT.below hb))
  replace LA := Lib.hid LA
  clear hT hr hc hbulk hlr
  go_enter Tryd.func4, Tryd.ntmps4
  go_wp2_with fail
  refine LA.out.mono ?_
  rintro e1 w1 ⟨rfl, hD⟩
  have S1 := Lib.hid (by
    obtain ⟨m, rfl⟩ := hD
    exact pw_below_drewN (Below.refl _ w) m : Below w.heap.size w w1)
  clear hD LA
  go_wp2_with fail
  refine (O.out _ S1.out).mono ?_
  rintro e2 w2 ⟨rfl, hb2⟩
  have S2 := Lib.hid (below_then S1.out S1.out.size hb2)
  clear hb2
  go_wp2
  go_ret
  exact ⟨rfl, S2.out⟩
end Lm
theorem law_DomainBytes (tag : ByteArray) (A : Option Addr) (c : Nat) (l : List ByteArray) (w : World) (hr : Kd.C Kd.string w A l.length l) (hc : l.length ≤ c) (hbulk : tag.size + l.length + total l ≤ 1048576) (hT : Tab w) :
    Calls Tryd.prog 4 #[.string tag, .slice A l.length c] w fun e w' => e = .returned (.bool true) ∧ Below w.heap.size w w' := by
  by_cases hlr : 20000 < tag.size + total l
  · exact Lm.bytes_large w tag A c l hT hr hc hbulk hlr
  · by_cases ht : 1 ≤ tag.size ∧ tag.size ≤ 40
    · exact Lm.bytes_law w tag A c l hT hr hc hbulk hlr (Sha.hash (hashedB tag l)) (Lm.sclr (hashedB tag l)) 0 (Lm.sclr_lt4 _)
        (fun X hX => bytes_any X tag A c l (hT.below hX) (strs_of (Kd.C_below hr hX) rfl) ht (by omega))
        (fun X hX => Lm.rbytes_any X tag A c l (Kd.C_below hr hX) hc ht (by omega))
        (fun X hX => Lm.scalar_any X tag A c l (hT.below hX) (strs_of (Kd.C_below hr hX) rfl) ht (by omega))
        (fun X hX => Lm.rscalar_any X tag A c l (Kd.C_below hr hX) hc ht (by omega))
    · exact Lm.bytes_law w tag A c l hT hr hc hbulk hlr ⟨#[]⟩ 0 1 (by decide)
        (fun X _ => Lm.bytes_bad X tag A c _ ht) (fun X _ => Lm.rbytes_bad X tag A c _ ht)
        (fun X _ => by rw [Lm.zero4_eq]; exact Lm.scalar_bad X tag A c _ ht) (fun X _ => by rw [Lm.zero4_eq]; exact Lm.rscalar_bad X tag A c _ ht)
end Go.Proofs.YtkmbpakhbicnaaaDoor
