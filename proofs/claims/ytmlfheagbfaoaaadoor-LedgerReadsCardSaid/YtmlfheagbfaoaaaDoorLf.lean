/- The law LedgerReads, walked. -/
import Derived.Test.YtmlfheagbfaoaaaDoorLc
namespace Go.Proofs.YtmlfheagbfaoaaaDoor
open Go.RowKit Go.Proofs.YtmlfheagbfaoaaaDoorW.PrintWords Go.Proofs.YtmlfheagbfaoaaaDoorW.PrintMore Go.Lib
set_option maxRecDepth 100000 in
set_option maxHeartbeats 4000000 in
theorem law_LedgerReads (b : ByteArray) (w : World) (_hb : b.size ≤ 140737488351232) (hT : Tab w) :
    Calls Tryd.prog 4 #[.string b] w fun e w' => e = .returned (.bool true) ∧ Below w.heap.size w w' := by
  have HT := Lib.hid hT
  have O1 := Lib.hid (fun X (h : Below w.heap.size w X) => one_any X (hT.below h))
  by_cases h1 : b.size ≤ 30000
  · have t1 : ¬ (30000 : Int) < (b.size : Int) := by omega
    have hlen := told_len b
    have hend := told_end b
    have hend6 := told_end6 b
    obtain ⟨T, hTd⟩ : ∃ T, T = toldB b := ⟨_, rfl⟩
    obtain ⟨R, hR⟩ : ∃ R : List ByteArray, R = T.map (·.1) := ⟨_, rfl⟩
    obtain ⟨a, ha⟩ : ∃ a, a = endOf T := ⟨_, rfl⟩
    have hRl : T.length = R.length := by rw [hR, List.length_map]
    have hRm : (T.map fun x => Value.string x.1) = R.map Value.string := by rw [hR, List.map_map]; rfl
    have R1 := read_any w b (by omega) hT (by omega)
    rw [← hTd, ← ha, hRl, hRm] at R1
    rw [← hTd] at hlen
    rw [hRl] at hlen
    rw [← hTd, ← ha] at hend
    replace R1 := Lib.hid R1
    have Q1 := fun X => rread_any X b (by omega)
    rw [← hTd, ← ha, hRl, hRm] at Q1
    replace Q1 := Lib.hid Q1
    clear hT hend6
    replace hTd := Lib.hid hTd
    replace hR := Lib.hid hR
    replace ha := Lib.hid ha
    replace hRl := Lib.hid hRl
    replace hRm := Lib.hid hRm
    go_enter Tryd.func4, Tryd.ntmps4
    go_wp2_with fail
    refine R1.out.mono ?_
    rintro e w1 ⟨v1, rfl, r1, b1⟩
    obtain ⟨A1, c1, rfl⟩ := rowSlice r1
    replace r1 := Lib.hid r1
    replace b1 := Lib.hid b1
    go_wp2_with fail
    refine (Q1.out w1).mono ?_
    rintro e w2 ⟨v2, rfl, r2, b2⟩
    obtain ⟨A2, c2, rfl⟩ := rowSlice r2
    have B2 := below_then b1.out b1.out.size b2
    have r1b := pw_own_below r1.out b2
    replace r2 := Lib.hid r2
    replace b2 := Lib.hid b2
    have b3 := Lib.hid ((Below.refl w2.heap.size w2).alloc (Nat.le_refl _) (.cells #[.slice A2 R.length c2, .int .i64 (a : Int)] 41))
    have t3 : (w2.alloc (.cells #[.slice A2 R.length c2, .int .i64 (a : Int)] 41)).heap[w2.heap.size]? = some (.cells #[.slice A2 R.length c2, .int .i64 (a : Int)] 41 (0, 0)) := heap_alloc_new w2 _
    have r1c := pw_own_below r1b b3.out
    have r2c := pw_own_below r2.out b3.out
    have B3 := below_then B2 B2.size b3.out
    obtain ⟨w3, hw3⟩ : ∃ w3, w3 = w2.alloc (.cells #[.slice A2 R.length c2, .int .i64 (a : Int)] 41) := ⟨_, rfl⟩
    have hs3 : w3.heap.size = w2.heap.size + 1 := by rw [hw3, World.size_alloc]
    rw [← hw3] at t3 r1c r2c B3
    replace hw3 := Lib.hid hw3
    replace r1b := Lib.hid r1b
    have F3 := Dk.FileAt.new w3
    have b4 := (Below.refl w3.heap.size w3).alloc (Nat.le_refl _) (.cells #[.slice none 0 0, .int .i64 0] 58)
    have A4 := Lib.hid (Dk.append_room _ _ _ _ b _ F3 (by show 0 + b.size ≤ _; omega))
    replace F3 := Lib.hid F3
    replace b4 := Lib.hid b4
    replace B2 := Lib.hid B2
    replace B3 := Lib.hid B3
    replace t3 := Lib.hid t3
    replace r1c := Lib.hid r1c
    replace r2c := Lib.hid r2c
    replace hs3 := Lib.hid hs3
    clear R1 Q1
    go_wp2_with fail
    rw [← hw3.out]
    refine (Dk.new_any w3).mono ?_
    rintro e w4 ⟨rfl, rfl⟩
    go_wp2_with fail
    refine A4.out.mono ?_
    rintro e w5 ⟨rfl, F5, K5⟩
    rw [empty_app] at F5
    have B5 := K5.below b4.out (Nat.le_refl _) b4.out.size
    have P5 := open_any _ _ b 0 w5 F5 (HT.out.below (below_then B3.out B3.out.size B5)) B5.size
    rw [← hTd.out, ← ha.out, ← hR.out, hRl.out, hRm.out] at P5
    replace P5 := Lib.hid P5
    replace F5 := Lib.hid F5
    replace K5 := Lib.hid K5
    replace B5 := Lib.hid B5
    clear A4
    go_wp2_with fail
    refine P5.out.mono ?_
    rintro e w6 ⟨lg, v6, rfl, L6, -, -, K6⟩
    have B6 := K6.below B5.out (Nat.le_refl _) B5.out.size
    have t6 := (B6.block w2.heap.size (by rw [hs3.out]; omega)).trans t3.out
    have C6 := Lib.hid (Dk.len_any _ _ _ _ w6 L6.file)
    have L7 := Lib.hid (fun m => L6.move (pw_below_drewN (Below.refl _ w6) m))
    have B7 := Lib.hid (fun m => below_then B6 B6.size (pw_below_drewN (Below.refl _ w6) m))
    have hea : (b.extract 0 a).size = a := ext_size _ _ hend
    replace K6 := Lib.hid K6
    replace L6 := Lib.hid L6
    replace B6 := Lib.hid B6
    replace hea := Lib.hid hea
    clear P5
    go_wp2_with fail
    refine C6.out.mono ?_
    rintro e w7 ⟨rfl, m7, rfl⟩
    rw [hea.out]
    have s0 : w6.cell? ⟨w2.heap.size, 0, none⟩ = some (.slice A2 R.length c2) := Go.Joins.cell_of_block t6 0
    have s1 : w6.cell? ⟨w2.heap.size, 1, none⟩ = some (.int .i64 (a : Int)) := Go.Joins.cell_of_block t6 1
    have r16 := rowKept (rowKept (pw_own_below r1c.out b4.out) K5.out F3.out) K6.out F5.out
    have r26 := rowKept (rowKept (pw_own_below r2c.out b4.out) K5.out F3.out) K6.out F5.out
    have X1 := fun m => texts_any A1 c1 R A2 c2 R (w6.drewN m) _ _ (pw_own_below r16 (pw_below_drewN (Below.refl _ w6) m)) (pw_own_below r26 (pw_below_drewN (Below.refl _ w6) m)) (by omega)
    rw [show decide (R = R) = true by simp] at X1
    have Q6 := fun m => records_any _ _ lg _ _ _ R _ (w6.drewN m) (L7.out m)
    have r27 := fun m => pw_own_below r26 (pw_below_drewN (Below.refl _ w6) m)
    replace r16 := Lib.hid r16
    replace r26 := Lib.hid r26
    replace r27 := Lib.hid r27
    replace X1 := Lib.hid X1
    replace Q6 := Lib.hid Q6
    replace t6 := Lib.hid t6
    have Z6 := Lib.hid (fun X (h : Below w6.heap.size w6 X) => below_then (below_then B3.out B3.out.size ((B6.out).mono (Nat.le_refl _))) (by have := B3.out.size; have := B6.out.size; omega) h)
    clear C6
    go_wp2_with fail
    go_region_held3 (fun w' => w'.cell? ⟨w2.heap.size, 0, none⟩ = some (.slice A2 R.length c2) ∧ w'.cell? ⟨w2.heap.size, 1, none⟩ = some (.int .i64 (a : Int))) (first | exact ⟨s0, s1⟩ | exact ⟨s09, s19⟩ | exact ⟨s012, s112⟩) (first
      | (go_at_call 19; (with_reducible refine (X1.out _).mono ?_); rintro e w8 ⟨rfl, m8, rfl⟩; clear X1)
      | (go_at_call 20; (with_reducible refine (Q6.out _).mono ?_); rintro e w9 ⟨zv, rfl, r9, hb9⟩; obtain ⟨Az, cz, rfl⟩ := rowSlice r9; have s09 := pw_cell_below hb9 s0; have s19 := pw_cell_below hb9 s1; have L9 := Lib.hid (fun m => ((L7.out _).move hb9).move (pw_below_drewN (Below.refl _ w9) m)); have X9 := texts_any Az cz R A2 c2 R w9 _ _ r9 (pw_own_below (r27.out _) hb9) (by omega); rw [show decide (R = R) = true by simp] at X9; replace X9 := Lib.hid X9; have Y9 := Lib.hid (fun m => Dk.bytes_any _ _ _ _ _ (L9.out m).file); have B9 := Lib.hid hb9; have W9 := Lib.hid (fun m => Z6.out (w9.drewN m) (below_then (pw_below_drewN (Below.refl _ w6) _) (Nat.le_refl _) (below_then hb9 hb9.size (pw_below_drewN (Below.refl _ w9) m)))); clear hb9; replace r9 := Lib.hid r9)
      | (go_at_call 19; (with_reducible refine X9.out.mono ?_); rintro e w10 ⟨rfl, m10, rfl⟩)
      | (go_at_call 12; (with_reducible refine (Y9.out _).mono ?_); rintro e w11 ⟨rfl, rfl⟩)
      | (go_at_call 8; (with_reducible refine (O1.out _ (W9.out _)).mono ?_); rintro e w12 ⟨rfl, hb12⟩; have s012 := pw_cell_below hb12 s09; have s112 := pw_cell_below hb12 s19; replace hb12 := Lib.hid hb12))
    all_goals
      go_wp2
      go_ret
      exact ⟨rfl, below_then (W9.out _) (W9.out _).size hb12.out⟩
  · have t1 : (30000 : Int) < (b.size : Int) := by omega
    have O2 := Lib.hid (O1.out w (Below.refl _ _))
    go_enter Tryd.func4, Tryd.ntmps4
    go_wp2_with (go_at_call 8; refine O2.out.mono ?_; rintro e w1 ⟨rfl, hb⟩; replace hb := Lib.hid hb)
    go_ret
    exact ⟨rfl, hb.out⟩
end Go.Proofs.YtmlfheagbfaoaaaDoor
