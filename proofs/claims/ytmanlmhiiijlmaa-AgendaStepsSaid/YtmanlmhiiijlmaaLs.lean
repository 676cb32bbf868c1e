/- The law AgendaSteps, walked. -/
import Derived.Test.YtmanlmhiiijlmaaDo
namespace Go.Proofs.Ytmanlmhiiijlmaa
open Go.RowKit Go.Proofs.YtmanlmhiiijlmaaW.PrintWords Go.Lib
/-- How it stands ahead of a step. -/
structure Stp (w wr : World) (ab pb mb rb k : Nat) : Prop where
  out : ∃ v L last u, BSt w wr ab pb mb v L last rb u ∧ last ≤ k
theorem Did.stp {w w2 : World} {ab pb mb rb last k : Nat} (h : Did w w2 ab pb mb rb last) (hk : last ≤ k) : Stp w w2 ab pb mb rb (k + 1) := by
  obtain ⟨v, L, l, u, h1, h2⟩ := h.out
  exact ⟨v, L, l, u, h1, by omega⟩
set_option maxRecDepth 100000 in
set_option maxHeartbeats 16000000 in
theorem law_AgendaSteps (A : Option Addr) (c : Nat) (l : List (Int × Int × Int × ByteArray)) (w : World) (_hl : l.length ≤ 140737488351232) (_hok : ∀ x ∈ l, StepOk x) (hr : Steps4 w A l) (_hc : l.length ≤ c) :
    Calls Try.prog 3 #[.slice A l.length c] w fun e w' => e = .returned (.bool true) ∧ Below w.heap.size w w' := by
  have C8 := Lib.hid (fun X => three_any X)
  have HR := Lib.hid hr
  clear hr _hok
  by_cases h700 : l.length ≤ 700
  · have t1 : ¬ (700 : Int) < (l.length : Int) := by omega
    go_enter Try.func3, Try.ntmps3
    go_wp2_with fail
    refine (new_any w).mono ?_
    rintro e w1 ⟨ab, pb, mb, rfl, A1, B1⟩
    have b1 := (Below.refl _ w1).alloc (Nat.le_refl _) (.cells #[.slice none 0 0, .int .i64 0] 29)
    have st0 : BSt w (w1.alloc (.cells #[.slice none 0 0, .int .i64 0] 29)) ab pb mb (.slice none 0 0) [] 0 w1.heap.size (.slice none 0 0) :=
      ⟨Ag.move ⟨A1, B1⟩ b1, ⟨heap_alloc_new w1 _, ⟨none, 0, rfl, Nat.le_refl _, .inl ⟨rfl, rfl⟩⟩, B1.size⟩⟩
    replace st0 := Lib.hid st0
    replace A1 := Lib.hid A1
    replace B1 := Lib.hid B1
    replace b1 := Lib.hid b1
    go_wp2_with fail
    go_loopg [26] l.length (fun gk v26 wr => ∃ k : Nat, k ≤ l.length ∧ gk = l.length - k ∧ v26 = .int .i64 (k : Int) ∧ Stp w wr ab pb mb w1.heap.size k)
    case atStart => exact ⟨0, Nat.zero_le _, rfl, rfl, _, _, _, _, st0.out, Nat.le_refl _⟩
    case round =>
      obtain ⟨k, hk, rfl, rfl, v, L, last, u, hS, hlast⟩ := hrel
      clear st0
      by_cases hlt : k < l.length
      · obtain ⟨ad, e, hc⟩ := HR.out.2 (by omega)
        cases e
        obtain ⟨c0, c1, c2, c3⟩ := hc k l[k] (List.getElem?_eq_getElem hlt)
        rw [add_off ad _ 1 (by omega)] at c1
        rw [add_off ad _ 2 (by omega)] at c2
        rw [add_off ad _ 3 (by omega)] at c3
        generalize l[k] = x at *
        obtain ⟨what, a, t, s⟩ := x
        have d0 := pw_cell_below hS.ag.below c0
        have d1 := pw_cell_below hS.ag.below c1
        have d2 := pw_cell_below hS.ag.below c2
        have d3 := pw_cell_below hS.ag.below c3
        clear c0 c1 c2 c3 hc
        have n0 : (wr.alloc (.cells #[.int .i64 what, .int .i64 a, .int .i64 t, .string s] 31)).heap[wr.heap.size]? = some (.cells #[.int .i64 what, .int .i64 a, .int .i64 t, .string s] 31 (0, 0)) := heap_alloc_new wr _
        have e0 : (wr.alloc (.cells #[.int .i64 what, .int .i64 a, .int .i64 t, .string s] 31)).cell? ⟨wr.heap.size, 0, none⟩ = some (.int .i64 what) := Go.Joins.cell_of_block n0 0
        have e1 : (wr.alloc (.cells #[.int .i64 what, .int .i64 a, .int .i64 t, .string s] 31)).cell? ⟨wr.heap.size, 1, none⟩ = some (.int .i64 a) := Go.Joins.cell_of_block n0 1
        have e2 : (wr.alloc (.cells #[.int .i64 what, .int .i64 a, .int .i64 t, .string s] 31)).cell? ⟨wr.heap.size, 2, none⟩ = some (.int .i64 t) := Go.Joins.cell_of_block n0 2
        have e3 : (wr.alloc (.cells #[.int .i64 what, .int .i64 a, .int .i64 t, .string s] 31)).cell? ⟨wr.heap.size, 3, none⟩ = some (.string s) := Go.Joins.cell_of_block n0 3
        have P9 := Lib.hid (does_any w _ ab pb mb v L last w1.heap.size u (hS.move ((Below.refl _ wr).alloc (Nat.le_refl _) (.cells #[.int .i64 what, .int .i64 a, .int .i64 t, .string s] 31))) (by omega) what a t s)
        replace hS := Lib.hid hS
        replace n0 := Lib.hid n0
        go_wp2_with fail
        refine P9.out.mono ?_
        rintro e w3 ⟨rfl, D3⟩
        have S3 := D3.stp hlast
        obtain ⟨v3, L3', last3, u3, B3, hl3⟩ := D3.out
        have hfew := B3.ag.at_.few
        obtain ⟨A3, c3, eu, -, -⟩ := B3.rf.lies.out
        subst eu
        replace D3 := Lib.hid D3
        replace S3 := Lib.hid S3
        match L3', B3, hfew with
        | [], B3, hfew =>
          have C10 := Lib.hid (first_none w3 _ ab pb mb v3 last3 B3.ag.at_)
          replace B3 := Lib.hid B3
          as_aux_lemma =>
            go_wp2_with fail
            refine C10.out.mono ?_
            rintro e w4 ⟨rfl, hb4⟩
            have hb5 := hb4.alloc hb4.size (.cells #[.int .i64 0, .int .i64 0, .string ⟨#[]⟩] 34)
            have B5 := B3.out.move hb5
            have n5 : (w4.alloc (.cells #[.int .i64 0, .int .i64 0, .string ⟨#[]⟩] 34)).heap[w4.heap.size]? = some (.cells #[.int .i64 0, .int .i64 0, .string ⟨#[]⟩] 34 (0, 0)) := heap_alloc_new w4 _
            have z0 : (w4.alloc (.cells #[.int .i64 0, .int .i64 0, .string ⟨#[]⟩] 34)).cell? ⟨w4.heap.size, 0, none⟩ = some (.int .i64 0) := Go.Joins.cell_of_block n5 0
            have z1 : (w4.alloc (.cells #[.int .i64 0, .int .i64 0, .string ⟨#[]⟩] 34)).cell? ⟨w4.heap.size, 1, none⟩ = some (.int .i64 0) := Go.Joins.cell_of_block n5 1
            have z2 : (w4.alloc (.cells #[.int .i64 0, .int .i64 0, .string ⟨#[]⟩] 34)).cell? ⟨w4.heap.size, 2, none⟩ = some (.string ⟨#[]⟩) := Go.Joins.cell_of_block n5 2
            have r0 : (w4.alloc (.cells #[.int .i64 0, .int .i64 0, .string ⟨#[]⟩] 34)).cell? ⟨w1.heap.size, 0, none⟩ = some (.slice A3 0 c3) := Go.Joins.cell_of_block B5.rf.cell 0
            have C11 : Hid (∀ X, Below (w4.alloc (.cells #[.int .i64 0, .int .i64 0, .string ⟨#[]⟩] 34)).heap.size (w4.alloc (.cells #[.int .i64 0, .int .i64 0, .string ⟨#[]⟩] 34)) X → Calls Try.prog 11 #[.pointer (some ⟨ab, 0, none⟩)] X fun e w' => e = .returned (.int .i64 0) ∧ X = w') := Lib.hid (fun X hX => aglen_any X _ ab pb mb v3 [] last3 (B5.ag.at_.move hX))
            have EQ := fun X => eq_self34 X 0 0 ⟨#[]⟩
            have EG : Try.prog.eqGuardType Try.prog.depth 34 = false := by kernel_rfl
            have fin : ∀ m, Stp w ((w4.alloc (.cells #[.int .i64 0, .int .i64 0, .string ⟨#[]⟩] 34)).drewN m) ab pb mb w1.heap.size (k + 1) := fun m => ⟨v3, [], last3, _, B5.move (pw_below_drewN (Below.refl _ _) m), by omega⟩
            replace fin := Lib.hid fin
            replace hb4 := Lib.hid hb4
            replace hb5 := Lib.hid hb5
            replace B5 := Lib.hid B5
            replace n5 := Lib.hid n5
            go_wp2_with fail
            first | (go_region_held3 (fun wx => wx.cell? ⟨w1.heap.size, 0, none⟩ = some (.slice A3 0 c3)) (first | exact r0) ((go_at_call 11; refine (C11.out _ ?hB).mono ?_; (case hB => first | exact Below.refl _ _ | exact (Below.refl _ _).drew); rintro e w6 ⟨rfl, rfl⟩))) | fail
            all_goals
              go_wp2_with fail
              go_region
              go_wp2
              go_roundg (l.length - (k + 1))
              case measure => omega
              case rel => exact ⟨k + 1, by omega, rfl, by go_num, by first | exact fin.out 2 | exact fin.out 1 | exact fin.out 3⟩
        | x :: L4, B3, hfew =>
          have C10 := Lib.hid (first_some w3 _ ab pb mb v3 x L4 last3 B3.ag.at_)
          obtain ⟨xt, xa, xs⟩ := x
          obtain ⟨nL, hnL⟩ : ∃ nL : Nat, nL = ((xt, xa, xs) :: L4).length := ⟨_, rfl⟩
          have hnl0 : 0 < nL := by rw [hnL]; simp
          rw [← hnL] at hfew B3
          replace B3 := Lib.hid B3
          as_aux_lemma =>
            go_wp2_with fail
            refine C10.out.mono ?_
            rintro e w4 ⟨rfl, hb4⟩
            have hb5 := hb4.alloc hb4.size (.cells #[.int .i64 xt, .int .i64 xa, .string xs] 34)
            have B5 := B3.out.move hb5
            have n5 : (w4.alloc (.cells #[.int .i64 xt, .int .i64 xa, .string xs] 34)).heap[w4.heap.size]? = some (.cells #[.int .i64 xt, .int .i64 xa, .string xs] 34 (0, 0)) := heap_alloc_new w4 _
            have z0 : (w4.alloc (.cells #[.int .i64 xt, .int .i64 xa, .string xs] 34)).cell? ⟨w4.heap.size, 0, none⟩ = some (.int .i64 xt) := Go.Joins.cell_of_block n5 0
            have z1 : (w4.alloc (.cells #[.int .i64 xt, .int .i64 xa, .string xs] 34)).cell? ⟨w4.heap.size, 1, none⟩ = some (.int .i64 xa) := Go.Joins.cell_of_block n5 1
            have z2 : (w4.alloc (.cells #[.int .i64 xt, .int .i64 xa, .string xs] 34)).cell? ⟨w4.heap.size, 2, none⟩ = some (.string xs) := Go.Joins.cell_of_block n5 2
            obtain ⟨kk, off, rfl, y0, y1, y2⟩ := B5.rf.lies.ent (i := 0) (e := (xt, xa, xs)) rfl
            simp only [Nat.zero_mul, Nat.add_zero] at y0 y1 y2
            have r0 : (w4.alloc (.cells #[.int .i64 xt, .int .i64 xa, .string xs] 34)).cell? ⟨w1.heap.size, 0, none⟩ = some (.slice (some ⟨kk, off, none⟩) nL c3) := Go.Joins.cell_of_block B5.rf.cell 0
            have C11 : Hid (∀ X, Below (w4.alloc (.cells #[.int .i64 xt, .int .i64 xa, .string xs] 34)).heap.size (w4.alloc (.cells #[.int .i64 xt, .int .i64 xa, .string xs] 34)) X → Calls Try.prog 11 #[.pointer (some ⟨ab, 0, none⟩)] X fun e w' => e = .returned (.int .i64 (nL : Int)) ∧ X = w') := Lib.hid (fun X hX => by rw [hnL]; exact aglen_any X _ ab pb mb v3 _ last3 (B5.ag.at_.move hX))
            have g0 : decide ((0 : Int) < (nL : Int)) = true := by simp; omega
            have g1 : decide (0 < nL) = true := by simp; omega
            have g2 : (0 : Int) < (nL : Int) := by omega
            have g3 : ((nL : Int) != (nL : Int)) = false := by simp
            have q2 : (xt != xt) = false := by simp
            have q3 : (xa != xa) = false := by simp
            have q4 : (xs.toList != xs.toList) = false := by simp
            have q5 : (xs.toList == xs.toList) = true := by simp
            have fin : ∀ m, Stp w ((w4.alloc (.cells #[.int .i64 xt, .int .i64 xa, .string xs] 34)).drewN m) ab pb mb w1.heap.size (k + 1) := fun m => ⟨v3, (xt, xa, xs) :: L4, last3, _, B5.move (pw_below_drewN (Below.refl _ _) m), by omega⟩
            replace fin := Lib.hid fin
            replace hb4 := Lib.hid hb4
            replace hb5 := Lib.hid hb5
            replace B5 := Lib.hid B5
            replace n5 := Lib.hid n5
            replace hnL := Lib.hid hnL
            go_wp2_with fail
            first | (go_region_held3 (fun wx => wx.cell? ⟨w1.heap.size, 0, none⟩ = some (.slice (some ⟨kk, off, none⟩) nL c3)) (first | exact r0) ((go_at_call 11; refine (C11.out _ ?hB).mono ?_; (case hB => first | exact Below.refl _ _ | exact (Below.refl _ _).drew); rintro e w6 ⟨rfl, rfl⟩))) | fail
            all_goals
              go_wp2_with fail
              go_region
              go_wp2
              go_roundg (l.length - (k + 1))
              case measure => omega
              case rel => exact ⟨k + 1, by omega, rfl, by go_num, by first | exact fin.out 2 | exact fin.out 1 | exact fin.out 3⟩
      · as_aux_lemma =>
          replace hS := Lib.hid hS
          go_wp2_with fail
          refine (C8.out _).mono ?_
          rintro e w7 ⟨rfl, B7⟩
          replace B7 := Lib.hid B7
          go_wp2
          go_ret
          exact ⟨rfl, below_trans hS.out.ag.below hS.out.ag.below.size B7.out⟩
  · as_aux_lemma =>
      have t1 : (700 : Int) < (l.length : Int) := by omega
      go_enter Try.func3, Try.ntmps3
      go_wp2_with fail
      refine (new_any w).mono ?_
      rintro e w1 ⟨ab, pb, mb, rfl, A1, B1⟩
      replace A1 := Lib.hid A1
      replace B1 := Lib.hid B1
      go_wp2_with fail
      refine (C8.out _).mono ?_
      rintro e w7 ⟨rfl, B7⟩
      replace B7 := Lib.hid B7
      go_wp2
      go_ret
      exact ⟨rfl, below_trans B1.out B1.out.size B7.out⟩
end Go.Proofs.Ytmanlmhiiijlmaa
