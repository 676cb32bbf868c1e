/- The law AgendaFirst, walked. -/
import Derived.Test.YtmanlmhiiijlmaaLn
import Derived.Test.YtmanlmhiiijlmaaOpen
import Derived.Test.YtmanlmhiiijlmaaWEqStruct
import Derived.Laws.StructEq
namespace Go.Proofs.Ytmanlmhiiijlmaa
open Go.RowKit Go.Proofs.YtmanlmhiiijlmaaW.PrintWords Go.Lib
theorem eqA34 (d : Nat) (w : World) (x0 y0 x1 y1 : Int) (x2 y2 : ByteArray) :
    (Op.equalIn (d + 2) 34 (.agg #[.int .i64 x0, .int .i64 x1, .string x2]) (.agg #[.int .i64 y0, .int .i64 y1, .string y2])).run Try.prog w = .ok (x0 == y0 && (x1 == y1 && (x2.toList == y2.toList))) w := by
  refine eqA_of Try.underlying34 (by kernel_rfl) ?_
  refine eqf_cons (by rfl) (by go_simp; rfl) (by go_simp; rfl) (by go_simp) ?_
  refine eqf_cons (by rfl) (by go_simp; rfl) (by go_simp; rfl) (by go_simp) ?_
  exact eqf_last (by rfl) (by go_simp; rfl) (by go_simp; rfl) (by go_simp)
theorem eq_self34 (w : World) (x0 x1 : Int) (x2 : ByteArray) :
    (Op.equalIn 10000 34 (.agg #[.int .i64 x0, .int .i64 x1, .string x2]) (.agg #[.int .i64 x0, .int .i64 x1, .string x2])).run Try.prog w = .ok true w := by
  rw [eqA34 9998]
  simp
theorem add_off (a : Addr) (m j : Nat) (hj : j ≠ 0) : a.add (m + j) = ⟨(a.add m).block, (a.add m).off + j, none⟩ := by
  unfold Addr.add
  by_cases hm : m = 0
  · subst hm
    simp [hj]
  · rw [if_neg (by omega), if_neg hm]
    simp [Nat.add_assoc]
/-- What a step of whatever kind leaves. -/
structure Gone (w w2 : World) (ab pb mb : Nat) (last : Nat) : Prop where
  out : ∃ v L last', Ag w w2 ab pb mb v L last' ∧ last' ≤ last + 1
theorem put_go (w w' : World) (ab pb mb : Nat) (v : Value) (L : List En) (last : Nat) (h : Ag w w' ab pb mb v L last) (a : Int) (s : ByteArray) (hl : last ≤ 1000000) :
    Calls Try.prog 12 #[.pointer (some ⟨ab, 0, none⟩), .int .i64 a, .string s] w' fun e w2 => ∃ z, e = .returned z ∧ Gone w w2 ab pb mb last := by
  by_cases hm : momB a = true
  · by_cases hf : L.length = 512
    · refine (put_full w' _ ab pb mb v L last h.at_ a s hm hf).mono ?_
      rintro e w2 ⟨rfl, rfl⟩
      exact ⟨_, rfl, v, L, last, h, by omega⟩
    · refine (put_ag w w' ab pb mb v L last h a s hm (by have := h.at_.few; omega) hl).mono ?_
      rintro e w2 ⟨rfl, v', hA, -, -⟩
      exact ⟨_, rfl, v', _, _, hA, Nat.le_refl _⟩
  · refine (put_bad w' _ a s (by simpa using hm)).mono ?_
    rintro e w2 ⟨rfl, rfl⟩
    exact ⟨_, rfl, v, L, last, h, by omega⟩
theorem drop_go (w w' : World) (ab pb mb : Nat) (v : Value) (L : List En) (last : Nat) (h : Ag w w' ab pb mb v L last) (t : Int) :
    Calls Try.prog 13 #[.pointer (some ⟨ab, 0, none⟩), .int .i64 t] w' fun e w2 => ∃ z, e = .returned z ∧ Gone w w2 ab pb mb last := by
  by_cases ht : t < 1
  · refine (drop_bad w' _ t ht).mono ?_
    rintro e w2 ⟨rfl, rfl⟩
    exact ⟨_, rfl, v, L, last, h, by omega⟩
  · by_cases hx : ∃ x ∈ L, x.1 = t
    · obtain ⟨x, hx, rfl⟩ := hx
      refine (drop_ok w' _ ab pb mb v L last h.at_ x hx).mono ?_
      rintro e w2 ⟨rfl, v', hA, hK, -⟩
      exact ⟨_, rfl, v', _, last, h.step hA hK, by omega⟩
    · refine (drop_none w' _ ab pb mb v L last h.at_ t ht (fun e he ee => hx ⟨e, he, ee⟩)).mono ?_
      rintro e w2 ⟨rfl, rfl⟩
      exact ⟨_, rfl, v, L, last, h, by omega⟩
theorem move_go (w w' : World) (ab pb mb : Nat) (v : Value) (L : List En) (last : Nat) (h : Ag w w' ab pb mb v L last) (t a : Int) :
    Calls Try.prog 14 #[.pointer (some ⟨ab, 0, none⟩), .int .i64 t, .int .i64 a] w' fun e w2 => ∃ z, e = .returned z ∧ Gone w w2 ab pb mb last := by
  by_cases ht : t < 1 ∨ momB a = false
  · refine (move_bad w' _ t a ht).mono ?_
    rintro e w2 ⟨rfl, rfl⟩
    exact ⟨_, rfl, v, L, last, h, by omega⟩
  · have h1 : ¬ t < 1 := fun e => ht (.inl e)
    have hm : momB a = true := by
      cases hh : momB a with
      | true => rfl
      | false => exact absurd (.inr hh) ht
    by_cases hx : ∃ x ∈ L, x.1 = t
    · obtain ⟨x, hx, rfl⟩ := hx
      refine (move_ok w' _ ab pb mb v L last h.at_ x hx a hm).mono ?_
      rintro e w2 ⟨rfl, hA, hK⟩
      exact ⟨_, rfl, v, _, last, h.step hA hK, by omega⟩
    · refine (move_none w' _ ab pb mb v L last h.at_ t a h1 hm (fun e he ee => hx ⟨e, he, ee⟩)).mono ?_
      rintro e w2 ⟨rfl, rfl⟩
      exact ⟨_, rfl, v, L, last, h, by omega⟩
theorem Ag.move {w w' w2 : World} {ab pb mb : Nat} {v : Value} {L : List En} {last : Nat} (h : Ag w w' ab pb mb v L last) (hb : Below w'.heap.size w' w2) : Ag w w2 ab pb mb v L last := ⟨h.at_.move hb, below_trans h.below h.below.size hb⟩
/-- How it stands ahead of a step. -/
structure Fst (w wr : World) (ab pb mb : Nat) (k : Nat) : Prop where
  out : ∃ v L last, Ag w wr ab pb mb v L last ∧ last ≤ k
theorem Gone.fst {w w2 : World} {ab pb mb last k : Nat} (h : Gone w w2 ab pb mb last) (hk : last ≤ k) : Fst w w2 ab pb mb (k + 1) := by
  obtain ⟨v, L, l, h1, h2⟩ := h.out
  exact ⟨v, L, l, h1, by omega⟩
set_option maxRecDepth 100000 in
set_option maxHeartbeats 8000000 in
theorem law_AgendaFirst (A : Option Addr) (c : Nat) (l : List (Int × Int × Int × ByteArray)) (now : Int) (w : World) (_hl : l.length ≤ 140737488351232) (_hok : ∀ x ∈ l, StepOk x) (_w1 : (Lit.int .i64 now).wf = true) (hr : Steps4 w A l) (_hc : l.length ≤ c) :
    Calls Try.prog 6 #[.slice A l.length c, .int .i64 now] w fun e w' => e = .returned (.bool true) ∧ Below w.heap.size w w' := by
  have C8 := Lib.hid (fun X => three_any X)
  have HR := Lib.hid hr
  clear hr _hok _w1
  by_cases hg : l.length ≤ 200 ∧ momB now = true
  · obtain ⟨h200, hm⟩ := hg
    have hms : 0 ≤ now ∧ now ≤ 1099511627776 := by simpa [momB] using hm
    obtain ⟨hn1, hn2⟩ := hms
    have t1 : ¬ (200 : Int) < (l.length : Int) := by omega
    have t2 : ¬ now < 0 := by omega
    have t3 : ¬ (1099511627776 : Int) < now := by omega
    replace hm := Lib.hid hm
    go_enter Try.func6, Try.ntmps6
    go_wp2_with fail
    refine (new_any w).mono ?_
    rintro e w1 ⟨ab, pb, mb, rfl, A1, B1⟩
    replace A1 := Lib.hid A1
    replace B1 := Lib.hid B1
    go_wp2_with fail
    go_loopg [36] l.length (fun gk v36 wr => ∃ k : Nat, k ≤ l.length ∧ gk = l.length - k ∧ v36 = .int .i64 (k : Int) ∧ Fst w wr ab pb mb k)
    case atStart => exact ⟨0, Nat.zero_le _, rfl, rfl, _, [], 0, ⟨A1.out, B1.out⟩, Nat.le_refl _⟩
    case round =>
      obtain ⟨k, hk, rfl, rfl, v, L, last, hA, hlast⟩ := hrel
      by_cases hlt : k < l.length
      · obtain ⟨ad, e, hc⟩ := HR.out.2 (by omega)
        cases e
        obtain ⟨c0, c1, c2, c3⟩ := hc k l[k] (List.getElem?_eq_getElem hlt)
        rw [add_off ad _ 1 (by omega)] at c1
        rw [add_off ad _ 2 (by omega)] at c2
        rw [add_off ad _ 3 (by omega)] at c3
        generalize l[k] = x at *
        obtain ⟨what, a, t, s⟩ := x
        have d0 := pw_cell_below hA.below c0
        have d1 := pw_cell_below hA.below c1
        have d2 := pw_cell_below hA.below c2
        have d3 := pw_cell_below hA.below c3
        clear c0 c1 c2 c3 hc
        have hA2 := hA.move ((Below.refl _ wr).alloc (Nat.le_refl _) (.cells #[.int .i64 what, .int .i64 a, .int .i64 t, .string s] 31))
        have e0 : (wr.alloc (.cells #[.int .i64 what, .int .i64 a, .int .i64 t, .string s] 31)).cell? ⟨wr.heap.size, 0, none⟩ = some (.int .i64 what) := Go.Joins.cell_of_block (heap_alloc_new wr _) 0
        have e1 : (wr.alloc (.cells #[.int .i64 what, .int .i64 a, .int .i64 t, .string s] 31)).cell? ⟨wr.heap.size, 1, none⟩ = some (.int .i64 a) := Go.Joins.cell_of_block (heap_alloc_new wr _) 1
        have e2 : (wr.alloc (.cells #[.int .i64 what, .int .i64 a, .int .i64 t, .string s] 31)).cell? ⟨wr.heap.size, 2, none⟩ = some (.int .i64 t) := Go.Joins.cell_of_block (heap_alloc_new wr _) 2
        have e3 : (wr.alloc (.cells #[.int .i64 what, .int .i64 a, .int .i64 t, .string s] 31)).cell? ⟨wr.heap.size, 3, none⟩ = some (.string s) := Go.Joins.cell_of_block (heap_alloc_new wr _) 3
        have P12 := Lib.hid (put_go w _ ab pb mb v L last hA2 a s (by omega))
        have P13 := Lib.hid (drop_go w _ ab pb mb v L last hA2 t)
        have P14 := Lib.hid (move_go w _ ab pb mb v L last hA2 t a)
        replace hA2 := Lib.hid hA2
        replace hA := Lib.hid hA
        by_cases hw0 : what = 0 ∨ what = 1
        · rcases hw0 with rfl | rfl
          all_goals
            as_aux_lemma =>
              go_wp2_with fail
              refine P12.out.mono ?_
              rintro e w3 ⟨z, rfl, G3⟩
              replace G3 := Lib.hid G3
              go_wp2
              go_roundg (l.length - (k + 1))
              case measure => omega
              case rel => exact ⟨k + 1, by omega, rfl, by go_num, G3.out.fst hlast⟩
        · by_cases hw2 : what = 2
          · as_aux_lemma =>
              subst hw2
              go_wp2_with fail
              refine P13.out.mono ?_
              rintro e w3 ⟨z, rfl, G3⟩
              replace G3 := Lib.hid G3
              go_wp2
              go_roundg (l.length - (k + 1))
              case measure => omega
              case rel => exact ⟨k + 1, by omega, rfl, by go_num, G3.out.fst hlast⟩
          · by_cases hw3 : what = 3
            · as_aux_lemma =>
                subst hw3
                go_wp2_with fail
                refine P14.out.mono ?_
                rintro e w3 ⟨z, rfl, G3⟩
                replace G3 := Lib.hid G3
                go_wp2
                go_roundg (l.length - (k + 1))
                case measure => omega
                case rel => exact ⟨k + 1, by omega, rfl, by go_num, G3.out.fst hlast⟩
            · as_aux_lemma =>
                have b0 : (what == 0) = false := by simp; omega
                have b1 : (what == 1) = false := by simp; omega
                have b2 : (what == 2) = false := by simp; omega
                have b3 : (what == 3) = false := by simp; omega
                clear hw0 hw2 hw3
                go_wp2
                go_roundg (l.length - (k + 1))
                case measure => omega
                case rel => exact ⟨k + 1, by omega, rfl, by go_num, v, L, last, hA2.out, by omega⟩
      · have hfew := hA.at_.few
        match L, hA, hfew with
        | [], hA, hfew =>
          have C10 := Lib.hid (first_none wr _ ab pb mb v last hA.at_)
          replace hA := Lib.hid hA
          as_aux_lemma =>
            go_wp2_with fail
            refine C10.out.mono ?_
            rintro e w2 ⟨rfl, hb2⟩
            have A3 := hA.out.move (hb2.alloc hb2.size (.cells #[.int .i64 0, .int .i64 0, .string ⟨#[]⟩] 34))
            have C11 := Lib.hid (aglen_any _ _ ab pb mb v [] last A3.at_)
            have C15 := Lib.hid (take_ok _ _ ab pb mb v [] last A3.at_ now hm.out)
            replace A3 := Lib.hid A3
            replace hb2 := Lib.hid hb2
            go_wp2_with fail
            refine C11.out.mono ?_
            rintro e w4 ⟨rfl, rfl⟩
            go_wp2_with fail
            refine C15.out.mono ?_
            rintro e w5 ⟨u, rfl, v5, A5, M5, K5, r5⟩
            obtain ⟨Au, cu, rfl⟩ := rowSlice r5
            have B5 := K5.below A3.out.at_ A3.out.below
            have C11' := Lib.hid (aglen_any _ _ ab pb mb v5 [] last A5)
            replace A5 := Lib.hid A5
            replace K5 := Lib.hid K5
            replace r5 := Lib.hid r5
            replace B5 := Lib.hid B5
            replace M5 := Lib.hid M5
            clear C11 C15
            go_wp2_with fail
            refine C11'.out.mono ?_
            rintro e w6 ⟨rfl, rfl⟩
            go_wp2_with fail
            refine (C8.out _).mono ?_
            rintro e w7 ⟨rfl, B7⟩
            replace B7 := Lib.hid B7
            go_wp2
            go_ret
            exact ⟨rfl, below_trans B5.out B5.out.size B7.out⟩
        | x :: L, hA, hfew =>
          have C10 := Lib.hid (first_some wr _ ab pb mb v x L last hA.at_)
          obtain ⟨xt, xa, xs⟩ := x
          obtain ⟨nL, hnL⟩ : ∃ nL : Nat, nL = ((xt, xa, xs) :: L).length := ⟨_, rfl⟩
          have hsum : nL = (((xt, xa, xs) :: L).takeWhile (due now)).length + (((xt, xa, xs) :: L).dropWhile (due now)).length := by rw [hnL, ← List.length_append, List.takeWhile_append_dropWhile]
          have hnl0 : 0 < nL := by rw [hnL]; simp
          rw [← hnL] at hfew
          have ltA := hA.at_.lt
          replace hA := Lib.hid hA
          by_cases hd : xa ≤ now
          · as_aux_lemma =>
              obtain ⟨T, hT⟩ : ∃ T, ((xt, xa, xs) :: L).takeWhile (due now) = (xt, xa, xs) :: T := by
                rw [List.takeWhile_cons, show due now (xt, xa, xs) = true by simpa [due] using hd]
                exact ⟨_, rfl⟩
              have hdd : decide (xa ≤ now) = true := by simpa using hd
              obtain ⟨nT, hnT⟩ : ∃ nT : Nat, nT = ((xt, xa, xs) :: T).length := ⟨_, rfl⟩
              have hnT0 : 0 < nT := by rw [hnT]; simp
              rw [hT, ← hnT] at hsum
              obtain ⟨nR, hnR⟩ : ∃ nR : Nat, nR = (((xt, xa, xs) :: L).dropWhile (due now)).length := ⟨_, rfl⟩
              rw [← hnR] at hsum
              have e19 : ((nR : Int) != (nL : Int) - (nT : Int)) = false := by simp; omega
              have hTL : nT ≤ nL := by omega
              have g0 : (0 : Int) < (nL : Int) := by omega
              have g1 : (0 : Int) < (nT : Int) := by omega
              have EQ := fun X => eq_self34 X xt xa xs
              have EG : Try.prog.eqGuardType Try.prog.depth 34 = false := by kernel_rfl
              go_wp2_with fail
              refine C10.out.mono ?_
              rintro e w2 ⟨rfl, hb2⟩
              have n3 : (w2.alloc (.cells #[.int .i64 xt, .int .i64 xa, .string xs] 34)).heap[w2.heap.size]? = some (.cells #[.int .i64 xt, .int .i64 xa, .string xs] 34 (0, 0)) := heap_alloc_new w2 _
              have A3 := hA.out.move (hb2.alloc hb2.size (.cells #[.int .i64 xt, .int .i64 xa, .string xs] 34))
              have C11 := aglen_any _ _ ab pb mb v _ last A3.at_
              rw [← hnL] at C11
              replace C11 := Lib.hid C11
              have C15 := Lib.hid (take_ok _ _ ab pb mb v _ last A3.at_ now hm.out)
              have hs2 := hb2.size
              replace A3 := Lib.hid A3
              replace hb2 := Lib.hid hb2
              replace n3 := Lib.hid n3
              replace hsum := Lib.hid hsum
              replace hT := Lib.hid hT
              replace hnT := Lib.hid hnT
              replace hnR := Lib.hid hnR
              replace hnL := Lib.hid hnL
              replace ltA := Lib.hid ltA
              go_wp2_with fail
              refine C11.out.mono ?_
              rintro e w4 ⟨rfl, rfl⟩
              go_wp2_with fail
              refine C15.out.mono ?_
              rintro e w5 ⟨u, rfl, v5, A5, M5, K5, r5⟩
              rw [hT.out] at r5
              obtain ⟨Au, cu, rfl⟩ := rowSlice r5
              obtain ⟨k2, rfl, y0, y1, y2, -⟩ := rowEnt r5 0 (xt, xa, xs) rfl
              simp only [Nat.zero_mul, Nat.zero_add] at y0 y1 y2
              have n5 := (K5.block w2.heap.size (Array.getElem?_eq_some_iff.1 n3.out).1 (by have := ltA.out.1; omega) (by have := ltA.out.2.1; omega) (by have := ltA.out.2.2.1; omega) (fun e => by have := ltA.out.2.2.2 _ e; omega)).trans n3.out
              have z0 : w5.cell? ⟨w2.heap.size, 0, none⟩ = some (.int .i64 xt) := Go.Joins.cell_of_block n5 0
              have z1 : w5.cell? ⟨w2.heap.size, 1, none⟩ = some (.int .i64 xa) := Go.Joins.cell_of_block n5 1
              have z2 : w5.cell? ⟨w2.heap.size, 2, none⟩ = some (.string xs) := Go.Joins.cell_of_block n5 2
              have B5 := K5.below A3.out.at_ A3.out.below
              have C11' := aglen_any _ _ ab pb mb v5 _ last A5
              rw [← hnR.out] at C11'
              rw [← hnT.out]
              replace C11' := Lib.hid C11'
              replace A5 := Lib.hid A5
              replace K5 := Lib.hid K5
              replace r5 := Lib.hid r5
              replace B5 := Lib.hid B5
              replace M5 := Lib.hid M5
              replace n5 := Lib.hid n5
              clear C11 C15
              go_wp2_with fail
              refine C11'.out.mono ?_
              rintro e w6 ⟨rfl, rfl⟩
              go_wp2_with fail
              go_region_held3 (fun w' => w'.cell? ⟨k2, 0, none⟩ = some (.int .i64 xt) ∧ w'.cell? ⟨k2, 1, none⟩ = some (.int .i64 xa) ∧ w'.cell? ⟨k2, 2, none⟩ = some (.string xs) ∧ w'.cell? ⟨w2.heap.size, 0, none⟩ = some (.int .i64 xt) ∧ w'.cell? ⟨w2.heap.size, 1, none⟩ = some (.int .i64 xa) ∧ w'.cell? ⟨w2.heap.size, 2, none⟩ = some (.string xs)) (first | exact ⟨y0, y1, y2, z0, z1, z2⟩ | exact ⟨pw_cell_below B7.out y0, pw_cell_below B7.out y1, pw_cell_below B7.out y2, pw_cell_below B7.out z0, pw_cell_below B7.out z1, pw_cell_below B7.out z2⟩) ((go_at_call 8; refine (C8.out _).mono ?_; rintro e w7 ⟨rfl, B7⟩; replace B7 := Lib.hid B7))
              all_goals
                go_wp2
                go_ret
                first | exact ⟨rfl, below_trans B5.out B5.out.size B7.out⟩ | exact ⟨rfl, below_trans B5.out.drew B5.out.drew.size B7.out⟩
          · as_aux_lemma =>
              have hT : ((xt, xa, xs) :: L).takeWhile (due now) = [] := by
                rw [List.takeWhile_cons, show due now (xt, xa, xs) = false by simpa [due] using hd]
                rfl
              have hdd : decide (xa ≤ now) = false := by simpa using hd
              rw [hT, List.length_nil, Nat.zero_add] at hsum
              have e19 : ((nL : Int) != (nL : Int)) = false := by simp
              have g0 : (0 : Int) < (nL : Int) := by omega
              go_wp2_with fail
              refine C10.out.mono ?_
              rintro e w2 ⟨rfl, hb2⟩
              have n3 : (w2.alloc (.cells #[.int .i64 xt, .int .i64 xa, .string xs] 34)).heap[w2.heap.size]? = some (.cells #[.int .i64 xt, .int .i64 xa, .string xs] 34 (0, 0)) := heap_alloc_new w2 _
              have A3 := hA.out.move (hb2.alloc hb2.size (.cells #[.int .i64 xt, .int .i64 xa, .string xs] 34))
              have C11 := aglen_any _ _ ab pb mb v _ last A3.at_
              rw [← hnL] at C11
              replace C11 := Lib.hid C11
              have C15 := Lib.hid (take_ok _ _ ab pb mb v _ last A3.at_ now hm.out)
              have hs2 := hb2.size
              replace A3 := Lib.hid A3
              replace hb2 := Lib.hid hb2
              replace n3 := Lib.hid n3
              replace hsum := Lib.hid hsum
              replace hT := Lib.hid hT
              replace hnL := Lib.hid hnL
              replace ltA := Lib.hid ltA
              go_wp2_with fail
              refine C11.out.mono ?_
              rintro e w4 ⟨rfl, rfl⟩
              go_wp2_with fail
              refine C15.out.mono ?_
              rintro e w5 ⟨u, rfl, v5, A5, M5, K5, r5⟩
              rw [hT.out] at r5
              obtain ⟨Au, cu, rfl⟩ := rowSlice r5
              have n5 := (K5.block w2.heap.size (Array.getElem?_eq_some_iff.1 n3.out).1 (by have := ltA.out.1; omega) (by have := ltA.out.2.1; omega) (by have := ltA.out.2.2.1; omega) (fun e => by have := ltA.out.2.2.2 _ e; omega)).trans n3.out
              have z1 : w5.cell? ⟨w2.heap.size, 1, none⟩ = some (.int .i64 xa) := Go.Joins.cell_of_block n5 1
              have B5 := K5.below A3.out.at_ A3.out.below
              have C11' := aglen_any _ _ ab pb mb v5 _ last A5
              rw [← hsum.out] at C11'
              replace C11' := Lib.hid C11'
              replace A5 := Lib.hid A5
              replace K5 := Lib.hid K5
              replace r5 := Lib.hid r5
              replace B5 := Lib.hid B5
              replace M5 := Lib.hid M5
              replace n5 := Lib.hid n5
              clear C11 C15
              go_wp2_with fail
              refine C11'.out.mono ?_
              rintro e w6 ⟨rfl, rfl⟩
              go_wp2_with fail
              refine (C8.out _).mono ?_
              rintro e w7 ⟨rfl, B7⟩
              replace B7 := Lib.hid B7
              go_wp2
              go_ret
              exact ⟨rfl, below_trans B5.out B5.out.size B7.out⟩
  · have last : ∀ (b1 b2 b3 : Bool), decide ((200 : Int) < (l.length : Int)) = b1 → decide (now < 0) = b2 → decide ((1099511627776 : Int) < now) = b3 → (b1 || b2 || b3) = true →
        Calls Try.prog 6 #[.slice A l.length c, .int .i64 now] w fun e w' => e = .returned (.bool true) ∧ Below w.heap.size w w' := by
      intro b1 b2 b3 h1 h2 h3 hb
      cases b1 <;> cases b2 <;> cases b3 <;> first | (exact absurd hb (by decide)) | skip
      all_goals
        clear hb hg
        go_enter Try.func6, Try.ntmps6
        go_wp2_with fail
        refine (new_any w).mono ?_
        rintro e w1 ⟨ab, pb, mb, rfl, A1, B1⟩
        replace A1 := Lib.hid A1
        replace B1 := Lib.hid B1
        go_wp2_with fail
        refine (C8.out _).mono ?_
        rintro e w7 ⟨rfl, B7⟩
        replace B7 := Lib.hid B7
        go_wp2
        go_ret
        exact ⟨rfl, below_trans B1.out B1.out.size B7.out⟩
    refine last _ _ _ rfl rfl rfl ?_
    rw [Bool.eq_iff_iff]
    simp only [Bool.or_eq_true, decide_eq_true_eq, iff_true]
    have : ¬ (l.length ≤ 200 ∧ (0 ≤ now ∧ now ≤ 1099511627776)) := by simpa [momB] using hg
    omega
end Go.Proofs.Ytmanlmhiiijlmaa
