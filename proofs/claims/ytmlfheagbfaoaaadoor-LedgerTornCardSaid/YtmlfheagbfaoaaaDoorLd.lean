/- The law LedgerTorn, walked. -/
import Derived.Test.YtmlfheagbfaoaaaDoorLc
namespace Go.Proofs.YtmlfheagbfaoaaaDoor
open Go.RowKit Go.Proofs.YtmlfheagbfaoaaaDoorW.PrintWords Go.Proofs.YtmlfheagbfaoaaaDoorW.PrintMore Go.Lib
/-- Behind the first loop. -/
structure Fill1 (w wr : World) (lg k : Nat) (u : Value) : Prop where
  out : ∃ v recs, TSt w wr lg v u recs recs 0 0 ∧ (allB recs).size ≤ 2006 * k ∧ recs.length ≤ k
/-- Behind the second: the first n are synced. -/
structure Fill2 (w wr : World) (lg k : Nat) (u : Value) (n : Nat) : Prop where
  out : ∃ v recs, TSt w wr lg v u recs recs (allB (recs.take n)).size n ∧ (allB recs).size ≤ 40120 + 2006 * k ∧ n ≤ recs.length ∧ recs.length ≤ 20 + k
set_option maxRecDepth 100000 in
set_option maxHeartbeats 8000000 in
theorem law_LedgerTorn (A : Option Addr) (c : Nat) (l : List ByteArray) (A' : Option Addr) (c' : Nat) (l' : List ByteArray) (what n mask : Int) (y : ByteArray) (w0 : World)
    (_hl : l.length * 16 ≤ 140737488351232) (_hz : ∀ s ∈ l, s.size ≤ 140737488351232) (_hl' : l'.length * 16 ≤ 140737488351232) (_hz' : ∀ s ∈ l', s.size ≤ 140737488351232) (_w0 : (Lit.int .i64 what).wf = true) (hn : (Lit.int .i64 n).wf = true) (_w2 : (Lit.int .i64 mask).wf = true) (_w3 : y.size ≤ 140737488351232)
    (hr : Kd.C Kd.string w0 A l.length l) (_hc : l.length ≤ c) (hr' : Kd.C Kd.string w0 A' l'.length l') (_hc' : l'.length ≤ c') (hT0 : Tab w0) :
    Calls Tryd.prog 6 #[.slice A l.length c, .slice A' l'.length c', .agg #[.int .i64 what, .int .i64 n, .int .i64 mask, .string y]] w0 fun e w' => e = .returned (.bool true) ∧ Below w0.heap.size w0 w' := by
  have hb0 : Below w0.heap.size w0 (w0.alloc (.cells #[.int .i64 what, .int .i64 n, .int .i64 mask, .string y] 50)) := (Below.refl _ w0).alloc (Nat.le_refl _) _
  have hx0 : (w0.alloc (.cells #[.int .i64 what, .int .i64 n, .int .i64 mask, .string y] 50)).heap[w0.heap.size]? = some (.cells #[.int .i64 what, .int .i64 n, .int .i64 mask, .string y] 50 (0, 0)) := heap_alloc_new w0 _
  obtain ⟨w, hw⟩ : ∃ w, w = w0.alloc (.cells #[.int .i64 what, .int .i64 n, .int .i64 mask, .string y] 50) := ⟨_, rfl⟩
  rw [← hw] at hb0 hx0
  have HS := Lib.hid ((strs_of hr rfl).below hb0)
  have HS' := Lib.hid ((strs_of hr' rfl).below hb0)
  have hT := hT0.below hb0
  have HT := Lib.hid hT
  have O1 := Lib.hid (one_any w hT)
  have N1 := Lib.hid (new_st w hT)
  have hsz : w0.heap.size < w.heap.size := by rw [hw, World.size_alloc]; omega
  have HB0 := Lib.hid hb0
  have HX0 := Lib.hid hx0
  have HN := Lib.hid (bounds_i64 hn)
  obtain ⟨i0, hi, hz0, hz1, hz2⟩ := info_parts info_str
  clear hr hr' hT0 hT hb0 hx0 _hz _hz' hn _w0 _w2
  replace hw := Lib.hid hw
  by_cases h1 : l.length ≤ 20 ∧ l'.length ≤ 20
  · obtain ⟨h1, h1'⟩ := h1
    have t1 : ¬ (20 : Int) < (l.length : Int) := by omega
    have t1' : ¬ (20 : Int) < (l'.length : Int) := by omega
    go_enter Tryd.func6, Tryd.ntmps6
    go_wp2_with fail
    rw [← hw.out]
    refine (Dk.new_any w).mono ?_
    rintro e w1 ⟨rfl, rfl⟩
    go_wp2_with fail
    refine N1.out.mono ?_
    rintro e w2 ⟨lg, v, rfl, L2⟩
    go_wp2_with fail
    go_loopw [10, 47] (fun v10 v47 wr => ∃ k : Nat, k ≤ l.length ∧ v47 = .int .i64 (k : Int) ∧ Fill1 w wr lg k v10) (fun _ v47 _ => l.length - (intOf v47).toNat)
    case atStart => exact ⟨0, Nat.zero_le _, rfl, v, [], ⟨L2, World.ownsRow_nil _ _ _ _, .inl rfl⟩, Nat.le_refl _, Nat.le_refl _⟩
    case round =>
      clear L2
      obtain ⟨k, hk, rfl, ⟨v, recs, T, hsm, hlen⟩⟩ := hrel
      obtain ⟨Au, cu, rfl⟩ := rowSlice T.row
      by_cases hlt : k < l.length
      · obtain ⟨t, ht⟩ : ∃ s, l[k]? = some s := ⟨_, List.getElem?_eq_getElem hlt⟩
        obtain ⟨ad, rfl, hcl⟩ := HS.out k t ht
        have hcl := pw_cell_below T.st.below hcl
        clear ht
        have hwz := T.st.below.size
        by_cases h3 : t.size ≤ 2000
        · have t3 : (t.size : Int) ≤ 2000 := by omega
          have A1 := Lib.hid (append_st w wr lg v recs 0 0 t T.st HT.out (by omega) (by omega))
          replace T := Lib.hid T
          go_wp2_with fail
          refine A1.out.mono ?_
          rintro e w3 ⟨rfl, v', L3, K3, M3⟩
          have T3 := T.out.turned L3 K3 M3
          have r7 := T3.row.alloc (.cells #[.string t] 9)
          have hw3 := L3.below.size
          replace T3 := Lib.hid T3
          replace r7 := Lib.hid r7
          replace L3 := Lib.hid L3
          replace K3 := Lib.hid K3
          replace M3 := Lib.hid M3
          clear A1
          go_wp2_with (at_builtin; refine wpList_append_own_at _ rfl _ _ 22 rfl w.heap.size 9 i0 (.string ⟨#[]⟩) 1 16 Tryd.underlying22 hi hz0 hz1 hz2 rfl (by decide) (.slice Au recs.length cu) recs.length (recs.map Value.string) rfl r7.out ⟨w3.heap.size, 0, none⟩ 1 1 [.string t] rfl rfl (cell_one_new _ _ _) (by simp [Value.oneCell']) ?h63 ?hbytes ?hbase ?_)
          case h63 => simp [maxLen]; omega
          case hbytes => omega
          case hbase => simp; omega
          intro u' w5 hown hgrow _ hat
          have T5 := T3.out.told t hown hgrow hat
          obtain ⟨Av, cv, rfl⟩ := rowSlice hown
          replace T5 := Lib.hid T5
          replace hown := Lib.hid hown
          replace hgrow := Lib.hid hgrow
          replace hat := Lib.hid hat
          go_wp2
          go_roundw
          case rel => exact ⟨k + 1, by omega, by go_num, ⟨v', _, T5.out, by rw [allB_snoc_size]; omega, by simp; omega⟩⟩
          case measure => simp [intOf]; omega
        · have t3 : ¬ (t.size : Int) ≤ 2000 := by omega
          replace T := Lib.hid T
          go_wp2_with fail
          go_roundw
          case rel => exact ⟨k + 1, by omega, by go_num, ⟨v, recs, T.out, by omega, by omega⟩⟩
          case measure => simp [intOf]; omega
      · obtain rfl : k = l.length := by omega
        have S1 := Lib.hid (sync_st w wr lg v recs 0 0 T.st)
        have hsm1 : (allB recs).size ≤ 40120 := by omega
        have hlen1 : recs.length ≤ 20 := by omega
        replace T := Lib.hid T
        replace hsm := Lib.hid hsm
        replace hsm1 := Lib.hid hsm1
        go_wp2_with fail
        refine S1.out.mono ?_
        rintro e w3 ⟨rfl, L3, K3⟩
        have T3 := T.out.turned L3 K3 (Moved.refl _ _)
        obtain ⟨nn, hnn⟩ : ∃ nn, nn = recs.length := ⟨_, rfl⟩
        have F2 : Fill2 w w3 lg 0 (.slice Au nn cu) nn := ⟨v, recs, by rw [hnn, List.take_length]; exact T3, hsm1.out, by omega, by omega⟩
        replace hnn := Lib.hid hnn
        replace L3 := Lib.hid L3
        replace K3 := Lib.hid K3
        replace T3 := Lib.hid T3
        replace F2 := Lib.hid F2
        clear S1
        go_wp2_with fail
        rw [← hnn.out]
        clear hnn T3 K3 L3 hsm hsm1 T hlen hlen1
        go_loopw [10, 68] (fun v10 v68 wr => ∃ k : Nat, k ≤ l'.length ∧ v68 = .int .i64 (k : Int) ∧ Fill2 w wr lg k v10 nn) (fun _ v68 _ => l'.length - (intOf v68).toNat)
        case atStart => exact ⟨0, Nat.zero_le _, rfl, F2.out⟩
        case round =>
          clear F2
          obtain ⟨k, hk, rfl, ⟨v, recs, T, hsm, hnl, hlen⟩⟩ := hrel
          obtain ⟨Au, cu, rfl⟩ := rowSlice T.row
          by_cases hlt : k < l'.length
          · obtain ⟨t, ht⟩ : ∃ s, l'[k]? = some s := ⟨_, List.getElem?_eq_getElem hlt⟩
            obtain ⟨ad, rfl, hcl⟩ := HS'.out k t ht
            have hcl := pw_cell_below T.st.below hcl
            clear ht
            have hwz := T.st.below.size
            by_cases h3 : t.size ≤ 2000
            · have t3 : (t.size : Int) ≤ 2000 := by omega
              have A1 := Lib.hid (append_st w wr lg v recs _ nn t T.st HT.out (by omega) (by omega))
              replace T := Lib.hid T
              go_wp2_with fail
              refine A1.out.mono ?_
              rintro e w3 ⟨rfl, v', L3, K3, M3⟩
              have T3 := T.out.turned L3 K3 M3
              have r7 := T3.row.alloc (.cells #[.string t] 9)
              have hw3 := L3.below.size
              replace T3 := Lib.hid T3
              replace r7 := Lib.hid r7
              replace L3 := Lib.hid L3
              replace K3 := Lib.hid K3
              replace M3 := Lib.hid M3
              clear A1
              go_wp2_with (at_builtin; refine wpList_append_own_at _ rfl _ _ 22 rfl w.heap.size 9 i0 (.string ⟨#[]⟩) 1 16 Tryd.underlying22 hi hz0 hz1 hz2 rfl (by decide) (.slice Au recs.length cu) recs.length (recs.map Value.string) rfl r7.out ⟨w3.heap.size, 0, none⟩ 1 1 [.string t] rfl rfl (cell_one_new _ _ _) (by simp [Value.oneCell']) ?h63 ?hbytes ?hbase ?_)
              case h63 => simp [maxLen]; omega
              case hbytes => omega
              case hbase => simp; omega
              intro u' w5 hown hgrow _ hat
              have T5 := T3.out.told t hown hgrow hat
              obtain ⟨Av, cv, rfl⟩ := rowSlice hown
              replace T5 := Lib.hid T5
              replace hown := Lib.hid hown
              replace hgrow := Lib.hid hgrow
              replace hat := Lib.hid hat
              go_wp2
              go_roundw
              case rel => exact ⟨k + 1, by omega, by go_num, ⟨v', _, by rw [List.take_append_of_le_length hnl]; exact T5.out, by rw [allB_snoc_size]; omega, by simp; omega, by simp; omega⟩⟩
              case measure => simp [intOf]; omega
            · have t3 : ¬ (t.size : Int) ≤ 2000 := by omega
              replace T := Lib.hid T
              go_wp2_with fail
              go_roundw
              case rel => exact ⟨k + 1, by omega, by go_num, ⟨v, recs, T.out, by omega, hnl, by omega⟩⟩
              case measure => simp [intOf]; omega
          · obtain rfl : k = l'.length := by omega
            have hsm1 : (allB recs).size ≤ 80240 := by omega
            have hrl : recs.length ≤ 40 := by omega
            obtain ⟨sy, hsy⟩ : ∃ sy, sy = (allB (recs.take nn)).size := ⟨_, rfl⟩
            rw [← hsy] at T
            have hsz2 := T.st.below.size
            have hxr := (T.st.below.block w0.heap.size hsz).trans HX0.out
            have x1 : wr.cell? ⟨w0.heap.size, 1, none⟩ = some (.int .i64 n) := Go.Joins.cell_of_block hxr 1
            have x2 : wr.cell? ⟨w0.heap.size, 2, none⟩ = some (.int .i64 mask) := Go.Joins.cell_of_block hxr 2
            replace hxr := Lib.hid hxr
            replace hsy := Lib.hid hsy
            replace hsm := Lib.hid hsm
            have hfl := T.st.at_.file.le
            by_cases hcr : 0 ≤ n ∧ n ≤ ((allB recs).size : Int) - sy ∧ 0 ≤ mask ∧ mask ≤ 255
            · obtain ⟨N, rfl⟩ : ∃ N : Nat, n = (N : Int) := ⟨n.toNat, by omega⟩
              obtain ⟨M, rfl⟩ : ∃ M : Nat, mask = (M : Int) := ⟨mask.toNat, by omega⟩
              have hN1 : sy + N ≤ (allB recs).size := by omega
              have hM1 : M ≤ 255 := by omega
              have C1 := Lib.hid (Dk.crash_any _ _ (allB recs) sy N M wr T.st.at_.file hM1 hN1)
              have TO := Lib.hid (torn_of (allB recs) sy N M hN1 hM1)
              replace T := Lib.hid T
              clear hcr
              go_wp2_with fail
              refine C1.out.mono ?_
              rintro e w4 ⟨rfl, F4, K4⟩
              have B4 := K4.below T.out.st.below (Nat.le_refl _) hsz2
              have r4 := rowKept T.out.row K4 T.out.st.at_.file
              have P4 := Lib.hid (reopen w w4 recs _ _ _ F4 B4 HT.out T.out.st.small TO.out)
              replace B4 := Lib.hid B4
              replace r4 := Lib.hid r4
              replace F4 := Lib.hid F4
              replace K4 := Lib.hid K4
              clear C1
              go_wp2_with fail
              refine P4.out.mono ?_
              rintro e w5 ⟨lg', v', j, rfl, j1, L5, j2, j3, fr5, K5⟩
              have r5 := rowKept r4.out K5 F4.out
              have hjn : nn ≤ j := j2 nn hnl (by rw [← hsy.out]; omega)
              obtain ⟨R, hR⟩ : ∃ R, R = recs.take j := ⟨_, rfl⟩
              have hRj : j = R.length := by rw [hR, List.length_take, Nat.min_eq_left j1]
              have hRs : (allB R).size ≤ 80240 := by
                have h1 := L5.at_.file.le
                have h2 : allB recs = allB (recs.take j) ++ allFrom (0 + (recs.take j).length) (recs.drop j) := by rw [allB, allB, ← allFrom_app, List.take_append_drop]
                have h3 := congrArg ByteArray.size h2
                rw [app_size, ← hR] at h3
                omega
              rw [← hR] at L5
              have hR2 : recs.take R.length = R := by rw [← hRj]; exact hR.symm
              subst hRj
              have Q5 := Lib.hid (records_any _ _ lg' v' _ _ R _ w5 L5.at_)
              replace r5 := Lib.hid r5
              replace L5 := Lib.hid L5
              replace hR := Lib.hid hR
              replace hR2 := Lib.hid hR2
              replace j2 := Lib.hid j2
              replace j3 := Lib.hid j3
              replace fr5 := Lib.hid fr5
              replace K5 := Lib.hid K5
              clear P4
              go_wp2_with fail
              refine Q5.out.mono ?_
              rintro e w6 ⟨gv, rfl, r6, B6⟩
              obtain ⟨Ag, cg, rfl⟩ := rowSlice r6
              have L6 := L5.out.move B6
              have hw6 := B6.size
              have hw5 := L5.out.below.size
              have a6 : Apart (.slice Ag R.length cg) v' := (apart_fresh L5.out.at_.row (fun k hk => own_base r6 k hk)).symm
              have T6 : TSt w w6 lg' v' (.slice Ag R.length cg) R R (allB R).size R.length := ⟨L6, rowBase hw5 r6, a6⟩
              have r6u := pw_own_below r5.out B6
              have ru : w6.ownsRow w.heap.size 9 1 (.slice Au R.length cu) R.length (R.map Value.string) := by
                have := rowTake r6u R.length j1
                rw [hR2.out] at this
                exact this
              have X6 := texts_any Ag cg R Au cu R w6 _ _ r6 ru (by omega)
              rw [show decide (R = R) = true by simp] at X6
              have SL := fun X => slice_row X Au recs.length cu R.length (Nat.le_trans j1 (rowC r6u).2)
              have d0 : decide ((R.length : Int) < (nn : Int)) = false := by simp; omega
              have d1 : decide (R.length < nn) = false := by simp; omega
              have d2 : decide (recs.length < R.length) = false := by simp; omega
              have d3 : decide ((recs.length : Int) < (R.length : Int)) = false := by simp; omega
              have d4 : ¬ R.length < nn := by omega
              have d5 : ¬ recs.length < R.length := by omega
              replace X6 := Lib.hid X6
              replace T6 := Lib.hid T6
              replace ru := Lib.hid ru
              replace r6 := Lib.hid r6
              replace r6u := Lib.hid r6u
              replace L6 := Lib.hid L6
              replace B6 := Lib.hid B6
              replace a6 := Lib.hid a6
              clear Q5
              go_wp2_with (go_at_call 19; refine X6.out.mono ?_; rintro e w7 ⟨rfl, m7, rfl⟩)
              have T7 := T6.out.move (pw_below_drewN (Below.refl _ w6) m7)
              have A7 := Lib.hid (append_st w _ lg' v' R _ _ ⟨#[109, 111, 114, 101]⟩ T7.st HT.out (by decide) (by rw [show (⟨#[109, 111, 114, 101]⟩ : ByteArray).size = 4 from rfl]; omega))
              replace T7 := Lib.hid T7
              clear X6 SL d0 d1 d2 d3 d4 d5
              go_wp2_with fail
              refine A7.out.mono ?_
              rintro e w8 ⟨rfl, v8, L8, K8, M8⟩
              have T8 := T7.out.turned L8 K8 M8
              have P8 := Lib.hid (reopen w w8 (R ++ [(⟨#[109, 111, 114, 101]⟩ : ByteArray)]) _ _ _ L8.at_.file L8.below HT.out L8.small ⟨Nat.le_refl _, ⟨#[]⟩, by rw [app_empty, ext_whole _ _ (Nat.le_refl _)], .inl rfl⟩)
              replace T8 := Lib.hid T8
              replace L8 := Lib.hid L8
              replace K8 := Lib.hid K8
              replace M8 := Lib.hid M8
              clear A7
              go_wp2_with fail
              refine P8.out.mono ?_
              rintro e w9 ⟨lg9, v9, j9, rfl, j91, L9, j92, -, fr9, K9⟩
              have r9 := rowKept T8.out.row K9 L8.out.at_.file
              obtain rfl : j9 = (R ++ [(⟨#[109, 111, 114, 101]⟩ : ByteArray)]).length := by
                have := j92 _ (Nat.le_refl _) (by rw [List.take_length]; exact Nat.le_refl _)
                omega
              rw [List.take_length] at L9
              have hw9 := L9.below.size
              replace r9 := Lib.hid r9
              replace L9 := Lib.hid L9
              replace j92 := Lib.hid j92
              replace fr9 := Lib.hid fr9
              replace K9 := Lib.hid K9
              clear P8
              have d6 : ((R.length : Int) != (R.length : Int)) = false := by simp
              have HR9 := (rowC r9.out).1
              replace HR9 := Lib.hid HR9
              go_wp2_with (at_builtin; refine Kd.R_append_rows Kd.string (w0 := w) w.heap.size rfl _ _ 22 9 (.string ⟨#[]⟩) 16 rfl Tryd.underlying22 info_str rfl (by decide) (by decide) (.slice none 0 0) [] R Ag R.length cg (fun _ => True) (fun _ => False) rfl rfl (Kd.R_nil _ _ _ _ _) HR9.out (fun _ _ h => h) (fun _ h => h.elim) (fun _ _ => trivial) L9.out.below hw9 ?hbytes ?_)
              case hbytes => simp; omega
              intro u1 w10 hu1 B10 hg10 hat10
              have ru1 : w10.ownsRow w.heap.size 9 1 u1 R.length (R.map Value.string) := Kd.own_of_R hu1
              have hb10 : Below w9.heap.size w9 w10 := ⟨hg10.os, hg10.tape, hg10.output, hg10.size, fun k hk => hg10.block k hk (by simp [Value.ownBlock])⟩
              have hfr : ∀ k, u1.ownBlock = some k → w9.heap.size ≤ k := by
                intro k hk
                rcases hat10 with e | ⟨b, e, hle⟩
                · rw [hk] at e; cases e
                · rw [hk] at e; injection e with e; omega
              have T10 : TSt w w10 lg9 v9 u1 (R ++ [(⟨#[109, 111, 114, 101]⟩ : ByteArray)]) R _ _ := ⟨L9.out.move hb10, ru1, (apart_fresh L9.out.at_.row hfr).symm⟩
              obtain ⟨A1, c1, rfl⟩ := rowSlice ru1
              have r11 := T10.row.alloc (.cells #[.string ⟨#[109, 111, 114, 101]⟩] 9)
              have hw10 := B10.size
              replace hu1 := Lib.hid hu1
              replace B10 := Lib.hid B10
              replace hg10 := Lib.hid hg10
              replace hat10 := Lib.hid hat10
              replace hb10 := Lib.hid hb10
              replace hfr := Lib.hid hfr
              replace ru1 := Lib.hid ru1
              replace T10 := Lib.hid T10
              replace r11 := Lib.hid r11
              go_wp2_with (at_builtin; refine wpList_append_own_at _ rfl _ _ 22 rfl w.heap.size 9 i0 (.string ⟨#[]⟩) 1 16 Tryd.underlying22 hi hz0 hz1 hz2 rfl (by decide) (.slice A1 R.length c1) R.length (R.map Value.string) rfl r11.out ⟨w10.heap.size, 0, none⟩ 1 1 [.string ⟨#[109, 111, 114, 101]⟩] rfl rfl (cell_one_new _ _ _) (by simp [Value.oneCell']) ?h63 ?hbytes ?hbase ?_)
              case h63 => simp [maxLen]; omega
              case hbytes => omega
              case hbase => simp; omega
              intro u2 w12 hown hgrow _ hat
              have T12 := T10.out.told _ hown hgrow hat
              have Q12 := Lib.hid (records_any _ _ lg9 v9 _ _ _ _ w12 T12.st.at_)
              obtain ⟨A2, c2, rfl⟩ := rowSlice hown
              replace T12 := Lib.hid T12
              replace hown := Lib.hid hown
              replace hgrow := Lib.hid hgrow
              replace hat := Lib.hid hat
              go_wp2_with fail
              refine Q12.out.mono ?_
              rintro e w13 ⟨zv, rfl, r13, B13⟩
              obtain ⟨A3, c3, rfl⟩ := rowSlice r13
              have T13 := T12.out.move B13
              have hL : (R ++ [(⟨#[109, 111, 114, 101]⟩ : ByteArray)]).length = R.length + 1 := by simp
              have X13 := texts_any A3 c3 _ A2 c2 (R ++ [(⟨#[109, 111, 114, 101]⟩ : ByteArray)]) w13 _ _ r13 (by have := T13.row; rw [hL] at this ⊢; exact this) (by rw [List.length_append]; simp; omega)
              rw [show decide (R ++ [(⟨#[109, 111, 114, 101]⟩ : ByteArray)] = R ++ [(⟨#[109, 111, 114, 101]⟩ : ByteArray)]) = true by simp, hL] at X13
              replace hL := Lib.hid hL
              have L14 := fun m => T13.st.move (pw_below_drewN (Below.refl _ w13) m)
              have O14 := Lib.hid (fun m => one_any _ ((L14 m).tab HT.out))
              replace L14 := Lib.hid L14
              replace X13 := Lib.hid X13
              replace T13 := Lib.hid T13
              replace r13 := Lib.hid r13
              replace B13 := Lib.hid B13
              go_wp2_with (first
                | (go_at_call 19; refine X13.out.mono ?_; rintro e w14 ⟨rfl, m14, rfl⟩)
                | (go_at_call 8; refine (O14.out m14).mono ?_; rintro e w15 ⟨rfl, hb15⟩; replace hb15 := Lib.hid hb15))
              go_ret
              have Z1 := below_then HB0.out HB0.out.size (L14.out m14).below
              exact ⟨rfl, below_then Z1 Z1.size hb15.out⟩
            · have GC := Lib.hid (Dk.guard_crash _ _ (allB recs) sy n mask wr T.st.at_.file hcr HN.out)
              have L14 := fun m => T.st.move (pw_below_drewN (Below.refl _ wr) m)
              have O14 := Lib.hid (fun m => one_any _ ((L14 m).tab HT.out))
              replace L14 := Lib.hid L14
              replace T := Lib.hid T
              clear hcr
              go_wp2_with (first
                | (go_at_call 22; refine GC.out.mono ?_; rintro e w14 ⟨rfl, m14, rfl⟩)
                | (go_at_call 8; refine (O14.out m14).mono ?_; rintro e w15 ⟨rfl, hb15⟩; replace hb15 := Lib.hid hb15))
              go_ret
              have Z1 := below_then HB0.out HB0.out.size (L14.out m14).below
              exact ⟨rfl, below_then Z1 Z1.size hb15.out⟩
  · have Z0 := Lib.hid (fun (X : World) (h : Below w.heap.size w X) => below_then HB0.out HB0.out.size h)
    by_cases h2 : l.length ≤ 20
    · have t1 : ¬ (20 : Int) < (l.length : Int) := by omega
      have t2 : (20 : Int) < (l'.length : Int) := by omega
      clear h1
      go_enter Tryd.func6, Tryd.ntmps6
      go_wp2_with fail
      rw [← hw.out]
      refine O1.out.mono ?_
      rintro e w15 ⟨rfl, hb15⟩
      replace hb15 := Lib.hid hb15
      go_wp2
      go_ret
      exact ⟨rfl, Z0.out _ hb15.out⟩
    · have t1 : (20 : Int) < (l.length : Int) := by omega
      clear h1
      go_enter Tryd.func6, Tryd.ntmps6
      go_wp2_with fail
      rw [← hw.out]
      refine O1.out.mono ?_
      rintro e w15 ⟨rfl, hb15⟩
      replace hb15 := Lib.hid hb15
      go_wp2
      go_ret
      exact ⟨rfl, Z0.out _ hb15.out⟩
end Go.Proofs.YtmlfheagbfaoaaaDoor
