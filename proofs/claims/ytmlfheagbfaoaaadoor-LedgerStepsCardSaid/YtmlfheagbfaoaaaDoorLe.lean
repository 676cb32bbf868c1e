/- The laws LedgerReads and LedgerSteps, walked. -/
import Derived.Test.YtmlfheagbfaoaaaDoorLc
import Derived.Test.YtmlfheagbfaoaaaDoorOpen
import Derived.Deep.CutBlock
import Derived.Deep.DeepCutAuto
namespace Go.Proofs.YtmlfheagbfaoaaaDoor
open Go.RowKit Go.Proofs.YtmlfheagbfaoaaaDoorW.PrintWords Go.Proofs.YtmlfheagbfaoaaaDoorW.PrintMore Go.Lib
/-- A ledger beside a row of texts and a step's box. -/
structure BSt (w w' : World) (lg : Nat) (v u : Value) (recs all : List ByteArray) (sy syn bx : Nat) (cs : Array Value) : Prop where
  t : TSt w w' lg v u recs all sy syn
  box : w'.heap[bx]? = some (.cells cs 50 (0, 0))
theorem BSt.move {w w' w'' : World} {lg : Nat} {v u : Value} {recs all : List ByteArray} {sy syn bx : Nat} {cs : Array Value} (h : BSt w w' lg v u recs all sy syn bx cs) (hb : Below w'.heap.size w' w'') : BSt w w'' lg v u recs all sy syn bx cs :=
  ⟨h.t.move hb, (hb.block bx (Array.getElem?_eq_some_iff.1 h.box).1).trans h.box⟩
theorem boxKeeps {w w' : World} {B g bx : Nat} {cs : Array Value} {b : ByteArray} {sy : Nat} (hb : w.heap[bx]? = some (.cells cs 50 (0, 0))) (hF : Dk.FileAt w B g b sy) (hK : Dk.Keeps B g w w') : w'.heap[bx]? = some (.cells cs 50 (0, 0)) :=
  (hK.block bx (Array.getElem?_eq_some_iff.1 hb).1 (by rintro rfl; obtain ⟨⟨u, hu, -⟩, -⟩ := hF; rw [hb] at hu; cases hu) (.inr fun c e => by rw [hb] at e; cases e)).trans hb
theorem boxRow {w : World} {bx : Nat} {cs : Array Value} {n₀ n : Nat} {u : Value} {xs : List Value} (hb : w.heap[bx]? = some (.cells cs 50 (0, 0))) (hr : w.ownsRow n₀ 9 1 u n xs) : some bx ≠ u.ownBlock := fun e => by
  obtain ⟨cells, hc⟩ := own_typed hr bx e.symm
  rw [hb] at hc
  cases hc
theorem boxLK {w w' : World} {B g lg : Nat} {v : Value} {b : ByteArray} {sy : Nat} {recs : List ByteArray} {syn bx : Nat} {cs : Array Value} (hb : w.heap[bx]? = some (.cells cs 50 (0, 0))) (hL : LedgerV w B g lg v b sy recs syn) (hk : LK B g lg v w w') : w'.heap[bx]? = some (.cells cs 50 (0, 0)) :=
  (hk.block bx (Array.getElem?_eq_some_iff.1 hb).1 (by rintro rfl; obtain ⟨⟨u, hu, -⟩, -⟩ := hL.file; rw [hb] at hu; cases hu) (by rintro rfl; have := hL.cell; rw [hb] at this; cases this) (boxRow hb hL.row) (.inr fun c e => by rw [hb] at e; cases e)).trans hb
theorem BSt.turned {w w' w2 : World} {lg : Nat} {v v' u : Value} {recs recs' all : List ByteArray} {sy syn sy' syn' bx : Nat} {cs : Array Value} (h : BSt w w' lg v u recs all sy syn bx cs) (h2 : LSt w w2 lg v' recs' sy' syn') (hk : LK w.heap.size w.heap.size lg v w' w2) (hm : Moved w' v v') : BSt w w2 lg v' u recs' all sy' syn' bx cs :=
  ⟨h.t.turned h2 hk hm, boxLK h.box h.t.st.at_ hk⟩
theorem BSt.told {w w2 w5 : World} {lg : Nat} {v u u' : Value} {recs all : List ByteArray} {sy syn bx : Nat} {cs : Array Value} (h : BSt w w2 lg v u recs all sy syn bx cs) (r : ByteArray)
    (hown : w5.ownsRow w.heap.size 9 1 u' (all.length + 1) (all.map Value.string ++ [.string r])) (hg : (w2.alloc (.cells #[.string r] 9)).grownBy w5 u.ownBlock) (hat : u'.ownBlock = u.ownBlock ∨ u'.ownBlock = some (w2.heap.size + 1)) : BSt w w5 lg v u' recs (all ++ [r]) sy syn bx cs := by
  have h1 := h.move ((Below.refl _ w2).alloc (Nat.le_refl _) (.cells #[.string r] 9))
  exact ⟨h.t.told r hown hg hat, (hg.block bx (Array.getElem?_eq_some_iff.1 h1.box).1 (boxRow h1.box h1.t.row)).trans h1.box⟩
theorem add_off (a : Addr) (m j : Nat) (hj : j ≠ 0) : a.add (m + j) = ⟨(a.add m).block, (a.add m).off + j, none⟩ := by
  unfold Addr.add
  by_cases hm : m = 0
  · subst hm
    simp [hj]
  · rw [if_neg (by omega), if_neg hm]
    simp [Nat.add_assoc]
/-- How things stand between two steps: the ledger, what is had, its bytes, how many are synced. -/
structure Stood (w wr : World) (v4 v6 v7 v8 : Value) : Prop where
  out : ∃ lg v recs syn, v4 = .pointer (some ⟨lg, 0, none⟩) ∧ v7 = .string (allB recs) ∧ v8 = .int .i64 (syn : Nat) ∧ syn ≤ recs.length ∧ TSt w wr lg v v6 recs recs (allB (recs.take syn)).size syn
/-- The same in the middle of a step. -/
structure Mid (w wr : World) (v4 v6 v7 v8 : Value) (bx : Nat) (cs : Array Value) : Prop where
  out : ∃ lg v recs syn, v4 = .pointer (some ⟨lg, 0, none⟩) ∧ v7 = .string (allB recs) ∧ v8 = .int .i64 (syn : Nat) ∧ syn ≤ recs.length ∧ BSt w wr lg v v6 recs recs (allB (recs.take syn)).size syn bx cs
set_option maxRecDepth 100000 in
set_option maxHeartbeats 8000000 in
theorem law_LedgerSteps (A : Option Addr) (c : Nat) (l : List (Int × Int × Int × ByteArray)) (w : World) (_hl : l.length ≤ 140737488351232) (hok : ∀ x ∈ l, StepOk x) (hr : Steps4 w A l) (_hc : l.length ≤ c) (hT : Tab w) :
    Calls Tryd.prog 7 #[.slice A l.length c] w fun e w' => e = .returned (.bool true) ∧ Below w.heap.size w w' := by
  have HR := Lib.hid hr
  have HOK := Lib.hid hok
  have HT := Lib.hid hT
  have O1 := Lib.hid (fun X (h : Below w.heap.size w X) => one_any X (hT.below h))
  have N1 := Lib.hid (new_st w hT)
  obtain ⟨i0, hi, hz0, hz1, hz2⟩ := info_parts info_str
  clear hr hok hT
  by_cases h1 : l.length ≤ 100
  · have t1 : ¬ (100 : Int) < (l.length : Int) := by omega
    go_enter Tryd.func7, Tryd.ntmps7
    go_wp2_with fail
    refine (Dk.new_any w).mono ?_
    rintro e w1 ⟨rfl, rfl⟩
    go_wp2_with fail
    refine N1.out.mono ?_
    rintro e w2 ⟨lg, v, rfl, L2⟩
    go_wp2_with fail
    go_loopw [4, 6, 7, 8, 48] (fun v4 v6 v7 v8 v48 wr => ∃ k : Nat, k ≤ l.length ∧ v48 = .int .i64 (k : Int) ∧ Stood w wr v4 v6 v7 v8) (fun _ _ _ _ v48 _ => l.length - (intOf v48).toNat)
    case atStart => exact ⟨0, Nat.zero_le _, rfl, lg, v, [], 0, rfl, rfl, rfl, Nat.le_refl _, ⟨L2, World.ownsRow_nil _ _ _ _, .inl rfl⟩⟩
    case round =>
      clear L2
      obtain ⟨k, hk, rfl, lg, v, recs, syn, rfl, rfl, rfl, hsy, T⟩ := hrel
      obtain ⟨Au, cu, rfl⟩ := rowSlice T.row
      by_cases hlt : k < l.length
      · obtain ⟨ad, e, hc⟩ := HR.out.2 (by omega)
        cases e
        obtain ⟨c0, c1, c2, c3⟩ := hc k l[k] (List.getElem?_eq_getElem hlt)
        rw [add_off ad _ 1 (by omega)] at c1
        rw [add_off ad _ 2 (by omega)] at c2
        rw [add_off ad _ 3 (by omega)] at c3
        obtain ⟨ok0, ok1, ok2, ok3⟩ := HOK.out l[k] (List.getElem_mem hlt)
        generalize l[k] = x at *
        obtain ⟨what, n, mask, y⟩ := x
        have d0 := pw_cell_below T.st.below c0
        have d1 := pw_cell_below T.st.below c1
        have d2 := pw_cell_below T.st.below c2
        have d3 := pw_cell_below T.st.below c3
        have HN := Lib.hid (bounds_i64 ok1)
        clear c0 c1 c2 c3 hc ok0 ok1 ok2
        have Bx : BSt w (wr.alloc (.cells #[.int .i64 what, .int .i64 n, .int .i64 mask, .string y] 50)) lg v (.slice Au recs.length cu) recs recs (allB (recs.take syn)).size syn wr.heap.size #[.int .i64 what, .int .i64 n, .int .i64 mask, .string y] :=
          ⟨T.move ((Below.refl _ wr).alloc (Nat.le_refl _) _), heap_alloc_new wr _⟩
        replace Bx := Lib.hid Bx
        replace T := Lib.hid T
        go_upto_block 2 with fail
        go_cut [4, 6, 7, 8] (fun v4 v6 v7 v8 wx => Mid w wx v4 v6 v7 v8 wr.heap.size #[.int .i64 what, .int .i64 n, .int .i64 mask, .string y])
        case first =>
          by_cases hw0 : what = 0 ∨ what = 1
          · have hmax := Bx.out.t.st.at_.file.max
            have hfew := Bx.out.t.st.at_.few
            obtain ⟨sy, hsz⟩ : ∃ sy, sy = (allB (recs.take syn)).size := ⟨_, rfl⟩
            rw [← hsz] at Bx
            have y0 : (wr.alloc (.cells #[.int .i64 what, .int .i64 n, .int .i64 mask, .string y] 50)).cell? ⟨wr.heap.size, 3, none⟩ = some (.string y) := Go.Joins.cell_of_block Bx.out.box 3
            replace hsz := Lib.hid hsz
            have hwB := Bx.out.t.st.below.size
            by_cases hy : y.size ≤ 9000
            · have ty : ¬ (9000 : Int) < (y.size : Int) := by omega
              by_cases hf : (allB recs).size + (y.size + 6) ≤ 1048576
              · as_aux_lemma =>
                  have tf : decide ((1048576 : Int) < ((allB recs).size : Int) + (y.size : Int) + 6) = false := by rw [decide_eq_false_iff_not]; omega
                  have A1 := Lib.hid (append_st w _ lg v recs sy syn y Bx.out.t.st HT.out hy hf)
                  have hadd := fun X => run_string_add_sum (P := Tryd.prog) X (allB recs) (writtenB recs.length y) (by rw [writtenB_size]; omega)
                  have R1 := Lib.hid (fun X => rwritten_any X recs.length y (by omega) hy)
                  obtain ⟨P, hP⟩ : ∃ P, P = allB recs ++ writtenB recs.length y := ⟨_, rfl⟩
                  rw [← hP] at hadd
                  replace hP := Lib.hid hP
                  replace hf := Lib.hid hf
                  have hrl : recs.length ≤ 200000 := by omega
                  replace hfew := Lib.hid hfew
                  rcases hw0 with rfl | rfl
                  all_goals
                    go_wp2_with fail
                    refine A1.out.mono ?_
                    rintro e w3 ⟨rfl, v', L3, K3, M3⟩
                    have B3 := Bx.out.turned L3 K3 M3
                    have y3 : w3.cell? ⟨wr.heap.size, 3, none⟩ = some (.string y) := Go.Joins.cell_of_block B3.box 3
                    replace B3 := Lib.hid B3
                    replace L3 := Lib.hid L3
                    replace K3 := Lib.hid K3
                    replace M3 := Lib.hid M3
                    go_wp2_with fail
                    refine (R1.out _).mono ?_
                    rintro e w4 ⟨rfl, hb4⟩
                    have B4 := B3.out.move hb4
                    have y4 : w4.cell? ⟨wr.heap.size, 3, none⟩ = some (.string y) := Go.Joins.cell_of_block B4.box 3
                    have r7 := B4.t.row.alloc (.cells #[.string y] 9)
                    have hw4 := B4.t.st.below.size
                    replace B4 := Lib.hid B4
                    replace hb4 := Lib.hid hb4
                    replace r7 := Lib.hid r7
                    go_wp2_with (at_builtin; refine wpList_append_own_at _ rfl _ _ 22 rfl w.heap.size 9 i0 (.string ⟨#[]⟩) 1 16 Tryd.underlying22 hi hz0 hz1 hz2 rfl (by decide) (.slice Au recs.length cu) recs.length (recs.map Value.string) rfl r7.out ⟨w4.heap.size, 0, none⟩ 1 1 [.string y] rfl rfl (cell_one_new _ _ _) (by simp [Value.oneCell']) ?h63 ?hbytes ?hbase ?_)
                    case h63 => simp [maxLen]; omega
                    case hbytes => omega
                    case hbase => simp; omega
                    intro u' w5 hown hgrow _ hat
                    have B5 := B4.out.told y hown hgrow hat
                    obtain ⟨Av, cv, rfl⟩ := rowSlice hown
                    replace B5 := Lib.hid B5
                    replace hown := Lib.hid hown
                    replace hgrow := Lib.hid hgrow
                    replace hat := Lib.hid hat
                    go_wp2
                    go_meet
                    exact ⟨lg, v', recs ++ [y], syn, rfl, by rw [hP.out, allB_snoc], rfl, by simp; omega, by rw [List.take_append_of_le_length hsy, ← hsz.out]; exact B5.out⟩
              · as_aux_lemma =>
                  have tf : (1048576 : Int) < ((allB recs).size : Int) + (y.size : Int) + 6 := by omega
                  have A1 := Lib.hid (lappend_full _ _ lg v _ _ recs syn y _ Bx.out.t.st.at_ (Bx.out.t.st.tab HT.out) hy (by omega))
                  clear hf
                  rcases hw0 with rfl | rfl
                  all_goals
                    go_wp2_with (go_at_call 11; refine A1.out.mono ?_; rintro e w3 ⟨rfl, hb3⟩; have B3 := Bx.out.move hb3; have y3 : w3.cell? ⟨wr.heap.size, 3, none⟩ = some (.string y) := Go.Joins.cell_of_block B3.box 3; replace B3 := Lib.hid B3; replace hb3 := Lib.hid hb3)
                    go_meet
                    exact ⟨lg, v, recs, syn, rfl, rfl, rfl, hsy, hsz.out ▸ B3.out⟩
            · as_aux_lemma =>
                have ty : (9000 : Int) < (y.size : Int) := by omega
                have hy2 := Lib.hid (show 9000 < y.size by omega)
                clear hy
                rcases hw0 with rfl | rfl
                all_goals
                  go_wp2_with (go_at_call 11; refine (lappend_long _ y _ hy2.out).mono ?_; rintro e w3 ⟨rfl, rfl⟩)
                  go_meet
                  exact ⟨lg, v, recs, syn, rfl, rfl, rfl, hsy, hsz.out ▸ Bx.out⟩
          · by_cases hw2 : what = 2
            · as_aux_lemma =>
                subst hw2
                have S1 := Lib.hid (sync_st w _ lg v recs _ syn Bx.out.t.st)
                go_wp2_with (go_at_call 21; refine S1.out.mono ?_; rintro e w3 ⟨rfl, L3, K3⟩)
                go_meet
                have B3 := Bx.out.turned L3 K3 (Moved.refl _ _)
                exact ⟨lg, v, recs, recs.length, rfl, rfl, rfl, Nat.le_refl _, by rw [List.take_length]; exact B3⟩
            · by_cases hw3 : what = 3
              · subst hw3
                have x1 : (wr.alloc (.cells #[.int .i64 3, .int .i64 n, .int .i64 mask, .string y] 50)).cell? ⟨wr.heap.size, 1, none⟩ = some (.int .i64 n) := Go.Joins.cell_of_block Bx.out.box 1
                have x2 : (wr.alloc (.cells #[.int .i64 3, .int .i64 n, .int .i64 mask, .string y] 50)).cell? ⟨wr.heap.size, 2, none⟩ = some (.int .i64 mask) := Go.Joins.cell_of_block Bx.out.box 2
                obtain ⟨sy, hsz⟩ : ∃ sy, sy = (allB (recs.take syn)).size := ⟨_, rfl⟩
                rw [← hsz] at Bx T
                have hwB := Bx.out.t.st.below.size
                have hmax := Bx.out.t.st.at_.file.max
                have hfew := Bx.out.t.st.at_.few
                have hrl : recs.length ≤ 200000 := by omega
                by_cases hcr : 0 ≤ n ∧ n ≤ ((allB recs).size : Int) - sy ∧ 0 ≤ mask ∧ mask ≤ 255
                · as_aux_lemma =>
                    obtain ⟨N, rfl⟩ : ∃ N : Nat, n = (N : Int) := ⟨n.toNat, by omega⟩
                    obtain ⟨M, rfl⟩ : ∃ M : Nat, mask = (M : Int) := ⟨mask.toNat, by omega⟩
                    have hN1 : sy + N ≤ (allB recs).size := by have := Bx.out.t.st.at_.file.le; omega
                    have hM1 : M ≤ 255 := by omega
                    have C1 := Lib.hid (Dk.crash_any _ _ (allB recs) sy N M _ Bx.out.t.st.at_.file hM1 hN1)
                    have TO := Lib.hid (torn_of (allB recs) sy N M hN1 hM1)
                    replace hsz := Lib.hid hsz
                    replace hmax := Lib.hid hmax
                    clear hcr
                    go_wp2_with fail
                    refine C1.out.mono ?_
                    rintro e w4 ⟨rfl, F4, K4⟩
                    have B4 := K4.below Bx.out.t.st.below (Nat.le_refl _) hwB
                    have r4 := rowKept Bx.out.t.row K4 Bx.out.t.st.at_.file
                    have b4 := boxKeeps Bx.out.box Bx.out.t.st.at_.file K4
                    obtain ⟨C, hC⟩ : ∃ C, C = Dk.crashed (allB recs) sy N M := ⟨_, rfl⟩
                    rw [← hC] at F4
                    rw [← hC] at TO
                    have Y4 := Lib.hid (Dk.bytes_any _ _ C _ w4 F4)
                    have R4 := Lib.hid (rread_any w4 C (by have := F4.max; omega))
                    replace hC := Lib.hid hC
                    replace B4 := Lib.hid B4
                    replace r4 := Lib.hid r4
                    replace b4 := Lib.hid b4
                    replace F4 := Lib.hid F4
                    replace K4 := Lib.hid K4
                    clear C1
                    go_wp2_with fail
                    refine Y4.out.mono ?_
                    rintro e w5 ⟨rfl, rfl⟩
                    go_wp2_with fail
                    refine R4.out.mono ?_
                    rintro e w5 ⟨rv, rfl, r5, hb5⟩
                    obtain ⟨Ar, cr, rfl⟩ := rowSlice r5
                    obtain ⟨at9, h9⟩ : ∃ at9, at9 = endOf (toldB C) := ⟨_, rfl⟩
                    have hb6 := below_alloc hb5 (.cells #[.slice Ar (toldB C).length cr, .int .i64 (at9 : Int)] 41)
                    have B6 := below_then B4.out B4.out.size hb6
                    have F6 := fileBelow F4.out hb6
                    have r6 := pw_own_below r4.out hb6
                    have b6 := (hb6.block wr.heap.size (Array.getElem?_eq_some_iff.1 b4.out).1).trans b4.out
                    have q6 := r5.alloc (.cells #[.slice Ar (toldB C).length cr, .int .i64 (at9 : Int)] 41)
                    have t6 : (w5.alloc (.cells #[.slice Ar (toldB C).length cr, .int .i64 (at9 : Int)] 41)).heap[w5.heap.size]? = some (.cells #[.slice Ar (toldB C).length cr, .int .i64 (at9 : Int)] 41 (0, 0)) := heap_alloc_new w5 _
                    have hw5 := hb5.size
                    have hw4 := B4.out.size
                    have P6 := Lib.hid (reopen w _ recs C _ _ F6 B6 HT.out Bx.out.t.st.small TO.out)
                    rw [← h9]
                    replace h9 := Lib.hid h9
                    replace r5 := Lib.hid r5
                    replace hb5 := Lib.hid hb5
                    replace hb6 := Lib.hid hb6
                    replace B6 := Lib.hid B6
                    replace F6 := Lib.hid F6
                    replace r6 := Lib.hid r6
                    replace b6 := Lib.hid b6
                    replace q6 := Lib.hid q6
                    replace t6 := Lib.hid t6
                    clear Y4 R4
                    go_wp2_with fail
                    refine P6.out.mono ?_
                    rintro e w7 ⟨lg', v', j, rfl, j1, L7, j2, j3, fr7, K7⟩
                    have r7 := rowKept r6.out K7 F6.out
                    have q7 := rowKept q6.out K7 F6.out
                    have b7 := boxKeeps b6.out F6.out K7
                    have t7 := (K7.block w5.heap.size (Array.getElem?_eq_some_iff.1 t6.out).1 (by rintro e; have := (Array.getElem?_eq_some_iff.1 b6.out).1; obtain ⟨⟨u, hu, -⟩, -⟩ := F6.out; rw [← e] at hu; rw [t6.out] at hu; cases hu) (.inr fun c e => by rw [t6.out] at e; cases e)).trans t6.out
                    have hjn : syn ≤ j := j2 syn hsy (by rw [← hsz.out]; omega)
                    obtain ⟨R, hR⟩ : ∃ R, R = recs.take j := ⟨_, rfl⟩
                    have hRj : j = R.length := by rw [hR, List.length_take, Nat.min_eq_left j1]
                    have h9b : at9 = (allB R).size := by rw [h9.out, j3, endOf_all, hR]
                    have hPe : (allB recs).extract 0 at9 = allB R := by
                      have h2 : allB recs = allB (recs.take j) ++ allFrom (0 + (recs.take j).length) (recs.drop j) := by rw [allB, allB, ← allFrom_app, List.take_append_drop]
                      rw [h9b, h2, ← hR, ext_l _ _ _ _ (Nat.le_refl _), ext_whole _ _ (Nat.le_refl _)]
                    have h9l : at9 ≤ (allB recs).size := by
                      have h2 : allB recs = allB (recs.take j) ++ allFrom (0 + (recs.take j).length) (recs.drop j) := by rw [allB, allB, ← allFrom_app, List.take_append_drop]
                      have h3 := congrArg ByteArray.size h2
                      rw [app_size, ← hR] at h3
                      omega
                    have hTl : (toldB C).length = R.length := by rw [j3, endsFrom_length, hR]
                    have hTm : ((toldB C).map fun x => Value.string x.1) = R.map Value.string := by
                      rw [hR, ← endsFrom_map 0 (recs.take j), List.map_map, j3]
                      rfl
                    have ap7 : Apart (.slice Ar (toldB C).length cr) v' := apart_fresh q6.out (fun k hk => fr7 k hk)
                    rw [hTl] at ap7
                    rw [hTl, hTm] at q7
                    rw [hTl] at t7
                    rw [hTl]
                    rw [← hR] at L7
                    have hR2 : recs.take R.length = R := by rw [← hRj]; exact hR.symm
                    subst hRj
                    have s7 : w7.cell? ⟨w5.heap.size, 0, none⟩ = some (.slice Ar R.length cr) := Go.Joins.cell_of_block t7 0
                    have s8 : w7.cell? ⟨w5.heap.size, 1, none⟩ = some (.int .i64 (at9 : Int)) := Go.Joins.cell_of_block t7 1
                    have ru : w7.ownsRow w.heap.size 9 1 (.slice Au R.length cu) R.length (R.map Value.string) := by
                      have := rowTake r7 R.length j1
                      rw [hR2] at this
                      exact this
                    have X7 := fun m => texts_any Ar cr R Au cu R (w7.drewN m) _ _ (pw_own_below q7 (pw_below_drewN (Below.refl _ w7) m)) (pw_own_below ru (pw_below_drewN (Below.refl _ w7) m)) (by omega)
                    rw [show decide (R = R) = true by simp] at X7
                    have SL := fun X => slice_row X Au recs.length cu R.length (Nat.le_trans j1 (rowC r7).2)
                    have d0 : decide ((R.length : Int) < (syn : Int)) = false := by simp; omega
                    have d1 : decide (R.length < syn) = false := by simp; omega
                    have d2 : decide (recs.length < R.length) = false := by simp; omega
                    have d3 : decide ((recs.length : Int) < (R.length : Int)) = false := by simp; omega
                    have d4 : ¬ R.length < syn := by omega
                    have d5 : ¬ recs.length < R.length := by omega
                    have N7 : BSt w w7 lg' v' (.slice Ar R.length cr) R R (allB R).size R.length wr.heap.size #[.int .i64 3, .int .i64 (N : Int), .int .i64 (M : Int), .string y] :=
                      ⟨⟨L7, rowBase (by omega) q7, ap7⟩, b7⟩
                    replace X7 := Lib.hid X7
                    replace L7 := Lib.hid L7
                    replace N7 := Lib.hid N7
                    replace r7 := Lib.hid r7
                    replace q7 := Lib.hid q7
                    replace b7 := Lib.hid b7
                    replace t7 := Lib.hid t7
                    replace ru := Lib.hid ru
                    replace hR := Lib.hid hR
                    replace hR2 := Lib.hid hR2
                    replace hTl := Lib.hid hTl
                    replace hTm := Lib.hid hTm
                    replace hPe := Lib.hid hPe
                    replace h9b := Lib.hid h9b
                    replace j2 := Lib.hid j2
                    replace j3 := Lib.hid j3
                    replace fr7 := Lib.hid fr7
                    replace K7 := Lib.hid K7
                    clear P6
                    go_wp2_with fail
                    go_quiet ((go_at_call 19; exact Calls.quiet_of (X7.out _)))
                    go_wp2
                    go_meet
                    exact ⟨lg', v', R, R.length, rfl, by rw [hPe.out], rfl, Nat.le_refl _, by rw [List.take_length]; exact N7.out.move (pw_below_drewN (Below.refl _ w7) _)⟩
                · as_aux_lemma =>
                    have GC := Lib.hid (Dk.guard_crash _ _ (allB recs) sy n mask _ Bx.out.t.st.at_.file hcr HN.out)
                    replace hsz := Lib.hid hsz
                    clear hcr
                    go_wp2_with fail
                    refine GC.out.mono ?_
                    rintro e w4 ⟨rfl, m4, rfl⟩
                    have T4 := Bx.out.t.move (pw_below_drewN (Below.refl _ _) m4)
                    replace T4 := Lib.hid T4
                    go_wp2
                    exact ⟨⟨k + 1, by omega, by go_num, lg, v, recs, syn, rfl, rfl, rfl, hsy, hsz.out ▸ T4.out⟩, by simp [intOf]; omega⟩
              · as_aux_lemma =>
                  have b0 : (what == 0) = false := by simp; omega
                  have b1 : (what == 1) = false := by simp; omega
                  have b2 : (what == 2) = false := by simp; omega
                  have b3 : (what == 3) = false := by simp; omega
                  clear hw0 hw2 hw3
                  go_wp2_with fail
                  go_meet
                  exact ⟨lg, v, recs, syn, rfl, rfl, rfl, hsy, Bx.out⟩
        case rest =>
          obtain ⟨lg, v, recs, syn, rfl, rfl, rfl, hsy, Bx⟩ := hcut
          obtain ⟨Aw, cw, rfl⟩ := rowSlice Bx.t.row
          have C1 := Lib.hid (llen_any _ _ _ _ _ _ _ _ _ Bx.t.st.at_)
          have hmax := Bx.t.st.at_.file.max
          have hfew := Bx.t.st.at_.few
          have hrl : recs.length ≤ 200000 := by omega
          have x1 : World.cell? _ ⟨wr.heap.size, 1, none⟩ = some (Value.int .i64 n) := Go.Joins.cell_of_block Bx.box 1
          clear hmax hfew
          by_cases hn0 : n < 0
          · as_aux_lemma =>
              have e0 : decide (0 ≤ n) = false := by rw [decide_eq_false_iff_not]; omega
              replace Bx := Lib.hid Bx
              go_wp2_with fail
              refine C1.out.mono ?_
              rintro e w3 ⟨rfl, m3, rfl⟩
              have B3 := Bx.out.move (pw_below_drewN (Below.refl _ _) m3)
              have Y3 := Lib.hid (Dk.bytes_any _ _ _ _ _ B3.t.st.at_.file)
              have Q3 := Lib.hid (records_any _ _ _ _ _ _ _ _ _ B3.t.st.at_)
              have G3 := Lib.hid (get_no _ _ _ _ _ _ _ _ n _ B3.t.st.at_ (.inl hn0))
              replace B3 := Lib.hid B3
              go_wp2_with fail
              refine G3.out.mono ?_
              rintro e w4 ⟨rfl, rfl⟩
              go_wp2_with fail
              refine Y3.out.mono ?_
              rintro e w4 ⟨rfl, rfl⟩
              go_wp2_with fail
              refine Q3.out.mono ?_
              rintro e w6 ⟨zv, rfl, r6, hb6⟩
              have B6 := B3.out.move hb6
              obtain ⟨Az, cz, rfl⟩ := rowSlice r6
              have X6 := texts_any Az cz recs Aw cw recs w6 _ _ r6 B6.t.row (by omega)
              rw [show decide (recs = recs) = true by simp] at X6
              have x6 : w6.cell? ⟨wr.heap.size, 1, none⟩ = some (.int .i64 n) := Go.Joins.cell_of_block B6.box 1
              replace X6 := Lib.hid X6
              replace B6 := Lib.hid B6
              replace r6 := Lib.hid r6
              replace hb6 := Lib.hid hb6
              go_wp2_with (go_at_call 19; refine X6.out.mono ?_; rintro e w7 ⟨rfl, m7, rfl⟩)
              exact ⟨⟨k + 1, by omega, by go_num, lg, v, recs, syn, rfl, rfl, rfl, hsy, B6.out.t.move (pw_below_drewN (Below.refl _ w6) m7)⟩, by simp [intOf]; omega⟩
          · by_cases hn1 : (recs.length : Int) ≤ n
            · as_aux_lemma =>
                have e0 : decide (0 ≤ n) = true := by rw [decide_eq_true_eq]; omega
                have e1 : decide (n < (recs.length : Int)) = false := by rw [decide_eq_false_iff_not]; omega
                replace Bx := Lib.hid Bx
                go_wp2_with fail
                refine C1.out.mono ?_
                rintro e w3 ⟨rfl, m3, rfl⟩
                have B3 := Bx.out.move (pw_below_drewN (Below.refl _ _) m3)
                have Y3 := Lib.hid (Dk.bytes_any _ _ _ _ _ B3.t.st.at_.file)
                have Q3 := Lib.hid (records_any _ _ _ _ _ _ _ _ _ B3.t.st.at_)
                have G3 := Lib.hid (get_no _ _ _ _ _ _ _ _ n _ B3.t.st.at_ (.inr hn1))
                replace B3 := Lib.hid B3
                go_wp2_with fail
                refine G3.out.mono ?_
                rintro e w4 ⟨rfl, rfl⟩
                go_wp2_with fail
                refine Y3.out.mono ?_
                rintro e w4 ⟨rfl, rfl⟩
                go_wp2_with fail
                refine Q3.out.mono ?_
                rintro e w6 ⟨zv, rfl, r6, hb6⟩
                have B6 := B3.out.move hb6
                obtain ⟨Az, cz, rfl⟩ := rowSlice r6
                have X6 := texts_any Az cz recs Aw cw recs w6 _ _ r6 B6.t.row (by omega)
                rw [show decide (recs = recs) = true by simp] at X6
                have x6 : w6.cell? ⟨wr.heap.size, 1, none⟩ = some (.int .i64 n) := Go.Joins.cell_of_block B6.box 1
                replace X6 := Lib.hid X6
                replace B6 := Lib.hid B6
                replace r6 := Lib.hid r6
                replace hb6 := Lib.hid hb6
                go_wp2_with (go_at_call 19; refine X6.out.mono ?_; rintro e w7 ⟨rfl, m7, rfl⟩)
                exact ⟨⟨k + 1, by omega, by go_num, lg, v, recs, syn, rfl, rfl, rfl, hsy, B6.out.t.move (pw_below_drewN (Below.refl _ w6) m7)⟩, by simp [intOf]; omega⟩
            · as_aux_lemma =>
                obtain ⟨n, rfl⟩ : ∃ m : Nat, n = (m : Int) := ⟨n.toNat, by omega⟩
                have hnl : n < recs.length := by omega
                clear hn1
                have e1 : decide (n < recs.length) = true := by simp [hnl]
                replace Bx := Lib.hid Bx
                go_wp2_with fail
                refine C1.out.mono ?_
                rintro e w3 ⟨rfl, m3, rfl⟩
                have B3 := Bx.out.move (pw_below_drewN (Below.refl _ _) m3)
                have Y3 := Lib.hid (Dk.bytes_any _ _ _ _ _ B3.t.st.at_.file)
                have Q3 := Lib.hid (records_any _ _ _ _ _ _ _ _ _ B3.t.st.at_)
                have G3 := Lib.hid (get_yes _ _ _ _ _ _ _ _ n _ B3.t.st.at_ hnl)
                replace B3 := Lib.hid B3
                go_wp2_with fail
                refine G3.out.mono ?_
                rintro e w4 ⟨rfl, rfl⟩
                go_wp2_with fail
                refine Y3.out.mono ?_
                rintro e w4 ⟨rfl, rfl⟩
                go_wp2_with fail
                refine Q3.out.mono ?_
                rintro e w6 ⟨zv, rfl, r6, hb6⟩
                have B6 := B3.out.move hb6
                obtain ⟨Az, cz, rfl⟩ := rowSlice r6
                have X6 := texts_any Az cz recs Aw cw recs w6 _ _ r6 B6.t.row (by omega)
                rw [show decide (recs = recs) = true by simp] at X6
                have x6 : w6.cell? ⟨wr.heap.size, 1, none⟩ = some (.int .i64 (n : Int)) := Go.Joins.cell_of_block B6.box 1
                obtain ⟨kb, rfl, z6⟩ := rowCell B6.t.row n hnl
                generalize recs[n] = rn at z6
                replace X6 := Lib.hid X6
                replace B6 := Lib.hid B6
                replace r6 := Lib.hid r6
                replace hb6 := Lib.hid hb6
                go_wp2_with (go_at_call 19; refine X6.out.mono ?_; rintro e w7 ⟨rfl, m7, rfl⟩)
                exact ⟨⟨k + 1, by omega, by go_num, lg, v, recs, syn, rfl, rfl, rfl, hsy, B6.out.t.move (pw_below_drewN (Below.refl _ w6) m7)⟩, by simp [intOf]; omega⟩
      · as_aux_lemma =>
          have HB := Lib.hid T.st.below
          have O3 := Lib.hid (O1.out wr T.st.below)
          replace T := Lib.hid T
          go_wp2_with fail
          refine O3.out.mono ?_
          rintro e w3 ⟨rfl, hb3⟩
          replace hb3 := Lib.hid hb3
          go_wp2
          go_ret
          exact ⟨rfl, below_then HB.out HB.out.size hb3.out⟩
  · as_aux_lemma =>
      have t1 : (100 : Int) < (l.length : Int) := by omega
      go_enter Tryd.func7, Tryd.ntmps7
      go_wp2_with fail
      refine (Dk.new_any w).mono ?_
      rintro e w1 ⟨rfl, rfl⟩
      go_wp2_with fail
      refine N1.out.mono ?_
      rintro e w2 ⟨lg, v, rfl, L2⟩
      have O3 := Lib.hid (O1.out w2 L2.below)
      replace L2 := Lib.hid L2
      go_wp2_with fail
      refine O3.out.mono ?_
      rintro e w3 ⟨rfl, hb3⟩
      replace hb3 := Lib.hid hb3
      go_wp2
      go_ret
      exact ⟨rfl, below_then L2.out.below L2.out.below.size hb3.out⟩
end Go.Proofs.YtmlfheagbfaoaaaDoor
