/- The law AgendaOnce, walked. -/
import Derived.Test.YtmanlmhiiijlmaaTel
namespace Go.Proofs.Ytmanlmhiiijlmaa
open Go.RowKit Go.Proofs.YtmanlmhiiijlmaaW.PrintWords Go.Lib
theorem info3 : (Try.prog.info? 3).map (fun i => (i.zero, i.size, i.bytes)) = some (some (.int .i64 0), 1, 8) := by kernel_rfl
/-- An agenda beside a row that tells each ticket's moment. -/
structure OSt (w wr : World) (ab pb mb : Nat) (v u : Value) (L : List En) (last : Nat) (M : List Int) : Prop where
  ag : Ag w wr ab pb mb v L last
  tell : Tell L M
  len : M.length = last + 1
  row : wr.ownsRow w.heap.size 3 1 u M.length (rowI M)
/-- How it stands ahead of a step. -/
structure Onc (w wr : World) (ab pb mb : Nat) (u : Value) (k : Nat) : Prop where
  out : ∃ v L last M, OSt w wr ab pb mb v u L last M ∧ last ≤ k
theorem OSt.move {w w' w2 : World} {ab pb mb : Nat} {v u : Value} {L : List En} {last : Nat} {M : List Int} (h : OSt w w' ab pb mb v u L last M) (hb : Below w'.heap.size w' w2) : OSt w w2 ab pb mb v u L last M :=
  ⟨h.ag.move hb, h.tell, h.len, pw_own_below h.row hb⟩
theorem OSt.lt {w w' : World} {ab pb mb : Nat} {v u : Value} {L : List En} {last : Nat} {M : List Int} (h : OSt w w' ab pb mb v u L last M) {e : En} (he : e ∈ L) : ∃ t : Nat, e.1 = (t : Int) ∧ 1 ≤ t ∧ t < M.length ∧ M[t]? = some e.2.1 := by
  have h1 := h.ag.at_.tick e he
  have h2 := (h.tell.1 e he).2
  have h3 := h.len
  refine ⟨e.1.toNat, by omega, by omega, by omega, h2⟩
theorem OSt.turned {w w' w2 : World} {ab pb mb : Nat} {v u : Value} {L : List En} {last : Nat} {M : List Int} (h : OSt w w' ab pb mb v u L last M) (hk : AK ab pb mb v w' w2) : w2.ownsRow w.heap.size 3 1 u M.length (rowI M) :=
  hk.rowOther h.ag.at_ h.row (by decide) (by decide) (by decide)
/-- The row written at a place. -/
theorem row_set {w wr : World} {ab pb mb last g c : Nat} {v : Value} {L : List En} {M : List Int} (hA : Ag w wr ab pb mb v L last) (hr : wr.ownsRow w.heap.size 3 1 (.slice (some ⟨g, 0, none⟩) M.length c) M.length (rowI M)) (i : Nat) (a : Int) :
    Ag w (wr.setCell ⟨g, i, none⟩ (.int .i64 a)) ab pb mb v L last ∧ (wr.setCell ⟨g, i, none⟩ (.int .i64 a)).ownsRow w.heap.size 3 1 (.slice (some ⟨g, 0, none⟩) (M.set i a).length c) (M.set i a).length (rowI (M.set i a)) := by
  obtain ⟨r1, g1⟩ := World.ownsRow.stored hr i (.int .i64 a)
  rw [rowI_set] at r1
  refine ⟨⟨hA.at_.grown hr g1 (by decide) (by decide) (by decide), below_grown hA.below hA.below.size hr g1⟩, ?_⟩
  rw [List.length_set]
  exact r1
theorem put_no (w' : World) (B ab pb mb : Nat) (v : Value) (L : List En) (last : Nat) (h : AgAt w' B ab pb mb v L last) (a : Int) (s : ByteArray) (hn : ¬ (momB a = true ∧ L.length < 512)) :
    Calls Try.prog 12 #[.pointer (some ⟨ab, 0, none⟩), .int .i64 a, .string s] w' fun e w2 => ∃ ec : Int, e = .returned (.tuple #[.int .i64 0, .int .i64 ec]) ∧ (ec == 0) = false ∧ w' = w2 := by
  by_cases hm : momB a = true
  · refine (put_full w' _ ab pb mb v L last h a s hm (by have := h.few; have : ¬ L.length < 512 := fun e => hn ⟨hm, e⟩; omega)).mono ?_
    rintro e w2 ⟨rfl, rfl⟩
    exact ⟨5, rfl, rfl, rfl⟩
  · refine (put_bad w' _ a s (by simpa using hm)).mono ?_
    rintro e w2 ⟨rfl, rfl⟩
    exact ⟨1, rfl, rfl, rfl⟩
theorem move_no (w' : World) (B ab pb mb : Nat) (v : Value) (L : List En) (last : Nat) (h : AgAt w' B ab pb mb v L last) (t a : Int) (hn : ¬ (momB a = true ∧ ∃ x ∈ L, x.1 = t)) :
    Calls Try.prog 14 #[.pointer (some ⟨ab, 0, none⟩), .int .i64 t, .int .i64 a] w' fun e w2 => ∃ ec : Int, e = .returned (.int .i64 ec) ∧ (ec == 0) = false ∧ w' = w2 := by
  by_cases hb : t < 1 ∨ momB a = false
  · refine (move_bad w' _ t a hb).mono ?_
    rintro e w2 ⟨rfl, rfl⟩
    exact ⟨1, rfl, rfl, rfl⟩
  · have hm : momB a = true := by
      cases hh : momB a with
      | true => rfl
      | false => exact absurd (.inr hh) hb
    refine (move_none w' _ ab pb mb v L last h t a (fun e => hb (.inl e)) hm fun e he ee => hn ⟨hm, e, he, ee⟩).mono ?_
    rintro e w2 ⟨rfl, rfl⟩
    exact ⟨6, rfl, rfl, rfl⟩
theorem mem_tw {now : Int} {e : En} : ∀ {L : List En}, e ∈ L.takeWhile (due now) → due now e = true
  | [], h => by simp at h
  | x :: L, h => by
    rw [List.takeWhile_cons] at h
    by_cases hd : due now x = true
    · rw [if_pos hd] at h
      rcases List.mem_cons.1 h with rfl | h
      · exact hd
      · exact mem_tw h
    · rw [if_neg hd] at h
      simp at h
theorem late {now : Int} : ∀ {L : List En}, Sorted L → ∀ e ∈ L.dropWhile (due now), due now e = false
  | [], _, e, he => by simp at he
  | x :: L, h, e, he => by
    rw [List.dropWhile_cons] at he
    by_cases hd : due now x = true
    · rw [if_pos hd] at he
      exact late (List.pairwise_cons.1 h).2 e he
    · rw [if_neg hd] at he
      have hx : due now x = false := by simpa using hd
      rcases List.mem_cons.1 he with rfl | he
      · exact hx
      · have h1 := (ltE_iff _ _).1 ((List.pairwise_cons.1 h).1 e he)
        unfold due at hx ⊢
        simp only [decide_eq_false_iff_not] at hx ⊢
        omega
theorem tell_late {R : List En} {M : List Int} {now : Int} (h : Tell R M) (hl : ∀ e ∈ R, due now e = false) (i : Nat) (m : Int) (hi : M[i]? = some m) : m < 0 ∨ now < m := by
  by_cases hx : ∃ e ∈ R, e.1 = (i : Int)
  · obtain ⟨e, he, ee⟩ := hx
    have h1 := (h.1 e he).2
    rw [ee, Int.toNat_natCast, hi] at h1
    have h2 := hl e he
    unfold due at h2
    simp only [decide_eq_false_iff_not] at h2
    have := Option.some.inj h1
    omega
  · have := h.2 i (List.getElem?_eq_some_iff.1 hi).1 (fun e he ee => hx ⟨e, he, ee⟩)
    rw [hi] at this
    have := Option.some.inj this
    omega
/-- How it stands in the middle of what was told. -/
structure In1 (w wz : World) (ab pb mb : Nat) (v u : Value) (R : List En) (last : Nat) (T : List En) (j bx n₀ : Nat) (u2 : Value) (cs : Array Value) (M' : List Int) : Prop where
  ag : Ag w wz ab pb mb v R last
  tell : Tell (T.drop j ++ R) M'
  len : M'.length = last + 1
  row : wz.ownsRow w.heap.size 3 1 u M'.length (rowI M')
  told : wz.ownsRow n₀ 34 3 u2 T.length (flat T)
  box : wz.heap[bx]? = some (.cells cs 31 (0, 0))
structure In1s (w wz : World) (ab pb mb : Nat) (v : Value) (R : List En) (last : Nat) (T : List En) (j bx n₀ : Nat) (u2 : Value) (cs : Array Value) (A : Option Addr) (n cu : Nat) : Prop where
  out : ∃ M', In1 w wz ab pb mb v (.slice A n cu) R last T j bx n₀ u2 cs M'
theorem In1.move {w wz w2 : World} {ab pb mb : Nat} {v u : Value} {R : List En} {last : Nat} {T : List En} {j bx n₀ : Nat} {u2 : Value} {cs : Array Value} {M' : List Int} (h : In1 w wz ab pb mb v u R last T j bx n₀ u2 cs M') (hb : Below wz.heap.size wz w2) : In1 w w2 ab pb mb v u R last T j bx n₀ u2 cs M' :=
  ⟨h.ag.move hb, h.tell, h.len, pw_own_below h.row hb, pw_own_below h.told hb, (hb.block bx (Array.getElem?_eq_some_iff.1 h.box).1).trans h.box⟩
/-- One told entry's moment struck. -/
theorem In1.struck {w wz : World} {ab pb mb : Nat} {v : Value} {R : List En} {last : Nat} {T : List En} {j bx n₀ g cu n : Nat} {u2 : Value} {cs : Array Value} {M' : List Int} (h : In1 w wz ab pb mb v (.slice (some ⟨g, 0, none⟩) M'.length cu) R last T j bx n₀ u2 cs M') {x : En} (hx : T[j]? = some x) (hn : x.1 = (n : Int)) (hnl : n < M'.length) (hd : ((T ++ R).map (·.1)).Nodup) :
    In1 w (wz.setCell ⟨g, n, none⟩ (.int .i64 (-1))) ab pb mb v (.slice (some ⟨g, 0, none⟩) (M'.set n (-1)).length cu) R last T (j + 1) bx n₀ u2 cs (M'.set n (-1)) := by
  obtain ⟨r1, g1⟩ := World.ownsRow.stored h.row n (.int .i64 (-1))
  obtain ⟨a1, a2⟩ := row_set h.ag h.row n (-1)
  have hjl := (List.getElem?_eq_some_iff.1 hx).1
  have e1 : T.drop j = x :: T.drop (j + 1) := by
    rw [List.drop_eq_getElem_cons hjl]
    rw [List.getElem?_eq_getElem hjl] at hx
    rw [Option.some.inj hx]
  have htell := h.tell
  rw [e1, List.cons_append] at htell
  have hnd : ∀ e ∈ T.drop (j + 1) ++ R, e.1 ≠ x.1 := by
    have h1 : (((T.take j) ++ ((x :: T.drop (j + 1)) ++ R)).map (·.1)).Nodup := by
      rw [← e1, ← List.append_assoc, List.take_append_drop]
      exact hd
    rw [List.map_append, List.cons_append, List.map_cons] at h1
    have h2 := (List.nodup_cons.1 (List.nodup_append.1 h1).2.1).1
    intro e he ee
    exact h2 (by rw [← ee]; exact List.mem_map_of_mem he)
  refine ⟨a1, tell_head htell n hn hnl hnd, by rw [List.length_set]; exact h.len, a2, ?_, ?_⟩
  · refine ⟨h.told.1, ?_⟩
    rcases h.told.2 with h2 | ⟨k, cap, cur, e1, e2, e3, e4⟩
    · exact .inl h2
    · refine .inr ⟨k, cap, cur, e1, e2, (Below.heap_setCell wz ⟨g, n, none⟩ _ k ?_).trans e3, e4⟩
      rintro rfl
      obtain ⟨cs', hc⟩ := own_typed h.row k rfl
      rw [e3] at hc
      injection hc with hc
      injection hc with _ hc
      exact absurd hc (by decide)
  · refine (Below.heap_setCell wz ⟨g, n, none⟩ _ bx ?_).trans h.box
    rintro rfl
    obtain ⟨cs', hc⟩ := own_typed h.row bx rfl
    rw [h.box] at hc
    injection hc with hc
    injection hc with _ hc
    exact absurd hc (by decide)
set_option maxRecDepth 100000 in
set_option maxHeartbeats 64000000 in
theorem law_AgendaOnce (A : Option Addr) (c : Nat) (l : List (Int × Int × Int × ByteArray)) (w : World) (_hl : l.length ≤ 140737488351232) (hok : ∀ x ∈ l, StepOk x) (hr : Steps4 w A l) (_hc : l.length ≤ c) :
    Calls Try.prog 4 #[.slice A l.length c] w fun e w' => e = .returned (.bool true) ∧ Below w.heap.size w w' := by
  have C8 := Lib.hid (fun X => three_any X)
  have HR := Lib.hid hr
  have HOK := Lib.hid hok
  clear hr hok
  obtain ⟨i0, hi, hz0, hz1, hz2⟩ := info_parts info3
  by_cases h300 : l.length ≤ 300
  · have t1 : ¬ (300 : Int) < (l.length : Int) := by omega
    go_enter Try.func4, Try.ntmps4
    go_wp2_with fail
    refine (new_any w).mono ?_
    rintro e w1 ⟨ab, pb, mb, rfl, A1, B1⟩
    replace A1 := Lib.hid A1
    replace B1 := Lib.hid B1
    go_wp2_with fail
    have st0 : Onc w (w1.alloc (.cells #[.int .i64 (-1)] 3)) ab pb mb (.slice (some ⟨w1.heap.size, 0, none⟩) 1 1) 0 := by
      have b1 := (Below.refl _ w1).alloc (Nat.le_refl _) (.cells #[.int .i64 (-1)] 3)
      refine ⟨_, [], 0, [-1], ⟨⟨A1.out.move b1, below_trans B1.out B1.out.size b1⟩, tell_nil, rfl, ?_⟩, Nat.le_refl _⟩
      exact ⟨rfl, .inr ⟨w1.heap.size, 1, #[.int .i64 (-1)], rfl, B1.out.size, heap_alloc_new w1 _, Nat.le_refl _, by decide, rfl, rfl⟩⟩
    replace st0 := Lib.hid st0
    go_loopg [4, 33] l.length (fun gk v4 v33 wr => ∃ k : Nat, k ≤ l.length ∧ gk = l.length - k ∧ v33 = .int .i64 (k : Int) ∧ Onc w wr ab pb mb v4 k)
    case atStart => exact ⟨0, Nat.zero_le _, rfl, rfl, st0.out⟩
    case round =>
      obtain ⟨k, hk, rfl, rfl, v, L, last, M, hS, hlast⟩ := hrel
      obtain ⟨Au, cu, rfl⟩ := rowSlice hS.row
      clear st0
      by_cases hlt : k < l.length
      · obtain ⟨ad, e, hc⟩ := HR.out.2 (by omega)
        cases e
        obtain ⟨c0, c1, c2, c3⟩ := hc k l[k] (List.getElem?_eq_getElem hlt)
        rw [add_off ad _ 1 (by omega)] at c1
        rw [add_off ad _ 2 (by omega)] at c2
        rw [add_off ad _ 3 (by omega)] at c3
        obtain ⟨ok0, ok1, ok2, ok3⟩ := HOK.out l[k] (List.getElem_mem hlt)
        generalize l[k] = x at *
        obtain ⟨what, a, t, s⟩ := x
        have HT := Lib.hid (bounds_i64 ok2)
        clear ok0 ok1 ok2 ok3
        have d0 := pw_cell_below hS.ag.below c0
        have d1 := pw_cell_below hS.ag.below c1
        have d2 := pw_cell_below hS.ag.below c2
        have d3 := pw_cell_below hS.ag.below c3
        clear c0 c1 c2 c3 hc
        have hS2 := hS.move ((Below.refl _ wr).alloc (Nat.le_refl _) (.cells #[.int .i64 what, .int .i64 a, .int .i64 t, .string s] 31))
        have n0 : (wr.alloc (.cells #[.int .i64 what, .int .i64 a, .int .i64 t, .string s] 31)).heap[wr.heap.size]? = some (.cells #[.int .i64 what, .int .i64 a, .int .i64 t, .string s] 31 (0, 0)) := heap_alloc_new wr _
        have e0 : (wr.alloc (.cells #[.int .i64 what, .int .i64 a, .int .i64 t, .string s] 31)).cell? ⟨wr.heap.size, 0, none⟩ = some (.int .i64 what) := Go.Joins.cell_of_block n0 0
        have e1 : (wr.alloc (.cells #[.int .i64 what, .int .i64 a, .int .i64 t, .string s] 31)).cell? ⟨wr.heap.size, 1, none⟩ = some (.int .i64 a) := Go.Joins.cell_of_block n0 1
        have e2 : (wr.alloc (.cells #[.int .i64 what, .int .i64 a, .int .i64 t, .string s] 31)).cell? ⟨wr.heap.size, 2, none⟩ = some (.int .i64 t) := Go.Joins.cell_of_block n0 2
        have e3 : (wr.alloc (.cells #[.int .i64 what, .int .i64 a, .int .i64 t, .string s] 31)).cell? ⟨wr.heap.size, 3, none⟩ = some (.string s) := Go.Joins.cell_of_block n0 3
        have hML : M.length ≤ 301 := by have := hS.len; omega
        have hfew := hS.ag.at_.few
        replace n0 := Lib.hid n0
        replace hS := Lib.hid hS
        by_cases hw0 : what = 0 ∨ what = 1
        · by_cases hgo : momB a = true ∧ L.length < 512
          · as_aux_lemma =>
              have P12 := put_ag w _ ab pb mb v L last hS2.ag a s hgo.1 hgo.2 (by omega)
              have hLn := hS2.len
              have e9 : ((last : Int) + 1 != (M.length : Int)) = false := by simp; omega
              replace P12 := Lib.hid P12
              replace hS2 := Lib.hid hS2
              replace hLn := Lib.hid hLn
              rcases hw0 with rfl | rfl
              all_goals
                go_wp2_with fail
                refine P12.out.mono ?_
                rintro e w3 ⟨rfl, v3, A3, K3, M3⟩
                have r3 := hS2.out.turned K3
                have n3 := K3.other hS2.out.ag.at_ n0.out (by decide) (by decide) (by decide)
                have q1 : w3.cell? ⟨wr.heap.size, 1, none⟩ = some (.int .i64 a) := Go.Joins.cell_of_block n3 1
                have r4 := r3.alloc (.cells #[.int .i64 a] 3)
                have A4 := A3.move ((Below.refl _ w3).alloc (Nat.le_refl _) (.cells #[.int .i64 a] 3))
                have hw3 := A3.below.size
                replace r3 := Lib.hid r3
                replace n3 := Lib.hid n3
                replace r4 := Lib.hid r4
                replace A3 := Lib.hid A3
                replace A4 := Lib.hid A4
                replace K3 := Lib.hid K3
                replace M3 := Lib.hid M3
                go_wp2_with (at_builtin; refine wpList_append_own_at _ rfl _ _ 40 rfl w.heap.size 3 i0 (.int .i64 0) 1 8 Try.underlying40 hi hz0 hz1 hz2 rfl (by decide) (.slice Au M.length cu) M.length (rowI M) rfl r4.out ⟨w3.heap.size, 0, none⟩ 1 1 [.int .i64 a] rfl rfl (cell_one_new _ _ _) (by simp [Value.oneCell']) ?h63 ?hbytes ?hbase ?_)
                case h63 => simp [maxLen]; omega
                case hbytes => omega
                case hbase => simp; omega
                intro u' w5 hown hgrow _ hat
                have A5 : Ag w w5 ab pb mb v3 _ _ := ⟨A4.out.at_.grown r4.out hgrow (by decide) (by decide) (by decide), below_grown A4.out.below A4.out.below.size r4.out hgrow⟩
                replace A5 := Lib.hid A5
                replace hown := Lib.hid hown
                replace hgrow := Lib.hid hgrow
                replace hat := Lib.hid hat
                go_wp2
                go_roundg (l.length - (k + 1))
                case measure => omega
                case rel =>
                  refine ⟨k + 1, by omega, rfl, by go_num, v3, _, last + 1, M ++ [a], ⟨A5.out, ?_, ?_, ?_⟩, by omega⟩
                  · have h1 := tell_put hS2.out.tell a s
                    rw [hLn.out] at h1
                    exact h1
                  · rw [List.length_append, hLn.out]; rfl
                  · rw [List.length_append]
                    have h1 : rowI (M ++ [a]) = rowI M ++ [.int .i64 a] := by simp [rowI]
                    rw [h1]
                    exact hown.out
          · as_aux_lemma =>
              have P12 := Lib.hid (put_no _ _ ab pb mb v L last hS2.ag.at_ a s hgo)
              replace hS2 := Lib.hid hS2
              rcases hw0 with rfl | rfl
              all_goals
                go_wp2_with fail
                refine P12.out.mono ?_
                rintro e w3 ⟨ec, rfl, hec, rfl⟩
                go_wp2
                go_roundg (l.length - (k + 1))
                case measure => omega
                case rel => exact ⟨k + 1, by omega, rfl, by go_num, v, L, last, M, hS2.out, by omega⟩
        · by_cases hw2 : what = 2
          · subst hw2
            by_cases hx : ∃ x ∈ L, x.1 = t
            · as_aux_lemma =>
                obtain ⟨x, hx, ext⟩ := hx
                obtain ⟨n, hn, hn1, hnl, hnM⟩ := hS2.lt hx
                obtain rfl : t = (n : Int) := ext.symm.trans hn
                have P13 := drop_ok _ _ ab pb mb v L last hS2.ag.at_ x hx
                have hmom := (hS2.ag.at_.mom x hx).1
                generalize x.2.1 = xm at hnM hmom
                rw [hn] at P13
                have g1 : (n : Int) < (M.length : Int) := by omega
                replace P13 := Lib.hid P13
                replace hS2 := Lib.hid hS2
                replace hn := Lib.hid hn
                replace ext := Lib.hid ext
                replace hnM := Lib.hid hnM
                clear hx
                go_wp2_with fail
                refine P13.out.mono ?_
                rintro e w3 ⟨rfl, v3, A3, K3, M3⟩
                have r3 := hS2.out.turned K3
                have n3 := K3.other hS2.out.ag.at_ n0.out (by decide) (by decide) (by decide)
                have q2 : w3.cell? ⟨wr.heap.size, 2, none⟩ = some (.int .i64 (n : Int)) := Go.Joins.cell_of_block n3 2
                have A4 := hS2.out.ag.step A3 K3
                obtain ⟨g, rfl, y0, yf⟩ := rowInt r3 n xm hnM.out
                obtain ⟨A5, r5⟩ := row_set A4 r3 n (-1)
                rw [List.length_set] at r5
                replace r3 := Lib.hid r3
                replace n3 := Lib.hid n3
                replace A3 := Lib.hid A3
                replace A4 := Lib.hid A4
                replace A5 := Lib.hid A5
                replace r5 := Lib.hid r5
                replace K3 := Lib.hid K3
                replace M3 := Lib.hid M3
                go_wp2
                go_roundg (l.length - (k + 1))
                case measure => omega
                case rel => exact ⟨k + 1, by omega, rfl, by go_num, v3, _, last, M.set n (-1), ⟨A5.out, tell_set hS2.out.tell n hnl, by rw [List.length_set]; exact hS2.out.len, by rw [List.length_set]; exact r5.out⟩, by omega⟩
            · by_cases ht : t < 1
              · as_aux_lemma =>
                  have P13 := Lib.hid (drop_bad (wr.alloc (.cells #[.int .i64 2, .int .i64 a, .int .i64 t, .string s] 31)) (some ⟨ab, 0, none⟩) t ht)
                  replace hS2 := Lib.hid hS2
                  go_wp2_with fail
                  refine P13.out.mono ?_
                  rintro e w3 ⟨rfl, rfl⟩
                  go_wp2
                  go_roundg (l.length - (k + 1))
                  case measure => omega
                  case rel => exact ⟨k + 1, by omega, rfl, by go_num, v, L, last, M, hS2.out, by omega⟩
              · have P13 := Lib.hid (drop_none _ _ ab pb mb v L last hS2.ag.at_ t ht (fun e he ee => hx ⟨e, he, ee⟩))
                by_cases htl : t < (M.length : Int)
                · as_aux_lemma =>
                    obtain ⟨n, rfl⟩ : ∃ n : Nat, t = (n : Int) := ⟨t.toNat, by omega⟩
                    have hnM := hS2.tell.2 n (by omega) (fun e he ee => hx ⟨e, he, ee⟩)
                    obtain ⟨g, rfl, y0, yf⟩ := rowInt hS2.row n (-1) hnM
                    replace hS2 := Lib.hid hS2
                    replace hnM := Lib.hid hnM
                    clear hx
                    go_wp2_with fail
                    refine P13.out.mono ?_
                    rintro e w3 ⟨rfl, rfl⟩
                    go_wp2
                    go_roundg (l.length - (k + 1))
                    case measure => omega
                    case rel => exact ⟨k + 1, by omega, rfl, by go_num, v, L, last, M, hS2.out, by omega⟩
                · as_aux_lemma =>
                    replace hS2 := Lib.hid hS2
                    clear hx
                    have htb : decide (t < (M.length : Int)) = false := by simpa using htl
                    go_wp2_with fail
                    refine P13.out.mono ?_
                    rintro e w3 ⟨rfl, rfl⟩
                    go_wp2
                    go_roundg (l.length - (k + 1))
                    case measure => omega
                    case rel => exact ⟨k + 1, by omega, rfl, by go_num, v, L, last, M, hS2.out, by omega⟩
          · by_cases hw3 : what = 3
            · subst hw3
              by_cases hgo : momB a = true ∧ ∃ x ∈ L, x.1 = t
              · as_aux_lemma =>
                  obtain ⟨hm, x, hx, ext⟩ := hgo
                  obtain ⟨n, hn, hn1, hnl, hnM⟩ := hS2.lt hx
                  obtain rfl : t = (n : Int) := ext.symm.trans hn
                  have P14 := move_ok _ _ ab pb mb v L last hS2.ag.at_ x hx a hm
                  have hmom := (hS2.ag.at_.mom x hx).1
                  generalize x.2.1 = xm at hnM hmom
                  rw [hn] at P14
                  have g1 : ¬ (M.length : Int) ≤ (n : Int) := by omega
                  have g2 : ¬ (n : Int) < 1 := by omega
                  have g3 : ¬ xm < 0 := by omega
                  replace P14 := Lib.hid P14
                  replace hS2 := Lib.hid hS2
                  replace hn := Lib.hid hn
                  replace ext := Lib.hid ext
                  replace hnM := Lib.hid hnM
                  replace hm := Lib.hid hm
                  clear hx
                  go_wp2_with fail
                  refine P14.out.mono ?_
                  rintro e w3 ⟨rfl, A3, K3⟩
                  have r3 := hS2.out.turned K3
                  have n3 := K3.other hS2.out.ag.at_ n0.out (by decide) (by decide) (by decide)
                  have q1 : w3.cell? ⟨wr.heap.size, 1, none⟩ = some (.int .i64 a) := Go.Joins.cell_of_block n3 1
                  have q2 : w3.cell? ⟨wr.heap.size, 2, none⟩ = some (.int .i64 (n : Int)) := Go.Joins.cell_of_block n3 2
                  have A4 := hS2.out.ag.step A3 K3
                  obtain ⟨g, rfl, y0, yf⟩ := rowInt r3 n xm hnM.out
                  obtain ⟨A5, r5⟩ := row_set A4 r3 n a
                  rw [List.length_set] at r5
                  replace r3 := Lib.hid r3
                  replace n3 := Lib.hid n3
                  replace A3 := Lib.hid A3
                  replace A4 := Lib.hid A4
                  replace A5 := Lib.hid A5
                  replace r5 := Lib.hid r5
                  replace K3 := Lib.hid K3
                  go_wp2
                  go_roundg (l.length - (k + 1))
                  case measure => omega
                  case rel => exact ⟨k + 1, by omega, rfl, by go_num, v, _, last, M.set n a, ⟨A5.out, tell_move hS2.out.tell n hnl a _, by rw [List.length_set]; exact hS2.out.len, by rw [List.length_set]; exact r5.out⟩, by omega⟩
              · as_aux_lemma =>
                  have P14 := Lib.hid (move_no _ _ ab pb mb v L last hS2.ag.at_ t a hgo)
                  replace hS2 := Lib.hid hS2
                  clear hgo
                  go_wp2_with fail
                  refine P14.out.mono ?_
                  rintro e w3 ⟨ec, rfl, hec, rfl⟩
                  go_wp2
                  go_roundg (l.length - (k + 1))
                  case measure => omega
                  case rel => exact ⟨k + 1, by omega, rfl, by go_num, v, L, last, M, hS2.out, by omega⟩
            · by_cases hw4 : what = 4
              · subst hw4
                by_cases hm : momB a = true
                · as_aux_lemma =>
                    obtain ⟨wo, rfl⟩ : ∃ wo : World, wo = wr := ⟨_, rfl⟩
                    have P15 := Lib.hid (take_ok _ _ ab pb mb v L last hS2.ag.at_ a hm)
                    have hLate := Lib.hid (late (now := a) hS2.ag.at_.sorted)
                    have hSrt := hS2.ag.at_.sorted
                    have hMom := hS2.ag.at_.mom
                    have hTick := hS2.ag.at_.tick
                    have hNod := hS2.ag.at_.nodup
                    have hsp : L = L.takeWhile (due a) ++ L.dropWhile (due a) := List.takeWhile_append_dropWhile.symm
                    have hdT : ∀ e ∈ L.takeWhile (due a), due a e = true := fun e he => mem_tw he
                    obtain ⟨T, hT⟩ : ∃ T, T = L.takeWhile (due a) := ⟨_, rfl⟩
                    obtain ⟨R, hR⟩ : ∃ R, R = L.dropWhile (due a) := ⟨_, rfl⟩
                    rw [← hT] at P15 hdT hsp
                    rw [← hR] at P15 hLate hsp
                    have hTl : T.length ≤ 512 := by
                      have h1 := congrArg List.length hsp
                      rw [List.length_append] at h1
                      omega
                    replace hS2 := Lib.hid hS2
                    replace hSrt := Lib.hid hSrt
                    replace hMom := Lib.hid hMom
                    replace hTick := Lib.hid hTick
                    replace hNod := Lib.hid hNod
                    replace hsp := Lib.hid hsp
                    replace hdT := Lib.hid hdT
                    replace hT := Lib.hid hT
                    replace hR := Lib.hid hR
                    replace hm := Lib.hid hm
                    go_wp2_with fail
                    refine P15.out.mono ?_
                    rintro e w3 ⟨u2, rfl, v3, A3, M3, K3, r9⟩
                    obtain ⟨A2, cu2, rfl⟩ := rowSlice r9
                    have r3 := hS2.out.turned K3
                    have n3 := K3.other hS2.out.ag.at_ n0.out (by decide) (by decide) (by decide)
                    have A4 := hS2.out.ag.step A3 K3
                    have I0 : In1s w w3 ab pb mb v3 R last T 0 wo.heap.size _ (.slice A2 T.length cu2) _ Au M.length cu := ⟨M, A4, by rw [List.drop_zero, ← hsp.out]; exact hS2.out.tell, hS2.out.len, r3, r9, n3⟩
                    replace I0 := Lib.hid I0
                    clear r9 r3 n3 A4 A3 K3 M3
                    go_wp2_with fail
                    go_loopg [139] T.length (fun g2 v139 wz => ∃ j : Nat, j ≤ T.length ∧ g2 = T.length - j ∧ v139 = .int .i64 (j : Int) ∧ In1s w wz ab pb mb v3 R last T j wo.heap.size (wo.alloc (.cells #[.int .i64 4, .int .i64 a, .int .i64 t, .string s] 31)).heap.size (.slice A2 T.length cu2) #[.int .i64 4, .int .i64 a, .int .i64 t, .string s] Au M.length cu)
                    case atStart => exact ⟨0, Nat.zero_le _, rfl, rfl, I0.out⟩
                    case round =>
                      obtain ⟨j, hj, rfl, rfl, M', hI⟩ := hrel
                      clear I0
                      have hML' : M'.length = M.length := by rw [hI.len, hS2.out.len]
                      rw [← hML'] at hI
                      by_cases hjl : j < T.length
                      · have hxx : T[j]? = some T[j] := List.getElem?_eq_getElem hjl
                        generalize T[j] = x at hxx
                        have hxm := List.mem_of_getElem? hxx
                        have hxL : x ∈ L := by rw [hsp.out]; exact List.mem_append_left _ hxm
                        obtain ⟨xt, xa, xs⟩ := x
                        have hdu : xa ≤ a := by simpa [due] using hdT.out _ hxm
                        obtain ⟨n, hn⟩ : ∃ n : Nat, xt = (n : Int) := ⟨xt.toNat, by have := (hTick.out _ hxL).1; simp at this; omega⟩
                        subst hn
                        have hn1 : 1 ≤ n := by have := (hTick.out _ hxL).1; simp at this; omega
                        have hnl : n < M'.length := by have h9 : (n : Int) ≤ (last : Int) := (hTick.out _ hxL).2; have h8 := hI.len; omega
                        have hnM : M'[n]? = some xa := by
                          have h1 : ((n : Int), xa, xs) ∈ T.drop j ++ R := by
                            rw [List.drop_eq_getElem_cons hjl]
                            rw [List.getElem?_eq_getElem hjl] at hxx
                            rw [Option.some.inj hxx]
                            exact List.mem_append_left _ (List.mem_cons_self ..)
                          have := (hI.tell.1 _ h1).2
                          simpa using this
                        have b1 := (Below.refl _ wr).alloc (Nat.le_refl _) (.cells #[.int .i64 (n : Int), .int .i64 xa, .string xs] 34)
                        obtain ⟨k2, rfl, x0, x1, x2, -⟩ := rowEnt hI.told j _ hxx
                        have hI2 := hI.move b1
                        obtain ⟨g, rfl, y0, yf⟩ := rowInt hI2.row n xa hnM
                        have z1 : (wr.alloc (.cells #[.int .i64 (n : Int), .int .i64 xa, .string xs] 34)).cell? ⟨wo.heap.size, 1, none⟩ = some (.int .i64 a) := Go.Joins.cell_of_block hI2.box 1
                        have y10 : (wr.alloc (.cells #[.int .i64 (n : Int), .int .i64 xa, .string xs] 34)).cell? ⟨wr.heap.size, 0, none⟩ = some (.int .i64 (n : Int)) := Go.Joins.cell_of_block (heap_alloc_new wr _) 0
                        have y11 : (wr.alloc (.cells #[.int .i64 (n : Int), .int .i64 xa, .string xs] 34)).cell? ⟨wr.heap.size, 1, none⟩ = some (.int .i64 xa) := Go.Joins.cell_of_block (heap_alloc_new wr _) 1
                        have t5 : decide ((n : Int) < 1) = false := by simp; omega
                        have t6 : decide ((M.length : Int) ≤ (n : Int)) = false := by simp; omega
                        have t6b : decide (M.length ≤ n) = false := by simp; omega
                        have hnl2 : n < M.length := by omega
                        have hnl3 : (n : Int) < (M.length : Int) := by omega
                        have t7 : decide (a < xa) = false := by simp; omega
                        have t8 : (xa != xa) = false := by simp
                        replace hI := Lib.hid hI
                        replace hI2 := Lib.hid hI2
                        replace hnM := Lib.hid hnM
                        replace hML' := Lib.hid hML'
                        have fin : ∀ W, (∃ m, W = ((wr.alloc (.cells #[.int .i64 (n : Int), .int .i64 xa, .string xs] 34)).setCell ⟨g, n, none⟩ (.int .i64 (-1))).drewN m) → In1s w W ab pb mb v3 R last T (j + 1) wo.heap.size (wo.alloc (.cells #[.int .i64 4, .int .i64 a, .int .i64 t, .string s] 31)).heap.size (.slice (some ⟨k2, 0, none⟩) T.length cu2) #[.int .i64 4, .int .i64 a, .int .i64 t, .string s] (some ⟨g, 0, none⟩) M.length cu := by
                          rintro W ⟨m, rfl⟩
                          have h3 := (hI2.out.struck hxx rfl hnl (by rw [← hsp.out]; exact hNod.out)).move (pw_below_drewN (Below.refl _ _) m)
                          rw [List.length_set, hML'.out] at h3
                          exact ⟨_, h3⟩
                        replace fin := Lib.hid fin
                        by_cases hj0 : j = 0
                        · as_aux_lemma =>
                            have q0 : decide ((0 : Int) < (j : Int)) = false := by simp; omega
                            have q0b : decide (0 < j) = false := by simp; omega
                            have hj4 : j ≤ 512 := by omega
                            clear hj0
                            go_wp2_with fail
                            first | (go_region_held3 (fun w' => w'.cell? ⟨wo.heap.size, 1, none⟩ = some (.int .i64 a) ∧ w'.cell? ⟨wr.heap.size, 0, none⟩ = some (.int .i64 (n : Int)) ∧ w'.cell? ⟨wr.heap.size, 1, none⟩ = some (.int .i64 xa) ∧ w'.cell? ⟨g, n, none⟩ = some (.int .i64 xa)) (first | exact ⟨z1, y10, y11, y0⟩) ((fail))) | fail
                            go_wp2_with fail
                            go_region
                            go_wp2
                            go_roundg (T.length - (j + 1))
                            case measure => omega
                            case rel => exact ⟨j + 1, by omega, rfl, by go_num, fin.out _ (by first | exact ⟨2, rfl⟩ | exact ⟨1, rfl⟩ | exact ⟨0, rfl⟩)⟩
                        · obtain ⟨j1, hj1⟩ : ∃ j1, j = j1 + 1 := ⟨j - 1, by omega⟩
                          have hpp : T[j1]? = some T[j1] := List.getElem?_eq_getElem (by omega)
                          have hST : Sorted T := (List.pairwise_append.1 (hsp.out ▸ hSrt.out)).1
                          have hpx : ltE T[j1] ((n : Int), xa, xs) = true := by
                            have h1 := List.pairwise_iff_getElem.1 hST j1 j (by omega) hjl (by omega)
                            rw [List.getElem?_eq_getElem hjl] at hxx
                            rwa [Option.some.inj hxx] at h1
                          generalize T[j1] = p at hpp hpx
                          obtain ⟨pt, pa, ps⟩ := p
                          obtain ⟨k3, ek3, p0, p1, p2, -⟩ := rowEnt hI2.out.told j1 _ hpp
                          obtain rfl : k2 = k3 := by simpa using ek3
                          rw [ltE_iff] at hpx
                          have hjm : (j : Int) - 1 = (j1 : Int) := by omega
                          have q0 : decide ((0 : Int) < (j : Int)) = true := by simp; omega
                          have q0b : decide (0 < j) = true := by simp; omega
                          have hj2 : (j1 : Int) < (T.length : Int) := by omega
                          have hj3 : j1 < T.length := by omega
                          have hj4 : j ≤ 512 := by omega
                          simp only at hpx p0 p1 p2
                          replace hj1 := Lib.hid hj1
                          replace hpp := Lib.hid hpp
                          replace hST := Lib.hid hST
                          clear hj0 p2
                          by_cases hlt1 : pa < xa
                          · as_aux_lemma =>
                              have q1 : decide (xa < pa) = false := by simp; omega
                              have q2 : (pa == xa) = false := by simp; omega
                              clear hpx
                              go_wp2_with fail
                              first | (go_region_held3 (fun w' => w'.cell? ⟨wo.heap.size, 1, none⟩ = some (.int .i64 a) ∧ w'.cell? ⟨wr.heap.size, 0, none⟩ = some (.int .i64 (n : Int)) ∧ w'.cell? ⟨wr.heap.size, 1, none⟩ = some (.int .i64 xa) ∧ w'.cell? ⟨g, n, none⟩ = some (.int .i64 xa)) (first | exact ⟨z1, y10, y11, y0⟩) ((fail))) | fail
                              go_wp2_with fail
                              go_region
                              go_wp2
                              go_roundg (T.length - (j + 1))
                              case measure => omega
                              case rel => exact ⟨j + 1, by omega, rfl, by go_num, fin.out _ (by first | exact ⟨2, rfl⟩ | exact ⟨1, rfl⟩ | exact ⟨0, rfl⟩)⟩
                          · as_aux_lemma =>
                              obtain ⟨rfl, hpt⟩ : pa = xa ∧ pt < (n : Int) := by omega
                              have q1 : decide (pa < pa) = false := by simp
                              have q2 : (pa == pa) = true := by simp
                              have q3 : decide ((n : Int) ≤ pt) = false := by simp; omega
                              clear hpx
                              go_wp2_with fail
                              first | (go_region_held3 (fun w' => w'.cell? ⟨wo.heap.size, 1, none⟩ = some (.int .i64 a) ∧ w'.cell? ⟨wr.heap.size, 0, none⟩ = some (.int .i64 (n : Int)) ∧ w'.cell? ⟨wr.heap.size, 1, none⟩ = some (.int .i64 pa) ∧ w'.cell? ⟨g, n, none⟩ = some (.int .i64 pa)) (first | exact ⟨z1, y10, y11, y0⟩) ((fail))) | fail
                              go_wp2_with fail
                              go_region
                              go_wp2
                              go_roundg (T.length - (j + 1))
                              case measure => omega
                              case rel => exact ⟨j + 1, by omega, rfl, by go_num, fin.out _ (by first | exact ⟨2, rfl⟩ | exact ⟨1, rfl⟩ | exact ⟨0, rfl⟩)⟩
                      · as_aux_lemma =>
                          obtain ⟨wq, rfl⟩ : ∃ wq : World, wq = wr := ⟨_, rfl⟩
                          have htl : Tell R M' := by
                            have h1 := hI.tell
                            rw [List.drop_eq_nil_of_le (by omega), List.nil_append] at h1
                            exact h1
                          have hl2 := tell_late htl hLate.out
                          have hMl := hI.len
                          obtain ⟨g, rfl, -, -⟩ := rowInt hI.row 0 M'[0] (List.getElem?_eq_getElem (by omega))
                          have z1 : wq.cell? ⟨wo.heap.size, 1, none⟩ = some (.int .i64 a) := Go.Joins.cell_of_block hI.box 1
                          have hfin : Onc w wq ab pb mb (.slice (some ⟨g, 0, none⟩) M.length cu) (k + 1) := ⟨v3, R, last, M', ⟨hI.ag, htl, hMl, by rw [← hML']; exact hI.row⟩, by omega⟩
                          replace hfin := Lib.hid hfin
                          replace hI := Lib.hid hI
                          replace htl := Lib.hid htl
                          replace hl2 := Lib.hid hl2
                          replace hML' := Lib.hid hML'
                          replace hMl := Lib.hid hMl
                          go_wp2_with fail
                          go_loopg [213] M.length (fun g3 v213 wz => ∃ i : Nat, i ≤ M.length ∧ g3 = M.length - i ∧ v213 = .int .i64 (i : Int) ∧ wz = wq)
                          case atStart => exact ⟨0, Nat.zero_le _, rfl, rfl, rfl⟩
                          case round =>
                            obtain ⟨i, hil, rfl, rfl, rfl⟩ := hrel
                            by_cases hi2 : i < M.length
                            · obtain ⟨m, hm2⟩ : ∃ m, M'[i]? = some m := ⟨M'[i]'(by rw [hML'.out]; exact hi2), List.getElem?_eq_getElem _⟩
                              obtain ⟨g', eg, y0, -⟩ := rowInt hI.out.row i m hm2
                              obtain rfl : g = g' := by simpa using eg
                              have hlm := hl2.out i m hm2
                              have hmc : (i : Int) < (M.length : Int) := by omega
                              replace hm2 := Lib.hid hm2
                              by_cases h0 : m < 0
                              · as_aux_lemma =>
                                  have q0 : decide (0 ≤ m) = false := by simp; omega
                                  clear hlm
                                  go_wp2
                                  go_roundg (M.length - (i + 1))
                                  case measure => omega
                                  case rel => exact ⟨i + 1, by omega, rfl, by go_num, rfl⟩
                              · as_aux_lemma =>
                                  have q0 : decide (0 ≤ m) = true := by simp; omega
                                  have q1 : decide (m ≤ a) = false := by simp; omega
                                  clear hlm
                                  go_wp2
                                  go_roundg (M.length - (i + 1))
                                  case measure => omega
                                  case rel => exact ⟨i + 1, by omega, rfl, by go_num, rfl⟩
                            · go_wp2
                              go_roundg (l.length - (k + 1))
                              case measure => omega
                              case rel => exact ⟨k + 1, by omega, rfl, by go_num, hfin.out⟩
                · as_aux_lemma =>
                    have P15 := Lib.hid (take_bad (wr.alloc (.cells #[.int .i64 4, .int .i64 a, .int .i64 t, .string s] 31)) (some ⟨ab, 0, none⟩) a (by simpa using hm))
                    replace hS2 := Lib.hid hS2
                    clear hm
                    go_wp2_with fail
                    refine P15.out.mono ?_
                    rintro e w3 ⟨rfl, rfl⟩
                    go_wp2
                    go_roundg (l.length - (k + 1))
                    case measure => omega
                    case rel => exact ⟨k + 1, by omega, rfl, by go_num, v, L, last, M, hS2.out, by omega⟩
              · as_aux_lemma =>
                  have b0 : (what == 0) = false := by simp; omega
                  have b1 : (what == 1) = false := by simp; omega
                  have b2 : (what == 2) = false := by simp; omega
                  have b3 : (what == 3) = false := by simp; omega
                  have b4 : (what == 4) = false := by simp; omega
                  clear hw0 hw2 hw3 hw4
                  replace hS2 := Lib.hid hS2
                  go_wp2
                  go_roundg (l.length - (k + 1))
                  case measure => omega
                  case rel => exact ⟨k + 1, by omega, rfl, by go_num, v, L, last, M, hS2.out, by omega⟩
      · as_aux_lemma =>
          replace hS := Lib.hid hS
          go_wp2_with fail
          refine (C8.out _).mono ?_
          rintro e w7 ⟨rfl, B7⟩
          replace B7 := Lib.hid B7
          go_wp2
          go_ret
          exact ⟨rfl, below_trans hS.out.ag.below hS.out.ag.below.size B7.out⟩
  · as_aux_lemma =>
      have t1 : (300 : Int) < (l.length : Int) := by omega
      go_enter Try.func4, Try.ntmps4
      go_wp2_with fail
      refine (new_any w).mono ?_
      rintro e w1 ⟨ab, pb, mb, rfl, A1, B1⟩
      replace A1 := Lib.hid A1
      replace B1 := Lib.hid B1
      go_wp2_with fail
      refine (C8.out _).mono ?_
      rintro e w7 ⟨rfl, B7⟩
      replace B7 := Lib.hid B7
      go_wp2
      go_ret
      exact ⟨rfl, below_trans B1.out B1.out.size B7.out⟩
end Go.Proofs.Ytmanlmhiiijlmaa
