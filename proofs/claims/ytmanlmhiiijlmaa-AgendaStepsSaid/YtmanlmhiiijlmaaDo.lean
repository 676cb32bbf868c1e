/- One step done by both agendas. -/
import Derived.Test.YtmanlmhiiijlmaaSm
namespace Go.Proofs.Ytmanlmhiiijlmaa
open Go.RowKit Go.Proofs.YtmanlmhiiijlmaaW.PrintWords Go.Lib
/-- Boxes of steps stay. -/
def Boxes (w w' : World) : Prop := ∀ (k : Nat) (cs : Array Value), w.heap[k]? = some (Obj.cells cs 31 (0, 0)) → w'.heap[k]? = some (Obj.cells cs 31 (0, 0))
theorem Boxes.refl (w : World) : Boxes w w := fun _ _ h => h
theorem Boxes.ak {w w' : World} {B ab pb mb : Nat} {v : Value} {L : List En} {last : Nat} (hk : AK ab pb mb v w w') (hA : AgAt w B ab pb mb v L last) : Boxes w w' := fun _ _ h => hk.other hA h (by decide) (by decide) (by decide)
theorem Boxes.below {w w' : World} (h : Below w.heap.size w w') : Boxes w w' := fun k _ hc => (h.block k (Array.getElem?_eq_some_iff.1 hc).1).trans hc
theorem Boxes.trans {w w1 w2 : World} (h : Boxes w w1) (k : Boxes w1 w2) : Boxes w w2 := fun i cs hc => k i cs (h i cs hc)
theorem Boxes.rk {w w' : World} {B rb : Nat} {u : Value} {L : List En} {last : Nat} (hk : RK rb w w') (hR : RefAt w B rb u L last) : Boxes w w' := fun k cs hc => (hk.block k (Array.getElem?_eq_some_iff.1 hc).1 (by
  rintro rfl
  have := hR.cell
  rw [hc] at this
  injection this with this
  injection this with _ this
  exact absurd this (by decide))).trans hc
section
variable {w W : World} {ab pb mb rb last : Nat} {v u : Value} {L : List En}
theorem put_pair (h : BSt w W ab pb mb v L last rb u) (a : Int) (s : ByteArray) (hl : last ≤ 1000000) : ∃ (x ec : Int) (L' : List En) (last' : Nat), last' ≤ last + 1 ∧
    (Calls Try.prog 12 #[.pointer (some ⟨ab, 0, none⟩), .int .i64 a, .string s] W fun e w5 => e = .returned (.tuple #[.int .i64 x, .int .i64 ec]) ∧ ∃ v', Ag w w5 ab pb mb v' L' last' ∧ RefAt w5 w.heap.size rb u L last ∧ Boxes W w5) ∧
    ∀ X v', Ag w X ab pb mb v' L' last' → RefAt X w.heap.size rb u L last → Calls Try.prog 16 #[.pointer (some ⟨rb, 0, none⟩), .int .i64 a, .string s] X fun e w6 => e = .returned (.tuple #[.int .i64 x, .int .i64 ec]) ∧ ∃ u', BSt w w6 ab pb mb v' L' last' rb u' := by
  have hfew := h.ag.at_.few
  by_cases hm : momB a = true
  · by_cases hf : L.length = 512
    · refine ⟨0, 5, L, last, by omega, ?_, fun X v' hA hR => ?_⟩
      · refine (put_full W _ ab pb mb v L last h.ag.at_ a s hm hf).mono ?_
        rintro e w2 ⟨rfl, rfl⟩
        exact ⟨rfl, v, h.ag, h.rf, Boxes.refl _⟩
      · refine (rputq_full X _ rb u L last hR a s hm hf).mono ?_
        rintro e w2 ⟨rfl, rfl⟩
        exact ⟨rfl, u, hA, hR⟩
    · refine ⟨(last : Int) + 1, 0, ins ((last : Int) + 1, a, s) L, last + 1, Nat.le_refl _, ?_, fun X v' hA hR => ?_⟩
      · refine (put_ag w W ab pb mb v L last h.ag a s hm (by omega) hl).mono ?_
        rintro e w2 ⟨rfl, v', hA, hK, -⟩
        exact ⟨rfl, v', hA, h.rf.ak hK h.ag.at_, Boxes.ak hK h.ag.at_⟩
      · refine (rputq_ok X _ rb u L last hR a s hm (by omega) hl hA.below.size).mono ?_
        rintro e w2 ⟨rfl, u', hR2, hK⟩
        exact ⟨rfl, u', hA.rk hK hR (Nat.le_refl _), hR2⟩
  · have hm : momB a = false := by simpa using hm
    refine ⟨0, 1, L, last, by omega, ?_, fun X v' hA hR => ?_⟩
    · refine (put_bad W _ a s hm).mono ?_
      rintro e w2 ⟨rfl, rfl⟩
      exact ⟨rfl, v, h.ag, h.rf, Boxes.refl _⟩
    · refine (rputq_bad X _ a s hm).mono ?_
      rintro e w2 ⟨rfl, rfl⟩
      exact ⟨rfl, u, hA, hR⟩
theorem drop_pair (h : BSt w W ab pb mb v L last rb u) (t : Int) : ∃ (d : Bool) (ec : Int) (L' : List En),
    (Calls Try.prog 13 #[.pointer (some ⟨ab, 0, none⟩), .int .i64 t] W fun e w5 => e = .returned (.tuple #[.bool d, .int .i64 ec]) ∧ ∃ v', Ag w w5 ab pb mb v' L' last ∧ RefAt w5 w.heap.size rb u L last ∧ Boxes W w5) ∧
    ∀ X v', Ag w X ab pb mb v' L' last → RefAt X w.heap.size rb u L last → Calls Try.prog 17 #[.pointer (some ⟨rb, 0, none⟩), .int .i64 t] X fun e w6 => e = .returned (.tuple #[.bool d, .int .i64 ec]) ∧ ∃ u', BSt w w6 ab pb mb v' L' last rb u' := by
  have hfew := h.ag.at_.few
  by_cases ht : t < 1
  · refine ⟨false, 1, L, ?_, fun X v' hA hR => ?_⟩
    · refine (drop_bad W _ t ht).mono ?_
      rintro e w2 ⟨rfl, rfl⟩
      exact ⟨rfl, v, h.ag, h.rf, Boxes.refl _⟩
    · refine (rdrop_bad X _ t ht).mono ?_
      rintro e w2 ⟨rfl, rfl⟩
      exact ⟨rfl, u, hA, hR⟩
  · by_cases hx : ∃ x ∈ L, x.1 = t
    · obtain ⟨x, hx, rfl⟩ := hx
      refine ⟨true, 0, del x.1 L, ?_, fun X v' hA hR => ?_⟩
      · refine (drop_ok W _ ab pb mb v L last h.ag.at_ x hx).mono ?_
        rintro e w2 ⟨rfl, v', hA, hK, -⟩
        exact ⟨rfl, v', h.ag.step hA hK, h.rf.ak hK h.ag.at_, Boxes.ak hK h.ag.at_⟩
      · have C := rdrop_go X _ rb u L last hR x.1 ht (by omega) hA.below.size
        rw [stepF_some _ h.ag.at_.nodup hx] at C
        refine C.mono ?_
        rintro e w2 ⟨rfl, u', hR2, hK⟩
        exact ⟨rfl, u', hA.rk hK hR (Nat.le_refl _), hR2⟩
    · have hn : ∀ e ∈ L, e.1 ≠ t := fun e he ee => hx ⟨e, he, ee⟩
      refine ⟨false, 0, L, ?_, fun X v' hA hR => ?_⟩
      · refine (drop_none W _ ab pb mb v L last h.ag.at_ t ht hn).mono ?_
        rintro e w2 ⟨rfl, rfl⟩
        exact ⟨rfl, v, h.ag, h.rf, Boxes.refl _⟩
      · have C := rdrop_go X _ rb u L last hR t ht (by omega) hA.below.size
        rw [stepF_none _ hn, del_none hn] at C
        refine C.mono ?_
        rintro e w2 ⟨rfl, u', hR2, hK⟩
        exact ⟨rfl, u', hA.rk hK hR (Nat.le_refl _), hR2⟩
theorem move_pair (h : BSt w W ab pb mb v L last rb u) (t a : Int) : ∃ (ec : Int) (L' : List En),
    (∀ W', Below W.heap.size W W' → Calls Try.prog 14 #[.pointer (some ⟨ab, 0, none⟩), .int .i64 t, .int .i64 a] W' fun e w5 => e = .returned (.int .i64 ec) ∧ Ag w w5 ab pb mb v L' last ∧ RefAt w5 w.heap.size rb u L last ∧ Boxes W w5) ∧
    ∀ X, Ag w X ab pb mb v L' last → RefAt X w.heap.size rb u L last → Calls Try.prog 18 #[.pointer (some ⟨rb, 0, none⟩), .int .i64 t, .int .i64 a] X fun e w6 => e = .returned (.int .i64 ec) ∧ (∃ u', BSt w w6 ab pb mb v L' last rb u') ∧ Boxes X w6 := by
  have hfew := h.ag.at_.few
  by_cases hb : t < 1 ∨ momB a = false
  · refine ⟨1, L, fun W' hW => ?_, fun X hA hR => ?_⟩
    · refine (move_bad W' _ t a hb).mono ?_
      rintro e w2 ⟨rfl, rfl⟩
      exact ⟨rfl, h.ag.move hW, h.rf.move hW, Boxes.below hW⟩
    · refine (rmove_bad X _ t a hb).mono ?_
      rintro e w2 ⟨rfl, rfl⟩
      exact ⟨rfl, ⟨u, hA, hR⟩, Boxes.refl _⟩
  · have ht : ¬ t < 1 := fun e => hb (.inl e)
    have hm : momB a = true := by
      cases hh : momB a with
      | true => rfl
      | false => exact absurd (.inr hh) hb
    by_cases hx : ∃ x ∈ L, x.1 = t
    · obtain ⟨x, hx, rfl⟩ := hx
      refine ⟨0, ins (x.1, a, x.2.2) (del x.1 L), fun W' hW => ?_, fun X hA hR => ?_⟩
      · have h2 := h.move hW
        refine (move_ok W' _ ab pb mb v L last h2.ag.at_ x hx a hm).mono ?_
        rintro e w2 ⟨rfl, hA, hK⟩
        exact ⟨rfl, h2.ag.step hA hK, h2.rf.ak hK h2.ag.at_, (Boxes.below hW).trans (Boxes.ak hK h2.ag.at_)⟩
      · refine (rmove_ok X _ rb u L last hR x hx h.ag.at_.nodup a ht hm (by omega) hA.below.size).mono ?_
        rintro e w2 ⟨rfl, u', hR2, hK⟩
        exact ⟨rfl, ⟨u', hA.rk hK hR (Nat.le_refl _), hR2⟩, Boxes.rk hK hR⟩
    · have hn : ∀ e ∈ L, e.1 ≠ t := fun e he ee => hx ⟨e, he, ee⟩
      refine ⟨6, L, fun W' hW => ?_, fun X hA hR => ?_⟩
      · have h2 := h.move hW
        refine (move_none W' _ ab pb mb v L last h2.ag.at_ t a ht hm hn).mono ?_
        rintro e w2 ⟨rfl, rfl⟩
        exact ⟨rfl, h2.ag, h2.rf, Boxes.below hW⟩
      · refine (rmove_none X _ rb u L last hR t a ht hm hn (by omega) hA.below.size).mono ?_
        rintro e w2 ⟨rfl, u', hR2, hK⟩
        exact ⟨rfl, ⟨u', hA.rk hK hR (Nat.le_refl _), hR2⟩, Boxes.rk hK hR⟩
end
/-- What a step leaves. -/
structure Did (w w2 : World) (ab pb mb rb last : Nat) : Prop where
  out : ∃ v L last' u, BSt w w2 ab pb mb v L last' rb u ∧ last' ≤ last + 1
set_option maxRecDepth 100000 in
set_option maxHeartbeats 8000000 in
theorem does_any (w w' : World) (ab pb mb : Nat) (v : Value) (L : List En) (last rb : Nat) (u : Value) (h : BSt w w' ab pb mb v L last rb u) (hl : last ≤ 1000000) (what a t : Int) (s : ByteArray) :
    Calls Try.prog 9 #[.pointer (some ⟨ab, 0, none⟩), .pointer (some ⟨rb, 0, none⟩), .agg #[.int .i64 what, .int .i64 a, .int .i64 t, .string s]] w' fun e w2 => e = .returned (.bool true) ∧ Did w w2 ab pb mb rb last := by
  have b1 := (Below.refl _ w').alloc (Nat.le_refl _) (.cells #[.int .i64 what, .int .i64 a, .int .i64 t, .string s] 31)
  have n1 : (w'.alloc (.cells #[.int .i64 what, .int .i64 a, .int .i64 t, .string s] 31)).heap[w'.heap.size]? = some (.cells #[.int .i64 what, .int .i64 a, .int .i64 t, .string s] 31 (0, 0)) := heap_alloc_new w' _
  have h1 := h.move b1
  have e0 : (w'.alloc (.cells #[.int .i64 what, .int .i64 a, .int .i64 t, .string s] 31)).cell? ⟨w'.heap.size, 0, none⟩ = some (.int .i64 what) := Go.Joins.cell_of_block n1 0
  have e1 : (w'.alloc (.cells #[.int .i64 what, .int .i64 a, .int .i64 t, .string s] 31)).cell? ⟨w'.heap.size, 1, none⟩ = some (.int .i64 a) := Go.Joins.cell_of_block n1 1
  have e2 : (w'.alloc (.cells #[.int .i64 what, .int .i64 a, .int .i64 t, .string s] 31)).cell? ⟨w'.heap.size, 2, none⟩ = some (.int .i64 t) := Go.Joins.cell_of_block n1 2
  have e3 : (w'.alloc (.cells #[.int .i64 what, .int .i64 a, .int .i64 t, .string s] 31)).cell? ⟨w'.heap.size, 3, none⟩ = some (.string s) := Go.Joins.cell_of_block n1 3
  replace h := Lib.hid h
  replace b1 := Lib.hid b1
  replace n1 := Lib.hid n1
  by_cases hw0 : what = 0 ∨ what = 1
  · obtain ⟨x, ec, L', last', hle, P1, P2⟩ := put_pair h1 a s hl
    have q1 : (x == x) = true := by simp
    have q2 : (ec == ec) = true := by simp
    replace P1 := Lib.hid P1
    replace P2 := Lib.hid P2
    replace h1 := Lib.hid h1
    rcases hw0 with rfl | rfl
    all_goals
      as_aux_lemma =>
        go_enter Try.func9, Try.ntmps9
        go_wp2_with fail
        refine P1.out.mono ?_
        rintro e w3 ⟨rfl, v3, A3, R3, X3⟩
        have n3 := X3 _ _ n1.out
        have d1 : w3.cell? ⟨w'.heap.size, 1, none⟩ = some (.int .i64 a) := Go.Joins.cell_of_block n3 1
        have d3 : w3.cell? ⟨w'.heap.size, 3, none⟩ = some (.string s) := Go.Joins.cell_of_block n3 3
        have P3 := Lib.hid (P2.out w3 v3 A3 R3)
        replace A3 := Lib.hid A3
        replace R3 := Lib.hid R3
        replace X3 := Lib.hid X3
        replace n3 := Lib.hid n3
        go_wp2_with fail
        refine P3.out.mono ?_
        rintro e w4 ⟨rfl, u4, B4⟩
        replace B4 := Lib.hid B4
        go_wp2
        go_ret
        exact ⟨rfl, v3, L', last', u4, B4.out, hle⟩
  · by_cases hw2 : what = 2
    · as_aux_lemma =>
        subst hw2
        obtain ⟨d, ec, L', P1, P2⟩ := drop_pair h1 t
        have q1 : (d == d) = true := by simp
        have q2 : (ec == ec) = true := by simp
        replace P1 := Lib.hid P1
        replace P2 := Lib.hid P2
        replace h1 := Lib.hid h1
        go_enter Try.func9, Try.ntmps9
        go_wp2_with fail
        refine P1.out.mono ?_
        rintro e w3 ⟨rfl, v3, A3, R3, X3⟩
        have n3 := X3 _ _ n1.out
        have d1 : w3.cell? ⟨w'.heap.size, 2, none⟩ = some (.int .i64 t) := Go.Joins.cell_of_block n3 2
        have P3 := Lib.hid (P2.out w3 v3 A3 R3)
        replace A3 := Lib.hid A3
        replace R3 := Lib.hid R3
        replace X3 := Lib.hid X3
        replace n3 := Lib.hid n3
        go_wp2_with fail
        refine P3.out.mono ?_
        rintro e w4 ⟨rfl, u4, B4⟩
        replace B4 := Lib.hid B4
        go_wp2
        go_ret
        refine ⟨?_, v3, L', last, u4, B4.out, by omega⟩
        cases d <;> rfl
    · by_cases hw3 : what = 3
      · as_aux_lemma =>
          subst hw3
          obtain ⟨ec, L', P1, P2⟩ := move_pair h1 t a
          have q2 : (ec == ec) = true := by simp
          replace P1 := Lib.hid P1
          replace P2 := Lib.hid P2
          replace h1 := Lib.hid h1
          go_enter Try.func9, Try.ntmps9
          go_wp2_with fail
          first | (go_region_held3 (fun wx => wx.cell? ⟨w'.heap.size, 1, none⟩ = some (.int .i64 a) ∧ wx.cell? ⟨w'.heap.size, 2, none⟩ = some (.int .i64 t)) (first | exact ⟨e1, e2⟩ | exact ⟨d1, d2⟩ | exact ⟨Go.Joins.cell_of_block n4.out 1, Go.Joins.cell_of_block n4.out 2⟩) (first
            | (go_at_call 14; refine (P1.out _ ?hB).mono ?_; (case hB => first | exact Below.refl _ _ | exact (Below.refl _ _).drew); rintro e w3 ⟨rfl, A3, R3, X3⟩; have n3 := X3 _ _ n1.out; have d1 : w3.cell? ⟨w'.heap.size, 1, none⟩ = some (.int .i64 a) := Go.Joins.cell_of_block n3 1; have d2 : w3.cell? ⟨w'.heap.size, 2, none⟩ = some (.int .i64 t) := Go.Joins.cell_of_block n3 2; have P3 := Lib.hid (P2.out w3 A3 R3); replace A3 := Lib.hid A3; replace R3 := Lib.hid R3; replace X3 := Lib.hid X3; replace n3 := Lib.hid n3)
            | (go_at_call 18; refine P3.out.mono ?_; rintro e w4 ⟨rfl, ⟨u4, B4⟩, X4⟩; have n4 := X4 _ _ n3.out; replace B4 := Lib.hid B4; replace X4 := Lib.hid X4; replace n4 := Lib.hid n4))) | fail
          all_goals
            go_wp2
            go_ret
            exact ⟨rfl, v, L', last, u4, B4.out, by omega⟩
      · by_cases hw4 : what = 4
        · subst hw4
          by_cases hm : momB a = true
          · as_aux_lemma =>
              have hfew := h1.ag.at_.few
              have hTl : (L.takeWhile (due a)).length ≤ 512 := Nat.le_trans (List.Sublist.length_le (List.takeWhile_sublist _)) hfew
              have P1 := Lib.hid (take_ok _ _ ab pb mb v L last h1.ag.at_ a hm)
              replace h1 := Lib.hid h1
              go_enter Try.func9, Try.ntmps9
              go_wp2_with fail
              refine P1.out.mono ?_
              rintro e w3 ⟨u3, rfl, v3, A3, M3, K3, r3⟩
              have n3 := (Boxes.ak K3 h1.out.ag.at_) _ _ n1.out
              have d1 : w3.cell? ⟨w'.heap.size, 1, none⟩ = some (.int .i64 a) := Go.Joins.cell_of_block n3 1
              have G3 := h1.out.ag.step A3 K3
              have R3 := h1.out.rf.ak K3 h1.out.ag.at_
              have P2 := Lib.hid (rtake_ok w3 _ rb u L last R3 a hm hfew)
              replace A3 := Lib.hid A3
              replace M3 := Lib.hid M3
              replace K3 := Lib.hid K3
              replace r3 := Lib.hid r3
              replace n3 := Lib.hid n3
              replace G3 := Lib.hid G3
              replace R3 := Lib.hid R3
              replace hm := Lib.hid hm
              obtain ⟨T, hT⟩ : ∃ T, T = L.takeWhile (due a) := ⟨_, rfl⟩
              obtain ⟨D, hD⟩ : ∃ D, D = L.dropWhile (due a) := ⟨_, rfl⟩
              rw [← hT] at P2 r3 hTl
              rw [← hD] at P2 G3
              replace hT := Lib.hid hT
              replace hD := Lib.hid hD
              clear P1
              go_wp2_with fail
              refine P2.out.mono ?_
              rintro e w4 ⟨u4, u5, rfl, R4, L4, K4⟩
              have G4 := G3.out.rk K4 R3.out (Nat.le_refl _)
              have r4 : w4.ownsRow (w'.alloc (.cells #[.int .i64 4, .int .i64 a, .int .i64 t, .string s] 31)).heap.size 34 3 u3 T.length (flat T) := by
                refine ⟨r3.out.1, ?_⟩
                rcases r3.out.2 with h4 | ⟨k, cap, cur, e1, e2, e3, e4⟩
                · exact .inl h4
                · refine .inr ⟨k, cap, cur, e1, e2, (K4.block k (Array.getElem?_eq_some_iff.1 e3).1 ?_).trans e3, e4⟩
                  rintro rfl
                  have := R3.out.cell
                  rw [e3] at this
                  injection this with this
                  injection this with _ this
                  exact absurd this (by decide)
              have P3 := Lib.hid (same_any w4 _ _ u3 u4 _ r4 L4 hTl)
              replace R4 := Lib.hid R4
              replace L4 := Lib.hid L4
              replace K4 := Lib.hid K4
              replace G4 := Lib.hid G4
              replace r4 := Lib.hid r4
              clear hTl P2
              go_wp2_with fail
              refine P3.out.mono ?_
              rintro e w5 ⟨rfl, b5⟩
              replace b5 := Lib.hid b5
              go_wp2
              go_ret
              exact ⟨rfl, v3, _, last, u5, BSt.move ⟨G4.out, R4.out⟩ b5.out, by omega⟩
          · as_aux_lemma =>
              have hm : momB a = false := by simpa using hm
              have P1 := Lib.hid (take_bad (w'.alloc (.cells #[.int .i64 4, .int .i64 a, .int .i64 t, .string s] 31)) (some ⟨ab, 0, none⟩) a hm)
              have P2 := Lib.hid (fun X => rtake_bad X (some ⟨rb, 0, none⟩) a hm)
              have P3 := Lib.hid (same_any (w'.alloc (.cells #[.int .i64 4, .int .i64 a, .int .i64 t, .string s] 31)) 0 0 (.slice none 0 0) (.slice none 0 0) [] (World.ownsRow_nil _ _ _ _) ⟨none, 0, rfl, Nat.le_refl _, .inl ⟨rfl, rfl⟩⟩ (by simp))
              replace h1 := Lib.hid h1
              clear hm
              go_enter Try.func9, Try.ntmps9
              go_wp2_with fail
              refine P1.out.mono ?_
              rintro e w3 ⟨rfl, rfl⟩
              go_wp2_with fail
              refine (P2.out _).mono ?_
              rintro e w3 ⟨rfl, rfl⟩
              go_wp2_with fail
              refine P3.out.mono ?_
              rintro e w5 ⟨rfl, b5⟩
              replace b5 := Lib.hid b5
              go_wp2
              go_ret
              exact ⟨rfl, v, L, last, u, h1.out.move b5.out, by omega⟩
        · as_aux_lemma =>
            have c0 : (what == 0) = false := by simp; omega
            have c1 : (what == 1) = false := by simp; omega
            have c2 : (what == 2) = false := by simp; omega
            have c3 : (what == 3) = false := by simp; omega
            have c4 : (what == 4) = false := by simp; omega
            clear hw0 hw2 hw3 hw4
            replace h1 := Lib.hid h1
            go_enter Try.func9, Try.ntmps9
            go_wp2
            go_ret
            exact ⟨rfl, v, L, last, u, h1.out, by omega⟩
end Go.Proofs.Ytmanlmhiiijlmaa
