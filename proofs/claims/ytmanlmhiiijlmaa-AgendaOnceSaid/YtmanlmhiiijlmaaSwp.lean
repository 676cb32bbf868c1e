/- The agenda's pile: Len, Swap. -/
import Derived.Test.YtmanlmhiiijlmaaPile
namespace Go.Proofs.Ytmanlmhiiijlmaa
open Go.RowKit Go.Proofs.YtmanlmhiiijlmaaW.PrintWords Go.Lib
/-- What the pile's methods leave as it was. -/
structure PK (pb mb : Nat) (v : Value) (w w' : World) : Prop where
  os : w'.os = w.os
  tape : w'.tape = w.tape
  output : w'.output = w.output
  size : w.heap.size ≤ w'.heap.size
  block : ∀ k, k < w.heap.size → k ≠ pb → k ≠ mb → some k ≠ v.ownBlock → w'.heap[k]? = w.heap[k]?
theorem PK.refl (pb mb : Nat) (v : Value) (w : World) : PK pb mb v w w := ⟨rfl, rfl, rfl, Nat.le_refl _, fun _ _ _ _ _ => rfl⟩
theorem PK.of_below {pb mb : Nat} {v : Value} {w w' : World} (h : Below w.heap.size w w') : PK pb mb v w w' := ⟨h.os, h.tape, h.output, h.size, fun k hk _ _ _ => h.block k hk⟩
theorem PK.of_grown {pb mb : Nat} {v : Value} {w w' : World} (h : w.grownBy w' v.ownBlock) : PK pb mb v w w' := ⟨h.os, h.tape, h.output, h.size, fun k hk _ _ h3 => h.block k hk h3⟩
/-- Where a row lies behind a step: where it lay, or in a new block. -/
def Moved (w : World) (v v' : Value) : Prop := v'.ownBlock = v.ownBlock ∨ ∃ k, v'.ownBlock = some k ∧ w.heap.size ≤ k
theorem PK.trans {pb mb : Nat} {v v' : Value} {w w1 w2 : World} (h : PK pb mb v w w1) (hm : Moved w v v') (k : PK pb mb v' w1 w2) : PK pb mb v w w2 :=
  ⟨k.os.trans h.os, k.tape.trans h.tape, k.output.trans h.output, Nat.le_trans h.size k.size, fun i hi h1 h2 h3 => by
    refine (k.block i (Nat.lt_of_lt_of_le hi h.size) h1 h2 ?_).trans (h.block i hi h1 h2 h3)
    rcases hm with hm | ⟨j, hj, hle⟩
    · rw [hm]; exact h3
    · rw [hj]; intro e; injection e with e; omega⟩
theorem own_ne {w : World} {n₀ n : Nat} {e : TypeId} {sz : Nat} {v : Value} {xs : List Value} {mb : Nat} {f : Int → Option Int} (h : w.ownsRow n₀ e sz v n xs) (hm : MapIs w mb f) : some mb ≠ v.ownBlock := fun he => by
  obtain ⟨m, c, h1, -⟩ := hm.out
  obtain ⟨cells, hc⟩ := own_typed h mb he.symm
  rw [h1] at hc
  cases hc
theorem PileAt.setMap {w : World} {B pb mb : Nat} {v : Value} {l : List En} {f f' : Int → Option Int} (h : PileAt w B pb mb v l f) (o : Obj) (hm : MapIs (setB w mb o) mb f') : PileAt (setB w mb o) B pb mb v l f' ∧ PK pb mb v w (setB w mb o) := by
  obtain ⟨m, c, h1, -⟩ := h.map.out
  have hne : pb ≠ mb := by
    rintro rfl
    have := h.cell
    rw [h1] at this
    cases this
  have hg : w.grownBy (setB w mb o) (some mb) := ⟨rfl, rfl, rfl, by simp [setB], fun k _ hk => setB_other h1 k (fun e => hk (by rw [e]))⟩
  refine ⟨⟨(setB_other h1 pb hne).trans h.cell, h.row.kept hg ?_, hm, h.geP, h.geM⟩, ⟨rfl, rfl, rfl, by simp [setB], fun k _ _ h2 _ => setB_other h1 k h2⟩⟩
  by_cases hv : v.ownBlock = none
  · exact .inl hv
  · exact .inr (fun e => own_ne h.row h.map e.symm)
theorem PileAt.setRow {w : World} {B pb mb k c : Nat} {l l' : List En} {f : Int → Option Int} (h : PileAt w B pb mb (.slice (some ⟨k, 0, none⟩) l.length c) l f) {w' : World} (hl : l'.length = l.length) (hr : w'.ownsRow B 34 3 (.slice (some ⟨k, 0, none⟩) l.length c) l.length (flat l')) (hg : w.grownBy w' (some k)) : PileAt w' B pb mb (.slice (some ⟨k, 0, none⟩) l.length c) l' f := by
  have hpk : some pb ≠ some k := fun e => by
    obtain ⟨cells, hc⟩ := own_typed h.row k rfl
    injection e with e
    subst e
    rw [h.cell] at hc
    injection hc with hc
    injection hc with _ hc
    exact absurd hc (by decide)
  exact ⟨(hg.block pb (Array.getElem?_eq_some_iff.1 h.cell).1 hpk).trans h.cell, by rw [hl]; exact hr, h.map.move (hg.block mb h.map.lt (own_ne h.row h.map)), h.geP, h.geM⟩
theorem plen_any (w : World) (B pb mb : Nat) (v : Value) (l : List En) (f : Int → Option Int) (h : PileAt w B pb mb v l f) :
    Calls Try.prog 21 #[.pointer (some ⟨pb, 0, none⟩)] w fun e w' => e = .returned (.int .i64 (l.length : Nat)) ∧ w = w' := by
  have c0 : w.cell? ⟨pb, 0, none⟩ = some v := Go.Joins.cell_of_block h.cell 0
  obtain ⟨A, c, rfl⟩ := rowSlice h.row
  clear h
  go_enter Try.func21, Try.ntmps21
  go_wp2
  go_ret
  exact ⟨rfl, rfl⟩
/-- An entry put at a place. -/
theorem flat_set : ∀ (l : List En) (i : Nat) (e : En), i < l.length → (((flat l).set (i * 3) (.int .i64 e.1)).set (i * 3 + 1) (.int .i64 e.2.1)).set (i * 3 + 2) (.string e.2.2) = flat (l.set i e)
  | [], i, _, h => by simp at h
  | x :: l, 0, e, _ => by simp [flat, cellsE]
  | x :: l, i + 1, e, h => by
    have := flat_set l i e (by simpa using h)
    have e1 : flat (x :: l) = cellsE x ++ flat l := by simp [flat]
    have e2 : flat ((x :: l).set (i + 1) e) = cellsE x ++ flat (l.set i e) := by simp [flat]
    rw [e1, e2, ← this]
    have hl : (cellsE x).length = 3 := rfl
    rw [show (i + 1) * 3 = (cellsE x).length + i * 3 by rw [hl]; omega]
    rw [List.set_append_right _ _ (by omega), show (cellsE x).length + i * 3 - (cellsE x).length = i * 3 by omega]
    rw [show (cellsE x).length + i * 3 + 1 = (cellsE x).length + (i * 3 + 1) by omega, List.set_append_right _ _ (by omega), show (cellsE x).length + (i * 3 + 1) - (cellsE x).length = i * 3 + 1 by omega]
    rw [show (cellsE x).length + i * 3 + 2 = (cellsE x).length + (i * 3 + 2) by omega, List.set_append_right _ _ (by omega), show (cellsE x).length + (i * 3 + 2) - (cellsE x).length = i * 3 + 2 by omega]
set_option maxRecDepth 100000 in
set_option maxHeartbeats 2000000 in
theorem swap_any (w : World) (B pb mb : Nat) (v : Value) (l : List En) (f : Int → Option Int) (h : PileAt w B pb mb v l f) (i j : Nat) (x y : En) (hi : l[i]? = some x) (hj : l[j]? = some y) (hx : ∃ a, f x.1 = some a) (hy : ∃ a, f y.1 = some a) :
    Calls Try.prog 53 #[.pointer (some ⟨pb, 0, none⟩), .int .i64 (i : Int), .int .i64 (j : Int)] w fun e w' => e = .returned (.tuple #[]) ∧
      PileAt w' B pb mb v (HL.swap (0, 0, ⟨#[]⟩) l i j) (fun t => if t = x.1 then some (j : Int) else if t = y.1 then some (i : Int) else f t) ∧ PK pb mb v w w' := by
  have il := (List.getElem?_eq_some_iff.1 hi).1
  have jl := (List.getElem?_eq_some_iff.1 hj).1
  have c0 : w.cell? ⟨pb, 0, none⟩ = some v := Go.Joins.cell_of_block h.cell 0
  have c1 : w.cell? ⟨pb, 1, none⟩ = some (.map (some mb)) := Go.Joins.cell_of_block h.cell 1
  obtain ⟨A, c, ev⟩ := rowSlice h.row
  subst ev
  obtain ⟨k, rfl, x0, x1, x2, fz⟩ := rowEnt h.row i x hi
  obtain ⟨k', ek, y0, y1, y2, -⟩ := rowEnt h.row j y hj
  obtain rfl : k = k' := by simpa using ek
  obtain ⟨xt, xa, xw⟩ := x
  obtain ⟨yt, ya, yw⟩ := y
  have H := Lib.hid h
  have f0 := fz (i * 3)
  have f1 := fz (i * 3 + 1)
  have f2 := fz (i * 3 + 2)
  have g0 := fz (j * 3)
  have g1 := fz (j * 3 + 1)
  have g2 := fz (j * 3 + 2)
  replace hx := Lib.hid hx
  replace hy := Lib.hid hy
  have HI := Lib.hid hi
  have HJ := Lib.hid hj
  clear h hi hj ek fz
  by_cases hij : i = j
  · subst hij
    obtain ⟨rfl, rfl, rfl⟩ : xt = yt ∧ xa = ya ∧ xw = yw := by
      have := HI.out.symm.trans HJ.out
      simpa using this
    clear jl y0 y1 y2 g0 g1 g2
    go_enter Try.func53, Try.ntmps53
    go_wp2
    go_region
    have hW : PileAt (((((((w.setCell ⟨k, i * 3, none⟩ (.int .i64 xt)).setCell ⟨k, i * 3 + 1, none⟩ (.int .i64 xa)).setCell ⟨k, i * 3 + 2, none⟩ (.string xw)).setCell ⟨k, i * 3, none⟩ (.int .i64 xt)).setCell ⟨k, i * 3 + 1, none⟩ (.int .i64 xa)).setCell ⟨k, i * 3 + 2, none⟩ (.string xw)).drew) B pb mb (.slice (some ⟨k, 0, none⟩) l.length c) (HL.swap (0, 0, ⟨#[]⟩) l i i) f ∧ PK pb mb (.slice (some ⟨k, 0, none⟩) l.length c) w (((((((w.setCell ⟨k, i * 3, none⟩ (.int .i64 xt)).setCell ⟨k, i * 3 + 1, none⟩ (.int .i64 xa)).setCell ⟨k, i * 3 + 2, none⟩ (.string xw)).setCell ⟨k, i * 3, none⟩ (.int .i64 xt)).setCell ⟨k, i * 3 + 1, none⟩ (.int .i64 xa)).setCell ⟨k, i * 3 + 2, none⟩ (.string xw)).drew) := by
      have h0 := H.out.row
      have s1 := World.ownsRow.stored h0 (i * 3) (.int .i64 xt)
      have s2 := World.ownsRow.stored s1.1 (i * 3 + 1) (.int .i64 xa)
      have s3 := World.ownsRow.stored s2.1 (i * 3 + 2) (.string xw)
      have s4 := World.ownsRow.stored s3.1 (i * 3) (.int .i64 xt)
      have s5 := World.ownsRow.stored s4.1 (i * 3 + 1) (.int .i64 xa)
      have s6 := World.ownsRow.stored s5.1 (i * 3 + 2) (.string xw)
      have e1 := flat_set l i (xt, xa, xw) il
      have e2 := flat_set (l.set i (xt, xa, xw)) i (xt, xa, xw) (by simpa using il)
      simp only at e1 e2
      have hrow := s6.1
      rw [e1, e2] at hrow
      have hg := ((((s1.2.trans s2.2).trans s3.2).trans s4.2).trans s5.2).trans s6.2
      have hsw : HL.swap (0, 0, ⟨#[]⟩) l i i = (l.set i (xt, xa, xw)).set i (xt, xa, xw) := by
        unfold HL.swap HL.g
        rw [List.getD_eq_getElem?_getD, HI.out]
        rfl
      rw [hsw]
      have hP := H.out.setRow (l' := (l.set i (xt, xa, xw)).set i (xt, xa, xw)) (by simp) hrow hg
      exact ⟨hP.move (Below.refl _ _).drew, (PK.of_grown hg).trans (.inl rfl) (PK.of_below (Below.refl _ _).drew)⟩
    generalize (((((((w.setCell ⟨k, i * 3, none⟩ (.int .i64 xt)).setCell ⟨k, i * 3 + 1, none⟩ (.int .i64 xa)).setCell ⟨k, i * 3 + 2, none⟩ (.string xw)).setCell ⟨k, i * 3, none⟩ (.int .i64 xt)).setCell ⟨k, i * 3 + 1, none⟩ (.int .i64 xa)).setCell ⟨k, i * 3 + 2, none⟩ (.string xw)).drew) = W at hW ⊢
    obtain ⟨P1, K1⟩ := hW
    have d0 : W.cell? ⟨pb, 0, none⟩ = some (.slice (some ⟨k, 0, none⟩) l.length c) := Go.Joins.cell_of_block P1.cell 0
    have d1 : W.cell? ⟨pb, 1, none⟩ = some (.map (some mb)) := Go.Joins.cell_of_block P1.cell 1
    have hgi : (HL.swap (0, 0, ⟨#[]⟩) l i i)[i]? = some (xt, xa, xw) := by rw [HL.swap_self _ l i il]; exact HI.out
    have hgj := hgi
    have hll : (HL.swap (0, 0, ⟨#[]⟩) l i i).length = l.length := HL.swap_len _ _ _ _
    have hPr := P1.row
    rw [← hll] at hPr
    obtain ⟨k2, ek2, z0, -, -, -⟩ := rowEnt hPr i _ hgi
    obtain ⟨k3, ek3, z1, -, -, -⟩ := rowEnt hPr i _ hgj
    obtain rfl : k = k2 := by simpa using ek2
    obtain rfl : k = k3 := by simpa using ek3
    clear hPr ek2 ek3 hgi hgj
    replace hll := Lib.hid hll
    obtain ⟨ay, hay⟩ := hy.out
    obtain ⟨ax, hax⟩ := hx.out
    obtain ⟨b1, E1, S1⟩ := MapIs.entry (w := W.drew) (P1.map.move rfl) xt ay hay
    obtain ⟨o1, T1, M1⟩ := S1 (i : Int)
    obtain ⟨P2, K2⟩ := (P1.move (Below.refl _ W).drew).setMap o1 M1
    obtain ⟨az, haz⟩ : ∃ a, (fun t => if t = xt then some (i : Int) else f t) xt = some a := ⟨(i : Int), by simp⟩
    obtain ⟨b2, E2, S2⟩ := M1.entry xt az haz
    obtain ⟨o2, T2, M2⟩ := S2 (i : Int)
    obtain ⟨P3, K3⟩ := P2.setMap o2 M2
    replace P2 := Lib.hid P2
    replace P3 := Lib.hid P3
    replace K2 := Lib.hid K2
    replace K3 := Lib.hid K3
    replace M2 := Lib.hid M2
    replace S2 := Lib.hid S2
    replace hay := Lib.hid hay
    replace hax := Lib.hid hax
    replace haz := Lib.hid haz
    replace P1 := Lib.hid P1
    replace K1 := Lib.hid K1
    replace M1 := Lib.hid M1
    replace S1 := Lib.hid S1
    go_wp2
    go_region
    go_wp2
    go_end0
    refine ⟨rfl, P3.out, ((K1.out.trans (.inl rfl) (PK.of_below (Below.refl _ W).drew)).trans (.inl rfl) K2.out).trans (.inl rfl) K3.out⟩
  · have hji : ¬ j = i := fun e => hij e.symm
    go_enter Try.func53, Try.ntmps53
    go_wp2
    go_region
    have hW : PileAt (((((((w.setCell ⟨k, i * 3, none⟩ (.int .i64 yt)).setCell ⟨k, i * 3 + 1, none⟩ (.int .i64 ya)).setCell ⟨k, i * 3 + 2, none⟩ (.string yw)).setCell ⟨k, j * 3, none⟩ (.int .i64 xt)).setCell ⟨k, j * 3 + 1, none⟩ (.int .i64 xa)).setCell ⟨k, j * 3 + 2, none⟩ (.string xw)).drew) B pb mb (.slice (some ⟨k, 0, none⟩) l.length c) (HL.swap (0, 0, ⟨#[]⟩) l i j) f ∧ PK pb mb (.slice (some ⟨k, 0, none⟩) l.length c) w (((((((w.setCell ⟨k, i * 3, none⟩ (.int .i64 yt)).setCell ⟨k, i * 3 + 1, none⟩ (.int .i64 ya)).setCell ⟨k, i * 3 + 2, none⟩ (.string yw)).setCell ⟨k, j * 3, none⟩ (.int .i64 xt)).setCell ⟨k, j * 3 + 1, none⟩ (.int .i64 xa)).setCell ⟨k, j * 3 + 2, none⟩ (.string xw)).drew) := by
      have h0 := H.out.row
      have s1 := World.ownsRow.stored h0 (i * 3) (.int .i64 yt)
      have s2 := World.ownsRow.stored s1.1 (i * 3 + 1) (.int .i64 ya)
      have s3 := World.ownsRow.stored s2.1 (i * 3 + 2) (.string yw)
      have s4 := World.ownsRow.stored s3.1 (j * 3) (.int .i64 xt)
      have s5 := World.ownsRow.stored s4.1 (j * 3 + 1) (.int .i64 xa)
      have s6 := World.ownsRow.stored s5.1 (j * 3 + 2) (.string xw)
      have e1 := flat_set l i (yt, ya, yw) il
      have e2 := flat_set (l.set i (yt, ya, yw)) j (xt, xa, xw) (by simpa using jl)
      simp only at e1 e2
      have hrow := s6.1
      rw [e1, e2] at hrow
      have hg := ((((s1.2.trans s2.2).trans s3.2).trans s4.2).trans s5.2).trans s6.2
      have hsw : HL.swap (0, 0, ⟨#[]⟩) l i j = (l.set i (yt, ya, yw)).set j (xt, xa, xw) := by
        unfold HL.swap HL.g
        rw [List.getD_eq_getElem?_getD, List.getD_eq_getElem?_getD, HI.out, HJ.out]
        rfl
      rw [hsw]
      have hP := H.out.setRow (l' := (l.set i (yt, ya, yw)).set j (xt, xa, xw)) (by simp) hrow hg
      exact ⟨hP.move (Below.refl _ _).drew, (PK.of_grown hg).trans (.inl rfl) (PK.of_below (Below.refl _ _).drew)⟩
    generalize (((((((w.setCell ⟨k, i * 3, none⟩ (.int .i64 yt)).setCell ⟨k, i * 3 + 1, none⟩ (.int .i64 ya)).setCell ⟨k, i * 3 + 2, none⟩ (.string yw)).setCell ⟨k, j * 3, none⟩ (.int .i64 xt)).setCell ⟨k, j * 3 + 1, none⟩ (.int .i64 xa)).setCell ⟨k, j * 3 + 2, none⟩ (.string xw)).drew) = W at hW ⊢
    obtain ⟨P1, K1⟩ := hW
    have d0 : W.cell? ⟨pb, 0, none⟩ = some (.slice (some ⟨k, 0, none⟩) l.length c) := Go.Joins.cell_of_block P1.cell 0
    have d1 : W.cell? ⟨pb, 1, none⟩ = some (.map (some mb)) := Go.Joins.cell_of_block P1.cell 1
    have hgi : (HL.swap (0, 0, ⟨#[]⟩) l i j)[i]? = some (yt, ya, yw) := by
      unfold HL.swap HL.g
      rw [List.getD_eq_getElem?_getD, List.getD_eq_getElem?_getD, HI.out, HJ.out, List.getElem?_set, if_neg hji, List.getElem?_set, if_pos rfl, if_pos il]
      rfl
    have hgj : (HL.swap (0, 0, ⟨#[]⟩) l i j)[j]? = some (xt, xa, xw) := by
      unfold HL.swap HL.g
      rw [List.getD_eq_getElem?_getD, List.getD_eq_getElem?_getD, HI.out, HJ.out, List.getElem?_set, if_pos rfl, if_pos (by simpa using jl)]
      rfl
    have hll : (HL.swap (0, 0, ⟨#[]⟩) l i j).length = l.length := HL.swap_len _ _ _ _
    have hPr := P1.row
    rw [← hll] at hPr
    obtain ⟨k2, ek2, z0, -, -, -⟩ := rowEnt hPr i _ hgi
    obtain ⟨k3, ek3, z1, -, -, -⟩ := rowEnt hPr j _ hgj
    obtain rfl : k = k2 := by simpa using ek2
    obtain rfl : k = k3 := by simpa using ek3
    clear hPr ek2 ek3 hgi hgj
    replace hll := Lib.hid hll
    obtain ⟨ay, hay⟩ := hy.out
    obtain ⟨ax, hax⟩ := hx.out
    obtain ⟨b1, E1, S1⟩ := MapIs.entry (w := W.drew) (P1.map.move rfl) yt ay hay
    obtain ⟨o1, T1, M1⟩ := S1 (i : Int)
    obtain ⟨P2, K2⟩ := (P1.move (Below.refl _ W).drew).setMap o1 M1
    obtain ⟨az, haz⟩ : ∃ a, (fun t => if t = yt then some (i : Int) else f t) xt = some a := by
      by_cases e : xt = yt
      · exact ⟨(i : Int), by simp [e]⟩
      · exact ⟨ax, by simpa [e] using hax⟩
    obtain ⟨b2, E2, S2⟩ := M1.entry xt az haz
    obtain ⟨o2, T2, M2⟩ := S2 (j : Int)
    obtain ⟨P3, K3⟩ := P2.setMap o2 M2
    replace P2 := Lib.hid P2
    replace P3 := Lib.hid P3
    replace K2 := Lib.hid K2
    replace K3 := Lib.hid K3
    replace M2 := Lib.hid M2
    replace S2 := Lib.hid S2
    replace hay := Lib.hid hay
    replace hax := Lib.hid hax
    replace haz := Lib.hid haz
    replace P1 := Lib.hid P1
    replace K1 := Lib.hid K1
    replace M1 := Lib.hid M1
    replace S1 := Lib.hid S1
    go_wp2
    go_region
    go_wp2
    go_end0
    refine ⟨rfl, P3.out, ((K1.out.trans (.inl rfl) (PK.of_below (Below.refl _ W).drew)).trans (.inl rfl) K2.out).trans (.inl rfl) K3.out⟩
end Go.Proofs.Ytmanlmhiiijlmaa
