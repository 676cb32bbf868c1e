/- The walk of the hash's Write. -/
import Derived.Test.YtkmbpakhbicnaaaDoorHash
namespace Go.Proofs.YtkmbpakhbicnaaaDoor
open Go.RowKit Go.Proofs.YtkmbpakhbicnaaaDoorW.PrintWords Go.Proofs.YtkmbpakhbicnaaaDoorW.PrintMore Go.Lib

theorem buf_ne {w : World} {B g : Nat} {v : Value} {b : ByteArray} {cs : Array Value} {fr : Nat × Nat} (hb : Buf w B 5 v b) (hg : w.heap[g]? = some (.cells cs 71 fr)) (k : Nat) (hk : v.ownBlock = some k) : k ≠ g := by
  obtain ⟨_, _, cur, h⟩ := hb.typed k hk
  rintro rfl
  rw [hg] at h
  injection h with h
  injection h with _ h
  exact absurd h (by decide)
/-- How long the rest is. -/
def restLen (w : World) (g : Nat) : Nat := match w.cell? ⟨g, 8, none⟩ with
  | some (.slice _ n _) => n
  | _ => 0

theorem by8_left (s y : ByteArray) {i : Nat} (h : i < s.size) : Sha.by8 (s ++ y) i = Sha.by8 s i := by
  have h' : i < s.toList.length := by rw [ByteArray.toList_eq]; simpa using h
  unfold Sha.by8
  rw [List.getD_eq_getElem?_getD, List.getD_eq_getElem?_getD, show (s ++ y).toList = s.toList ++ y.toList by simp [ByteArray.toList_eq], List.getElem?_append_left h']
theorem by8_right (s y : ByteArray) {i : Nat} (h : s.size ≤ i) : Sha.by8 (s ++ y) i = Sha.by8 y (i - s.size) := by
  have h' : s.toList.length = s.size := by rw [ByteArray.toList_eq]; simp
  unfold Sha.by8
  rw [List.getD_eq_getElem?_getD, List.getD_eq_getElem?_getD, show (s ++ y).toList = s.toList ++ y.toList by simp [ByteArray.toList_eq], List.getElem?_append_right (by omega), h']
theorem by8_extract (s : ByteArray) (k i : Nat) (h : k + i < s.size) : Sha.by8 (s.extract k s.size) i = Sha.by8 s (k + i) := by
  unfold Sha.by8
  rw [List.getD_eq_getElem?_getD, List.getD_eq_getElem?_getD, ByteArray.toList_eq, ByteArray.toList_eq, Lib.extract_data, List.getElem?_take_of_lt (by omega), List.getElem?_drop]
theorem only_below {B g : Nat} {w0 w w1 : World} (hb : Below B w0 w) (h : Only g w w1) (hg : B ≤ g) (hs : B ≤ w.heap.size := by omega) : Below B w0 w1 :=
  ⟨h.os.trans hb.os, h.tape.trans hb.tape, h.output.trans hb.output, Nat.le_trans hb.size h.size, fun k hk => (h.block k (Nat.lt_of_lt_of_le hk hs) (by omega)).trans (hb.block k hk)⟩
theorem info_u8 : (Tryd.prog.info? 5).map (fun i => (i.zero, i.size, i.bytes)) = some (some (.int .u8 0), 1, 1) := by kernel_rfl
theorem by8_at (s : ByteArray) (j : Nat) (h : j < s.size) : (s[j]'h).toNat = Sha.by8 s j := by
  unfold Sha.by8
  rw [List.getD_eq_getElem?_getD, ByteArray.toList_eq, List.getElem?_eq_getElem (by simpa using h)]
  rfl
theorem Buf.big {w : World} {B : Nat} {v : Value} {s : ByteArray} {e : TypeId} (h : Buf w B e v s) (hs : 0 < s.size) :
    ∃ gr off cap, v = .slice (some ⟨gr, off, none⟩) s.size cap ∧ B ≤ gr ∧ s.size ≤ cap ∧ ∀ i, i < s.size → w.cell? ⟨gr, off + i, none⟩ = some (.int .u8 (Sha.by8 s i : Int)) := by
  rcases h with ⟨h0, _⟩ | ⟨gr, off, cap, cur, rfl, hb, hh, hc, hm, hf, ht⟩
  · omega
  · refine ⟨gr, off, cap, rfl, hb, hc, fun i hi => ?_⟩
    obtain ⟨g', off', cap', he, hcell, _⟩ := Buf.cell (v := .slice (some ⟨gr, off, none⟩) s.size cap) (.inr ⟨gr, off, cap, cur, rfl, hb, hh, hc, hm, hf, ht⟩) i hi
    simp only [Value.slice.injEq, Option.some.injEq, Addr.mk.injEq, true_and] at he
    obtain ⟨⟨rfl, rfl, _⟩, rfl⟩ := he
    rw [← by8_at s i hi]
    exact hcell
theorem Buf.drop {w : World} {B gr off cap : Nat} {s : ByteArray} {e : TypeId} (h : Buf w B e (.slice (some ⟨gr, off, none⟩) s.size cap) s) (k o' : Nat) (hk : k ≤ s.size) (ho : o' = off + k ∨ (cap = k ∧ o' = off)) :
    Buf w B e (.slice (some ⟨gr, o', none⟩) (s.size - k) (cap - k)) (s.extract k s.size) := by
  have hsz : (s.extract k s.size).size = s.size - k := by simp
  rcases h with ⟨h0, he⟩ | ⟨g, off', cap', cur, he, hb, hh, hc, hm, hf, ht⟩
  · cases he
  · simp only [Value.slice.injEq, Option.some.injEq, Addr.mk.injEq, true_and, and_true] at he
    obtain ⟨⟨rfl, rfl⟩, rfl⟩ := he
    refine .inr ⟨gr, o', cap - k, cur, by rw [hsz], hb, hh, by omega, by omega, by omega, ?_⟩
    rw [hsz]
    rcases ho with rfl | ⟨rfl, rfl⟩
    · have : strCells (s.extract k s.size) = (strCells s).drop k := by
        unfold strCells
        rw [← List.map_drop]
        congr 1
        rw [Lib.extract_data]
        exact List.take_of_length_le (by simp)
      rw [this, ← ht, List.drop_take, List.drop_drop]
    · rw [show s.size - cap = 0 by omega, List.take_zero]
      exact (List.eq_nil_of_length_eq_zero (by rw [strCells_length, hsz]; omega)).symm
set_option maxHeartbeats 4000000 in
set_option maxRecDepth 100000 in
theorem write_any (w : World) (B g : Nat) (s y : ByteArray) (hT : Tab w) (hGB : 0 < B) (hB : B ≤ w.heap.size) (h : HashAt w B g s) (hy : s.size + y.size ≤ 140737488355264) :
    Calls Tryd.prog 24 #[.pointer (some ⟨g, 0, none⟩), .string y] w fun e w' => e = .returned (.int .i64 0) ∧ HashAt w' B g (s ++ y) ∧ Below B w w' := by
  obtain ⟨⟨rv, rest, hg, hb, hsz, hby⟩, hge⟩ := h
  obtain ⟨A, c, rfl, hc⟩ := hb.slice
  have c8 : w.cell? ⟨g, 8, none⟩ = some (.slice A rest.size c) := Go.Joins.cell_of_block hg 8
  have c9 : w.cell? ⟨g, 9, none⟩ = some (.int .i64 (s.size : Int)) := Go.Joins.cell_of_block hg 9
  have f9 : w.frozen? ⟨g, 9, none⟩ = false := Go.Joins.unfrozen_of_block hg 9
  have hw : IntKind.i64.wrap ((s.size : Int) + (y.size : Int)) = (s.size : Int) + (y.size : Int) := by rw [IntKind.wrap_i64]; omega
  have hb1 : Buf (w.setCell ⟨g, 9, none⟩ (.int .i64 ((s.size : Int) + (y.size : Int)))) B 5 (.slice A rest.size c) rest := hb.move (fun k hk => Below.heap_setCell w ⟨g, 9, none⟩ _ k (buf_ne hb hg k hk))
  have hg1 : (w.setCell ⟨g, 9, none⟩ (.int .i64 ((s.size : Int) + (y.size : Int)))).heap[g]? = some (.cells (hashCells (Sha.many Sha.init (Sha.by8 s) (s.size / 64)) (.slice A rest.size c) ((s.size : Int) + (y.size : Int))) 71 (0, 0)) := Go.Joins.block_setCell hg _
  have hbel1 : Below B w (w.setCell ⟨g, 9, none⟩ (.int .i64 ((s.size : Int) + (y.size : Int)))) := (Below.refl B w).setCell hge _
  obtain ⟨i0, hi, hz0, hz1, hz2⟩ := info_parts info_u8
  have hgs := (Array.getElem?_eq_some_iff.1 hg1).1
  replace hg := Lib.hid hg
  replace hg1 := Lib.hid hg1
  replace hb := Lib.hid hb
  replace hbel1 := Lib.hid hbel1
  replace hby := Lib.hid hby
  replace hT := Lib.hid hT
  go_enter Tryd.func24, Tryd.ntmps24
  go_wp2_with (first | (at_builtin; refine wpList_append_buf rfl _ _ 67 9 rfl B 5 i0 Tryd.underlying67 Tryd.underlying9 hi hz0 hz1 hz2 _ rest rfl hb1 y rfl (by omega) (by simpa using hB) ?_) | go_in)
  intro v' w' hb' hgr hown
  have hg' := (hgr.block g hgs (fun e => buf_ne hb1 hg1.out g e.symm rfl)).trans hg1.out
  have hbel' : Below B w w' := pw_below_grown hbel1.out _ (by simpa using hB) hgr (fun k hk => (hb1.typed k hk).1)
  have c8' : w'.cell? ⟨g, 8, none⟩ = some (.slice A rest.size c) := Go.Joins.cell_of_block hg' 8
  have f8' : w'.frozen? ⟨g, 8, none⟩ = false := Go.Joins.unfrozen_of_block hg' 8
  have hg2 : (w'.setCell ⟨g, 8, none⟩ v').heap[g]? = some (.cells (hashCells (Sha.many Sha.init (Sha.by8 s) (s.size / 64)) v' ((s.size : Int) + (y.size : Int))) 71 (0, 0)) := Go.Joins.block_setCell hg' v'
  have hb2 : Buf (w'.setCell ⟨g, 8, none⟩ v') B 5 v' (rest ++ y) := hb'.move (fun k hk => Below.heap_setCell w' ⟨g, 8, none⟩ v' k (buf_ne hb' hg' k hk))
  have hbel2 : Below B w (w'.setCell ⟨g, 8, none⟩ v') := hbel'.setCell hge _
  have hst : ∃ m rv r, (w'.setCell ⟨g, 8, none⟩ v').heap[g]? = some (.cells (hashCells (Sha.many Sha.init (Sha.by8 (s ++ y)) m) rv ((s ++ y).size : Int)) 71 (0, 0)) ∧ Buf (w'.setCell ⟨g, 8, none⟩ v') B 5 rv r ∧
      r.size + 64 * m = (s ++ y).size ∧ (∀ i, i < r.size → Sha.by8 r i = Sha.by8 (s ++ y) (64 * m + i)) := by
    refine ⟨s.size / 64, v', rest ++ y, ?_, hb2, by rw [size_app, size_app]; omega, ?_⟩
    · rw [hg2, size_app, Sha.many_eq (b := Sha.by8 s) (c := Sha.by8 (s ++ y)) _ _ (fun i hi => (by8_left s y (by omega)).symm)]
      rfl
    · intro i hi
      rw [size_app] at hi
      by_cases hlt : i < rest.size
      · rw [by8_left rest y hlt, by8_left s y (by omega)]
        exact hby.out i hlt
      · rw [by8_right rest y (by omega), by8_right s y (by omega)]
        congr 1
        omega
  obtain ⟨A', c', hv', _⟩ := hb'.slice
  rw [size_app] at hv'
  subst hv'
  replace hst := Lib.hid hst
  replace hbel2 := Lib.hid hbel2
  clear hg' hb' hgr hown hg2 hb2 hbel'
  go_wp2
  go_loopw [] (fun wr => (∃ m rv r, wr.heap[g]? = some (.cells (hashCells (Sha.many Sha.init (Sha.by8 (s ++ y)) m) rv ((s ++ y).size : Int)) 71 (0, 0)) ∧ Buf wr B 5 rv r ∧
      r.size + 64 * m = (s ++ y).size ∧ (∀ i, i < r.size → Sha.by8 r i = Sha.by8 (s ++ y) (64 * m + i))) ∧ Below B w wr) (fun wr => restLen wr g)
  case atStart => exact ⟨hst.out, hbel2.out⟩
  case round =>
    obtain ⟨⟨m, rv, r, hgr, hbr, hsr, hbyr⟩, hbe⟩ := hrel
    obtain ⟨Ar, cr, rfl, hcr⟩ := hbr.slice
    have c8r : wr.cell? ⟨g, 8, none⟩ = some (.slice Ar r.size cr) := Go.Joins.cell_of_block hgr 8
    have f8r : wr.frozen? ⟨g, 8, none⟩ = false := Go.Joins.unfrozen_of_block hgr 8
    replace hgr := Lib.hid hgr
    replace hbr := Lib.hid hbr
    replace hbyr := Lib.hid hbyr
    by_cases h64 : 64 ≤ r.size
    · have t1 : decide (64 ≤ r.size) = true := decide_eq_true h64
      obtain ⟨gr, off, cap, hv, hBgr, hcap, hcells⟩ := hbr.out.big (by omega)
      obtain ⟨rfl, rfl⟩ : Ar = some ⟨gr, off, none⟩ ∧ cr = cap := by injection hv with h1 h2 h3; exact ⟨h1, h3⟩
      have hTr : Tab wr := fun i hi => (hbe.cell (p := ⟨0, i, none⟩) hGB).trans (hT.out i hi)
      have hblk := Lib.hid (block_any wr g gr off cr _ _ _ (Sha.by8 r) (Sha.many_ok Sha.init_ok _ m) hTr hgr.out (fun i => Sha.by8_lt r i) (fun i hi => hcells i (by omega)))
      replace hbe := Lib.hid hbe
      have h64' : 64 ≤ cr := by omega
      clear hv hcells hTr
      go_wp2_with fail
      refine hblk.out.mono ?_
      rintro e w1 ⟨rfl, hO, hg1'⟩
      have hgrlt := (Array.getElem?_eq_some_iff.1 hgr.out).1
      have hbr1 : Buf w1 B 5 (.slice (some ⟨gr, off, none⟩) r.size cr) r := hbr.out.move (fun k hk => hO.block k (hbr.out.typed k hk).2.1 (buf_ne hbr.out hgr.out k hk))
      have hbe1 : Below B w w1 := only_below hbe.out hO hge (by have := hbe.out.size; omega)
      have c81 : w1.cell? ⟨g, 8, none⟩ = some (.slice (some ⟨gr, off, none⟩) r.size cr) := Go.Joins.cell_of_block hg1' 8
      have f81 : w1.frozen? ⟨g, 8, none⟩ = false := Go.Joins.unfrozen_of_block hg1' 8
      have hmn : Sha.comp (Sha.many Sha.init (Sha.by8 (s ++ y)) m) (Sha.by8 r) = Sha.many Sha.init (Sha.by8 (s ++ y)) (m + 1) := by
        rw [Sha.many]
        exact Sha.comp_eq _ (fun i hi => hbyr.out i (by omega))
      rw [hmn] at hg1'
      have hxs : (r.extract 64 r.size).size = r.size - 64 := by simp
      have hstep : ∀ o', (o' = off + 64 ∨ (cr = 64 ∧ o' = off)) →
          (∃ m rv q, (w1.setCell ⟨g, 8, none⟩ (.slice (some ⟨gr, o', none⟩) (r.size - 64) (cr - 64))).heap[g]? = some (.cells (hashCells (Sha.many Sha.init (Sha.by8 (s ++ y)) m) rv ((s ++ y).size : Int)) 71 (0, 0)) ∧
            Buf (w1.setCell ⟨g, 8, none⟩ (.slice (some ⟨gr, o', none⟩) (r.size - 64) (cr - 64))) B 5 rv q ∧ q.size + 64 * m = (s ++ y).size ∧ (∀ i, i < q.size → Sha.by8 q i = Sha.by8 (s ++ y) (64 * m + i))) ∧
          Below B w (w1.setCell ⟨g, 8, none⟩ (.slice (some ⟨gr, o', none⟩) (r.size - 64) (cr - 64))) ∧ restLen (w1.setCell ⟨g, 8, none⟩ (.slice (some ⟨gr, o', none⟩) (r.size - 64) (cr - 64))) g < restLen wr g := by
        intro o' ho
        have hb2 := hbr1.drop 64 o' h64 ho
        have hg2 := Go.Joins.block_setCell (i := 8) hg1' (.slice (some ⟨gr, o', none⟩) (r.size - 64) (cr - 64))
        refine ⟨⟨m + 1, _, r.extract 64 r.size, hg2, hb2.move (fun k hk => Below.heap_setCell w1 ⟨g, 8, none⟩ _ k (buf_ne hb2 hg1' k hk)), by rw [hxs]; omega, fun i hi => ?_⟩, hbe1.setCell hge _, ?_⟩
        · rw [by8_extract r 64 i (by omega), hbyr.out _ (by omega)]
          congr 1
          omega
        · have e1 : (w1.setCell ⟨g, 8, none⟩ (.slice (some ⟨gr, o', none⟩) (r.size - 64) (cr - 64))).cell? ⟨g, 8, none⟩ = some (.slice (some ⟨gr, o', none⟩) (r.size - 64) (cr - 64)) := Go.Joins.cell_of_block hg2 8
          unfold restLen
          rw [e1, c8r]
          show r.size - 64 < r.size
          omega
      replace hstep := Lib.hid hstep
      clear hbr1 hbe1 hg1' hO hmn
      by_cases e : cr = 64
      · subst e
        have h1 := hstep.out off (.inr ⟨rfl, rfl⟩)
        rw [show r.size - 64 = 0 by omega] at h1
        replace h1 := Lib.hid h1
        clear hstep
        go_wp2
        go_roundw
        case rel => exact ⟨h1.out.1, h1.out.2.1⟩
        case measure => exact h1.out.2.2
      · have h1 := Lib.hid (hstep.out (off + 64) (.inl rfl))
        clear hstep
        go_wp2
        go_roundw
        case rel => exact ⟨h1.out.1, h1.out.2.1⟩
        case measure => exact h1.out.2.2
    · have t1 : decide (64 ≤ r.size) = false := decide_eq_false h64
      go_wp2
      go_ret
      refine ⟨rfl, ⟨⟨_, r, ?_, hbr.out, by omega, ?_⟩, hge⟩, hbe⟩
      · have := hgr.out
        rwa [show m = (s ++ y).size / 64 by omega] at this
      · rw [show (s ++ y).size / 64 = m by omega]
        exact hbyr.out
end Go.Proofs.YtkmbpakhbicnaaaDoor
