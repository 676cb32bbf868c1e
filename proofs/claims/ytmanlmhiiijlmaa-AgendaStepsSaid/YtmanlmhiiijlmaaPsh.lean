/- The agenda's pile: Push. -/
import Derived.Test.YtmanlmhiiijlmaaSwp
import Derived.Maps.AppendAt
import Derived.Deep.RegionLaw
import Derived.Deep.AppendLies
namespace Go.Proofs.Ytmanlmhiiijlmaa
open Go.RowKit Go.Proofs.YtmanlmhiiijlmaaW.PrintWords Go.Lib
theorem info34 : (Try.prog.info? 34).map (fun i => (i.zero, i.size, i.bytes)) = some (some (.agg #[.int .i64 0, .int .i64 0, .string ⟨#[]⟩]), 3, 32) := by kernel_rfl
theorem assert_en (w : World) (x : Value) : (Instr.typeAssert (.iface 34 x) 20 34 false).run Try.prog w = .ok x w := by
  kernel_rfl
theorem push_end {X w8 : World} {B pb mb g cap : Nat} {v : Value} {l : List En} {f : Int → Option Int} (h : PileAt X B pb mb v l f) {xs : List Value}
    (hown : w8.ownsRow B 34 3 (.slice (some ⟨g, 0, none⟩) (l.length + 1) cap) (l.length + 1) xs) (hg : X.grownBy w8 v.ownBlock) (hp : w8.heap[pb]? = some (.cells #[v, .map (some mb)] 55 (0, 0))) (e : En) (hx : xs = flat l ++ cellsE e) :
    PileAt (w8.setCell ⟨pb, 0, none⟩ (.slice (some ⟨g, 0, none⟩) (l.length + 1) cap)) B pb mb (.slice (some ⟨g, 0, none⟩) (l.length + 1) cap) (l ++ [e]) f ∧ PK pb mb v X (w8.setCell ⟨pb, 0, none⟩ (.slice (some ⟨g, 0, none⟩) (l.length + 1) cap)) := by
  subst hx
  have hmb := hg.block mb h.map.lt (own_ne h.row h.map)
  have hne : mb ≠ pb := by
    rintro rfl
    obtain ⟨m, c, h1, -⟩ := h.map.out
    have := h.cell
    rw [h1] at this
    cases this
  refine ⟨⟨Go.Joins.block_setCell hp _, ?_, h.map.move ((Below.heap_setCell w8 ⟨pb, 0, none⟩ _ mb hne).trans hmb), h.geP, h.geM⟩, ⟨hg.os, hg.tape, hg.output, by have := hg.size; simpa [World.setCell] using this, fun k hk h1 h2 h3 => (Below.heap_setCell w8 ⟨pb, 0, none⟩ _ k h1).trans (hg.block k hk h3)⟩⟩
  have hfl : flat (l ++ [e]) = flat l ++ cellsE e := by simp [flat]
  rw [List.length_append, hfl]
  refine ⟨hown.1, ?_⟩
  rcases hown.2 with h2 | ⟨k, cap', cur, e1, e2, e3, e4⟩
  · exact .inl h2
  · refine .inr ⟨k, cap', cur, e1, e2, (Below.heap_setCell w8 ⟨pb, 0, none⟩ _ k ?_).trans e3, e4⟩
    rintro rfl
    rw [hp] at e3
    injection e3 with e3
    injection e3 with _ e3
    exact absurd e3 (by decide)
set_option maxRecDepth 100000 in
set_option maxHeartbeats 2000000 in
theorem push_any (w : World) (B pb mb : Nat) (v : Value) (l : List En) (f : Int → Option Int) (h : PileAt w B pb mb v l f) (t a : Int) (s : ByteArray) (hl : l.length ≤ 100000) (hB : B ≤ w.heap.size) :
    Calls Try.prog 52 #[.pointer (some ⟨pb, 0, none⟩), .iface 34 (.agg #[.int .i64 t, .int .i64 a, .string s])] w fun e w' => e = .returned (.tuple #[]) ∧
      ∃ v', PileAt w' B pb mb v' (l ++ [(t, a, s)]) (fun x => if x = t then some (l.length : Int) else f x) ∧ PK pb mb v w w' ∧ Moved w v v' := by
  obtain ⟨A, c, ev⟩ := rowSlice h.row
  subst ev
  have c0 : w.cell? ⟨pb, 0, none⟩ = some (.slice A l.length c) := Go.Joins.cell_of_block h.cell 0
  have c1 : w.cell? ⟨pb, 1, none⟩ = some (.map (some mb)) := Go.Joins.cell_of_block h.cell 1
  have ta := assert_en
  have h0 := h
  clear h
  have P0 := h0.move ((Below.refl _ w).alloc (Nat.le_refl _) (.cells #[.int .i64 t, .int .i64 a, .string s] 34))
  have K0 : PK pb mb (.slice A l.length c) w (w.alloc (.cells #[.int .i64 t, .int .i64 a, .string s] 34)) := PK.of_below ((Below.refl _ w).alloc (Nat.le_refl _) _)
  have e0 : (w.alloc (.cells #[.int .i64 t, .int .i64 a, .string s] 34)).heap[w.heap.size]? = some (.cells #[.int .i64 t, .int .i64 a, .string s] 34 (0, 0)) := heap_alloc_new w _
  obtain ⟨W, hW⟩ : ∃ W, W = w.alloc (.cells #[.int .i64 t, .int .i64 a, .string s] 34) := ⟨_, rfl⟩
  rw [← hW] at P0 K0 e0
  have d0 : W.cell? ⟨pb, 0, none⟩ = some (.slice A l.length c) := Go.Joins.cell_of_block P0.cell 0
  have d1 : W.cell? ⟨pb, 1, none⟩ = some (.map (some mb)) := Go.Joins.cell_of_block P0.cell 1
  have q0 : W.cell? ⟨w.heap.size, 0, none⟩ = some (.int .i64 t) := Go.Joins.cell_of_block e0 0
  have q1 : W.cell? ⟨w.heap.size, 1, none⟩ = some (.int .i64 a) := Go.Joins.cell_of_block e0 1
  have q2 : W.cell? ⟨w.heap.size, 2, none⟩ = some (.string s) := Go.Joins.cell_of_block e0 2
  obtain ⟨o1, U1, M1⟩ := MapIs.update (w := W.drew) (P0.map.move rfl) t (l.length : Int)
  obtain ⟨P1, K1⟩ := (P0.move (Below.refl _ W).drew).setMap o1 M1
  have e1 : (setB W mb o1).heap[w.heap.size]? = some (.cells #[.int .i64 t, .int .i64 a, .string s] 34 (0, 0)) := by
    obtain ⟨m, cc, h1, -⟩ := P0.map.out
    exact (setB_other h1 _ (by rintro rfl; rw [e0] at h1; cases h1)).trans e0
  replace hW := Lib.hid hW
  replace P0 := Lib.hid P0
  replace K0 := Lib.hid K0
  replace e0 := Lib.hid e0
  replace e1 := Lib.hid e1
  replace M1 := Lib.hid M1
  replace P1 := Lib.hid P1
  replace K1 := Lib.hid K1
  clear h0
  go_enter Try.func52, Try.ntmps52
  go_wp2
  rw [← hW.out]
  go_region
  have e1' : (setB W.drew mb o1).heap[w.heap.size]? = some (.cells #[.int .i64 t, .int .i64 a, .string s] 34 (0, 0)) := e1.out
  have R1 := K0.out.trans (.inl rfl) ((PK.of_below (Below.refl _ W).drew).trans (.inl rfl) K1.out)
  have P1' := P1.out
  obtain ⟨X, hX⟩ : ∃ X, X = setB W.drew mb o1 := ⟨_, rfl⟩
  rw [← hX] at e1' R1 P1' ⊢
  clear hX
  have d0 : X.cell? ⟨pb, 0, none⟩ = some (.slice A l.length c) := Go.Joins.cell_of_block P1'.cell 0
  have df : X.frozen? ⟨pb, 0, none⟩ = false := Go.Joins.unfrozen_of_block P1'.cell 0
  have q0 : X.cell? ⟨w.heap.size, 0, none⟩ = some (.int .i64 t) := Go.Joins.cell_of_block e1' 0
  have q1 : X.cell? ⟨w.heap.size, 1, none⟩ = some (.int .i64 a) := Go.Joins.cell_of_block e1' 1
  have q2 : X.cell? ⟨w.heap.size, 2, none⟩ = some (.string s) := Go.Joins.cell_of_block e1' 2
  have hsz : w.heap.size ≤ X.heap.size := R1.size
  have r7 : ((X.alloc (.cells #[.int .i64 t, .int .i64 a, .string s] 34)).drew).ownsRow B 34 3 (.slice A l.length c) l.length (flat l) := P1'.row.alloc _
  have hN := World.news_of_block (w := (X.alloc (.cells #[.int .i64 t, .int .i64 a, .string s] 34)).drew) (heap_alloc_new X (.cells #[.int .i64 t, .int .i64 a, .string s] 34))
  obtain ⟨i0, hi, hz0, hz1, hz2⟩ := info_parts info34
  have PA := P1'.move (((Below.refl _ X).alloc (Nat.le_refl _) (.cells #[.int .i64 t, .int .i64 a, .string s] 34)).drew)
  have dA : ((X.alloc (.cells #[.int .i64 t, .int .i64 a, .string s] 34)).drew).cell? ⟨pb, 0, none⟩ = some (.slice A l.length c) := Go.Joins.cell_of_block PA.cell 0
  have hpc := Lib.hid PA.cell
  have hpl := Lib.hid (Array.getElem?_eq_some_iff.1 PA.cell).1
  have hpn : Hid (some pb ≠ (Value.slice A l.length c).ownBlock) := Lib.hid (fun e => by
    obtain ⟨cells, hc⟩ := own_typed PA.row pb e.symm
    rw [PA.cell] at hc
    injection hc with hc
    injection hc with _ hc
    exact absurd hc (by decide))
  replace PA := Lib.hid PA
  replace e1' := Lib.hid e1'
  replace R1 := Lib.hid R1
  replace P1' := Lib.hid P1'
  replace r7 := Lib.hid r7
  replace hN := Lib.hid hN
  go_wp2
  go_region_law (refine step_append_lies _ rfl _ _ 47 rfl B 34 i0 (.agg #[.int .i64 0, .int .i64 0, .string ⟨#[]⟩]) 3 32 Try.underlying47 hi hz0 hz1 hz2 rfl (by decide) (.slice A l.length c) l.length (flat l) rfl r7.out ⟨X.heap.size, 0, none⟩ 1 1 [.int .i64 t, .int .i64 a, .string s] rfl rfl hN.out (by simp [Value.oneCell']) (by decide) (by simp [maxLen]; omega) (by omega) (by simp; omega) (X.heap.size + 1) (by simp) ?_; intro g cap w8 hown hgrow hat hlt; have hp8 := (hgrow.block pb hpl.out hpn.out).trans hpc.out; have c8 : w8.cell? ⟨pb, 0, none⟩ = some (.slice A l.length c) := Go.Joins.cell_of_block hp8 0; have f8 : w8.frozen? ⟨pb, 0, none⟩ = false := Go.Joins.unfrozen_of_block hp8 0; replace hp8 := Lib.hid hp8; replace hown := Lib.hid hown; replace hgrow := Lib.hid hgrow; replace hat := Lib.hid hat)
  all_goals
    go_wp2
    go_end0
    obtain ⟨R2, R3⟩ := push_end PA.out hown.out hgrow.out hp8.out (t, a, s) rfl
    refine ⟨rfl, _, R2, R1.out.trans (.inl rfl) ((PK.of_below (((Below.refl _ X).alloc (Nat.le_refl _) _).drew)).trans (.inl rfl) R3), ?_⟩
    rcases hat.out with e | e
    · exact .inl e.symm
    · exact .inr ⟨g, rfl, by omega⟩
end Go.Proofs.Ytmanlmhiiijlmaa
