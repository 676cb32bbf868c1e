/- The agenda's pile: Pop. -/
import Derived.Test.YtmanlmhiiijlmaaPsh
namespace Go.Proofs.Ytmanlmhiiijlmaa
open Go.RowKit Go.Proofs.YtmanlmhiiijlmaaW.PrintWords Go.Lib
theorem step_delete {ops : Array Oper} {o : Oper} {a : Act} {w w' : World} {K : Act → World → Prop} {Q : Exit → Act → World → Prop} {E : Prop} (hg : o.guard = none) (s x : Operand)
    (hop : o.op = Op.call { callee := Callee.builtin Builtin.delete, args := #[s, x], argTypes := #[53, 3] }) (mb : Nat) (k : Int) (hs : a.eval s = .map (some mb)) (hx : a.eval x = .int .i64 k)
    (hrun : (Builtin.delete_ #[53, 3] o.type #[.map (some mb), .int .i64 k]).run Try.prog w = .ok (.tuple #[]) w') (hK : K (a.put o.dst (.tuple #[])) w') :
    if Region.wanted o (yielded ops a.tmps) = true then Oper.wp Try.prog o a w K Q else E := by
  have hw : Region.wanted o (yielded ops a.tmps) = true := by simp [Region.wanted, hg]
  rw [if_pos hw]
  unfold Oper.wp
  simp [execOp, hop, resolve, invoke, builtin, hs, hx, hrun, Result.andThen]
  exact hK
/-- What Pop's first two stores leave. -/
theorem pop_mid {W : World} {B pb mb k c : Nat} {l : List En} {e : En} {f : Int → Option Int} (h : PileAt W B pb mb (.slice (some ⟨k, 0, none⟩) (l ++ [e]).length c) (l ++ [e]) f) :
    PileAt (W.setCell ⟨pb, 0, none⟩ (.slice (some ⟨k, 0, none⟩) l.length c)).drew B pb mb (.slice (some ⟨k, 0, none⟩) l.length c) l f ∧ PK pb mb (.slice (some ⟨k, 0, none⟩) l.length c) W (W.setCell ⟨pb, 0, none⟩ (.slice (some ⟨k, 0, none⟩) l.length c)).drew ∧
      ∀ b o, b ≠ pb → W.heap[b]? = some o → (W.setCell ⟨pb, 0, none⟩ (.slice (some ⟨k, 0, none⟩) l.length c)).drew.heap[b]? = some o := by
  have hne : mb ≠ pb := by
    rintro rfl
    obtain ⟨m, c, h1, -⟩ := h.map.out
    have := h.cell
    rw [h1] at this
    cases this
  have far : ∀ b o, b ≠ pb → W.heap[b]? = some o → (W.setCell ⟨pb, 0, none⟩ (.slice (some ⟨k, 0, none⟩) l.length c)).drew.heap[b]? = some o := fun b o hb ho => (Below.heap_setCell W ⟨pb, 0, none⟩ _ b hb).trans ho
  refine ⟨⟨Go.Joins.block_setCell h.cell _, ?_, h.map.move (Below.heap_setCell W ⟨pb, 0, none⟩ _ mb hne), h.geP, h.geM⟩, ⟨rfl, rfl, rfl, by simp [World.setCell, World.drew], fun b _ h1 _ _ => Below.heap_setCell W ⟨pb, 0, none⟩ _ b h1⟩, far⟩
  have hr := h.row
  have hfl : flat (l ++ [e]) = flat l ++ cellsE e := by simp [flat]
  refine ⟨flat_len l, ?_⟩
  rcases hr.2 with ⟨h2, h3⟩ | ⟨g, cap, cur, e1, e2, e3, e4, e5, e6, e7⟩
  · cases h2
  · injection e1 with e1 e8 e9
    injection e1 with e1
    injection e1 with e1
    subst e1
    subst e9
    refine .inr ⟨k, c, cur, rfl, e2, far k _ ?_ e3, ?_, e5, e6, ?_⟩
    · rintro rfl
      have := h.cell
      rw [e3] at this
      injection this with this
      injection this with _ this
      exact absurd this (by decide)
    · rw [List.length_append] at e4
      exact Nat.le_of_succ_le e4
    · have e10 : (l.length * 3) = min (l.length * 3) ((l ++ [e]).length * 3) := by rw [List.length_append]; simp
      rw [e10, ← List.take_take, e7, hfl, List.take_append_of_le_length (by rw [flat_len]; exact Nat.le_refl _), List.take_of_length_le (by rw [flat_len]; exact Nat.le_refl _)]
set_option maxRecDepth 100000 in
set_option maxHeartbeats 2000000 in
theorem pop_any (w : World) (B pb mb : Nat) (v : Value) (l : List En) (f : Int → Option Int) (t a : Int) (s : ByteArray) (h : PileAt w B pb mb v (l ++ [(t, a, s)]) f) (hl : l.length ≤ 100000) (hf : ∃ i, f t = some i) :
    Calls Try.prog 51 #[.pointer (some ⟨pb, 0, none⟩)] w fun e w' => e = .returned (.iface 34 (.agg #[.int .i64 t, .int .i64 a, .string s])) ∧
      ∃ v', PileAt w' B pb mb v' l (fun x => if x = t then none else f x) ∧ PK pb mb v w w' ∧ v'.ownBlock = v.ownBlock := by
  obtain ⟨A, c, ev⟩ := rowSlice h.row
  subst ev
  obtain ⟨k, ek, x0, x1, x2, -⟩ := rowEnt h.row l.length (t, a, s) (by simp)
  subst ek
  have hcap : l.length ≤ c := by
    rcases h.row.2 with ⟨h2, h3⟩ | ⟨g, cap, cur, e1, e2, e3, e4, e5, e6, e7⟩
    · cases h2
    · injection e1 with e1 e8 e9
      rw [List.length_append] at e4
      simp at e4
      omega
  have c0 : w.cell? ⟨pb, 0, none⟩ = some (.slice (some ⟨k, 0, none⟩) (l ++ [(t, a, s)]).length c) := Go.Joins.cell_of_block h.cell 0
  have c1 : w.cell? ⟨pb, 1, none⟩ = some (.map (some mb)) := Go.Joins.cell_of_block h.cell 1
  rw [show (l ++ [(t, a, s)]).length = l.length + 1 by simp] at c0
  have BA := ((Below.refl _ w).alloc (Nat.le_refl _) (.cells #[.int .i64 0, .int .i64 0, .string ⟨#[]⟩] 34)).drew
  have BB := ((Below.refl _ w).alloc (Nat.le_refl _) (.cells #[.int .i64 t, .int .i64 a, .string s] 34)).drew
  have c0' := pw_cell_below BA c0
  have x0' := pw_cell_below BA x0
  have x1' := pw_cell_below BA x1
  have x2' := pw_cell_below BA x2
  have P1 := h.move BB
  have e1 : (w.alloc (.cells #[.int .i64 t, .int .i64 a, .string s] 34)).drew.heap[w.heap.size]? = some (.cells #[.int .i64 t, .int .i64 a, .string s] 34 (0, 0)) := heap_alloc_new w _
  have hpb : w.heap.size ≠ pb := by
    have := (Array.getElem?_eq_some_iff.1 h.cell).1
    omega
  have hmb : w.heap.size ≠ mb := by
    have := h.map.lt
    omega
  have K1 : PK pb mb (.slice (some ⟨k, 0, none⟩) (l ++ [(t, a, s)]).length c) w (w.alloc (.cells #[.int .i64 t, .int .i64 a, .string s] 34)).drew := PK.of_below BB
  have H := Lib.hid h
  clear h BA BB
  obtain ⟨W, hW⟩ : ∃ W, W = (w.alloc (.cells #[.int .i64 t, .int .i64 a, .string s] 34)).drew := ⟨_, rfl⟩
  rw [← hW] at P1 e1 K1
  replace hW := Lib.hid hW
  replace K1 := Lib.hid K1
  replace e1 := Lib.hid e1
  replace P1 := Lib.hid P1
  replace hpb := Lib.hid hpb
  replace hmb := Lib.hid hmb
  replace hf := Lib.hid hf
  go_enter Try.func51, Try.ntmps51
  go_wp2
  go_region
  rw [← hW.out]
  have d0 : W.cell? ⟨pb, 0, none⟩ = some (.slice (some ⟨k, 0, none⟩) (l ++ [(t, a, s)]).length c) := Go.Joins.cell_of_block P1.out.cell 0
  have df : W.frozen? ⟨pb, 0, none⟩ = false := Go.Joins.unfrozen_of_block P1.out.cell 0
  rw [show (l ++ [(t, a, s)]).length = l.length + 1 by simp] at d0
  clear c0 c0' x0 x1 x2 x0' x1' x2' c1
  have SL : ∀ X, (Instr.slice 47 (.slice (some ⟨k, 0, none⟩) (l.length + 1) c) none (some (.int .i64 (l.length : Int))) none).run Try.prog X = .ok (.slice (some ⟨k, 0, none⟩) l.length c) X := fun X => by
    simp [Instr.slice, run_underlying Try.underlying47, go_sem, hcap]
  go_wp2
  go_region
  obtain ⟨P2, K2, far⟩ := pop_mid P1.out
  obtain ⟨X, hX⟩ : ∃ X, X = (W.setCell ⟨pb, 0, none⟩ (.slice (some ⟨k, 0, none⟩) l.length c)).drew := ⟨_, rfl⟩
  rw [← hX] at P2 K2 far ⊢
  clear hX d0 df SL
  have e2 := far _ _ hpb.out e1.out
  have q0 : X.cell? ⟨w.heap.size, 0, none⟩ = some (.int .i64 t) := Go.Joins.cell_of_block e2 0
  have d1 : X.cell? ⟨pb, 1, none⟩ = some (.map (some mb)) := Go.Joins.cell_of_block P2.cell 1
  obtain ⟨i0, hi0⟩ := hf.out
  obtain ⟨o1, D1, M1⟩ := MapIs.delete (w := X.drew) (P2.map.move rfl) t i0 hi0 0
  obtain ⟨P3, K3⟩ := (P2.move (Below.refl _ X).drew).setMap o1 M1
  have e3 : (setB X.drew mb o1).heap[w.heap.size]? = some (.cells #[.int .i64 t, .int .i64 a, .string s] 34 (0, 0)) := by
    obtain ⟨m, cc, h1, -⟩ := P2.map.out
    exact (setB_other (w := X.drew) h1 _ hmb.out).trans e2
  replace P2 := Lib.hid P2
  replace K2 := Lib.hid K2
  replace P3 := Lib.hid P3
  replace K3 := Lib.hid K3
  replace M1 := Lib.hid M1
  replace e2 := Lib.hid e2
  replace hi0 := Lib.hid hi0
  clear far
  go_wp2
  go_region_law (refine step_delete rfl _ _ rfl mb t rfl rfl D1 ?_)
  all_goals
    have z0 : (setB X.drew mb o1).cell? ⟨w.heap.size, 0, none⟩ = some (.int .i64 t) := Go.Joins.cell_of_block e3 0
    have z1 : (setB X.drew mb o1).cell? ⟨w.heap.size, 1, none⟩ = some (.int .i64 a) := Go.Joins.cell_of_block e3 1
    have z2 : (setB X.drew mb o1).cell? ⟨w.heap.size, 2, none⟩ = some (.string s) := Go.Joins.cell_of_block e3 2
    go_wp2
    go_ret
    have K4 : PK pb mb (.slice (some ⟨k, 0, none⟩) l.length c) W (setB X.drew mb o1) := (K2.out.trans (.inl rfl) (PK.of_below (Below.refl _ X).drew)).trans (.inl rfl) K3.out
    exact ⟨rfl, _, P3.out, PK.trans (v' := .slice (some ⟨k, 0, none⟩) l.length c) K1.out (.inl rfl) K4, rfl⟩
end Go.Proofs.Ytmanlmhiiijlmaa
