/- A ledger that a law has made beside a row of texts of the law's own; a crash, and opening again. -/
import Derived.Test.YtmlfheagbfaoaaaDoorLb
namespace Go.Proofs.YtmlfheagbfaoaaaDoor
open Go.RowKit Go.Proofs.YtmlfheagbfaoaaaDoorW.PrintWords Go.Proofs.YtmlfheagbfaoaaaDoorW.PrintMore Go.Lib
theorem apart_moved {w : World} {u v v' : Value} {n₀ n : Nat} {xs : List Value} (hr : w.ownsRow n₀ 9 1 u n xs) (ha : Apart u v) (hm : Moved w v v') : Apart u v' := by
  rcases hm with h | ⟨k, hk, hle⟩
  · unfold Apart
    rw [h]
    exact ha
  · refine .inr (fun e => ?_)
    have := own_lt hr k (by rw [e, hk])
    omega
theorem apart_fresh {w : World} {u v : Value} {n₀ n : Nat} {xs : List Value} (hr : w.ownsRow n₀ 9 1 u n xs) (hv : ∀ k, v.ownBlock = some k → w.heap.size ≤ k) : Apart u v := by
  by_cases h : u.ownBlock = none
  · exact .inl h
  · refine .inr (fun e => ?_)
    obtain ⟨k, hk⟩ := Option.ne_none_iff_exists'.1 h
    have h1 := own_lt hr k hk
    have h2 := hv k (by rw [← e, hk])
    omega
theorem Apart.symm {u v : Value} (h : Apart u v) : v.ownBlock = none ∨ v.ownBlock ≠ u.ownBlock := by
  by_cases hv : v.ownBlock = none
  · exact .inl hv
  · rcases h with h | h
    · exact .inr (by rw [h]; exact hv)
    · exact .inr (fun e => h e.symm)
theorem LedgerV.grown {w w' : World} {B g lg : Nat} {v u : Value} {b : ByteArray} {sy : Nat} {recs : List ByteArray} {syn : Nat} {n₀ n : Nat} {xs : List Value} (h : LedgerV w B g lg v b sy recs syn) (hr : w.ownsRow n₀ 9 1 u n xs) (ha : Apart u v) (hg : w.grownBy w' u.ownBlock) : LedgerV w' B g lg v b sy recs syn :=
  ⟨fileGrown h.file hr hg, (hg.block lg (Array.getElem?_eq_some_iff.1 h.cell).1 (fun e => by
    obtain ⟨cells, hc⟩ := own_typed hr lg e.symm
    rw [h.cell] at hc
    cases hc)).trans h.cell, h.row.kept hg ha.symm, h.ge, h.ne, h.few⟩
/-- A ledger beside a row of texts. -/
structure TSt (w w' : World) (lg : Nat) (v u : Value) (recs all : List ByteArray) (sy syn : Nat) : Prop where
  st : LSt w w' lg v recs sy syn
  row : w'.ownsRow w.heap.size 9 1 u all.length (all.map Value.string)
  apart : Apart u v
theorem TSt.move {w w' w'' : World} {lg : Nat} {v u : Value} {recs all : List ByteArray} {sy syn : Nat} (h : TSt w w' lg v u recs all sy syn) (hb : Below w'.heap.size w' w'') : TSt w w'' lg v u recs all sy syn :=
  ⟨h.st.move hb, pw_own_below h.row hb, h.apart⟩
theorem TSt.turned {w w' w2 : World} {lg : Nat} {v v' u : Value} {recs recs' all : List ByteArray} {sy syn sy' syn' : Nat} (h : TSt w w' lg v u recs all sy syn) (h2 : LSt w w2 lg v' recs' sy' syn') (hk : LK w.heap.size w.heap.size lg v w' w2) (hm : Moved w' v v') : TSt w w2 lg v' u recs' all sy' syn' :=
  ⟨h2, rowLK h.row h.st.at_ h.apart hk, apart_moved h.row h.apart hm⟩
theorem TSt.told {w w2 w5 : World} {lg : Nat} {v u u' : Value} {recs all : List ByteArray} {sy syn : Nat} (h : TSt w w2 lg v u recs all sy syn) (r : ByteArray)
    (hown : w5.ownsRow w.heap.size 9 1 u' (all.length + 1) (all.map Value.string ++ [.string r])) (hg : (w2.alloc (.cells #[.string r] 9)).grownBy w5 u.ownBlock) (hat : u'.ownBlock = u.ownBlock ∨ u'.ownBlock = some (w2.heap.size + 1)) : TSt w w5 lg v u' recs (all ++ [r]) sy syn := by
  have h1 := h.move ((Below.refl _ w2).alloc (Nat.le_refl _) (.cells #[.string r] 9))
  refine ⟨⟨h1.st.at_.grown h1.row h1.apart hg, h1.st.below.grown hg h1.st.below.size (fun k hk => own_base h1.row k hk), h1.st.small⟩, by rw [List.length_append, List.map_append]; exact hown, ?_⟩
  rcases hat with e | e
  · unfold Apart
    rw [e]
    exact h1.apart
  · refine .inr (fun e2 => ?_)
    have := own_lt h.st.at_.row (w2.heap.size + 1) (by rw [← e2, e])
    omega
theorem sync_st (w w' : World) (lg : Nat) (v : Value) (recs : List ByteArray) (sy syn : Nat) (h : LSt w w' lg v recs sy syn) :
    Calls Tryd.prog 21 #[.pointer (some ⟨lg, 0, none⟩)] w' fun e w2 => e = .returned (.int .i64 0) ∧ LSt w w2 lg v recs (allB recs).size recs.length ∧ LK w.heap.size w.heap.size lg v w' w2 := by
  refine (lsync_any _ _ lg v _ sy recs syn w' h.at_).mono ?_
  rintro e w2 ⟨rfl, L, K⟩
  exact ⟨rfl, ⟨L, K.below h.at_ h.below, h.small⟩, K⟩
/-- Opening what a crash has left. -/
theorem reopen (w w' : World) (recs : List ByteArray) (c : ByteArray) (sy m : Nat) (hF : Dk.FileAt w' w.heap.size w.heap.size c sy) (hB : Below w.heap.size w w') (hT : Tab w) (hs : ∀ r ∈ recs, r.size ≤ 9000) (ht : TornOf (allB recs) c m) :
    Calls Tryd.prog 10 #[.pointer (some ⟨w.heap.size, 0, none⟩)] w' fun e w2 => ∃ lg v j, e = .returned (.tuple #[.pointer (some ⟨lg, 0, none⟩), .int .i64 0]) ∧ j ≤ recs.length ∧
      LSt w w2 lg v (recs.take j) (allB (recs.take j)).size j ∧ (∀ i, i ≤ recs.length → (allB (recs.take i)).size ≤ m → i ≤ j) ∧ toldB c = endsFrom 0 (recs.take j) ∧ (∀ k, v.ownBlock = some k → w'.heap.size ≤ k) ∧ Dk.Keeps w.heap.size w.heap.size w' w2 := by
  obtain ⟨j, j1, j2, j3, -, j5⟩ := told_left recs c m hs ht
  refine (open_any _ _ c sy w' hF (hT.below hB) hB.size).mono ?_
  rintro e w2 ⟨lg, v, rfl, L, hr, _, K⟩
  rw [j3, j2, endOf_all, endsFrom_map, endsFrom_length, List.length_take, Nat.min_eq_left j1] at L
  refine ⟨lg, v, j, rfl, j1, ⟨L, K.below hB (Nat.le_refl _) hB.size, fun r hx => hs r (List.mem_of_mem_take hx)⟩, j5, j2, fun k hk => own_base hr k hk, K⟩
theorem rowTake {w : World} {n₀ : Nat} {A : Option Addr} {c : Nat} {l : List ByteArray} (h : w.ownsRow n₀ 9 1 (.slice A l.length c) l.length (l.map Value.string)) (m : Nat) (hm : m ≤ l.length) : w.ownsRow n₀ 9 1 (.slice A m c) (l.take m).length ((l.take m).map Value.string) := by
  have hR : Kd.string.R 9 w n₀ (fun _ => True) (.slice A l.length c) l := Kd.R_of_own h (fun _ _ => trivial)
  exact Kd.own_of_R (Kd.R_take hR hm)
theorem slice_row (w : World) (A : Option Addr) (n c j : Nat) (h : j ≤ c) :
    (Instr.slice 22 (.slice A n c) none (some (.int .i64 (j : Int))) none).run Tryd.prog w = .ok (.slice A j c) w := by
  simp [Instr.slice, run_underlying Tryd.underlying22, go_sem, h]
end Go.Proofs.YtmlfheagbfaoaaaDoor
