/- The agenda's heap in memory: the methods of its pile. -/
import Derived.Test.YtmanlmhiiijlmaaMapL
import Derived.Test.YtmanlmhiiijlmaaHeapL
import Derived.Test.YtmanlmhiiijlmaaWWords
import Derived.Lib.Hide
import Derived.Outline
import Derived.BigQuiet
import Derived.Deep.QuietTactic
import Derived.Deep.RegionWith
import Derived.Deep.RegionHeld3
import Derived.WalkSpells
import Derived.IntWalk
import Derived.Lib.SmallJoins
namespace Go.Proofs.Ytmanlmhiiijlmaa
open Go.RowKit Go.Proofs.YtmanlmhiiijlmaaW.PrintWords Go.Lib
/-- An entry: its ticket, its moment, what is to be done. -/
abbrev En := Int × Int × ByteArray
def cellsE (e : En) : List Value := [.int .i64 e.1, .int .i64 e.2.1, .string e.2.2]
def flat (l : List En) : List Value := l.flatMap cellsE
theorem flat_len : ∀ (l : List En), (flat l).length = l.length * 3
  | [] => rfl
  | e :: l => by
    have := flat_len l
    unfold flat at *
    rw [List.flatMap_cons, List.length_append, this, List.length_cons]
    simp [cellsE]
    omega
theorem flat_at : ∀ (l : List En) (i j : Nat) (e : En), l[i]? = some e → j < 3 → (flat l)[i * 3 + j]? = (cellsE e)[j]?
  | [], i, j, e, h, _ => by simp at h
  | x :: l, 0, j, e, h, hj => by
    simp at h
    subst h
    unfold flat
    rw [List.flatMap_cons, List.getElem?_append_left (by simp [cellsE]; omega)]
    simp
  | x :: l, i + 1, j, e, h, hj => by
    rw [List.getElem?_cons_succ] at h
    have := flat_at l i j e h hj
    unfold flat at *
    rw [List.flatMap_cons, List.getElem?_append_right (by simp [cellsE]; omega), show (i + 1) * 3 + j - (cellsE x).length = i * 3 + j by simp [cellsE]; omega]
    exact this
structure PileAt (w : World) (B pb mb : Nat) (v : Value) (l : List En) (f : Int → Option Int) : Prop where
  cell : w.heap[pb]? = some (.cells #[v, .map (some mb)] 55 (0, 0))
  row : w.ownsRow B 34 3 v l.length (flat l)
  map : MapIs w mb f
  geP : B ≤ pb
  geM : B ≤ mb
theorem MapIs.move {w w' : World} {mb : Nat} {f : Int → Option Int} (h : MapIs w mb f) (hb : w'.heap[mb]? = w.heap[mb]?) : MapIs w' mb f := by
  obtain ⟨m, c, h1, h2, h3⟩ := h.out
  exact ⟨m, c, hb.trans h1, h2, h3⟩
theorem MapIs.lt {w : World} {mb : Nat} {f : Int → Option Int} (h : MapIs w mb f) : mb < w.heap.size := by
  obtain ⟨m, c, h1, -⟩ := h.out
  exact (Array.getElem?_eq_some_iff.1 h1).1
theorem PileAt.move {w w' : World} {B pb mb : Nat} {v : Value} {l : List En} {f : Int → Option Int} (h : PileAt w B pb mb v l f) (hb : Below w.heap.size w w') : PileAt w' B pb mb v l f :=
  ⟨(hb.block pb (Array.getElem?_eq_some_iff.1 h.cell).1).trans h.cell, pw_own_below h.row hb, h.map.move (hb.block mb h.map.lt), h.geP, h.geM⟩
theorem rowSlice {w : World} {n₀ : Nat} {e : TypeId} {sz : Nat} {v : Value} {n : Nat} {xs : List Value} (h : w.ownsRow n₀ e sz v n xs) : ∃ A c, v = .slice A n c := by
  rcases h.2 with ⟨rfl, h0⟩ | ⟨k, cap, cur, rfl, -⟩
  · exact ⟨none, 0, by rw [h0]⟩
  · exact ⟨_, _, rfl⟩
/-- An entry's cells. -/
theorem rowEnt {w : World} {n₀ : Nat} {A : Option Addr} {c : Nat} {l : List En} (h : w.ownsRow n₀ 34 3 (.slice A l.length c) l.length (flat l)) (i : Nat) (e : En) (hi : l[i]? = some e) :
    ∃ k, A = some ⟨k, 0, none⟩ ∧ w.cell? ⟨k, i * 3, none⟩ = some (.int .i64 e.1) ∧ w.cell? ⟨k, i * 3 + 1, none⟩ = some (.int .i64 e.2.1) ∧ w.cell? ⟨k, i * 3 + 2, none⟩ = some (.string e.2.2) ∧ ∀ j, w.frozen? ⟨k, j, none⟩ = false := by
  have hlt := (List.getElem?_eq_some_iff.1 hi).1
  rcases h.2 with ⟨_, h2⟩ | ⟨k, cap, cur, e1, _⟩
  · omega
  · cases e1
    refine ⟨k, rfl, ?_, ?_, ?_, fun j => World.ownsRow.frozenAt h j⟩
    · have := World.ownsRow.cellAt h (i * 3) (by omega)
      rw [this]
      exact flat_at l i 0 e hi (by omega)
    · rw [World.ownsRow.cellAt h (i * 3 + 1) (by omega), flat_at l i 1 e hi (by omega)]
      rfl
    · rw [World.ownsRow.cellAt h (i * 3 + 2) (by omega), flat_at l i 2 e hi (by omega)]
      rfl
def cmpI (a b : Int) : Int := if a < b then -1 else if b < a then 1 else 0
theorem isNaN_any (w : World) (a : Int) : Calls Try.prog 56 #[.int .i64 a] w fun e w' => e = .returned (.bool false) ∧ w = w' := by
  go_enter Try.func56, Try.ntmps56
  go_wp2
  go_ret
  exact ⟨by simp, rfl⟩
theorem cmp_any (w : World) (a b : Int) : Calls Try.prog 55 #[.int .i64 a, .int .i64 b] w fun e w' => e = .returned (.int .i64 (cmpI a b)) ∧ w = w' := by
  by_cases h1 : a < b
  · have e1 : cmpI a b = -1 := by unfold cmpI; rw [if_pos h1]
    rw [e1]
    go_enter Try.func55, Try.ntmps55
    go_wp2_with (go_at_call 56; refine (isNaN_any _ _).mono ?_; rintro e w' ⟨rfl, rfl⟩)
    go_ret
    exact ⟨rfl, rfl⟩
  · by_cases h2 : b < a
    · have e1 : cmpI a b = 1 := by unfold cmpI; rw [if_neg h1, if_pos h2]
      rw [e1]
      go_enter Try.func55, Try.ntmps55
      go_wp2_with (go_at_call 56; refine (isNaN_any _ _).mono ?_; rintro e w' ⟨rfl, rfl⟩)
      go_ret
      exact ⟨rfl, rfl⟩
    · have e1 : cmpI a b = 0 := by unfold cmpI; rw [if_neg h1, if_neg h2]
      rw [e1]
      go_enter Try.func55, Try.ntmps55
      go_wp2_with (go_at_call 56; refine (isNaN_any _ _).mono ?_; rintro e w' ⟨rfl, rfl⟩)
      go_ret
      exact ⟨rfl, rfl⟩
def orI (a b : Int) : Int := if a = 0 then b else a
set_option maxHeartbeats 800000 in
theorem or_any (w : World) (k : Nat) (a b : Int) (h0 : w.cell? ⟨k, 0, none⟩ = some (.int .i64 a)) (h1 : w.cell? ⟨k, 1, none⟩ = some (.int .i64 b)) :
    Calls Try.prog 54 #[.slice (some ⟨k, 0, none⟩) 2 2] w fun e w' => e = .returned (.int .i64 (orI a b)) ∧ w = w' := by
  go_enter Try.func54, Try.ntmps54
  go_wp2
  go_loop [8] (fun v => ∃ n : Nat, n ≤ 2 ∧ v = .int .i64 (n : Int) ∧ (1 ≤ n → a = 0) ∧ (2 ≤ n → b = 0)) (fun v => 2 - (intOf v).toNat)
  case atStart => exact ⟨0, by omega, rfl, by omega, by omega⟩
  case round =>
    obtain ⟨n, hn, rfl, ha, hb⟩ := hrel
    obtain rfl | rfl | rfl : n = 0 ∨ n = 1 ∨ n = 2 := by omega
    · by_cases e : a = 0
      · have e1 : (a != 0) = false := by simp [e]
        have E := Lib.hid e
        clear e ha hb
        go_wp2
        go_round
        case rel => exact ⟨1, by omega, rfl, fun _ => E.out, by omega⟩
        case measure => simp [intOf]
      · have e1 : (a != 0) = true := by simp [e]
        have E := Lib.hid (show orI a b = a by unfold orI; rw [if_neg e])
        clear ha hb
        go_wp2
        go_ret
        exact ⟨by rw [E.out]; rfl, rfl⟩
    · have E := Lib.hid (ha (by omega))
      by_cases e : b = 0
      · have e1 : (b != 0) = false := by simp [e]
        have E2 := Lib.hid e
        clear e ha hb
        go_wp2
        go_round
        case rel => exact ⟨2, by omega, rfl, fun _ => E.out, fun _ => E2.out⟩
        case measure => simp [intOf]
      · have e1 : (b != 0) = true := by simp [e]
        have E3 := Lib.hid (show orI a b = b by unfold orI; rw [if_pos E.out])
        clear ha hb
        go_wp2
        go_ret
        exact ⟨by rw [E3.out]; rfl, rfl⟩
    · have E := Lib.hid (show orI a b = 0 by unfold orI; rw [if_pos (ha (by omega)), hb (by omega)])
      clear ha hb
      go_wp2
      go_ret
      exact ⟨by rw [E.out]; rfl, rfl⟩
/-- One entry is told ahead of another. -/
def ltE (x y : En) : Bool := decide (x.2.1 < y.2.1) || (decide (x.2.1 = y.2.1) && decide (x.1 < y.1))
theorem lt_or (x y : En) : decide (orI (cmpI x.2.1 y.2.1) (cmpI x.1 y.1) < 0) = ltE x y := by
  unfold orI cmpI ltE
  rw [Bool.eq_iff_iff]
  simp only [decide_eq_true_eq, Bool.or_eq_true, Bool.and_eq_true]
  by_cases h1 : x.2.1 < y.2.1
  · simp [h1]
  · by_cases h2 : y.2.1 < x.2.1
    · have : ¬ x.2.1 = y.2.1 := by omega
      simp [h1, h2, this]
    · have : x.2.1 = y.2.1 := by omega
      by_cases h3 : x.1 < y.1
      · simp [this, h3]
      · by_cases h4 : y.1 < x.1 <;> simp [this, h3, h4]
set_option maxRecDepth 100000 in
set_option maxHeartbeats 2000000 in
theorem less_any (w : World) (B pb mb : Nat) (v : Value) (l : List En) (f : Int → Option Int) (h : PileAt w B pb mb v l f) (i j : Nat) (x y : En) (hi : l[i]? = some x) (hj : l[j]? = some y) :
    Calls Try.prog 50 #[.pointer (some ⟨pb, 0, none⟩), .int .i64 (i : Int), .int .i64 (j : Int)] w fun e w' => e = .returned (.bool (ltE x y)) ∧ Below w.heap.size w w' := by
  have il := (List.getElem?_eq_some_iff.1 hi).1
  have jl := (List.getElem?_eq_some_iff.1 hj).1
  have c0 : w.cell? ⟨pb, 0, none⟩ = some v := Go.Joins.cell_of_block h.cell 0
  obtain ⟨A, c, ev⟩ := rowSlice h.row
  subst ev
  obtain ⟨k, rfl, x0, x1, -, -⟩ := rowEnt h.row i x hi
  obtain ⟨k', ek, y0, y1, -, -⟩ := rowEnt h.row j y hj
  obtain rfl : k = k' := by simpa using ek
  have hlt := lt_or x y
  obtain ⟨xt, xa, xw⟩ := x
  obtain ⟨yt, ya, yw⟩ := y
  obtain ⟨p, hp⟩ : ∃ p, p = cmpI xa ya := ⟨_, rfl⟩
  obtain ⟨q, hq⟩ : ∃ q, q = cmpI xt yt := ⟨_, rfl⟩
  have C1 := fun X => cmp_any X xa ya
  have C2 := fun X => cmp_any X xt yt
  simp only at hlt
  rw [← hp] at C1 hlt
  rw [← hq] at C2 hlt
  have O1 := fun X : World => or_any (X.alloc (.cells #[.int .i64 p, .int .i64 q] 3)).drew X.heap.size p q (Go.Joins.cell_of_block (heap_alloc_new X _) 0) (Go.Joins.cell_of_block (heap_alloc_new X _) 1)
  obtain ⟨r, hr⟩ : ∃ r, r = orI p q := ⟨_, rfl⟩
  rw [← hr] at O1 hlt
  have BA := Lib.hid (((Below.refl _ w).alloc (Nat.le_refl _) (.cells #[.int .i64 p, .int .i64 q] 3)).drew)
  replace hr := Lib.hid hr
  replace hp := Lib.hid hp
  replace hq := Lib.hid hq
  replace hlt := Lib.hid hlt
  replace C1 := Lib.hid C1
  replace C2 := Lib.hid C2
  replace O1 := Lib.hid O1
  clear h hi hj ek
  go_enter Try.func50, Try.ntmps50
  go_wp2
  go_region_held3 (fun w' => w'.cell? ⟨pb, 0, none⟩ = some (.slice (some ⟨k, 0, none⟩) l.length c) ∧ w'.cell? ⟨k, i * 3, none⟩ = some (.int .i64 xt) ∧ w'.cell? ⟨k, i * 3 + 1, none⟩ = some (.int .i64 xa) ∧ w'.cell? ⟨k, j * 3, none⟩ = some (.int .i64 yt) ∧ w'.cell? ⟨k, j * 3 + 1, none⟩ = some (.int .i64 ya)) (first | exact ⟨c0, x0, x1, y0, y1⟩ | exact ⟨pw_cell_below BA.out c0, pw_cell_below BA.out x0, pw_cell_below BA.out x1, pw_cell_below BA.out y0, pw_cell_below BA.out y1⟩) (first
    | (go_at_call 55; (with_reducible refine (C1.out _).mono ?_); rintro e w5 ⟨rfl, rfl⟩)
    | (go_at_call 55; (with_reducible refine (C2.out _).mono ?_); rintro e w5 ⟨rfl, rfl⟩)
    | (go_at_call 54; refine (O1.out _).mono ?_; rintro e w5 ⟨rfl, rfl⟩))
  all_goals
    go_wp2
    go_ret
    exact ⟨by rw [← hlt.out]; rfl, ((Below.refl _ w).alloc (Nat.le_refl _) _).drew⟩
end Go.Proofs.Ytmanlmhiiijlmaa
