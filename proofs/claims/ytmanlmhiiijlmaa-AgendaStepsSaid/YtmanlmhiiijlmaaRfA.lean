/- The reference's agenda in memory: Take. -/
import Derived.Test.YtmanlmhiiijlmaaTel
namespace Go.Proofs.Ytmanlmhiiijlmaa
open Go.RowKit Go.Proofs.YtmanlmhiiijlmaaW.PrintWords Go.Lib
/-- A list of the reference's entries, in a block that is only read. -/
structure L3 (w : World) (B : Nat) (u : Value) (L : List En) : Prop where
  out : ∃ A c, u = .slice A L.length c ∧ L.length ≤ c ∧ ((A = none ∧ c = 0) ∨ ∃ k off cur, A = some ⟨k, off, none⟩ ∧ B ≤ k ∧ w.heap[k]? = some (.cells cur 38 (0, 0)) ∧
    ∀ (i : Nat) (e : En), L[i]? = some e → cur[off + i * 3]? = some (.int .i64 e.1) ∧ cur[off + i * 3 + 1]? = some (.int .i64 e.2.1) ∧ cur[off + i * 3 + 2]? = some (.string e.2.2))
structure RefAt (w : World) (B rb : Nat) (u : Value) (L : List En) (last : Nat) : Prop where
  cell : w.heap[rb]? = some (.cells #[u, .int .i64 (last : Int)] 29 (0, 0))
  lies : L3 w B u L
  ge : B ≤ rb
/-- What the reference's methods leave as it was. -/
structure RK (rb : Nat) (w w' : World) : Prop where
  os : w'.os = w.os
  tape : w'.tape = w.tape
  output : w'.output = w.output
  size : w.heap.size ≤ w'.heap.size
  block : ∀ k, k < w.heap.size → k ≠ rb → w'.heap[k]? = w.heap[k]?
theorem L3.kept {w w' : World} {B : Nat} {u : Value} {L : List En} (h : L3 w B u L) (hk : ∀ (k : Nat) (cur : Array Value), w.heap[k]? = some (Obj.cells cur 38 (0, 0)) → w'.heap[k]? = some (Obj.cells cur 38 (0, 0))) : L3 w' B u L := by
  obtain ⟨A, c, e1, e2, e3⟩ := h.out
  refine ⟨A, c, e1, e2, ?_⟩
  rcases e3 with e3 | ⟨k, off, cur, f1, f2, f3, f4⟩
  · exact .inl e3
  · exact .inr ⟨k, off, cur, f1, f2, hk k cur f3, f4⟩
theorem L3.move {w w' : World} {B : Nat} {u : Value} {L : List En} (h : L3 w B u L) (hb : Below w.heap.size w w') : L3 w' B u L :=
  h.kept fun k _ hc => (hb.block k (Array.getElem?_eq_some_iff.1 hc).1).trans hc
theorem RefAt.move {w w' : World} {B rb : Nat} {u : Value} {L : List En} {last : Nat} (h : RefAt w B rb u L last) (hb : Below w.heap.size w w') : RefAt w' B rb u L last :=
  ⟨(hb.block rb (Array.getElem?_eq_some_iff.1 h.cell).1).trans h.cell, h.lies.move hb, h.ge⟩
theorem L3.ent {w : World} {B : Nat} {A : Option Addr} {n c : Nat} {L : List En} (h : L3 w B (.slice A n c) L) {i : Nat} {e : En} (hi : L[i]? = some e) :
    ∃ k off, A = some ⟨k, off, none⟩ ∧ w.cell? ⟨k, off + i * 3, none⟩ = some (.int .i64 e.1) ∧ w.cell? ⟨k, off + i * 3 + 1, none⟩ = some (.int .i64 e.2.1) ∧ w.cell? ⟨k, off + i * 3 + 2, none⟩ = some (.string e.2.2) := by
  obtain ⟨A', c', e1, e2, e3⟩ := h.out
  injection e1 with e1 e4 e5
  subst e1
  have hil := (List.getElem?_eq_some_iff.1 hi).1
  rcases e3 with ⟨_, e6⟩ | ⟨k, off, cur, f1, f2, f3, f4⟩
  · omega
  obtain ⟨g0, g1, g2⟩ := f4 i e hi
  exact ⟨k, off, f1, (Go.Joins.cell_of_block f3 _).trans g0, (Go.Joins.cell_of_block f3 _).trans g1, (Go.Joins.cell_of_block f3 _).trans g2⟩
theorem rowL3 {w : World} {B : Nat} {u : Value} {L : List En} (h : w.ownsRow B 38 3 u L.length (flat L)) : L3 w B u L := by
  rcases h.2 with ⟨e1, e2⟩ | ⟨g, cap, cur, e1, e2, e3, e4, e5, e6, e7⟩
  · exact ⟨none, 0, by rw [e1, e2], by omega, .inl ⟨rfl, rfl⟩⟩
  · refine ⟨_, cap, e1, e4, .inr ⟨g, 0, cur, rfl, e2, e3, fun i e hi => ?_⟩⟩
    have hil := (List.getElem?_eq_some_iff.1 hi).1
    have G : ∀ j, j < 3 → cur[0 + i * 3 + j]? = (cellsE e)[j]? := fun j hj => by
      rw [← flat_at L i j e hi hj, ← e7, Nat.zero_add, List.getElem?_take_of_lt (by omega), Array.getElem?_toList]
    exact ⟨(G 0 (by omega)).trans rfl, (G 1 (by omega)).trans rfl, (G 2 (by omega)).trans rfl⟩
theorem tw_lt {p : En → Bool} : ∀ {L : List En} {n : Nat}, n < (L.takeWhile p).length → ∃ e, L[n]? = some e ∧ p e = true
  | [], n, h => by simp at h
  | x :: L, n, h => by
    rw [List.takeWhile_cons] at h
    by_cases hp : p x = true
    · rw [if_pos hp] at h
      match n, h with
      | 0, _ => exact ⟨x, rfl, hp⟩
      | n + 1, h =>
        rw [List.length_cons] at h
        exact tw_lt (L := L) (by omega)
    · rw [if_neg hp] at h
      simp at h
theorem tw_end {p : En → Bool} : ∀ {L : List En}, (L.takeWhile p).length = L.length ∨ ∃ e, L[(L.takeWhile p).length]? = some e ∧ p e = false
  | [] => .inl rfl
  | x :: L => by
    rw [List.takeWhile_cons]
    by_cases hp : p x = true
    · rw [if_pos hp, List.length_cons, List.length_cons]
      rcases tw_end (p := p) (L := L) with h | ⟨e, h1, h2⟩
      · exact .inl (by omega)
      · exact .inr ⟨e, by rw [List.getElem?_cons_succ]; exact h1, h2⟩
    · rw [if_neg hp]
      exact .inr ⟨x, rfl, by simpa using hp⟩
theorem rmoment_any (n : Int) (w : World) : Calls Try.prog 28 #[.int .i64 n] w fun e w' => e = .returned (.bool (momB n)) ∧ w = w' := by
  by_cases h1 : 0 ≤ n
  · by_cases h2 : n ≤ 1099511627776
    · rw [show momB n = true by simp [momB, h1, h2]]
      go_enter Try.func28, Try.ntmps28
      go_wp2
      go_ret
      exact ⟨rfl, rfl⟩
    · rw [show momB n = false by simp [momB, h2]]
      go_enter Try.func28, Try.ntmps28
      go_wp2
      go_ret
      exact ⟨rfl, rfl⟩
  · rw [show momB n = false by simp [momB, h1]]
    go_enter Try.func28, Try.ntmps28
    go_wp2
    go_ret
    exact ⟨rfl, rfl⟩
theorem rtake_bad (w : World) (rb : Option Addr) (now : Int) (hm : momB now = false) :
    Calls Try.prog 19 #[.pointer rb, .int .i64 now] w fun e w' => e = .returned (.tuple #[.slice none 0 0, .int .i64 1]) ∧ w = w' := by
  have C0 := rmoment_any now w
  rw [hm] at C0
  replace C0 := Lib.hid C0
  clear hm
  go_enter Try.func19, Try.ntmps19
  go_wp2_with fail
  refine C0.out.mono ?_
  rintro e w' ⟨rfl, rfl⟩
  go_wp2
  go_ret2
  exact ⟨rfl, rfl⟩
theorem RK.of_set (rb j : Nat) (w : World) (x : Value) : RK rb w (w.setCell ⟨rb, j, none⟩ x) := ⟨rfl, rfl, rfl, by simp [World.setCell], fun k _ h => Below.heap_setCell w ⟨rb, j, none⟩ x k h⟩
theorem RK.refl (rb : Nat) (w : World) : RK rb w w := ⟨rfl, rfl, rfl, Nat.le_refl _, fun _ _ _ => rfl⟩
theorem RK.of_below {rb : Nat} {w w' : World} (h : Below w.heap.size w w') : RK rb w w' := ⟨h.os, h.tape, h.output, h.size, fun k hk _ => h.block k hk⟩
theorem RK.trans {rb : Nat} {w w1 w2 : World} (h : RK rb w w1) (k : RK rb w1 w2) : RK rb w w2 :=
  ⟨k.os.trans h.os, k.tape.trans h.tape, k.output.trans h.output, Nat.le_trans h.size k.size, fun i hi h1 => (k.block i (Nat.lt_of_lt_of_le hi h.size) h1).trans (h.block i hi h1)⟩
/-- A list stays where the agenda's own cells are written. -/
theorem L3.set {w : World} {B rb : Nat} {u : Value} {L : List En} (h : L3 w B u L) {cs : Array Value} (hc : w.heap[rb]? = some (.cells cs 29 (0, 0))) (j : Nat) (x : Value) : L3 (w.setCell ⟨rb, j, none⟩ x) B u L :=
  h.kept fun k cur hk => (Below.heap_setCell w ⟨rb, j, none⟩ x k (by
    rintro rfl
    rw [hc] at hk
    injection hk with hk
    injection hk with _ hk
    exact absurd hk (by decide))).trans hk
theorem L3.split {w : World} {B k off c : Nat} {T R : List En} (h : L3 w B (.slice (some ⟨k, off, none⟩) (T ++ R).length c) (T ++ R)) :
    L3 w B (.slice (some ⟨k, off, none⟩) T.length c) T ∧ L3 w B (.slice (some ⟨k, off + T.length * 3, none⟩) R.length (c - T.length)) R := by
  obtain ⟨A', c', e1, e2, e3⟩ := h.out
  injection e1 with e1 e4 e5
  subst e1
  subst e5
  rw [List.length_append] at e2
  rcases e3 with ⟨e6, _⟩ | ⟨k', off', cur, f1, f2, f3, f4⟩
  · cases e6
  · injection f1 with f1
    injection f1 with f1 f5
    subst f1
    subst f5
    refine ⟨⟨_, c, rfl, by omega, .inr ⟨k, off, cur, rfl, f2, f3, fun i e hi => f4 i e ?_⟩⟩, ⟨_, c - T.length, rfl, by omega, .inr ⟨k, _, cur, rfl, f2, f3, fun i e hi => ?_⟩⟩⟩
    · rw [List.getElem?_append_left (List.getElem?_eq_some_iff.1 hi).1, hi]
    · have := f4 (T.length + i) e (by rw [List.getElem?_append_right (by omega), Nat.add_sub_cancel_left, hi])
      rw [show off + T.length * 3 + i * 3 = off + (T.length + i) * 3 by omega]
      exact this
set_option maxRecDepth 100000 in
set_option maxHeartbeats 4000000 in
theorem rtake_ok (w : World) (B rb : Nat) (u : Value) (L : List En) (last : Nat) (h : RefAt w B rb u L last) (now : Int) (hm : momB now = true) (hl : L.length ≤ 512) :
    Calls Try.prog 19 #[.pointer (some ⟨rb, 0, none⟩), .int .i64 now] w fun e w' => ∃ u1 u2, e = .returned (.tuple #[u1, .int .i64 0]) ∧
      RefAt w' B rb u2 (L.dropWhile (due now)) last ∧ L3 w' B u1 (L.takeWhile (due now)) ∧ RK rb w w' := by
  have C0 := rmoment_any now w
  rw [hm] at C0
  replace C0 := Lib.hid C0
  clear hm
  obtain ⟨A, c, eu, hcl, hA⟩ := h.lies.out
  subst eu
  have f0 : w.frozen? ⟨rb, 0, none⟩ = false := Go.Joins.unfrozen_of_block h.cell 0
  rcases hA with ⟨rfl, rfl⟩ | ⟨k, off, cur, rfl, -, -, -⟩
  · obtain rfl : L = [] := List.eq_nil_of_length_eq_zero (by omega)
    rw [List.length_nil] at h
    have c0 : w.cell? ⟨rb, 0, none⟩ = some (.slice none 0 0) := Go.Joins.cell_of_block h.cell 0
    have H := Lib.hid h
    clear h
    go_enter Try.func19, Try.ntmps19
    go_wp2_with fail
    refine C0.out.mono ?_
    rintro e w' ⟨rfl, rfl⟩
    go_wp2_with fail
    go_loopg [6] 0 (fun k v6 wr => v6 = .int .i64 0 ∧ wr = w)
    case atStart => exact ⟨rfl, rfl⟩
    case round =>
      obtain ⟨rfl, rfl⟩ := hrel
      go_wp2
      go_ret2
      exact ⟨_, _, rfl, ⟨Go.Joins.block_setCell H.out.cell _, H.out.lies.set H.out.cell 0 _, H.out.ge⟩, H.out.lies.set H.out.cell 0 _, RK.of_set rb 0 _ _⟩
  · have c0 : w.cell? ⟨rb, 0, none⟩ = some (.slice (some ⟨k, off, none⟩) L.length c) := Go.Joins.cell_of_block h.cell 0
    have hsum : L.length = (L.takeWhile (due now)).length + (L.dropWhile (due now)).length := by rw [← List.length_append, List.takeWhile_append_dropWhile]
    obtain ⟨m, hm⟩ : ∃ m : Nat, m = (L.takeWhile (due now)).length := ⟨_, rfl⟩
    have H := Lib.hid h
    rw [← hm] at hsum
    have hmL : m ≤ L.length := by omega
    replace hsum := Lib.hid hsum
    replace hm := Lib.hid hm
    have hsp := h.lies
    rw [show L = L.takeWhile (due now) ++ L.dropWhile (due now) from List.takeWhile_append_dropWhile.symm] at hsp
    have fin : ∀ W, W = w.setCell ⟨rb, 0, none⟩ (.slice (some ⟨k, off + m * 3, none⟩) (L.length - m) (c - m)) →
        RefAt W B rb (.slice (some ⟨k, off + m * 3, none⟩) (L.length - m) (c - m)) (L.dropWhile (due now)) last ∧ L3 W B (.slice (some ⟨k, off, none⟩) m c) (L.takeWhile (due now)) ∧ RK rb w W := by
      rintro W rfl
      obtain ⟨s1, s2⟩ := hsp.split
      rw [← hm.out] at s1 s2
      have e1 : (L.dropWhile (due now)).length = L.length - m := by have := hsum.out; omega
      rw [e1] at s2
      exact ⟨⟨Go.Joins.block_setCell H.out.cell _, s2.set H.out.cell 0 _, H.out.ge⟩, s1.set H.out.cell 0 _, RK.of_set rb 0 _ _⟩
    have fin2 : ∀ W, L.length ≤ m → W = w.setCell ⟨rb, 0, none⟩ (.slice (some ⟨k, off, none⟩) 0 0) →
        RefAt W B rb (.slice (some ⟨k, off, none⟩) 0 0) (L.dropWhile (due now)) last ∧ L3 W B (.slice (some ⟨k, off, none⟩) m c) (L.takeWhile (due now)) ∧ RK rb w W := by
      rintro W hle rfl
      obtain ⟨s1, s2⟩ := hsp.split
      rw [← hm.out] at s1
      have e1 : L.dropWhile (due now) = [] := List.eq_nil_of_length_eq_zero (by have := hsum.out; omega)
      rw [e1]
      have s3 : L3 w B (.slice (some ⟨k, off, none⟩) 0 0) [] := by
        obtain ⟨A', c', g1, g2, g3⟩ := H.out.lies.out
        injection g1 with g1 _ _
        subst g1
        rcases g3 with ⟨g4, _⟩ | ⟨k', off', cur, g4, g5, g6, _⟩
        · cases g4
        · injection g4 with g4
          injection g4 with g4 g7
          subst g4
          subst g7
          exact ⟨_, 0, rfl, Nat.le_refl _, .inr ⟨k, off, cur, rfl, g5, g6, fun i e hi => by simp at hi⟩⟩
      exact ⟨⟨Go.Joins.block_setCell H.out.cell _, s3.set H.out.cell 0 _, H.out.ge⟩, s1.set H.out.cell 0 _, RK.of_set rb 0 _ _⟩
    replace fin := Lib.hid fin
    replace fin2 := Lib.hid fin2
    clear h hsp
    go_enter Try.func19, Try.ntmps19
    go_wp2_with fail
    refine C0.out.mono ?_
    rintro e w' ⟨rfl, rfl⟩
    go_wp2_with fail
    go_loopg [6] m (fun k v6 wr => ∃ n : Nat, n ≤ m ∧ k = m - n ∧ v6 = .int .i64 (n : Int) ∧ wr = w)
    case atStart => exact ⟨0, Nat.zero_le _, rfl, rfl, rfl⟩
    case round =>
      obtain ⟨n, hn, rfl, rfl, rfl⟩ := hrel
      by_cases hlt : n < m
      · obtain ⟨e, he, hd⟩ := tw_lt (L := L) (p := due now) (n := n) (by rw [← hm.out]; exact hlt)
        obtain ⟨et, ea, es⟩ := e
        obtain ⟨k', off', ek, x0, x1, x2⟩ := H.out.lies.ent he
        injection ek with ek
        injection ek with ek1 ek2
        subst ek1
        subst ek2
        have q0 : decide (ea ≤ now) = true := hd
        have q1 : (n : Int) < (L.length : Int) := by omega
        have q2 : n < L.length := by omega
        replace he := Lib.hid he
        clear hd
        go_wp2
        go_roundg (m - (n + 1))
        case measure => omega
        case rel => exact ⟨n + 1, by omega, rfl, by go_num, rfl⟩
      · obtain rfl : n = m := by omega
        rcases tw_end (L := L) (p := due now) with h1 | ⟨e, he, hd⟩
        · rw [← hm.out] at h1
          have q1 : decide ((n : Int) < (L.length : Int)) = false := by simp; omega
          have q1b : decide (n < L.length) = false := by simp; omega
          replace h1 := Lib.hid h1
          by_cases hcn : c = n
          · subst hcn
            go_wp2
            go_ret2
            obtain ⟨r1, r2, r3⟩ := fin2.out _ (by have := h1.out; omega) rfl
            first | exact ⟨_, rfl, ⟨_, r1⟩, r2, r3⟩ | exact ⟨_, _, rfl, r1, r2, r3⟩
          · have hcn2 : ¬ n = c := fun e => hcn e.symm
            go_wp2
            go_ret2
            obtain ⟨r1, r2, r3⟩ := fin.out _ rfl
            first | exact ⟨_, rfl, ⟨_, r1⟩, r2, r3⟩ | exact ⟨_, _, rfl, r1, r2, r3⟩
        · rw [← hm.out] at he
          obtain ⟨et, ea, es⟩ := e
          obtain ⟨k', off', ek, x0, x1, x2⟩ := H.out.lies.ent he
          injection ek with ek
          injection ek with ek1 ek2
          subst ek1
          subst ek2
          have q0 : decide (ea ≤ now) = false := hd
          have q2 : n < L.length := (List.getElem?_eq_some_iff.1 he).1
          have q1 : (n : Int) < (L.length : Int) := by omega
          replace he := Lib.hid he
          clear hd
          go_wp2
          go_ret2
          obtain ⟨r1, r2, r3⟩ := fin.out _ rfl
          first | exact ⟨_, rfl, ⟨_, r1⟩, r2, r3⟩ | exact ⟨_, _, rfl, r1, r2, r3⟩
end Go.Proofs.Ytmanlmhiiijlmaa
