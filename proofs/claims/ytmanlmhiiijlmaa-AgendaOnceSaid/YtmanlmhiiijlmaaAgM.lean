/- An agenda in memory: Len, Put, Drop, Move. -/
import Derived.Test.YtmanlmhiiijlmaaHopr
namespace Go.Proofs.Ytmanlmhiiijlmaa
open Go.RowKit Go.Proofs.YtmanlmhiiijlmaaW.PrintWords Go.Lib
structure AgAt (w : World) (B ab pb mb : Nat) (v : Value) (L : List En) (last : Nat) : Prop where
  cell : w.heap[ab]? = some (.cells #[.pointer (some ⟨pb, 0, none⟩), .int .i64 (last : Int)] 57 (0, 0))
  out : ∃ h, HeapAt w B pb mb v h ∧ h.Perm L
  sorted : Sorted L
  tick : ∀ e ∈ L, 1 ≤ e.1 ∧ e.1 ≤ (last : Int)
  mom : ∀ e ∈ L, 0 ≤ e.2.1 ∧ e.2.1 ≤ 1099511627776
  ge : B ≤ ab
  few : L.length ≤ 512
/-- What the agenda's methods leave as it was. -/
structure AK (ab pb mb : Nat) (v : Value) (w w' : World) : Prop where
  os : w'.os = w.os
  tape : w'.tape = w.tape
  output : w'.output = w.output
  size : w.heap.size ≤ w'.heap.size
  block : ∀ k, k < w.heap.size → k ≠ ab → k ≠ pb → k ≠ mb → some k ≠ v.ownBlock → w'.heap[k]? = w.heap[k]?
theorem AK.refl (ab pb mb : Nat) (v : Value) (w : World) : AK ab pb mb v w w := ⟨rfl, rfl, rfl, Nat.le_refl _, fun _ _ _ _ _ _ => rfl⟩
theorem AK.of_pk {ab pb mb : Nat} {v : Value} {w w' : World} (h : PK pb mb v w w') : AK ab pb mb v w w' := ⟨h.os, h.tape, h.output, h.size, fun k hk _ h2 h3 h4 => h.block k hk h2 h3 h4⟩
theorem AK.of_below {ab pb mb : Nat} {v : Value} {w w' : World} (h : Below w.heap.size w w') : AK ab pb mb v w w' := ⟨h.os, h.tape, h.output, h.size, fun k hk _ _ _ _ => h.block k hk⟩
theorem AK.trans {ab pb mb : Nat} {v v' : Value} {w w1 w2 : World} (h : AK ab pb mb v w w1) (hm : Moved w v v') (k : AK ab pb mb v' w1 w2) : AK ab pb mb v w w2 :=
  ⟨k.os.trans h.os, k.tape.trans h.tape, k.output.trans h.output, Nat.le_trans h.size k.size, fun i hi h1 h2 h3 h4 => by
    refine (k.block i (Nat.lt_of_lt_of_le hi h.size) h1 h2 h3 ?_).trans (h.block i hi h1 h2 h3 h4)
    rcases hm with hm | ⟨j, hj, hle⟩
    · rw [hm]; exact h4
    · rw [hj]; intro e; injection e with e; omega⟩
theorem AK.of_set {ab pb mb : Nat} {v : Value} {w : World} (j : Nat) (x : Value) : AK ab pb mb v w (w.setCell ⟨ab, j, none⟩ x) := ⟨rfl, rfl, rfl, by simp [World.setCell], fun k _ h1 _ _ _ => Below.heap_setCell w ⟨ab, j, none⟩ x k h1⟩
theorem Moved.refl (w : World) (v : Value) : Moved w v v := .inl rfl
theorem Moved.trans {w w1 : World} {v v1 v2 : Value} (h : Moved w v v1) (k : Moved w1 v1 v2) (hs : w.heap.size ≤ w1.heap.size) : Moved w v v2 := by
  rcases k with k | ⟨j, hj, hle⟩
  · rcases h with h | ⟨i, hi, hle⟩
    · exact .inl (k.trans h)
    · exact .inr ⟨i, k.trans hi, hle⟩
  · exact .inr ⟨j, hj, by omega⟩
theorem Hp.ne {w : World} {B pb mb : Nat} {v : Value} {l : List En} (h : Hp w B pb mb v l) {ab : Nat} {cs : Array Value} (hc : w.heap[ab]? = some (.cells cs 57 (0, 0))) : ab ≠ pb ∧ ab ≠ mb ∧ some ab ≠ v.ownBlock := by
  obtain ⟨f, h1, -⟩ := h.out
  refine ⟨?_, ?_, fun e => ?_⟩
  · rintro rfl
    have := h1.cell
    rw [hc] at this
    injection this with this
    injection this with _ this
    exact absurd this (by decide)
  · rintro rfl
    obtain ⟨m, c, h2, -⟩ := h1.map.out
    rw [hc] at h2
    cases h2
  · obtain ⟨cells, h2⟩ := own_typed h1.row ab e.symm
    rw [hc] at h2
    injection h2 with h2
    injection h2 with _ h2
    exact absurd h2 (by decide)
theorem pk_cell {w w' : World} {B pb mb : Nat} {v : Value} {l : List En} (h : Hp w B pb mb v l) {ab : Nat} {cs : Array Value} (hc : w.heap[ab]? = some (.cells cs 57 (0, 0))) (hk : PK pb mb v w w') : w'.heap[ab]? = some (.cells cs 57 (0, 0)) := by
  obtain ⟨n1, n2, n3⟩ := h.ne hc
  exact (hk.block ab (Array.getElem?_eq_some_iff.1 hc).1 n1 n2 n3).trans hc
theorem AgAt.move {w w' : World} {B ab pb mb : Nat} {v : Value} {L : List En} {last : Nat} (h : AgAt w B ab pb mb v L last) (hb : Below w.heap.size w w') : AgAt w' B ab pb mb v L last := by
  obtain ⟨l, hl, hp⟩ := h.out
  exact ⟨(hb.block ab (Array.getElem?_eq_some_iff.1 h.cell).1).trans h.cell, ⟨l, ⟨hl.hp.move hb, hl.heap⟩, hp⟩, h.sorted, h.tick, h.mom, h.ge, h.few⟩
theorem AgAt.nodup {w : World} {B ab pb mb : Nat} {v : Value} {L : List En} {last : Nat} (h : AgAt w B ab pb mb v L last) : (L.map (·.1)).Nodup := by
  obtain ⟨l, hl, hp⟩ := h.out
  obtain ⟨f, -, h2⟩ := hl.hp.out
  exact (hp.map _).nodup_iff.1 h2.nodup
theorem grown_set (w : World) (a : Addr) (u : Value) : w.grownBy (w.setCell a u) (some a.block) :=
  ⟨rfl, rfl, rfl, by simp [World.setCell], fun k _ hk => Below.heap_setCell w a u k (fun e => hk (by rw [e]))⟩
theorem hp_set {w : World} {B pb mb : Nat} {v : Value} {l : List En} (h : Hp w B pb mb v l) {ab : Nat} {cs : Array Value} (hc : w.heap[ab]? = some (.cells cs 57 (0, 0))) (j : Nat) (x : Value) : Hp (w.setCell ⟨ab, j, none⟩ x) B pb mb v l := by
  obtain ⟨n1, n2, n3⟩ := h.ne hc
  obtain ⟨f, P, Q⟩ := h.out
  have far : ∀ k, k ≠ ab → (w.setCell ⟨ab, j, none⟩ x).heap[k]? = w.heap[k]? := fun k hk => Below.heap_setCell w ⟨ab, j, none⟩ x k hk
  exact ⟨f, ⟨(far pb (fun e => n1 e.symm)).trans P.cell, P.row.kept (grown_set w ⟨ab, j, none⟩ x) (.inr (fun e => n3 e.symm)), P.map.move (far mb (fun e => n2 e.symm)), P.geP, P.geM⟩, Q⟩
def momB (n : Int) : Bool := decide (0 ≤ n) && decide (n ≤ 1099511627776)
theorem moment_any (n : Int) (w : World) : Calls Try.prog 22 #[.int .i64 n] w fun e w' => e = .returned (.bool (momB n)) ∧ w = w' := by
  by_cases h1 : 0 ≤ n
  · by_cases h2 : n ≤ 1099511627776
    · rw [show momB n = true by simp [momB, h1, h2]]
      go_enter Try.func22, Try.ntmps22
      go_wp2
      go_ret
      exact ⟨rfl, rfl⟩
    · rw [show momB n = false by simp [momB, h2]]
      go_enter Try.func22, Try.ntmps22
      go_wp2
      go_ret
      exact ⟨rfl, rfl⟩
  · rw [show momB n = false by simp [momB, h1]]
    go_enter Try.func22, Try.ntmps22
    go_wp2
    go_ret
    exact ⟨rfl, rfl⟩
theorem aglen_any (w : World) (B ab pb mb : Nat) (v : Value) (L : List En) (last : Nat) (h : AgAt w B ab pb mb v L last) :
    Calls Try.prog 11 #[.pointer (some ⟨ab, 0, none⟩)] w fun e w' => e = .returned (.int .i64 (L.length : Nat)) ∧ w = w' := by
  obtain ⟨l, hl, hp⟩ := h.out
  have C := hlen w B pb mb v l hl.hp
  rw [hp.length_eq] at C
  have c0 : w.cell? ⟨ab, 0, none⟩ = some (.pointer (some ⟨pb, 0, none⟩)) := Go.Joins.cell_of_block h.cell 0
  replace C := Lib.hid C
  clear h hl hp
  go_enter Try.func11, Try.ntmps11
  go_wp2_with fail
  refine C.out.mono ?_
  rintro e w' ⟨rfl, rfl⟩
  go_wp2
  go_ret
  exact ⟨rfl, rfl⟩
theorem find_any (w : World) (B ab pb mb : Nat) (v : Value) (h : List En) (f : Int → Option Int) (hP : PileAt w B pb mb v h f) (last : Int) (hc : w.heap[ab]? = some (.cells #[.pointer (some ⟨pb, 0, none⟩), .int .i64 last] 57 (0, 0))) (t : Int) :
    Calls Try.prog 24 #[.pointer (some ⟨ab, 0, none⟩), .int .i64 t] w fun e w' => e = .returned (.tuple #[.int .i64 ((f t).getD 0), .bool (f t).isSome]) ∧ w = w' := by
  have c0 : w.cell? ⟨ab, 0, none⟩ = some (.pointer (some ⟨pb, 0, none⟩)) := Go.Joins.cell_of_block hc 0
  have c1 : w.cell? ⟨pb, 1, none⟩ = some (.map (some mb)) := Go.Joins.cell_of_block hP.cell 1
  have F := hP.map.found t
  obtain ⟨z, hz⟩ : ∃ z, z = (f t).getD 0 := ⟨_, rfl⟩
  obtain ⟨b, hb⟩ : ∃ b, b = (f t).isSome := ⟨_, rfl⟩
  rw [← hz, ← hb] at F ⊢
  replace hz := Lib.hid hz
  replace hb := Lib.hid hb
  clear hP hc
  go_enter Try.func24, Try.ntmps24
  go_wp2
  go_ret2
  exact ⟨rfl, rfl⟩
set_option maxRecDepth 100000 in
set_option maxHeartbeats 2000000 in
theorem put_bad (w : World) (ab : Option Addr) (a : Int) (s : ByteArray) (hm : momB a = false) :
    Calls Try.prog 12 #[.pointer ab, .int .i64 a, .string s] w fun e w' => e = .returned (.tuple #[.int .i64 0, .int .i64 1]) ∧ w = w' := by
  have C := moment_any a w
  rw [hm] at C
  replace C := Lib.hid C
  clear hm
  go_enter Try.func12, Try.ntmps12
  go_wp2_with fail
  refine C.out.mono ?_
  rintro e w' ⟨rfl, rfl⟩
  go_wp2
  go_ret2
  exact ⟨rfl, rfl⟩
set_option maxRecDepth 100000 in
set_option maxHeartbeats 2000000 in
theorem put_full (w : World) (B ab pb mb : Nat) (v : Value) (L : List En) (last : Nat) (h : AgAt w B ab pb mb v L last) (a : Int) (s : ByteArray) (hm : momB a = true) (hf : L.length = 512) :
    Calls Try.prog 12 #[.pointer (some ⟨ab, 0, none⟩), .int .i64 a, .string s] w fun e w' => e = .returned (.tuple #[.int .i64 0, .int .i64 5]) ∧ w = w' := by
  have C := moment_any a w
  rw [hm] at C
  have C2 := aglen_any w B ab pb mb v L last h
  rw [hf] at C2
  replace C := Lib.hid C
  replace C2 := Lib.hid C2
  clear hm h hf
  go_enter Try.func12, Try.ntmps12
  go_wp2_with fail
  refine C.out.mono ?_
  rintro e w' ⟨rfl, rfl⟩
  go_wp2_with fail
  refine C2.out.mono ?_
  rintro e w' ⟨rfl, rfl⟩
  go_wp2
  go_ret2
  exact ⟨rfl, rfl⟩
set_option maxRecDepth 100000 in
set_option maxHeartbeats 2000000 in
theorem put_ok (w : World) (B ab pb mb : Nat) (v : Value) (L : List En) (last : Nat) (h : AgAt w B ab pb mb v L last) (a : Int) (s : ByteArray) (hm : momB a = true) (hf : L.length < 512) (hl : last ≤ 1000000) (hB : B ≤ w.heap.size) :
    Calls Try.prog 12 #[.pointer (some ⟨ab, 0, none⟩), .int .i64 a, .string s] w fun e w' => e = .returned (.tuple #[.int .i64 ((last : Int) + 1), .int .i64 0]) ∧
      ∃ v', AgAt w' B ab pb mb v' (ins ((last : Int) + 1, a, s) L) (last + 1) ∧ AK ab pb mb v w w' ∧ Moved w v v' := by
  have C := moment_any a w
  rw [hm] at C
  have C2 := aglen_any w B ab pb mb v L last h
  obtain ⟨l, hl1, hp⟩ := h.out
  have c0 : w.cell? ⟨ab, 0, none⟩ = some (.pointer (some ⟨pb, 0, none⟩)) := Go.Joins.cell_of_block h.cell 0
  have c1 : w.cell? ⟨ab, 1, none⟩ = some (.int .i64 (last : Int)) := Go.Joins.cell_of_block h.cell 1
  have f1 : w.frozen? ⟨ab, 1, none⟩ = false := Go.Joins.unfrozen_of_block h.cell 1
  have cW : (w.setCell ⟨ab, 1, none⟩ (.int .i64 ((last : Int) + 1))).heap[ab]? = some (.cells #[.pointer (some ⟨pb, 0, none⟩), .int .i64 ((last : Int) + 1)] 57 (0, 0)) := Go.Joins.block_setCell h.cell _
  have HW := hp_set hl1.hp h.cell 1 (.int .i64 ((last : Int) + 1))
  have KW : AK ab pb mb v w (w.setCell ⟨ab, 1, none⟩ (.int .i64 ((last : Int) + 1))) := AK.of_set 1 _
  obtain ⟨W, hW⟩ : ∃ W, W = w.setCell ⟨ab, 1, none⟩ (.int .i64 ((last : Int) + 1)) := ⟨_, rfl⟩
  rw [← hW] at cW HW KW
  have hll : l.length ≤ 50000 := by have := hp.length_eq; omega
  have hfresh : ∀ x ∈ l, x.1 ≠ (last : Int) + 1 := fun x hx => by have := h.tick x (hp.mem_iff.1 hx); omega
  have C3 := Lib.hid (fun X (hX : Below W.heap.size W X) => heap_push X B pb mb v l ⟨HW.move hX, hl1.heap⟩ ((last : Int) + 1, a, s) hfresh hll (Nat.le_trans (Nat.le_trans hB KW.size) hX.size))
  have d0 : W.cell? ⟨ab, 0, none⟩ = some (.pointer (some ⟨pb, 0, none⟩)) := Go.Joins.cell_of_block cW 0
  have d1 : W.cell? ⟨ab, 1, none⟩ = some (.int .i64 ((last : Int) + 1)) := Go.Joins.cell_of_block cW 1
  replace HW := Lib.hid HW
  replace KW := Lib.hid KW
  replace cW := Lib.hid cW
  replace hW := Lib.hid hW
  replace C := Lib.hid C
  replace C2 := Lib.hid C2
  replace hp := Lib.hid hp
  replace hl1 := Lib.hid hl1
  have H := Lib.hid h
  replace hfresh := Lib.hid hfresh
  replace hm := Lib.hid hm
  have hne : ((L.length : Int) == 512) = false := by simp; omega
  clear h
  go_enter Try.func12, Try.ntmps12
  go_wp2_with fail
  refine C.out.mono ?_
  rintro e w' ⟨rfl, rfl⟩
  go_wp2_with fail
  refine C2.out.mono ?_
  rintro e w' ⟨rfl, rfl⟩
  go_wp2
  rw [← hW.out]
  go_region_held3 (fun w' => w'.cell? ⟨ab, 0, none⟩ = some (.pointer (some ⟨pb, 0, none⟩)) ∧ w'.cell? ⟨ab, 1, none⟩ = some (.int .i64 ((last : Int) + 1))) (first | exact ⟨d0, d1⟩ | exact ⟨Go.Joins.cell_of_block c5 0, Go.Joins.cell_of_block c5 1⟩) ((go_at_call 23; refine (C3.out _ ?hB).mono ?_; (case hB => first | exact Below.refl _ _ | exact (Below.refl _ _).drew); rintro e w5 ⟨rfl, v', l', H5, p5, K5, M5⟩; have c5 := pk_cell (HW.out.move (Below.refl _ W).drew) cW.out K5; replace H5 := Lib.hid H5; replace p5 := Lib.hid p5; replace K5 := Lib.hid K5; replace M5 := Lib.hid M5))
  all_goals
    have e1 : w5.cell? ⟨ab, 1, none⟩ = some (.int .i64 ((last : Int) + 1)) := Go.Joins.cell_of_block c5 1
    go_wp2
    go_ret2
    have hlu := (ins_perm ((last : Int) + 1, a, s) L).length_eq
    rw [List.length_cons] at hlu
    have hms : 0 ≤ a ∧ a ≤ 1099511627776 := by simpa [momB] using hm.out
    refine ⟨rfl, v', ⟨c5, ⟨l', H5.out, p5.out.trans ((hp.out.cons _).trans (ins_perm _ _).symm)⟩, ins_sorted _ L H.out.sorted fun x hx => hfresh.out x (hp.out.mem_iff.2 hx), fun e he => ?_, fun e he => ?_, H.out.ge, by omega⟩, (KW.out.trans (Moved.refl _ _) (AK.of_below (Below.refl _ W).drew)).trans (Moved.refl _ _) (AK.of_pk K5.out), ?_⟩
    · rcases List.mem_cons.1 ((ins_perm _ _).mem_iff.1 he) with rfl | he
      · simp; omega
      · have := H.out.tick e he; omega
    · rcases List.mem_cons.1 ((ins_perm _ _).mem_iff.1 he) with rfl | he
      · exact hms
      · exact H.out.mom e he
    · exact Moved.trans (Moved.refl w v) M5.out KW.out.size
end Go.Proofs.Ytmanlmhiiijlmaa
