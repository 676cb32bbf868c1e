/- The moments of each ticket; what of memory the agenda leaves by its type. -/
import Derived.Test.YtmanlmhiiijlmaaLf
namespace Go.Proofs.Ytmanlmhiiijlmaa
open Go.RowKit Go.Proofs.YtmanlmhiiijlmaaW.PrintWords Go.Lib
def Tell (L : List En) (M : List Int) : Prop := (∀ e ∈ L, 0 ≤ e.1 ∧ M[e.1.toNat]? = some e.2.1) ∧ ∀ i : Nat, i < M.length → (∀ e ∈ L, e.1 ≠ (i : Int)) → M[i]? = some (-1)
theorem tell_nil : Tell [] [-1] := ⟨fun _ h => absurd h (by simp), fun i hi _ => by
  obtain rfl : i = 0 := by simp at hi; omega
  rfl⟩
theorem tell_perm {L L' : List En} {M : List Int} (h : Tell L M) (hp : L'.Perm L) : Tell L' M := ⟨fun e he => h.1 e (hp.mem_iff.1 he), fun i hi hn => h.2 i hi fun e he => hn e (hp.mem_iff.2 he)⟩
theorem tell_put {L : List En} {M : List Int} (h : Tell L M) (a : Int) (s : ByteArray) : Tell (ins ((M.length : Int), a, s) L) (M ++ [a]) := by
  refine tell_perm ⟨fun e he => ?_, fun i hi hn => ?_⟩ (ins_perm _ _)
  · rcases List.mem_cons.1 he with rfl | he
    · exact ⟨by simp, by simp⟩
    · obtain ⟨h1, h2⟩ := h.1 e he
      refine ⟨h1, ?_⟩
      rw [List.getElem?_append_left (List.getElem?_eq_some_iff.1 h2).1, h2]
  · have hne : i ≠ M.length := fun e => hn _ (List.mem_cons_self ..) (by rw [e])
    rw [List.length_append] at hi
    have hlt : i < M.length := by simp at hi; omega
    rw [List.getElem?_append_left hlt]
    exact h.2 i hlt fun e he => hn e (List.mem_cons_of_mem _ he)
theorem tell_set {L : List En} {M : List Int} (h : Tell L M) (t : Nat) (ht : t < M.length) : Tell (del (t : Int) L) (M.set t (-1)) := by
  refine ⟨fun e he => ?_, fun i hi hn => ?_⟩
  · obtain ⟨h1, h2⟩ := del_mem he
    obtain ⟨h3, h4⟩ := h.1 e h1
    refine ⟨h3, ?_⟩
    rw [List.getElem?_set_ne (by omega), h4]
  · rw [List.length_set] at hi
    by_cases e : t = i
    · subst e
      rw [List.getElem?_set_self ht]
    · rw [List.getElem?_set_ne e]
      refine h.2 i hi fun x hx ex => hn x ?_ ex
      unfold del
      rw [List.mem_filter]
      exact ⟨hx, by simp; omega⟩
theorem tell_move {L : List En} {M : List Int} (h : Tell L M) (t : Nat) (ht : t < M.length) (a : Int) (s : ByteArray) : Tell (ins ((t : Int), a, s) (del (t : Int) L)) (M.set t a) := by
  refine tell_perm ⟨fun e he => ?_, fun i hi hn => ?_⟩ (ins_perm _ _)
  · rcases List.mem_cons.1 he with rfl | he
    · exact ⟨by simp, by simp [ht]⟩
    · obtain ⟨h1, h2⟩ := del_mem he
      obtain ⟨h3, h4⟩ := h.1 e h1
      refine ⟨h3, ?_⟩
      rw [List.getElem?_set_ne (by omega), h4]
  · rw [List.length_set] at hi
    have hne : t ≠ i := fun e => hn _ (List.mem_cons_self ..) (by rw [e])
    rw [List.getElem?_set_ne hne]
    refine h.2 i hi fun x hx ex => hn x (List.mem_cons_of_mem _ ?_) ex
    unfold del
    rw [List.mem_filter]
    exact ⟨hx, by simp; omega⟩
theorem tell_head {x : En} {L : List En} {M : List Int} (h : Tell (x :: L) M) (t : Nat) (ht : x.1 = (t : Int)) (htl : t < M.length) (hn : ∀ e ∈ L, e.1 ≠ x.1) : Tell L (M.set t (-1)) := by
  have := tell_set h t htl
  rw [← ht, del_cons, del_none hn] at this
  exact this
def rowI (M : List Int) : List Value := M.map (Value.int .i64)
theorem rowI_set (M : List Int) (i : Nat) (a : Int) : (rowI M).set i (.int .i64 a) = rowI (M.set i a) := by
  unfold rowI
  rw [List.map_set]
/-- An element of a row of whole numbers. -/
theorem rowInt {w : World} {n₀ : Nat} {A : Option Addr} {c : Nat} {M : List Int} (h : w.ownsRow n₀ 3 1 (.slice A M.length c) M.length (rowI M)) (i : Nat) (m : Int) (hi : M[i]? = some m) :
    ∃ g, A = some ⟨g, 0, none⟩ ∧ w.cell? ⟨g, i, none⟩ = some (.int .i64 m) ∧ w.frozen? ⟨g, i, none⟩ = false := by
  have hlt := (List.getElem?_eq_some_iff.1 hi).1
  rcases h.2 with ⟨_, h2⟩ | ⟨g, cap, cur, e1, _⟩
  · omega
  · cases e1
    refine ⟨g, rfl, ?_, World.ownsRow.frozenAt h i⟩
    rw [World.ownsRow.cellAt h i (by omega)]
    unfold rowI
    rw [List.getElem?_map, hi]
    rfl
/-- A block of another type stays. -/
theorem AgAt.other {w : World} {B ab pb mb : Nat} {v : Value} {L : List En} {last : Nat} (h : AgAt w B ab pb mb v L last) {k : Nat} {cs : Array Value} {ty : TypeId} {fz : Nat × Nat} (hk : w.heap[k]? = some (.cells cs ty fz)) (h1 : ty ≠ 57) (h2 : ty ≠ 55) (h3 : ty ≠ 34) :
    k ≠ ab ∧ k ≠ pb ∧ k ≠ mb ∧ some k ≠ v.ownBlock := by
  obtain ⟨l, hl, hp⟩ := h.out
  obtain ⟨f, P, Q⟩ := hl.hp.out
  refine ⟨?_, ?_, ?_, fun e => ?_⟩
  · rintro rfl
    have := h.cell
    rw [hk] at this
    injection this with this
    injection this with _ this
    exact h1 this
  · rintro rfl
    have := P.cell
    rw [hk] at this
    injection this with this
    injection this with _ this
    exact h2 this
  · rintro rfl
    obtain ⟨m, c, h4, -⟩ := P.map.out
    rw [hk] at h4
    cases h4
  · obtain ⟨cells, h4⟩ := own_typed P.row k e.symm
    rw [hk] at h4
    injection h4 with h4
    injection h4 with _ h4
    exact h3 h4
theorem AK.other {w w' : World} {B ab pb mb : Nat} {v : Value} {L : List En} {last : Nat} (hk : AK ab pb mb v w w') (h : AgAt w B ab pb mb v L last) {k : Nat} {cs : Array Value} {ty : TypeId} {fz : Nat × Nat} (hb : w.heap[k]? = some (.cells cs ty fz)) (h1 : ty ≠ 57) (h2 : ty ≠ 55) (h3 : ty ≠ 34) : w'.heap[k]? = some (.cells cs ty fz) := by
  obtain ⟨a, b, c, d⟩ := h.other hb h1 h2 h3
  exact (hk.block k (Array.getElem?_eq_some_iff.1 hb).1 a b c d).trans hb
theorem AK.rowOther {w w' : World} {B ab pb mb : Nat} {v u : Value} {L : List En} {last : Nat} (hk : AK ab pb mb v w w') (h : AgAt w B ab pb mb v L last) {n₀ n : Nat} {ty : TypeId} {sz : Nat} {xs : List Value} (hr : w.ownsRow n₀ ty sz u n xs) (h1 : ty ≠ 57) (h2 : ty ≠ 55) (h3 : ty ≠ 34) : w'.ownsRow n₀ ty sz u n xs := by
  refine ⟨hr.1, ?_⟩
  rcases hr.2 with h4 | ⟨k, cap, cur, e1, e2, e3, e4⟩
  · exact .inl h4
  · exact .inr ⟨k, cap, cur, e1, e2, hk.other h e3 h1 h2 h3, e4⟩
/-- An agenda stays where a row of another type grows. -/
theorem AgAt.grown {w w' : World} {B ab pb mb : Nat} {v u : Value} {L : List En} {last : Nat} (h : AgAt w B ab pb mb v L last) {n₀ n : Nat} {ty : TypeId} {sz : Nat} {xs : List Value} (hr : w.ownsRow n₀ ty sz u n xs) (hg : w.grownBy w' u.ownBlock) (h1 : ty ≠ 57) (h2 : ty ≠ 55) (h3 : ty ≠ 34) : AgAt w' B ab pb mb v L last :=
  h.kept hg fun k hk => by
    obtain ⟨cs, hc⟩ := own_typed hr k hk
    exact h.other hc h1 h2 h3
theorem below_grown {n₀ n : Nat} {ty : TypeId} {sz : Nat} {xs : List Value} {w0 w w' : World} {u : Value} (hb : Below n₀ w0 w) (hn : n₀ ≤ w.heap.size) (hr : w.ownsRow n₀ ty sz u n xs) (hg : w.grownBy w' u.ownBlock) : Below n₀ w0 w' :=
  ⟨hg.os.trans hb.os, hg.tape.trans hb.tape, hg.output.trans hb.output, Nat.le_trans hb.size hg.size, fun k hk => (hg.block k (by omega) fun e => by have := own_base hr k e.symm; omega).trans (hb.block k hk)⟩
end Go.Proofs.Ytmanlmhiiijlmaa
