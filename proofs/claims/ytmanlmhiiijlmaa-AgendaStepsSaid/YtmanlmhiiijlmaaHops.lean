/- container/heap's Push, Pop, Remove, Fix over the agenda's pile. -/
import Derived.Test.YtmanlmhiiijlmaaHpL
import Derived.Test.YtmanlmhiiijlmaaDn
import Derived.Test.YtmanlmhiiijlmaaPop
namespace Go.Proofs.Ytmanlmhiiijlmaa
open Go.RowKit Go.Proofs.YtmanlmhiiijlmaaW.PrintWords Go.Lib
abbrev enV (e : En) : Value := .agg #[.int .i64 e.1, .int .i64 e.2.1, .string e.2.2]
/-- A pile that is a heap. -/
structure HeapAt (w : World) (B pb mb : Nat) (v : Value) (l : List En) : Prop where
  hp : Hp w B pb mb v l
  heap : HL.IsHeap dE ltE l l.length
theorem hlen (w : World) (B pb mb : Nat) (v : Value) (l : List En) (h : Hp w B pb mb v l) :
    Calls Try.prog 21 #[.pointer (some ⟨pb, 0, none⟩)] w fun e w' => e = .returned (.int .i64 (l.length : Nat)) ∧ w = w' := by
  obtain ⟨f, h1, -⟩ := h.out
  exact plen_any w B pb mb v l f h1
theorem hpush1 (w : World) (B pb mb : Nat) (v : Value) (l : List En) (h : Hp w B pb mb v l) (e : En) (hn : ∀ x ∈ l, x.1 ≠ e.1) (hl : l.length ≤ 100000) (hB : B ≤ w.heap.size) :
    Calls Try.prog 52 #[.pointer (some ⟨pb, 0, none⟩), .iface 34 (enV e)] w fun r w' => r = .returned (.tuple #[]) ∧ ∃ v', Hp w' B pb mb v' (l ++ [e]) ∧ PK pb mb v w w' ∧ Moved w v v' := by
  obtain ⟨f, h1, h2⟩ := h.out
  obtain ⟨t, a, s⟩ := e
  refine (push_any w B pb mb v l f h1 t a s hl hB).mono ?_
  rintro r w' ⟨rfl, v', hP, hK, hM⟩
  exact ⟨rfl, v', ⟨_, hP, h2.push (t, a, s) hn⟩, hK, hM⟩
theorem hpop1 (w : World) (B pb mb : Nat) (v : Value) (l : List En) (e : En) (h : Hp w B pb mb v (l ++ [e])) (hl : l.length ≤ 100000) :
    Calls Try.prog 51 #[.pointer (some ⟨pb, 0, none⟩)] w fun r w' => r = .returned (.iface 34 (enV e)) ∧ ∃ v', Hp w' B pb mb v' l ∧ PK pb mb v w w' ∧ v'.ownBlock = v.ownBlock := by
  obtain ⟨f, h1, h2⟩ := h.out
  obtain ⟨t, a, s⟩ := e
  have hat : f t = some (l.length : Int) := h2.at_ (i := l.length) (e := (t, a, s)) (by simp)
  refine (pop_any w B pb mb v l f t a s h1 hl ⟨_, hat⟩).mono ?_
  rintro r w' ⟨rfl, v', hP, hK, hM⟩
  exact ⟨rfl, v', ⟨_, hP, h2.pop⟩, hK, hM⟩
set_option maxRecDepth 100000 in
set_option maxHeartbeats 2000000 in
theorem heap_push (w : World) (B pb mb : Nat) (v : Value) (l : List En) (h : HeapAt w B pb mb v l) (e : En) (hn : ∀ x ∈ l, x.1 ≠ e.1) (hl : l.length ≤ 50000) (hB : B ≤ w.heap.size) :
    Calls Try.prog 23 #[.iface 52 (.pointer (some ⟨pb, 0, none⟩)), .iface 34 (enV e)] w fun r w' => r = .returned (.tuple #[]) ∧ ∃ v' l', HeapAt w' B pb mb v' l' ∧ l'.Perm (e :: l) ∧ PK pb mb v w w' ∧ Moved w v v' := by
  have mp := m_push ⟨pb, 0, none⟩
  have ml := m_len ⟨pb, 0, none⟩
  have C1 := Lib.hid (hpush1 w B pb mb v l h.hp e hn (by omega) hB)
  have hinv := Lib.hid (push_inv e h.heap)
  replace h := Lib.hid h
  replace hn := Lib.hid hn
  obtain ⟨E, hE⟩ : ∃ E, E = enV e := ⟨_, rfl⟩
  rw [← hE] at C1 ⊢
  replace hE := Lib.hid hE
  go_enter Try.func23, Try.ntmps23
  go_wp2_with fail
  refine C1.out.mono ?_
  rintro r w1 ⟨rfl, v1, H1, K1, M1⟩
  have C2 := Lib.hid (hlen w1 B pb mb v1 _ H1)
  have C3 := Lib.hid (up_any w1 B pb mb v1 _ H1 l.length (l.length + 1) (by simp) (by omega) (by simp; omega))
  rw [show (l ++ [e]).length = l.length + 1 by simp] at C2
  replace H1 := Lib.hid H1
  replace K1 := Lib.hid K1
  replace M1 := Lib.hid M1
  go_wp2_with fail
  refine C2.out.mono ?_
  rintro r w2 ⟨rfl, rfl⟩
  go_wp2_with fail
  refine C3.out.mono ?_
  rintro r w3 ⟨rfl, H3, K3⟩
  replace H3 := Lib.hid H3
  replace K3 := Lib.hid K3
  go_wp2
  go_end0
  have hlu := HL.up_len dE ltE (l.length + 1) (l ++ [e]) l.length
  refine ⟨rfl, v1, _, ⟨H3.out, ?_⟩, ?_, K1.out.trans M1.out K3.out, M1.out⟩
  · rw [hlu]
    have := HL.up_heap dE ltE ordE (l.length + 1) (l ++ [e]) (l.length + 1) l.length hinv.out (by simp) (by omega) (by omega)
    rw [List.length_append]
    exact this
  · refine (HL.up_perm dE ltE _ _ _ (by simp)).trans ?_
    exact List.perm_append_comm
set_option maxRecDepth 100000 in
set_option maxHeartbeats 2000000 in
theorem heap_fix (w : World) (B pb mb : Nat) (v : Value) (l : List En) (h : Hp w B pb mb v l) (i : Nat) (hi : i < l.length) (hf : HL.FixInv dE ltE l l.length i) (hl : l.length ≤ 50000) :
    Calls Try.prog 26 #[.iface 52 (.pointer (some ⟨pb, 0, none⟩)), .int .i64 (i : Int)] w fun r w' => r = .returned (.tuple #[]) ∧ ∃ l', HeapAt w' B pb mb v l' ∧ l'.Perm l ∧ PK pb mb v w w' := by
  have ml := m_len ⟨pb, 0, none⟩
  have C2 := Lib.hid (hlen w B pb mb v _ h)
  have C3 := Lib.hid (down_any w B pb mb v _ h i l.length l.length (Nat.le_refl _) (by omega) (by omega) (by omega))
  have e1 := HL.fix_heap dE ltE ordE l.length hf (Nat.le_refl _) hi (Nat.le_refl _)
  have e2 := HL.fix_len dE ltE l.length l l.length i
  have e3 := HL.fix_perm dE ltE l.length (Nat.le_refl l.length) hi
  have e4 : HL.fix dE ltE l.length l l.length i = if i < (HL.down dE ltE l.length l l.length i).2 then (HL.down dE ltE l.length l l.length i).1 else HL.up dE ltE l.length (HL.down dE ltE l.length l l.length i).1 i := rfl
  have e5 := HL.down_len dE ltE l.length l l.length i
  obtain ⟨R, hR⟩ : ∃ R, R = HL.down dE ltE l.length l l.length i := ⟨_, rfl⟩
  rw [← hR] at C3 e4 e5
  replace hR := Lib.hid hR
  have C4 := Lib.hid (fun X (hX : Hp X B pb mb v R.1) => up_any X B pb mb v R.1 hX i l.length (by omega) hi (by omega))
  replace h := Lib.hid h
  replace e1 := Lib.hid e1
  replace e2 := Lib.hid e2
  replace e3 := Lib.hid e3
  replace e5 := Lib.hid e5
  clear hf
  by_cases hm : i < R.2
  · rw [if_pos hm] at e4
    rw [show decide (i < R.2) = true by simpa using hm] at C3
    replace e4 := Lib.hid e4
    clear hm
    go_enter Try.func26, Try.ntmps26
    go_wp2_with fail
    refine C2.out.mono ?_
    rintro r w2 ⟨rfl, rfl⟩
    go_wp2_with fail
    refine C3.out.mono ?_
    rintro r w3 ⟨rfl, H3, K3⟩
    replace H3 := Lib.hid H3
    replace K3 := Lib.hid K3
    go_wp2
    go_end0
    exact ⟨rfl, _, ⟨H3.out, by rw [← e4.out, e2.out]; exact e1.out⟩, by rw [← e4.out]; exact e3.out, K3.out⟩
  · rw [if_neg hm] at e4
    rw [show decide (i < R.2) = false by simpa using hm] at C3
    replace e4 := Lib.hid e4
    clear hm
    go_enter Try.func26, Try.ntmps26
    go_wp2_with fail
    refine C2.out.mono ?_
    rintro r w2 ⟨rfl, rfl⟩
    go_wp2_with fail
    refine C3.out.mono ?_
    rintro r w3 ⟨rfl, H3, K3⟩
    have C5 := Lib.hid (C4.out w3 H3)
    replace H3 := Lib.hid H3
    replace K3 := Lib.hid K3
    go_wp2_with fail
    refine C5.out.mono ?_
    rintro r w4 ⟨rfl, H4, K4⟩
    replace H4 := Lib.hid H4
    replace K4 := Lib.hid K4
    go_wp2
    go_end0
    exact ⟨rfl, _, ⟨H4.out, by rw [← e4.out, e2.out]; exact e1.out⟩, by rw [← e4.out]; exact e3.out, K3.out.trans (.inl rfl) K4.out⟩
end Go.Proofs.Ytmanlmhiiijlmaa
