/- container/heap's Remove and Pop over the agenda's pile. -/
import Derived.Test.YtmanlmhiiijlmaaHops
namespace Go.Proofs.Ytmanlmhiiijlmaa
open Go.RowKit Go.Proofs.YtmanlmhiiijlmaaW.PrintWords Go.Lib
theorem perm_pop {l r q : List En} {x : En} (hr : r = q ++ [x]) (hp : r.Perm l) : l.Perm (x :: q) := by
  subst hr
  exact hp.symm.trans List.perm_append_comm
set_option maxRecDepth 100000 in
set_option maxHeartbeats 2000000 in
theorem heap_pop (w : World) (B pb mb : Nat) (v : Value) (l : List En) (h : HeapAt w B pb mb v l) (n : Nat) (hn : l.length = n + 1) (x : En) (hx : l[0]? = some x) (hl : l.length ≤ 50000) :
    Calls Try.prog 27 #[.iface 52 (.pointer (some ⟨pb, 0, none⟩))] w fun r w' => r = .returned (.iface 34 (enV x)) ∧ ∃ v' l', HeapAt w' B pb mb v' l' ∧ l.Perm (x :: l') ∧ PK pb mb v w w' ∧ v'.ownBlock = v.ownBlock := by
  have ml := m_len ⟨pb, 0, none⟩
  have ms := m_swap ⟨pb, 0, none⟩
  have mp := m_pop ⟨pb, 0, none⟩
  have C1 := hlen w B pb mb v _ h.hp
  rw [hn] at C1
  replace C1 := Lib.hid C1
  have C2 := Lib.hid (hswap w B pb mb v l h.hp 0 n (by omega) (by omega))
  have sl := HL.swap_len dE l 0 n
  have gx : HL.g dE (HL.swap dE l 0 n) n = x := by
    rw [HL.g_swap dE l 0 n n (by omega) (by omega), if_pos rfl]
    have := g_lt (l := l) (k := 0) (by omega)
    rw [hx] at this
    exact (Option.some.inj this).symm
  have dI := swap_down h.heap hn
  have C3 := Lib.hid (fun X hX => down_any X B pb mb v (HL.swap dE l 0 n) hX 0 n n (by omega) (by omega) (by omega) (by omega))
  have fx := HL.down_far dE ltE n (HL.swap dE l 0 n) n 0 n (by omega) (Nat.le_refl _)
  have dh := HL.down_heap dE ltE ordE n (HL.swap dE l 0 n) n 0 dI (by omega) (by omega)
  have dp := (HL.down_perm dE ltE n (HL.swap dE l 0 n) n 0 (by omega)).trans (HL.swap_perm dE l 0 n (by omega) (by omega))
  have dl := HL.down_len dE ltE n (HL.swap dE l 0 n) n 0
  obtain ⟨q, hq, hq2, hq3⟩ := heap_init (x := x) (by rw [dl, sl, hn]) (by rw [fx, gx]) dh
  have hperm := Lib.hid (perm_pop hq dp)
  obtain ⟨R, hR⟩ : ∃ R, R = HL.down dE ltE n (HL.swap dE l 0 n) n 0 := ⟨_, rfl⟩
  rw [← hR] at C3 hq
  have C4 := Lib.hid (fun X (hX : Hp X B pb mb v R.1) => hpop1 X B pb mb v q x (by rw [← hq]; exact hX) (by omega))
  replace hq3 := Lib.hid hq3
  obtain ⟨E, hE⟩ : ∃ E, E = enV x := ⟨_, rfl⟩
  rw [← hE] at C4 ⊢
  replace hE := Lib.hid hE
  replace hR := Lib.hid hR
  clear h fx dh dp dl dI gx hx sl hq hq2
  have hn0 : n ≤ 50000 := by omega
  clear hn hl
  go_enter Try.func27, Try.ntmps27
  go_wp2_with fail
  refine C1.out.mono ?_
  rintro r w1 ⟨rfl, rfl⟩
  go_wp2_with fail
  refine C2.out.mono ?_
  rintro r w2 ⟨rfl, H2, K2⟩
  have C5 := Lib.hid (C3.out _ H2)
  replace H2 := Lib.hid H2
  replace K2 := Lib.hid K2
  go_wp2_with fail
  refine C5.out.mono ?_
  rintro r w3 ⟨rfl, H3, K3⟩
  have C6 := Lib.hid (C4.out _ H3)
  replace H3 := Lib.hid H3
  replace K3 := Lib.hid K3
  go_wp2_with fail
  refine C6.out.mono ?_
  rintro r w4 ⟨rfl, v4, H4, K4, M4⟩
  replace H4 := Lib.hid H4
  replace K4 := Lib.hid K4
  replace M4 := Lib.hid M4
  go_wp2
  go_ret
  exact ⟨rfl, v4, q, ⟨H4.out, hq3.out⟩, hperm.out, (K2.out.trans (.inl rfl) K3.out).trans (.inl rfl) K4.out, M4.out⟩
set_option maxRecDepth 100000 in
set_option maxHeartbeats 2000000 in
theorem heap_remove (w : World) (B pb mb : Nat) (v : Value) (l : List En) (h : HeapAt w B pb mb v l) (i : Nat) (x : En) (hx : l[i]? = some x) (hl : l.length ≤ 50000) :
    Calls Try.prog 25 #[.iface 52 (.pointer (some ⟨pb, 0, none⟩)), .int .i64 (i : Int)] w fun r w' => r = .returned (.iface 34 (enV x)) ∧ ∃ v' l', HeapAt w' B pb mb v' l' ∧ l.Perm (x :: l') ∧ PK pb mb v w w' ∧ v'.ownBlock = v.ownBlock := by
  have hi := (List.getElem?_eq_some_iff.1 hx).1
  obtain ⟨n, hn⟩ : ∃ n, l.length = n + 1 := ⟨l.length - 1, by omega⟩
  have ml := m_len ⟨pb, 0, none⟩
  have ms := m_swap ⟨pb, 0, none⟩
  have mp := m_pop ⟨pb, 0, none⟩
  have C1 := hlen w B pb mb v _ h.hp
  rw [hn] at C1
  replace C1 := Lib.hid C1
  have hn0 : n ≤ 50000 := by omega
  have hin0 : i ≤ n := by omega
  by_cases hin : i = n
  · subst hin
    have hgx : HL.g dE l i = x := by
      have := g_lt hi
      rw [hx] at this
      exact (Option.some.inj this).symm
    obtain ⟨q, hq, hq2, hq3⟩ := heap_init hn hgx (fun k k0 kn => h.heap k k0 (by omega))
    have hperm := Lib.hid (perm_pop hq (List.Perm.refl _))
    have C4 := Lib.hid (hpop1 w B pb mb v q x (by rw [← hq]; exact h.hp) (by omega))
    replace hq3 := Lib.hid hq3
    obtain ⟨E, hE⟩ : ∃ E, E = enV x := ⟨_, rfl⟩
    rw [← hE] at C4 ⊢
    replace hE := Lib.hid hE
    clear h hx hq hq2 hgx hi hn hl hin0
    have tn : ((i : Int) != (i : Int)) = false := by simp
    go_enter Try.func25, Try.ntmps25
    go_wp2_with fail
    refine C1.out.mono ?_
    rintro r w1 ⟨rfl, rfl⟩
    go_wp2_with fail
    refine C4.out.mono ?_
    rintro r w4 ⟨rfl, v4, H4, K4, M4⟩
    replace H4 := Lib.hid H4
    replace K4 := Lib.hid K4
    replace M4 := Lib.hid M4
    go_wp2
    go_ret
    exact ⟨rfl, v4, q, ⟨H4.out, hq3.out⟩, hperm.out, K4.out, M4.out⟩
  · have hlt : i < n := by omega
    have C2 := Lib.hid (hswap w B pb mb v l h.hp i n (by omega) (by omega))
    have sl := HL.swap_len dE l i n
    have gx : HL.g dE (HL.swap dE l i n) n = x := by
      rw [HL.g_swap dE l i n n (by omega) (by omega), if_pos rfl]
      have := g_lt (l := l) (k := i) (by omega)
      rw [hx] at this
      exact (Option.some.inj this).symm
    have dI := swap_fix h.heap hn hlt
    have C3 := fun X hX => down_any X B pb mb v (HL.swap dE l i n) hX i n n (by omega) (by omega) (by omega) (by omega)
    have fx := HL.fix_far dE ltE n (l := HL.swap dE l i n) (n := n) (i := i) (k := n) (by omega) hlt (Nat.le_refl _)
    have dh := HL.fix_heap dE ltE ordE n dI (by omega) hlt (Nat.le_refl _)
    have dp := (HL.fix_perm dE ltE n (l := HL.swap dE l i n) (n := n) (i := i) (by omega) hlt).trans (HL.swap_perm dE l i n (by omega) (by omega))
    have dl := HL.fix_len dE ltE n (HL.swap dE l i n) n i
    have dl2 := HL.down_len dE ltE n (HL.swap dE l i n) n i
    obtain ⟨q, hq, hq2, hq3⟩ := heap_init (x := x) (by rw [dl, sl, hn]) (by rw [fx, gx]) dh
    have hperm := Lib.hid (perm_pop hq dp)
    have e4 : HL.fix dE ltE n (HL.swap dE l i n) n i = if i < (HL.down dE ltE n (HL.swap dE l i n) n i).2 then (HL.down dE ltE n (HL.swap dE l i n) n i).1 else HL.up dE ltE n (HL.down dE ltE n (HL.swap dE l i n) n i).1 i := rfl
    obtain ⟨R, hR⟩ : ∃ R, R = HL.down dE ltE n (HL.swap dE l i n) n i := ⟨_, rfl⟩
    rw [← hR] at C3 e4 dl2
    replace hR := Lib.hid hR
    have CU := Lib.hid (fun X (hX : Hp X B pb mb v R.1) => up_any X B pb mb v R.1 hX i n (by omega) hlt (by omega))
    replace hq3 := Lib.hid hq3
    obtain ⟨E, hE⟩ : ∃ E, E = enV x := ⟨_, rfl⟩
    have C4 : ∀ X, Hp X B pb mb v (HL.fix dE ltE n (HL.swap dE l i n) n i) → Calls Try.prog 51 #[.pointer (some ⟨pb, 0, none⟩)] X fun r w' => r = .returned (.iface 34 E) ∧ ∃ v', Hp w' B pb mb v' q ∧ PK pb mb v X w' ∧ v'.ownBlock = v.ownBlock := fun X hX => by
      rw [hE]
      exact hpop1 X B pb mb v q x (by rw [← hq]; exact hX) (by omega)
    rw [← hE]
    replace hE := Lib.hid hE
    have tn : ((n : Int) != (i : Int)) = true := by simp; omega
    clear h fx dh dp dl dI gx hx sl hq hq2 hi hn hl dl2 hin
    by_cases hm : i < R.2
    · rw [if_pos hm] at e4
      rw [show decide (i < R.2) = true by simpa using hm] at C3
      rw [e4] at C4
      replace e4 := Lib.hid e4
      replace C3 := Lib.hid C3
      replace C4 := Lib.hid C4
      clear hm CU
      go_enter Try.func25, Try.ntmps25
      go_wp2_with fail
      refine C1.out.mono ?_
      rintro r w1 ⟨rfl, rfl⟩
      go_wp2_with fail
      refine C2.out.mono ?_
      rintro r w2 ⟨rfl, H2, K2⟩
      have C5 := Lib.hid (C3.out _ H2)
      replace H2 := Lib.hid H2
      replace K2 := Lib.hid K2
      go_wp2_with fail
      refine C5.out.mono ?_
      rintro r w3 ⟨rfl, H3, K3⟩
      have C6 := Lib.hid (C4.out _ H3)
      replace H3 := Lib.hid H3
      replace K3 := Lib.hid K3
      go_wp2_with fail
      refine C6.out.mono ?_
      rintro r w4 ⟨rfl, v4, H4, K4, M4⟩
      replace H4 := Lib.hid H4
      replace K4 := Lib.hid K4
      replace M4 := Lib.hid M4
      go_wp2
      go_ret
      exact ⟨rfl, v4, q, ⟨H4.out, hq3.out⟩, hperm.out, (K2.out.trans (.inl rfl) K3.out).trans (.inl rfl) K4.out, M4.out⟩
    · rw [if_neg hm] at e4
      rw [show decide (i < R.2) = false by simpa using hm] at C3
      rw [e4] at C4
      replace e4 := Lib.hid e4
      replace C3 := Lib.hid C3
      replace C4 := Lib.hid C4
      clear hm
      go_enter Try.func25, Try.ntmps25
      go_wp2_with fail
      refine C1.out.mono ?_
      rintro r w1 ⟨rfl, rfl⟩
      go_wp2_with fail
      refine C2.out.mono ?_
      rintro r w2 ⟨rfl, H2, K2⟩
      have C5 := Lib.hid (C3.out _ H2)
      replace H2 := Lib.hid H2
      replace K2 := Lib.hid K2
      go_wp2_with fail
      refine C5.out.mono ?_
      rintro r w3 ⟨rfl, H3, K3⟩
      have C6 := Lib.hid (CU.out _ H3)
      replace H3 := Lib.hid H3
      replace K3 := Lib.hid K3
      go_wp2_with fail
      refine C6.out.mono ?_
      rintro r w5 ⟨rfl, H5, K5⟩
      have C7 := Lib.hid (C4.out _ H5)
      replace H5 := Lib.hid H5
      replace K5 := Lib.hid K5
      go_wp2_with fail
      refine C7.out.mono ?_
      rintro r w4 ⟨rfl, v4, H4, K4, M4⟩
      replace H4 := Lib.hid H4
      replace K4 := Lib.hid K4
      replace M4 := Lib.hid M4
      go_wp2
      go_ret
      exact ⟨rfl, v4, q, ⟨H4.out, hq3.out⟩, hperm.out, ((K2.out.trans (.inl rfl) K3.out).trans (.inl rfl) K5.out).trans (.inl rfl) K4.out, M4.out⟩
end Go.Proofs.Ytmanlmhiiijlmaa
