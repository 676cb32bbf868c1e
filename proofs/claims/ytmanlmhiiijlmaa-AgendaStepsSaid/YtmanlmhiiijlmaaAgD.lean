/- An agenda in memory: Drop, Move. -/
import Derived.Test.YtmanlmhiiijlmaaAgM
namespace Go.Proofs.Ytmanlmhiiijlmaa
open Go.RowKit Go.Proofs.YtmanlmhiiijlmaaW.PrintWords Go.Lib
theorem cons_erase : ∀ (l : List En) (i : Nat) (x : En), l[i]? = some x → l.Perm (x :: l.eraseIdx i)
  | [], _, _, h => by simp at h
  | y :: l, 0, x, h => by
    simp at h
    subst h
    exact .refl _
  | y :: l, i + 1, x, h => by
    rw [List.eraseIdx_cons_succ]
    exact ((cons_erase l i x (by simpa using h)).cons y).trans (.swap _ _ _)
theorem set_perm : ∀ (l : List En) (i : Nat) (y : En), i < l.length → (l.set i y).Perm (y :: l.eraseIdx i)
  | [], _, _, h => by simp at h
  | z :: l, 0, y, _ => .refl _
  | z :: l, i + 1, y, h => by
    rw [List.eraseIdx_cons_succ, List.set_cons_succ]
    exact ((set_perm l i y (by simpa using h)).cons z).trans (.swap _ _ _)
theorem del_none {t : Int} {L : List En} (h : ∀ e ∈ L, e.1 ≠ t) : del t L = L := List.filter_eq_self.2 fun e he => by simpa using h e he
theorem del_cons (x : En) (L : List En) : del x.1 (x :: L) = del x.1 L := by
  unfold del
  rw [List.filter_cons_of_neg (by simp)]
theorem del_perm {L M : List En} (t : Int) (h : L.Perm M) : (del t L).Perm (del t M) := h.filter _
/-- What is left behind a thing taken out. -/
theorem left_perm {l l' L : List En} {x : En} (hp : l.Perm L) (hq : l.Perm (x :: l')) (hn : (L.map (·.1)).Nodup) : l'.Perm (del x.1 L) := by
  have h1 : ((x :: l').map (·.1)).Nodup := ((hq.symm.trans hp).map _).nodup_iff.2 hn
  rw [List.map_cons, List.nodup_cons] at h1
  have h2 : del x.1 l' = l' := del_none fun e he ee => h1.1 (by rw [← ee]; exact List.mem_map_of_mem he)
  have h3 := del_perm x.1 (hp.symm.trans hq)
  rw [del_cons, h2] at h3
  exact h3.symm
theorem del_mem {t : Int} {L : List En} {e : En} (h : e ∈ del t L) : e ∈ L ∧ e.1 ≠ t := by
  unfold del at h
  rw [List.mem_filter] at h
  exact ⟨h.1, by simpa using h.2⟩
theorem del_len (t : Int) (L : List En) : (del t L).length ≤ L.length := List.length_filter_le _ _
theorem drop_bad (w : World) (ab : Option Addr) (t : Int) (ht : t < 1) :
    Calls Try.prog 13 #[.pointer ab, .int .i64 t] w fun e w' => e = .returned (.tuple #[.bool false, .int .i64 1]) ∧ w = w' := by
  go_enter Try.func13, Try.ntmps13
  go_wp2
  go_ret2
  exact ⟨rfl, rfl⟩
theorem drop_none (w : World) (B ab pb mb : Nat) (v : Value) (L : List En) (last : Nat) (h : AgAt w B ab pb mb v L last) (t : Int) (ht : ¬ t < 1) (hn : ∀ e ∈ L, e.1 ≠ t) :
    Calls Try.prog 13 #[.pointer (some ⟨ab, 0, none⟩), .int .i64 t] w fun e w' => e = .returned (.tuple #[.bool false, .int .i64 0]) ∧ w = w' := by
  obtain ⟨l, hl1, hp⟩ := h.out
  obtain ⟨f, P, Q⟩ := hl1.hp.out
  have C := find_any w B ab pb mb v l f P _ h.cell t
  have ft : f t = none := Q.none_.2 fun e he => hn e (hp.mem_iff.1 he)
  rw [ft] at C
  simp only [Option.getD_none, Option.isSome_none] at C
  replace C := Lib.hid C
  clear h hl1 hp P Q ft hn
  go_enter Try.func13, Try.ntmps13
  go_wp2_with fail
  refine C.out.mono ?_
  rintro e w' ⟨rfl, rfl⟩
  go_wp2
  go_ret2
  exact ⟨rfl, rfl⟩
set_option maxRecDepth 100000 in
set_option maxHeartbeats 2000000 in
theorem drop_ok (w : World) (B ab pb mb : Nat) (v : Value) (L : List En) (last : Nat) (h : AgAt w B ab pb mb v L last) (x : En) (hx : x ∈ L) :
    Calls Try.prog 13 #[.pointer (some ⟨ab, 0, none⟩), .int .i64 x.1] w fun e w' => e = .returned (.tuple #[.bool true, .int .i64 0]) ∧
      ∃ v', AgAt w' B ab pb mb v' (del x.1 L) last ∧ AK ab pb mb v w w' ∧ Moved w v v' := by
  obtain ⟨l, hl1, hp⟩ := h.out
  obtain ⟨f, P, Q⟩ := hl1.hp.out
  obtain ⟨i, hi⟩ := List.getElem?_of_mem (hp.mem_iff.2 hx)
  have C := find_any w B ab pb mb v l f P _ h.cell x.1
  rw [Q.at_ hi] at C
  simp only [Option.getD_some, Option.isSome_some] at C
  have C2 := Lib.hid (heap_remove w B pb mb v l hl1 i x hi (by have := hp.length_eq; have := h.few; omega))
  have c0 : w.cell? ⟨ab, 0, none⟩ = some (.pointer (some ⟨pb, 0, none⟩)) := Go.Joins.cell_of_block h.cell 0
  have ht := (h.tick x hx).1
  have H := Lib.hid h
  replace C := Lib.hid C
  replace hp := Lib.hid hp
  replace hl1 := Lib.hid hl1
  replace hx := Lib.hid hx
  obtain ⟨t, et⟩ : ∃ t, t = x.1 := ⟨_, rfl⟩
  rw [← et] at C ht ⊢
  replace et := Lib.hid et
  have tt : ¬ t < 1 := by omega
  obtain ⟨E, hE⟩ : ∃ E, E = enV x := ⟨_, rfl⟩
  rw [← hE] at C2
  replace hE := Lib.hid hE
  clear h P Q hi ht
  go_enter Try.func13, Try.ntmps13
  go_wp2_with fail
  refine C.out.mono ?_
  rintro e w' ⟨rfl, rfl⟩
  go_wp2_with fail
  refine C2.out.mono ?_
  rintro e w2 ⟨rfl, v', l', H2, p2, K2, M2⟩
  have c2 := pk_cell hl1.out.hp H.out.cell K2
  replace c2 := Lib.hid c2
  replace H2 := Lib.hid H2
  replace p2 := Lib.hid p2
  replace K2 := Lib.hid K2
  replace M2 := Lib.hid M2
  go_wp2
  go_ret2
  refine ⟨rfl, v', ⟨c2.out, ⟨l', H2.out, ?_⟩, del_sorted _ H.out.sorted, fun e he => H.out.tick e (del_mem he).1, fun e he => H.out.mom e (del_mem he).1, H.out.ge, Nat.le_trans (del_len _ _) H.out.few⟩, AK.of_pk K2.out, .inl M2.out⟩
  rw [et.out]
  exact left_perm hp.out p2.out H.out.nodup
theorem move_bad (w : World) (ab : Option Addr) (t a : Int) (ht : t < 1 ∨ momB a = false) :
    Calls Try.prog 14 #[.pointer ab, .int .i64 t, .int .i64 a] w fun e w' => e = .returned (.int .i64 1) ∧ w = w' := by
  by_cases h1 : t < 1
  · clear ht
    go_enter Try.func14, Try.ntmps14
    go_wp2
    go_ret
    exact ⟨rfl, rfl⟩
  · have hm : momB a = false := by rcases ht with ht | ht; exact absurd ht h1; exact ht
    have C := moment_any a w
    rw [hm] at C
    replace C := Lib.hid C
    clear ht hm
    go_enter Try.func14, Try.ntmps14
    go_wp2_with fail
    refine C.out.mono ?_
    rintro e w' ⟨rfl, rfl⟩
    go_wp2
    go_ret
    exact ⟨rfl, rfl⟩
theorem move_none (w : World) (B ab pb mb : Nat) (v : Value) (L : List En) (last : Nat) (h : AgAt w B ab pb mb v L last) (t a : Int) (ht : ¬ t < 1) (hm : momB a = true) (hn : ∀ e ∈ L, e.1 ≠ t) :
    Calls Try.prog 14 #[.pointer (some ⟨ab, 0, none⟩), .int .i64 t, .int .i64 a] w fun e w' => e = .returned (.int .i64 6) ∧ w = w' := by
  obtain ⟨l, hl1, hp⟩ := h.out
  obtain ⟨f, P, Q⟩ := hl1.hp.out
  have C := find_any w B ab pb mb v l f P _ h.cell t
  have ft : f t = none := Q.none_.2 fun e he => hn e (hp.mem_iff.1 he)
  rw [ft] at C
  simp only [Option.getD_none, Option.isSome_none] at C
  replace C := Lib.hid C
  have C0 := moment_any a w
  rw [hm] at C0
  replace C0 := Lib.hid C0
  clear h hl1 hp P Q ft hn hm
  go_enter Try.func14, Try.ntmps14
  go_wp2_with fail
  refine C0.out.mono ?_
  rintro e w' ⟨rfl, rfl⟩
  go_wp2_with fail
  refine C.out.mono ?_
  rintro e w' ⟨rfl, rfl⟩
  go_wp2
  go_ret
  exact ⟨rfl, rfl⟩
theorem flat_set1 : ∀ (l : List En) (i : Nat) (e : En) (a : Int), l[i]? = some e → (flat l).set (i * 3 + 1) (.int .i64 a) = flat (l.set i (e.1, a, e.2.2))
  | [], i, _, _, h => by simp at h
  | x :: l, 0, e, a, h => by
    simp at h
    subst h
    simp [flat, cellsE]
  | x :: l, i + 1, e, a, h => by
    have := flat_set1 l i e a (by simpa using h)
    have e1 : flat (x :: l) = cellsE x ++ flat l := by simp [flat]
    have e2 : flat ((x :: l).set (i + 1) (e.1, a, e.2.2)) = cellsE x ++ flat (l.set i (e.1, a, e.2.2)) := by simp [flat]
    have hl : (cellsE x).length = 3 := rfl
    rw [e1, e2, ← this, show (i + 1) * 3 + 1 = (cellsE x).length + (i * 3 + 1) by rw [hl]; omega, List.set_append_right _ _ (by omega), show (cellsE x).length + (i * 3 + 1) - (cellsE x).length = i * 3 + 1 by omega]
set_option maxRecDepth 100000 in
set_option maxHeartbeats 2000000 in
theorem move_ok (w : World) (B ab pb mb : Nat) (v : Value) (L : List En) (last : Nat) (h : AgAt w B ab pb mb v L last) (x : En) (hx : x ∈ L) (a : Int) (hm : momB a = true) :
    Calls Try.prog 14 #[.pointer (some ⟨ab, 0, none⟩), .int .i64 x.1, .int .i64 a] w fun e w' => e = .returned (.int .i64 0) ∧
      AgAt w' B ab pb mb v (ins (x.1, a, x.2.2) (del x.1 L)) last ∧ AK ab pb mb v w w' := by
  obtain ⟨l, hl1, hp⟩ := h.out
  obtain ⟨f, P, Q⟩ := hl1.hp.out
  obtain ⟨i, hi⟩ := List.getElem?_of_mem (hp.mem_iff.2 hx)
  have il := (List.getElem?_eq_some_iff.1 hi).1
  have C0 := moment_any a w
  rw [hm] at C0
  replace C0 := Lib.hid C0
  have C := find_any w B ab pb mb v l f P _ h.cell x.1
  rw [Q.at_ hi] at C
  simp only [Option.getD_some, Option.isSome_some] at C
  have c0 : w.cell? ⟨ab, 0, none⟩ = some (.pointer (some ⟨pb, 0, none⟩)) := Go.Joins.cell_of_block h.cell 0
  have ht := (h.tick x hx).1
  obtain ⟨A, c, ev⟩ := rowSlice P.row
  subst ev
  have d0 : w.cell? ⟨pb, 0, none⟩ = some (.slice A l.length c) := Go.Joins.cell_of_block P.cell 0
  obtain ⟨k, rfl, x0, x1, x2, fz⟩ := rowEnt P.row i x hi
  have f1 := fz (i * 3 + 1)
  obtain ⟨r1, g1⟩ := World.ownsRow.stored P.row (i * 3 + 1) (.int .i64 a)
  rw [flat_set1 l i x a hi] at r1
  have HW : Hp (w.setCell ⟨k, i * 3 + 1, none⟩ (.int .i64 a)) B pb mb (.slice (some ⟨k, 0, none⟩) l.length c) (l.set i (x.1, a, x.2.2)) := ⟨f, P.setRow (by simp) r1 g1, Q.set hi _ rfl⟩
  have KW : PK pb mb (.slice (some ⟨k, 0, none⟩) l.length c) w (w.setCell ⟨k, i * 3 + 1, none⟩ (.int .i64 a)) := PK.of_grown g1
  have cW := pk_cell hl1.hp h.cell KW
  have e0 : (w.setCell ⟨k, i * 3 + 1, none⟩ (.int .i64 a)).cell? ⟨ab, 0, none⟩ = some (.pointer (some ⟨pb, 0, none⟩)) := Go.Joins.cell_of_block cW 0
  have hfew := h.few
  have hll := hp.length_eq
  have C2 := Lib.hid (heap_fix _ B pb mb _ _ HW i (by simpa using il) (by rw [List.length_set]; exact set_fix hl1.heap il _) (by simp; omega))
  have H := Lib.hid h
  replace C := Lib.hid C
  replace hp := Lib.hid hp
  replace hl1 := Lib.hid hl1
  replace hx := Lib.hid hx
  obtain ⟨t, et⟩ : ∃ t, t = x.1 := ⟨_, rfl⟩
  rw [← et] at C ht C2 HW x0 ⊢
  replace et := Lib.hid et
  have tt : ¬ t < 1 := by omega
  obtain ⟨W, hW⟩ : ∃ W, W = w.setCell ⟨k, i * 3 + 1, none⟩ (.int .i64 a) := ⟨_, rfl⟩
  rw [← hW] at C2 KW cW HW e0
  replace HW := Lib.hid HW
  replace KW := Lib.hid KW
  replace cW := Lib.hid cW
  replace hW := Lib.hid hW
  replace hi := Lib.hid hi
  replace hm := Lib.hid hm
  clear h P Q ht fz r1 g1
  go_enter Try.func14, Try.ntmps14
  go_wp2_with fail
  refine C0.out.mono ?_
  rintro e w' ⟨rfl, rfl⟩
  go_wp2_with fail
  refine C.out.mono ?_
  rintro e w' ⟨rfl, rfl⟩
  go_wp2_with fail
  rw [← hW.out]
  go_wp2_with fail
  refine C2.out.mono ?_
  rintro e w2 ⟨rfl, l', H2, p2, K2⟩
  have c2 := pk_cell HW.out cW.out K2
  replace c2 := Lib.hid c2
  replace H2 := Lib.hid H2
  replace p2 := Lib.hid p2
  replace K2 := Lib.hid K2
  go_wp2
  go_ret
  have hms : 0 ≤ a ∧ a ≤ 1099511627776 := by simpa [momB] using hm.out
  have q1 : (l.eraseIdx i).Perm (del t L) := by
    rw [et.out]
    exact left_perm hp.out (cons_erase l i x hi.out) H.out.nodup
  have hP : l'.Perm ((t, a, x.2.2) :: del t L) := p2.out.trans ((set_perm l i _ il).trans (q1.cons _))
  have hlen := hP.length_eq
  have hlen2 := p2.out.length_eq
  rw [List.length_set] at hlen2
  have hil := (ins_perm (t, a, x.2.2) (del t L)).length_eq
  refine ⟨rfl, ⟨c2.out, ⟨l', H2.out, hP.trans (ins_perm _ _).symm⟩, ins_sorted _ _ (del_sorted _ H.out.sorted) fun e he => (del_mem he).2, fun e he => ?_, fun e he => ?_, H.out.ge, by omega⟩, (AK.of_pk KW.out).trans (.inl rfl) (AK.of_pk K2.out)⟩
  · rcases List.mem_cons.1 ((ins_perm _ _).mem_iff.1 he) with rfl | he
    · show 1 ≤ t ∧ t ≤ (last : Int)
      rw [et.out]
      exact H.out.tick x hx.out
    · exact H.out.tick e (del_mem he).1
  · rcases List.mem_cons.1 ((ins_perm _ _).mem_iff.1 he) with rfl | he
    · exact hms
    · exact H.out.mom e (del_mem he).1
end Go.Proofs.Ytmanlmhiiijlmaa
