/- The reference's agenda in memory: put, take. -/
import Derived.Test.YtmanlmhiiijlmaaRfA
namespace Go.Proofs.Ytmanlmhiiijlmaa
open Go.RowKit Go.Proofs.YtmanlmhiiijlmaaW.PrintWords Go.Lib
theorem info38 : (Try.prog.info? 38).map (fun i => (i.zero, i.size, i.bytes)) = some (some (.agg #[.int .i64 0, .int .i64 0, .string ⟨#[]⟩]), 3, 32) := by kernel_rfl
/-- What comes of what is still to come. -/
def fin (e : En) (O : List En) (d : Bool) (R : List En) : List En := O ++ (if d then R else ins e R)
/-- The middle of put: an own row of entries, beside all that was there. -/
structure PutSt (W wr : World) (u : Value) (e : En) (d : Bool) (R L : List En) : Prop where
  out : ∃ O, wr.ownsRow W.heap.size 38 3 u O.length (flat O) ∧ O.length + R.length ≤ L.length + d.toNat ∧ fin e O d R = ins e L ∧ Below W.heap.size W wr
theorem PutSt.app {W wr w1 w2 : World} {u u' : Value} {O : List En} {x : En} (hb : Below W.heap.size W wr) (h1 : Below wr.heap.size wr w1) (hr : w1.ownsRow W.heap.size 38 3 u O.length (flat O))
    (hown : w2.ownsRow W.heap.size 38 3 u' (O.length + 1) (flat O ++ cellsE x)) (hg : w1.grownBy w2 u.ownBlock) : w2.ownsRow W.heap.size 38 3 u' (O ++ [x]).length (flat (O ++ [x])) ∧ Below W.heap.size W w2 := by
  have hfl : flat (O ++ [x]) = flat O ++ cellsE x := by simp [flat]
  refine ⟨by rw [hfl, List.length_append]; exact hown, below_grown (below_trans hb hb.size h1) (Nat.le_trans hb.size h1.size) hr hg⟩
theorem L3.base {w : World} {B B' : Nat} {u : Value} {L : List En} (h : L3 w B' u L) (hB : B ≤ B') : L3 w B u L := by
  obtain ⟨A, c, e1, e2, e3⟩ := h.out
  refine ⟨A, c, e1, e2, ?_⟩
  rcases e3 with e3 | ⟨k, off, cur, f1, f2, f3, f4⟩
  · exact .inl e3
  · exact .inr ⟨k, off, cur, f1, by omega, f3, f4⟩
set_option maxRecDepth 100000 in
set_option maxHeartbeats 16000000 in
theorem rput_any (w : World) (B rb : Nat) (u : Value) (L : List En) (last : Nat) (h : RefAt w B rb u L last) (e : En) (hl : L.length ≤ 600) (hB : B ≤ w.heap.size) :
    Calls Try.prog 29 #[.pointer (some ⟨rb, 0, none⟩), enV e] w fun r w' => r = .returned (.tuple #[]) ∧ ∃ u', RefAt w' B rb u' (ins e L) last ∧ RK rb w w' := by
  obtain ⟨i0, hi, hz0, hz1, hz2⟩ := info_parts info38
  obtain ⟨t, a, s⟩ := e
  have b1 := (Below.refl _ w).alloc (Nat.le_refl _) (.cells #[.int .i64 t, .int .i64 a, .string s] 38)
  have n1 : (w.alloc (.cells #[.int .i64 t, .int .i64 a, .string s] 38)).heap[w.heap.size]? = some (.cells #[.int .i64 t, .int .i64 a, .string s] 38 (0, 0)) := heap_alloc_new w _
  have H1 := h.move b1
  obtain ⟨A, c, eu, -, -⟩ := h.lies.out
  subst eu
  have c0' : (w.alloc (.cells #[.int .i64 t, .int .i64 a, .string s] 38)).cell? ⟨rb, 0, none⟩ = some (.slice A L.length c) := Go.Joins.cell_of_block H1.cell 0
  obtain ⟨W, hW⟩ : ∃ W, W = w.alloc (.cells #[.int .i64 t, .int .i64 a, .string s] 38) := ⟨_, rfl⟩
  rw [← hW] at H1 n1 b1
  have c0 : W.cell? ⟨rb, 0, none⟩ = some (.slice A L.length c) := Go.Joins.cell_of_block H1.cell 0
  have hwW := b1.size
  replace hW := Lib.hid hW
  replace H1 := Lib.hid H1
  replace n1 := Lib.hid n1
  replace b1 := Lib.hid b1
  clear h
  go_enter Try.func29, Try.ntmps29
  go_wp2_with fail
  rw [← hW.out]
  clear c0'
  go_loopg [4, 5, 13] L.length (fun gk v4 v5 v13 wr => ∃ k : Nat, ∃ d : Bool, k ≤ L.length ∧ gk = L.length - k ∧ v13 = .int .i64 (k : Int) ∧ v5 = .bool d ∧ PutSt W wr v4 (t, a, s) d (L.drop k) L)
  case atStart => exact ⟨0, false, Nat.zero_le _, rfl, rfl, rfl, [], World.ownsRow_nil _ _ _ _, by simp, by simp [fin], Below.refl _ _⟩
  case round =>
    obtain ⟨k, d, hk, rfl, rfl, rfl, O, hr, hOl, hf, hb⟩ := hrel
    obtain ⟨Au, cu, rfl⟩ := rowSlice hr
    have hd1 : d.toNat ≤ 1 := by cases d <;> simp
    have hO2 : O.length ≤ 1100 := by omega
    clear hd1
    by_cases hlt : k < L.length
    · have hx : L[k]? = some L[k] := List.getElem?_eq_getElem hlt
      have hdr : L.drop k = L[k] :: L.drop (k + 1) := List.drop_eq_getElem_cons hlt
      rw [hdr] at hf hOl
      generalize L[k] = x at hx hf hOl hdr
      obtain ⟨xt, xa, xs⟩ := x
      obtain ⟨kk, off, rfl, x0, x1, x2⟩ := (H1.out.lies.move hb).ent hx
      have b2 := (Below.refl _ wr).alloc (Nat.le_refl _) (.cells #[.int .i64 xt, .int .i64 xa, .string xs] 38)
      have n2 : (wr.alloc (.cells #[.int .i64 xt, .int .i64 xa, .string xs] 38)).heap[wr.heap.size]? = some (.cells #[.int .i64 xt, .int .i64 xa, .string xs] 38 (0, 0)) := heap_alloc_new wr _
      have m2 := (below_trans hb hb.size b2).block w.heap.size (Array.getElem?_eq_some_iff.1 n1.out).1 |>.trans n1.out
      have y0 : (wr.alloc (.cells #[.int .i64 xt, .int .i64 xa, .string xs] 38)).cell? ⟨wr.heap.size, 0, none⟩ = some (.int .i64 xt) := Go.Joins.cell_of_block n2 0
      have y1 : (wr.alloc (.cells #[.int .i64 xt, .int .i64 xa, .string xs] 38)).cell? ⟨wr.heap.size, 1, none⟩ = some (.int .i64 xa) := Go.Joins.cell_of_block n2 1
      have y2 : (wr.alloc (.cells #[.int .i64 xt, .int .i64 xa, .string xs] 38)).cell? ⟨wr.heap.size, 2, none⟩ = some (.string xs) := Go.Joins.cell_of_block n2 2
      have z0 : (wr.alloc (.cells #[.int .i64 xt, .int .i64 xa, .string xs] 38)).cell? ⟨w.heap.size, 0, none⟩ = some (.int .i64 t) := Go.Joins.cell_of_block m2 0
      have z1 : (wr.alloc (.cells #[.int .i64 xt, .int .i64 xa, .string xs] 38)).cell? ⟨w.heap.size, 1, none⟩ = some (.int .i64 a) := Go.Joins.cell_of_block m2 1
      have z2 : (wr.alloc (.cells #[.int .i64 xt, .int .i64 xa, .string xs] 38)).cell? ⟨w.heap.size, 2, none⟩ = some (.string s) := Go.Joins.cell_of_block m2 2
      have r2 := pw_own_below hr b2
      have hws := hb.size
      have q9 : (k : Int) < (L.length : Int) := by omega
      have z : ltE (t, a, s) (xt, xa, xs) = (decide (a < xa) || (decide (a = xa) && decide (t < xt))) := rfl
      have app : ∀ (X : World) (u' : Value) (w2 : World) (O' : List En) (e' : En) (v0 : Value), Below wr.heap.size wr X → X.ownsRow W.heap.size 38 3 v0 O'.length (flat O') → w2.ownsRow W.heap.size 38 3 u' (O'.length + 1) (flat O' ++ cellsE e') → X.grownBy w2 v0.ownBlock → w2.ownsRow W.heap.size 38 3 u' (O' ++ [e']).length (flat (O' ++ [e'])) ∧ Below W.heap.size W w2 :=
        fun X u' w2 O' e' v0 h1 h2 h3 h4 => PutSt.app hb h1 h2 h3 h4
      by_cases hlt2 : d = false ∧ ltE (t, a, s) (xt, xa, xs) = true
      · obtain ⟨rfl, hlt3⟩ := hlt2
        have hf2 : fin (t, a, s) ((O ++ [(t, a, s)]) ++ [(xt, xa, xs)]) true (L.drop (k + 1)) = ins (t, a, s) L := by
          rw [← hf]
          simp [fin, ins, hlt3]
        have r3 := r2.alloc (.cells #[.int .i64 t, .int .i64 a, .string s] 38)
        have b3 := b2.alloc b2.size (.cells #[.int .i64 t, .int .i64 a, .string s] 38)
        have s2 : (wr.alloc (.cells #[.int .i64 xt, .int .i64 xa, .string xs] 38)).heap.size = wr.heap.size + 1 := World.size_alloc _ _
        have hN := World.news_of_block (heap_alloc_new (wr.alloc (.cells #[.int .i64 xt, .int .i64 xa, .string xs] 38)) (.cells #[.int .i64 t, .int .i64 a, .string s] 38))
        rw [s2] at hN
        have n3 : ((wr.alloc (.cells #[.int .i64 xt, .int .i64 xa, .string xs] 38)).alloc (.cells #[.int .i64 t, .int .i64 a, .string s] 38)).heap[wr.heap.size]? = some (.cells #[.int .i64 xt, .int .i64 xa, .string xs] 38 (0, 0)) :=
          ((((Below.refl _ (wr.alloc (.cells #[.int .i64 xt, .int .i64 xa, .string xs] 38))).alloc (Nat.le_refl _) (.cells #[.int .i64 t, .int .i64 a, .string s] 38)).block wr.heap.size (by rw [s2]; omega)).trans n2)
        have hu : ∀ j, (Value.slice Au O.length cu).ownBlock = some j → j ≠ wr.heap.size := fun j hj => by
          obtain ⟨cs, hc⟩ := own_typed hr j hj
          have := (Array.getElem?_eq_some_iff.1 hc).1
          omega
        have hsz3 : ((wr.alloc (.cells #[.int .i64 xt, .int .i64 xa, .string xs] 38)).alloc (.cells #[.int .i64 t, .int .i64 a, .string s] 38)).heap.size = wr.heap.size + 1 + 1 := by rw [World.size_alloc, s2]
        have hcase : decide (a < xa) = true ∨ (decide (a < xa) = false ∧ (xa == a) = true ∧ decide (t < xt) = true) := by
          rw [ltE_iff] at hlt3
          try simp only at hlt3
          by_cases h2 : a < xa
          · exact .inl (by simpa using h2)
          · exact .inr ⟨by simpa using h2, by simp; omega, by simp; omega⟩
        replace hf2 := Lib.hid hf2
        replace hf := Lib.hid hf
        replace hdr := Lib.hid hdr
        replace hx := Lib.hid hx
        replace hr := Lib.hid hr
        replace hb := Lib.hid hb
        replace b2 := Lib.hid b2
        replace b3 := Lib.hid b3
        replace n2 := Lib.hid n2
        replace n3 := Lib.hid n3
        replace m2 := Lib.hid m2
        replace r2 := Lib.hid r2
        replace r3 := Lib.hid r3
        replace hN := Lib.hid hN
        replace app := Lib.hid app
        replace hOl := Lib.hid hOl
        replace s2 := Lib.hid s2
        replace hu := Lib.hid hu
        replace hsz3 := Lib.hid hsz3
        clear z hlt3
        rcases hcase with q1 | ⟨q1, q2, q3⟩
        all_goals
          as_aux_lemma =>
            go_wp2_with (at_builtin; refine wpList_append_own_at _ rfl _ _ 27 rfl W.heap.size 38 i0 (.agg #[.int .i64 0, .int .i64 0, .string ⟨#[]⟩]) 3 32 Try.underlying27 hi hz0 hz1 hz2 rfl (by decide) (.slice Au O.length cu) O.length (flat O) rfl r3.out ⟨wr.heap.size + 1, 0, none⟩ 1 1 [.int .i64 t, .int .i64 a, .string s] rfl rfl hN.out (by simp [Value.oneCell']) ?h63 ?hbytes ?hbase ?_)
            case h63 => simp [maxLen]; omega
            case hbytes => omega
            case hbase => first | omega | (simp; omega) | simp
            intro u' w5 hown hgrow _ hat
            obtain ⟨h7, h8⟩ := app.out _ _ _ _ (t, a, s) _ b3.out r3.out hown hgrow
            have n5 := (hgrow.block wr.heap.size (by rw [hsz3.out]; omega) (fun e => hu.out _ e.symm rfl)).trans n3.out
            obtain ⟨Av, cv, rfl⟩ := rowSlice h7
            have g0 : w5.cell? ⟨wr.heap.size, 0, none⟩ = some (.int .i64 xt) := Go.Joins.cell_of_block n5 0
            have g1 : w5.cell? ⟨wr.heap.size, 1, none⟩ = some (.int .i64 xa) := Go.Joins.cell_of_block n5 1
            have g2 : w5.cell? ⟨wr.heap.size, 2, none⟩ = some (.string xs) := Go.Joins.cell_of_block n5 2
            obtain ⟨O2, hO2⟩ : ∃ O2, O2 = O ++ [(t, a, s)] := ⟨_, rfl⟩
            have hO3 : O2.length = O.length + 1 := by rw [hO2, List.length_append]; rfl
            rw [← hO2] at h7 hf2 ⊢
            skip
            have r5 := h7.alloc (.cells #[.int .i64 xt, .int .i64 xa, .string xs] 38)
            have hN := World.news_of_block (heap_alloc_new w5 (.cells #[.int .i64 xt, .int .i64 xa, .string xs] 38))
            have h9 := below_trans h8 h8.size ((Below.refl _ w5).alloc (Nat.le_refl _) (.cells #[.int .i64 xt, .int .i64 xa, .string xs] 38))
            have hw5 := h8.size
            have hO4 : O2.length ≤ 1101 := by omega
            replace h7 := Lib.hid h7
            replace h8 := Lib.hid h8
            replace h9 := Lib.hid h9
            replace r5 := Lib.hid r5
            replace hN := Lib.hid hN
            replace hown := Lib.hid hown
            replace hgrow := Lib.hid hgrow
            replace hat := Lib.hid hat
            replace n5 := Lib.hid n5
            replace hO2 := Lib.hid hO2
            replace hO3 := Lib.hid hO3
            go_wp2_with (at_builtin; refine wpList_append_own_at _ rfl _ _ 27 rfl W.heap.size 38 i0 (.agg #[.int .i64 0, .int .i64 0, .string ⟨#[]⟩]) 3 32 Try.underlying27 hi hz0 hz1 hz2 rfl (by decide) (.slice Av O2.length cv) O2.length (flat O2) rfl r5.out ⟨w5.heap.size, 0, none⟩ 1 1 [.int .i64 xt, .int .i64 xa, .string xs] rfl rfl hN.out (by simp [Value.oneCell']) ?h63 ?hbytes ?hbase ?_)
            case h63 => simp [maxLen]; omega
            case hbytes => omega
            case hbase => first | omega | (simp; omega) | simp
            intro u'' w6 hown2 hgrow2 _ hat2
            have hfl : flat (O2 ++ [(xt, xa, xs)]) = flat O2 ++ cellsE (xt, xa, xs) := by simp [flat]
            have k7 : w6.ownsRow W.heap.size 38 3 u'' (O2 ++ [(xt, xa, xs)]).length (flat (O2 ++ [(xt, xa, xs)])) := by
              rw [hfl, List.length_append]
              exact hown2
            have k8 := below_grown h9.out h9.out.size r5.out hgrow2
            replace k7 := Lib.hid k7
            replace k8 := Lib.hid k8
            replace hown2 := Lib.hid hown2
            replace hgrow2 := Lib.hid hgrow2
            replace hat2 := Lib.hid hat2
            replace hfl := Lib.hid hfl
            go_wp2
            go_roundg (L.length - (k + 1))
            case measure => omega
            case rel => exact ⟨k + 1, true, by omega, rfl, by go_num, rfl, _, k7.out, by have h9 := hOl.out; have h10 := hO3.out; simp only [List.length_cons, List.length_append, List.length_nil, Bool.toNat_true, Bool.toNat_false] at h9 ⊢; omega, hf2.out, k8.out⟩
      · have hf2 : fin (t, a, s) (O ++ [(xt, xa, xs)]) d (L.drop (k + 1)) = ins (t, a, s) L := by
          rw [← hf]
          cases d with
          | true => simp [fin]
          | false =>
            have : ltE (t, a, s) (xt, xa, xs) = false := by
              cases hh : ltE (t, a, s) (xt, xa, xs) with
              | false => rfl
              | true => exact absurd ⟨rfl, hh⟩ hlt2
            simp [fin, ins, this]
        have r3 := r2.alloc (.cells #[.int .i64 xt, .int .i64 xa, .string xs] 38)
        have b3 := b2.alloc b2.size (.cells #[.int .i64 xt, .int .i64 xa, .string xs] 38)
        have s2 : (wr.alloc (.cells #[.int .i64 xt, .int .i64 xa, .string xs] 38)).heap.size = wr.heap.size + 1 := World.size_alloc _ _
        have hN := World.news_of_block (heap_alloc_new (wr.alloc (.cells #[.int .i64 xt, .int .i64 xa, .string xs] 38)) (.cells #[.int .i64 xt, .int .i64 xa, .string xs] 38))
        rw [s2] at hN
        have go : ∀ (g1 g2 g3 : Bool), decide (a < xa) = g1 → (xa == a) = g2 → decide (t < xt) = g3 → (d = true ∨ (g1 || (g2 && g3)) = false) → True := fun _ _ _ _ _ _ _ => trivial
        have hcase : d = true ∨ (d = false ∧ decide (a < xa) = false ∧ ((xa == a) = false ∨ ((xa == a) = true ∧ decide (t < xt) = false))) := by
          cases d with
          | true => exact .inl rfl
          | false =>
            refine .inr ⟨rfl, ?_⟩
            have h1 : ltE (t, a, s) (xt, xa, xs) = false := by
              cases hh : ltE (t, a, s) (xt, xa, xs) with
              | false => rfl
              | true => exact absurd ⟨rfl, hh⟩ hlt2
            rw [ltE_no] at h1
            simp only at h1
            by_cases h2 : xa = a
            · exact ⟨by simp; omega, .inr ⟨by simp [h2], by simp; omega⟩⟩
            · exact ⟨by simp; omega, .inl (by simp [h2])⟩
        replace hf2 := Lib.hid hf2
        replace hf := Lib.hid hf
        replace hdr := Lib.hid hdr
        replace hx := Lib.hid hx
        replace hr := Lib.hid hr
        replace hb := Lib.hid hb
        replace b2 := Lib.hid b2
        replace b3 := Lib.hid b3
        replace n2 := Lib.hid n2
        replace m2 := Lib.hid m2
        replace r2 := Lib.hid r2
        replace r3 := Lib.hid r3
        replace hN := Lib.hid hN
        replace app := Lib.hid app
        replace hOl := Lib.hid hOl
        replace s2 := Lib.hid s2
        clear z go hlt2
        rcases hcase with rfl | ⟨rfl, q1, q2 | ⟨q2, q3⟩⟩
        · as_aux_lemma =>
            go_wp2_with (at_builtin; refine wpList_append_own_at _ rfl _ _ 27 rfl W.heap.size 38 i0 (.agg #[.int .i64 0, .int .i64 0, .string ⟨#[]⟩]) 3 32 Try.underlying27 hi hz0 hz1 hz2 rfl (by decide) (.slice Au O.length cu) O.length (flat O) rfl r3.out ⟨wr.heap.size + 1, 0, none⟩ 1 1 [.int .i64 xt, .int .i64 xa, .string xs] rfl rfl hN.out (by simp [Value.oneCell']) ?h63 ?hbytes ?hbase ?_)
            case h63 => simp [maxLen]; omega
            case hbytes => omega
            case hbase => first | omega | (simp; omega) | simp
            intro u' w5 hown hgrow _ hat
            obtain ⟨h7, h8⟩ := app.out _ _ _ _ (xt, xa, xs) _ b3.out r3.out hown hgrow
            replace h7 := Lib.hid h7
            replace h8 := Lib.hid h8
            replace hown := Lib.hid hown
            replace hgrow := Lib.hid hgrow
            replace hat := Lib.hid hat
            go_wp2
            go_roundg (L.length - (k + 1))
            case measure => omega
            case rel => exact ⟨k + 1, true, by omega, rfl, by go_num, rfl, _, h7.out, by have h9 := hOl.out; simp only [List.length_cons, List.length_append, List.length_nil, Bool.toNat_true] at h9 ⊢; omega, hf2.out, h8.out⟩
        · as_aux_lemma =>
            go_wp2_with (at_builtin; refine wpList_append_own_at _ rfl _ _ 27 rfl W.heap.size 38 i0 (.agg #[.int .i64 0, .int .i64 0, .string ⟨#[]⟩]) 3 32 Try.underlying27 hi hz0 hz1 hz2 rfl (by decide) (.slice Au O.length cu) O.length (flat O) rfl r3.out ⟨wr.heap.size + 1, 0, none⟩ 1 1 [.int .i64 xt, .int .i64 xa, .string xs] rfl rfl hN.out (by simp [Value.oneCell']) ?h63 ?hbytes ?hbase ?_)
            case h63 => simp [maxLen]; omega
            case hbytes => omega
            case hbase => first | omega | (simp; omega) | simp
            intro u' w5 hown hgrow _ hat
            obtain ⟨h7, h8⟩ := app.out _ _ _ _ (xt, xa, xs) _ b3.out r3.out hown hgrow
            replace h7 := Lib.hid h7
            replace h8 := Lib.hid h8
            replace hown := Lib.hid hown
            replace hgrow := Lib.hid hgrow
            replace hat := Lib.hid hat
            go_wp2
            go_roundg (L.length - (k + 1))
            case measure => omega
            case rel => exact ⟨k + 1, false, by omega, rfl, by go_num, rfl, _, h7.out, by have h9 := hOl.out; simp only [List.length_cons, List.length_append, List.length_nil, Bool.toNat_false] at h9 ⊢; omega, hf2.out, h8.out⟩
        · as_aux_lemma =>
            go_wp2_with (at_builtin; refine wpList_append_own_at _ rfl _ _ 27 rfl W.heap.size 38 i0 (.agg #[.int .i64 0, .int .i64 0, .string ⟨#[]⟩]) 3 32 Try.underlying27 hi hz0 hz1 hz2 rfl (by decide) (.slice Au O.length cu) O.length (flat O) rfl r3.out ⟨wr.heap.size + 1, 0, none⟩ 1 1 [.int .i64 xt, .int .i64 xa, .string xs] rfl rfl hN.out (by simp [Value.oneCell']) ?h63 ?hbytes ?hbase ?_)
            case h63 => simp [maxLen]; omega
            case hbytes => omega
            case hbase => first | omega | (simp; omega) | simp
            intro u' w5 hown hgrow _ hat
            obtain ⟨h7, h8⟩ := app.out _ _ _ _ (xt, xa, xs) _ b3.out r3.out hown hgrow
            replace h7 := Lib.hid h7
            replace h8 := Lib.hid h8
            replace hown := Lib.hid hown
            replace hgrow := Lib.hid hgrow
            replace hat := Lib.hid hat
            go_wp2
            go_roundg (L.length - (k + 1))
            case measure => omega
            case rel => exact ⟨k + 1, false, by omega, rfl, by go_num, rfl, _, h7.out, by have h9 := hOl.out; simp only [List.length_cons, List.length_append, List.length_nil, Bool.toNat_false] at h9 ⊢; omega, hf2.out, h8.out⟩
    · have hkl : L.drop k = [] := List.drop_eq_nil_of_le (by omega)
      rw [hkl] at hf
      have hwb := H1.out.move hb
      have done : ∀ (X : World) (u' : Value) (O' : List En), O' = ins (t, a, s) L → Below W.heap.size W X → X.ownsRow W.heap.size 38 3 u' O'.length (flat O') →
          RefAt (X.setCell ⟨rb, 0, none⟩ u') B rb u' (ins (t, a, s) L) last ∧ RK rb w (X.setCell ⟨rb, 0, none⟩ u') := by
        rintro X u' O' rfl h1 h2
        have hX := H1.out.move h1
        refine ⟨⟨Go.Joins.block_setCell hX.cell _, ((rowL3 h2).base (Nat.le_trans hB hwW)).set hX.cell 0 _, hX.ge⟩, ?_⟩
        exact ((RK.of_below b1.out).trans (RK.of_below h1)).trans (RK.of_set rb 0 _ _)
      replace done := Lib.hid done
      cases d with
      | true =>
        as_aux_lemma =>
          have hO : O = ins (t, a, s) L := by simpa [fin] using hf
          have d0 : wr.cell? ⟨rb, 0, none⟩ = some (.slice A L.length c) := Go.Joins.cell_of_block hwb.cell 0
          have df : wr.frozen? ⟨rb, 0, none⟩ = false := Go.Joins.unfrozen_of_block hwb.cell 0
          replace hf := Lib.hid hf
          replace hr := Lib.hid hr
          replace hb := Lib.hid hb
          replace hwb := Lib.hid hwb
          replace hO := Lib.hid hO
          replace hkl := Lib.hid hkl
          go_wp2
          go_end0
          obtain ⟨r1, r2⟩ := done.out wr _ _ hO.out hb.out hr.out
          first | exact ⟨rfl, ⟨_, r1⟩, r2⟩ | exact ⟨rfl, _, r1, r2⟩
      | false =>
        as_aux_lemma =>
          have hO : O ++ [(t, a, s)] = ins (t, a, s) L := by simpa [fin, ins] using hf
          have m2 := (hb.block w.heap.size (Array.getElem?_eq_some_iff.1 n1.out).1).trans n1.out
          have z0 : wr.cell? ⟨w.heap.size, 0, none⟩ = some (.int .i64 t) := Go.Joins.cell_of_block m2 0
          have z1 : wr.cell? ⟨w.heap.size, 1, none⟩ = some (.int .i64 a) := Go.Joins.cell_of_block m2 1
          have z2 : wr.cell? ⟨w.heap.size, 2, none⟩ = some (.string s) := Go.Joins.cell_of_block m2 2
          have r3 := hr.alloc (.cells #[.int .i64 t, .int .i64 a, .string s] 38)
          have b3 := (Below.refl _ wr).alloc (Nat.le_refl _) (.cells #[.int .i64 t, .int .i64 a, .string s] 38)
          have hN := World.news_of_block (heap_alloc_new wr (.cells #[.int .i64 t, .int .i64 a, .string s] 38))
          have hws := hb.size
          skip
          replace hf := Lib.hid hf
          replace hb := Lib.hid hb
          replace hwb := Lib.hid hwb
          replace hO := Lib.hid hO
          replace hkl := Lib.hid hkl
          replace m2 := Lib.hid m2
          replace r3 := Lib.hid r3
          replace b3 := Lib.hid b3
          replace hN := Lib.hid hN
          replace hr := Lib.hid hr
          replace hOl := Lib.hid hOl
          go_wp2_with (at_builtin; refine wpList_append_own_at _ rfl _ _ 27 rfl W.heap.size 38 i0 (.agg #[.int .i64 0, .int .i64 0, .string ⟨#[]⟩]) 3 32 Try.underlying27 hi hz0 hz1 hz2 rfl (by decide) (.slice Au O.length cu) O.length (flat O) rfl r3.out ⟨wr.heap.size, 0, none⟩ 1 1 [.int .i64 t, .int .i64 a, .string s] rfl rfl hN.out (by simp [Value.oneCell']) ?h63 ?hbytes ?hbase ?_)
          case h63 => simp [maxLen]; omega
          case hbytes => omega
          case hbase => first | omega | (simp; omega) | simp
          intro u' w5 hown hgrow _ hat
          have hfl : flat (O ++ [(t, a, s)]) = flat O ++ cellsE (t, a, s) := by simp [flat]
          have k7 : w5.ownsRow W.heap.size 38 3 u' (O ++ [(t, a, s)]).length (flat (O ++ [(t, a, s)])) := by
            rw [hfl, List.length_append]
            exact hown
          obtain ⟨O2, hO2⟩ : ∃ O2, O2 = O ++ [(t, a, s)] := ⟨_, rfl⟩
          rw [← hO2] at k7 hO
          replace hO2 := Lib.hid hO2
          obtain ⟨Av, cv, rfl⟩ := rowSlice k7
          have k8 := below_grown (below_trans hb.out hb.out.size b3.out) (Nat.le_trans hb.out.size b3.out.size) r3.out hgrow
          have hX := H1.out.move k8
          have d0 : w5.cell? ⟨rb, 0, none⟩ = some (.slice A L.length c) := Go.Joins.cell_of_block hX.cell 0
          have df : w5.frozen? ⟨rb, 0, none⟩ = false := Go.Joins.unfrozen_of_block hX.cell 0
          replace k7 := Lib.hid k7
          replace k8 := Lib.hid k8
          replace hX := Lib.hid hX
          replace hown := Lib.hid hown
          replace hgrow := Lib.hid hgrow
          replace hat := Lib.hid hat
          replace hfl := Lib.hid hfl
          go_wp2
          go_end0
          obtain ⟨r1, r2⟩ := done.out w5 _ _ hO.out k8.out k7.out
          first | exact ⟨rfl, ⟨_, r1⟩, r2⟩ | exact ⟨rfl, _, r1, r2⟩
end Go.Proofs.Ytmanlmhiiijlmaa
