/- The reference's agenda in memory: take. -/
import Derived.Test.YtmanlmhiiijlmaaRfB
namespace Go.Proofs.Ytmanlmhiiijlmaa
open Go.RowKit Go.Proofs.YtmanlmhiiijlmaaW.PrintWords Go.Lib
def stepF (t : Int) (acc : En × Bool) (x : En) : En × Bool := if x.1 = t then (x, true) else acc
theorem stepF_none {t : Int} : ∀ {L : List En} (acc : En × Bool), (∀ e ∈ L, e.1 ≠ t) → L.foldl (stepF t) acc = acc
  | [], _, _ => rfl
  | x :: L, acc, h => by
    rw [List.foldl_cons, stepF, if_neg (h x (List.mem_cons_self ..))]
    exact stepF_none acc fun e he => h e (List.mem_cons_of_mem _ he)
theorem stepF_some {x : En} : ∀ {L : List En} (acc : En × Bool), (L.map (·.1)).Nodup → x ∈ L → L.foldl (stepF x.1) acc = (x, true)
  | [], _, _, h => by simp at h
  | y :: L, acc, hn, h => by
    rw [List.map_cons, List.nodup_cons] at hn
    rw [List.foldl_cons]
    rcases List.mem_cons.1 h with rfl | h
    · rw [stepF, if_pos rfl]
      exact stepF_none _ fun e he ee => hn.1 (by rw [← ee]; exact List.mem_map_of_mem he)
    · exact stepF_some _ hn.2 h
theorem RK.grow {rb : Nat} {w w4 w6 : World} {row : Option Nat} (h : RK rb w w4) (hg : w4.grownBy w6 row) (hr : ∀ k, row = some k → w.heap.size ≤ k) : RK rb w w6 :=
  ⟨hg.os.trans h.os, hg.tape.trans h.tape, hg.output.trans h.output, Nat.le_trans h.size hg.size, fun k hk h1 => (hg.block k (Nat.lt_of_lt_of_le hk h.size) fun e => by have := hr k e.symm; omega).trans (h.block k hk h1)⟩
/-- The middle of take. -/
structure TkE (W wr : World) (b1 : Nat) (u : Value) (t : Int) (b : Bool) (R L : List En) : Prop where
  out : ∃ O ev, wr.ownsRow W.heap.size 38 3 u O.length (flat O) ∧ O.length + R.length ≤ L.length ∧ O ++ del t R = del t L ∧ R.foldl (stepF t) (ev, b) = L.foldl (stepF t) (dE, false) ∧ RK b1 W wr ∧
    wr.heap[b1]? = some (.cells #[.int .i64 ev.1, .int .i64 ev.2.1, .string ev.2.2] 38 (0, 0))
theorem row_other {w : World} {n₀ n b1 : Nat} {u : Value} {xs : List Value} (h : w.ownsRow n₀ 38 3 u n xs) (hb : b1 < n₀) (j : Nat) (x : Value) : (w.setCell ⟨b1, j, none⟩ x).ownsRow n₀ 38 3 u n xs :=
  h.kept (grown_set w ⟨b1, j, none⟩ x) (.inr fun e => by have := own_base h b1 e; omega)
set_option maxRecDepth 100000 in
set_option maxHeartbeats 16000000 in
theorem rtakeE_any (w : World) (B rb : Nat) (u : Value) (L : List En) (last : Nat) (h : RefAt w B rb u L last) (t : Int) (hl : L.length ≤ 600) (hB : B ≤ w.heap.size) :
    Calls Try.prog 30 #[.pointer (some ⟨rb, 0, none⟩), .int .i64 t] w fun r w' => r = .returned (.tuple #[enV (L.foldl (stepF t) (dE, false)).1, .bool (L.foldl (stepF t) (dE, false)).2]) ∧ ∃ u', RefAt w' B rb u' (del t L) last ∧ RK rb w w' := by
  obtain ⟨i0, hi, hz0, hz1, hz2⟩ := info_parts info38
  obtain ⟨W, hW⟩ : ∃ W, W = (w.alloc (.cells #[.int .i64 0, .int .i64 0, .string ⟨#[]⟩] 38)).alloc (.cells #[.int .i64 0, .int .i64 0, .string ⟨#[]⟩] 38) := ⟨_, rfl⟩
  have bw1 := (Below.refl _ w).alloc (Nat.le_refl _) (.cells #[.int .i64 0, .int .i64 0, .string ⟨#[]⟩] 38)
  have b1 := bw1.alloc bw1.size (.cells #[.int .i64 0, .int .i64 0, .string ⟨#[]⟩] 38)
  have s1 : (w.alloc (.cells #[.int .i64 0, .int .i64 0, .string ⟨#[]⟩] 38)).heap.size = w.heap.size + 1 := World.size_alloc _ _
  have n1 : ((w.alloc (.cells #[.int .i64 0, .int .i64 0, .string ⟨#[]⟩] 38)).alloc (.cells #[.int .i64 0, .int .i64 0, .string ⟨#[]⟩] 38)).heap[w.heap.size + 1]? = some (.cells #[.int .i64 0, .int .i64 0, .string ⟨#[]⟩] 38 (0, 0)) := by rw [← s1]; exact heap_alloc_new _ _
  have n0 : ((w.alloc (.cells #[.int .i64 0, .int .i64 0, .string ⟨#[]⟩] 38)).alloc (.cells #[.int .i64 0, .int .i64 0, .string ⟨#[]⟩] 38)).heap[w.heap.size]? = some (.cells #[.int .i64 0, .int .i64 0, .string ⟨#[]⟩] 38 (0, 0)) :=
    (((Below.refl _ (w.alloc (.cells #[.int .i64 0, .int .i64 0, .string ⟨#[]⟩] 38))).alloc (Nat.le_refl _) (.cells #[.int .i64 0, .int .i64 0, .string ⟨#[]⟩] 38)).block w.heap.size (by rw [s1]; omega)).trans (heap_alloc_new w _)
  have s2 : ((w.alloc (.cells #[.int .i64 0, .int .i64 0, .string ⟨#[]⟩] 38)).alloc (.cells #[.int .i64 0, .int .i64 0, .string ⟨#[]⟩] 38)).heap.size = w.heap.size + 1 + 1 := by rw [World.size_alloc, s1]
  have H1 := h.move b1
  have HLw := Lib.hid h.lies
  have hwl := fun k (o : Obj) (e : w.heap[k]? = some o) => (Array.getElem?_eq_some_iff.1 e).1
  replace hwl := Lib.hid hwl
  have hrl := (Array.getElem?_eq_some_iff.1 h.cell).1
  obtain ⟨A, c, eu, -, -⟩ := h.lies.out
  subst eu
  have c0' : ((w.alloc (.cells #[.int .i64 0, .int .i64 0, .string ⟨#[]⟩] 38)).alloc (.cells #[.int .i64 0, .int .i64 0, .string ⟨#[]⟩] 38)).cell? ⟨rb, 0, none⟩ = some (.slice A L.length c) := Go.Joins.cell_of_block H1.cell 0
  rw [← hW] at H1 n1 n0 b1 s2
  have s2a : W.heap.size ≤ w.heap.size + 1 + 1 := Nat.le_of_eq s2
  have s2b : w.heap.size + 1 + 1 ≤ W.heap.size := Nat.le_of_eq s2.symm
  clear s2
  replace hW := Lib.hid hW
  replace H1 := Lib.hid H1
  replace n1 := Lib.hid n1
  replace n0 := Lib.hid n0
  replace b1 := Lib.hid b1
  replace bw1 := Lib.hid bw1
  obtain ⟨F, hF⟩ : ∃ F, F = L.foldl (stepF t) (dE, false) := ⟨_, rfl⟩
  rw [← hF]
  replace hF := Lib.hid hF
  clear h s1
  go_enter Try.func30, Try.ntmps30
  go_wp2_with fail
  rw [← hW.out]
  clear c0'
  go_loopg [6, 8, 17] L.length (fun gk v6 v8 v17 wr => ∃ k : Nat, ∃ d : Bool, k ≤ L.length ∧ gk = L.length - k ∧ v17 = .int .i64 (k : Int) ∧ v8 = .bool d ∧ TkE W wr (w.heap.size + 1) v6 t d (L.drop k) L)
  case atStart => exact ⟨0, false, Nat.zero_le _, rfl, rfl, rfl, [], dE, World.ownsRow_nil _ _ _ _, by simp, by simp, by simp, RK.refl _ _, n1.out⟩
  case round =>
    obtain ⟨k, d, hk, rfl, rfl, rfl, O, ev, hr, hOl, hf, hg, hK, hv⟩ := hrel
    obtain ⟨Au, cu, rfl⟩ := rowSlice hr
    have hO2 : O.length ≤ 600 := by omega
    have hlw : L3 wr B (.slice A L.length c) L := HLw.out.kept fun kk cur hc => (hK.block kk (by have := hwl.out _ _ hc; omega) (by have := hwl.out _ _ hc; omega)).trans ((b1.out.block kk (hwl.out _ _ hc)).trans hc)
    have hws := hK.size
    by_cases hlt : k < L.length
    · have hx : L[k]? = some L[k] := List.getElem?_eq_getElem hlt
      have hdr : L.drop k = L[k] :: L.drop (k + 1) := List.drop_eq_getElem_cons hlt
      rw [hdr] at hf hOl hg
      generalize L[k] = x at hx hf hOl hdr hg
      obtain ⟨xt, xa, xs⟩ := x
      obtain ⟨kk, off, rfl, x0, x1, x2⟩ := hlw.ent hx
      have b2 := (Below.refl _ wr).alloc (Nat.le_refl _) (.cells #[.int .i64 xt, .int .i64 xa, .string xs] 38)
      have n2 : (wr.alloc (.cells #[.int .i64 xt, .int .i64 xa, .string xs] 38)).heap[wr.heap.size]? = some (.cells #[.int .i64 xt, .int .i64 xa, .string xs] 38 (0, 0)) := heap_alloc_new wr _
      have v2 := (b2.block (w.heap.size + 1) (Array.getElem?_eq_some_iff.1 hv).1).trans hv
      have y0 : (wr.alloc (.cells #[.int .i64 xt, .int .i64 xa, .string xs] 38)).cell? ⟨wr.heap.size, 0, none⟩ = some (.int .i64 xt) := Go.Joins.cell_of_block n2 0
      have y1 : (wr.alloc (.cells #[.int .i64 xt, .int .i64 xa, .string xs] 38)).cell? ⟨wr.heap.size, 1, none⟩ = some (.int .i64 xa) := Go.Joins.cell_of_block n2 1
      have y2 : (wr.alloc (.cells #[.int .i64 xt, .int .i64 xa, .string xs] 38)).cell? ⟨wr.heap.size, 2, none⟩ = some (.string xs) := Go.Joins.cell_of_block n2 2
      have r2 := pw_own_below hr b2
      have K2 := hK.trans (RK.of_below b2)
      have q9 : (k : Int) < (L.length : Int) := by omega
      replace hlw := Lib.hid hlw
      by_cases hxt : xt = t
      · as_aux_lemma =>
          subst hxt
          have o0 : (wr.alloc (.cells #[.int .i64 xt, .int .i64 xa, .string xs] 38)).cell? ⟨w.heap.size + 1, 0, none⟩ = some (.int .i64 ev.1) := Go.Joins.cell_of_block v2 0
          have o1 : (wr.alloc (.cells #[.int .i64 xt, .int .i64 xa, .string xs] 38)).cell? ⟨w.heap.size + 1, 1, none⟩ = some (.int .i64 ev.2.1) := Go.Joins.cell_of_block v2 1
          have o2 : (wr.alloc (.cells #[.int .i64 xt, .int .i64 xa, .string xs] 38)).cell? ⟨w.heap.size + 1, 2, none⟩ = some (.string ev.2.2) := Go.Joins.cell_of_block v2 2
          have u0 : (wr.alloc (.cells #[.int .i64 xt, .int .i64 xa, .string xs] 38)).frozen? ⟨w.heap.size + 1, 0, none⟩ = false := Go.Joins.unfrozen_of_block v2 0
          have u1 : (wr.alloc (.cells #[.int .i64 xt, .int .i64 xa, .string xs] 38)).frozen? ⟨w.heap.size + 1, 1, none⟩ = false := Go.Joins.unfrozen_of_block v2 1
          have u2 : (wr.alloc (.cells #[.int .i64 xt, .int .i64 xa, .string xs] 38)).frozen? ⟨w.heap.size + 1, 2, none⟩ = false := Go.Joins.unfrozen_of_block v2 2
          have hfin : TkE W ((((wr.alloc (.cells #[.int .i64 xt, .int .i64 xa, .string xs] 38)).setCell ⟨w.heap.size + 1, 0, none⟩ (.int .i64 xt)).setCell ⟨w.heap.size + 1, 1, none⟩ (.int .i64 xa)).setCell ⟨w.heap.size + 1, 2, none⟩ (.string xs)) (w.heap.size + 1) (.slice Au O.length cu) xt true (L.drop (k + 1)) L := by
            refine ⟨O, (xt, xa, xs), row_other (row_other (row_other r2 (by omega) _ _) (by omega) _ _) (by omega) _ _, by rw [List.length_cons] at hOl; omega, ?_, ?_, ((K2.trans (RK.of_set _ _ _ _)).trans (RK.of_set _ _ _ _)).trans (RK.of_set _ _ _ _), ?_⟩
            · rw [← hf, show del xt ((xt, xa, xs) :: L.drop (k + 1)) = del xt (L.drop (k + 1)) from del_cons (xt, xa, xs) _]
            · rw [← hg, List.foldl_cons]
              rw [show stepF xt (ev, d) (xt, xa, xs) = ((xt, xa, xs), true) by rw [stepF, if_pos rfl]]
            · have z1 := Go.Joins.block_setCell v2 (i := 0) (v := .int .i64 xt)
              have z2 := Go.Joins.block_setCell z1 (i := 1) (v := .int .i64 xa)
              exact Go.Joins.block_setCell z2 (i := 2) (v := .string xs)
          replace hfin := Lib.hid hfin
          replace hf := Lib.hid hf
          replace hg := Lib.hid hg
          replace hdr := Lib.hid hdr
          replace hx := Lib.hid hx
          replace hr := Lib.hid hr
          replace hK := Lib.hid hK
          replace K2 := Lib.hid K2
          replace hv := Lib.hid hv
          replace v2 := Lib.hid v2
          replace n2 := Lib.hid n2
          replace b2 := Lib.hid b2
          replace r2 := Lib.hid r2
          replace hOl := Lib.hid hOl
          go_wp2
          go_roundg (L.length - (k + 1))
          case measure => omega
          case rel => exact ⟨k + 1, true, by omega, rfl, by go_num, rfl, hfin.out⟩
      · as_aux_lemma =>
          have hfx : (O ++ [(xt, xa, xs)]) ++ del t (L.drop (k + 1)) = del t L := by
            rw [← hf]
            have : del t ((xt, xa, xs) :: L.drop (k + 1)) = (xt, xa, xs) :: del t (L.drop (k + 1)) := by
              unfold del
              rw [List.filter_cons_of_pos (by simpa using hxt)]
            rw [this]
            simp
          have hgx : (L.drop (k + 1)).foldl (stepF t) (ev, d) = L.foldl (stepF t) (dE, false) := by
            rw [← hg, List.foldl_cons]
            rw [show stepF t (ev, d) (xt, xa, xs) = (ev, d) by rw [stepF, if_neg hxt]]
          have r3 := r2.alloc (.cells #[.int .i64 xt, .int .i64 xa, .string xs] 38)
          have K3 := K2.trans (RK.of_below ((Below.refl _ _).alloc (Nat.le_refl _) (.cells #[.int .i64 xt, .int .i64 xa, .string xs] 38)))
          have s3 : (wr.alloc (.cells #[.int .i64 xt, .int .i64 xa, .string xs] 38)).heap.size = wr.heap.size + 1 := World.size_alloc _ _
          have v3 := (((Below.refl _ (wr.alloc (.cells #[.int .i64 xt, .int .i64 xa, .string xs] 38))).alloc (Nat.le_refl _) (.cells #[.int .i64 xt, .int .i64 xa, .string xs] 38)).block (w.heap.size + 1) (Array.getElem?_eq_some_iff.1 v2).1).trans v2
          have hN := World.news_of_block (heap_alloc_new (wr.alloc (.cells #[.int .i64 xt, .int .i64 xa, .string xs] 38)) (.cells #[.int .i64 xt, .int .i64 xa, .string xs] 38))
          rw [s3] at hN
          have hne : (xt == t) = false := by simpa using hxt
          replace hf := Lib.hid hf
          replace hg := Lib.hid hg
          replace hfx := Lib.hid hfx
          replace hgx := Lib.hid hgx
          replace hdr := Lib.hid hdr
          replace hx := Lib.hid hx
          replace hr := Lib.hid hr
          replace hK := Lib.hid hK
          replace K2 := Lib.hid K2
          replace K3 := Lib.hid K3
          replace hv := Lib.hid hv
          replace v2 := Lib.hid v2
          replace v3 := Lib.hid v3
          replace n2 := Lib.hid n2
          replace b2 := Lib.hid b2
          replace r2 := Lib.hid r2
          replace r3 := Lib.hid r3
          replace s3 := Lib.hid s3
          replace hN := Lib.hid hN
          replace hOl := Lib.hid hOl
          clear hxt
          go_wp2_with (at_builtin; refine wpList_append_own_at _ rfl _ _ 27 rfl W.heap.size 38 i0 (.agg #[.int .i64 0, .int .i64 0, .string ⟨#[]⟩]) 3 32 Try.underlying27 hi hz0 hz1 hz2 rfl (by decide) (.slice Au O.length cu) O.length (flat O) rfl r3.out ⟨wr.heap.size + 1, 0, none⟩ 1 1 [.int .i64 xt, .int .i64 xa, .string xs] rfl rfl hN.out (by simp [Value.oneCell']) ?h63 ?hbytes ?hbase ?_)
          case h63 => simp [maxLen]; omega
          case hbytes => omega
          case hbase => first | omega | (simp; omega) | simp
          intro u' w5 hown hgrow _ hat
          have hfl : flat (O ++ [(xt, xa, xs)]) = flat O ++ cellsE (xt, xa, xs) := by simp [flat]
          have k7 : w5.ownsRow W.heap.size 38 3 u' (O ++ [(xt, xa, xs)]).length (flat (O ++ [(xt, xa, xs)])) := by
            rw [hfl, List.length_append]
            exact hown
          have hbs : ∀ j, (Value.slice Au O.length cu).ownBlock = some j → W.heap.size ≤ j := fun j hj => own_base r3.out j hj
          have K5 := K3.out.grow hgrow hbs
          have v5 := (hgrow.block (w.heap.size + 1) (Array.getElem?_eq_some_iff.1 v3.out).1 (fun e => by have := hbs _ e.symm; omega)).trans v3.out
          replace k7 := Lib.hid k7
          replace K5 := Lib.hid K5
          replace v5 := Lib.hid v5
          replace hown := Lib.hid hown
          replace hgrow := Lib.hid hgrow
          replace hat := Lib.hid hat
          replace hfl := Lib.hid hfl
          replace hbs := Lib.hid hbs
          go_wp2
          go_roundg (L.length - (k + 1))
          case measure => omega
          case rel => exact ⟨k + 1, d, by omega, rfl, by go_num, rfl, _, ev, k7.out, by have h9 := hOl.out; simp only [List.length_cons, List.length_append, List.length_nil] at h9 ⊢; omega, hfx.out, hgx.out, K5.out, v5.out⟩
    · as_aux_lemma =>
        have hkl : L.drop k = [] := List.drop_eq_nil_of_le (by omega)
        rw [hkl] at hf hg
        have hO : O = del t L := by simpa [del] using hf
        have hE : (ev, d) = F := by rw [hF.out, ← hg]; rfl
        have d0 : wr.cell? ⟨rb, 0, none⟩ = some (.slice A L.length c) := Go.Joins.cell_of_block ((hK.block rb (by omega) (by omega)).trans H1.out.cell) 0
        have df : wr.frozen? ⟨rb, 0, none⟩ = false := Go.Joins.unfrozen_of_block ((hK.block rb (by omega) (by omega)).trans H1.out.cell) 0
        have rcell := (hK.block rb (by omega) (by omega)).trans H1.out.cell
        obtain ⟨et, ea, es⟩ := ev
        have X1c := Go.Joins.block_setCell rcell (i := 0) (v := .slice Au O.length cu)
        have far : ∀ k, k ≠ rb → (wr.setCell ⟨rb, 0, none⟩ (.slice Au O.length cu)).heap[k]? = wr.heap[k]? := fun k hk => Below.heap_setCell wr ⟨rb, 0, none⟩ _ k hk
        have v1 := (far (w.heap.size + 1) (by omega)).trans hv
        have z1 := (far w.heap.size (by omega)).trans ((hK.block w.heap.size (by omega) (by omega)).trans n0.out)
        have rX := hr.kept (grown_set wr ⟨rb, 0, none⟩ (.slice Au O.length cu)) (.inr fun e => by have := own_base hr rb e; omega)
        have KX := hK
        have KRB : RK rb w (wr.setCell ⟨rb, 0, none⟩ (.slice Au O.length cu)) := by
          refine ⟨?_, ?_, ?_, ?_, fun k hk h1 => ?_⟩
          · exact hK.os.trans b1.out.os
          · exact hK.tape.trans b1.out.tape
          · exact hK.output.trans b1.out.output
          · have : (wr.setCell ⟨rb, 0, none⟩ (.slice Au O.length cu)).heap.size = wr.heap.size := by simp [World.setCell]
            omega
          · exact (far k h1).trans ((hK.block k (by omega) (by omega)).trans (b1.out.block k hk))
        have y0 : (wr.setCell ⟨rb, 0, none⟩ (.slice Au O.length cu)).cell? ⟨w.heap.size + 1, 0, none⟩ = some (.int .i64 et) := Go.Joins.cell_of_block v1 0
        have y1 : (wr.setCell ⟨rb, 0, none⟩ (.slice Au O.length cu)).cell? ⟨w.heap.size + 1, 1, none⟩ = some (.int .i64 ea) := Go.Joins.cell_of_block v1 1
        have y2 : (wr.setCell ⟨rb, 0, none⟩ (.slice Au O.length cu)).cell? ⟨w.heap.size + 1, 2, none⟩ = some (.string es) := Go.Joins.cell_of_block v1 2
        have o0 : (wr.setCell ⟨rb, 0, none⟩ (.slice Au O.length cu)).cell? ⟨w.heap.size, 0, none⟩ = some (.int .i64 0) := Go.Joins.cell_of_block z1 0
        have o1 : (wr.setCell ⟨rb, 0, none⟩ (.slice Au O.length cu)).cell? ⟨w.heap.size, 1, none⟩ = some (.int .i64 0) := Go.Joins.cell_of_block z1 1
        have o2 : (wr.setCell ⟨rb, 0, none⟩ (.slice Au O.length cu)).cell? ⟨w.heap.size, 2, none⟩ = some (.string ⟨#[]⟩) := Go.Joins.cell_of_block z1 2
        have u0 : (wr.setCell ⟨rb, 0, none⟩ (.slice Au O.length cu)).frozen? ⟨w.heap.size, 0, none⟩ = false := Go.Joins.unfrozen_of_block z1 0
        have u1 : (wr.setCell ⟨rb, 0, none⟩ (.slice Au O.length cu)).frozen? ⟨w.heap.size, 1, none⟩ = false := Go.Joins.unfrozen_of_block z1 1
        have u2 : (wr.setCell ⟨rb, 0, none⟩ (.slice Au O.length cu)).frozen? ⟨w.heap.size, 2, none⟩ = false := Go.Joins.unfrozen_of_block z1 2
        have Z1 := Go.Joins.block_setCell z1 (i := 0) (v := .int .i64 et)
        have Z2 := Go.Joins.block_setCell Z1 (i := 1) (v := .int .i64 ea)
        have Z3 := Go.Joins.block_setCell Z2 (i := 2) (v := .string es)
        have p0 : ((((wr.setCell ⟨rb, 0, none⟩ (.slice Au O.length cu)).setCell ⟨w.heap.size, 0, none⟩ (.int .i64 et)).setCell ⟨w.heap.size, 1, none⟩ (.int .i64 ea)).setCell ⟨w.heap.size, 2, none⟩ (.string es)).cell? ⟨w.heap.size, 0, none⟩ = some (.int .i64 et) := Go.Joins.cell_of_block Z3 0
        have p1 : ((((wr.setCell ⟨rb, 0, none⟩ (.slice Au O.length cu)).setCell ⟨w.heap.size, 0, none⟩ (.int .i64 et)).setCell ⟨w.heap.size, 1, none⟩ (.int .i64 ea)).setCell ⟨w.heap.size, 2, none⟩ (.string es)).cell? ⟨w.heap.size, 1, none⟩ = some (.int .i64 ea) := Go.Joins.cell_of_block Z3 1
        have p2 : ((((wr.setCell ⟨rb, 0, none⟩ (.slice Au O.length cu)).setCell ⟨w.heap.size, 0, none⟩ (.int .i64 et)).setCell ⟨w.heap.size, 1, none⟩ (.int .i64 ea)).setCell ⟨w.heap.size, 2, none⟩ (.string es)).cell? ⟨w.heap.size, 2, none⟩ = some (.string es) := Go.Joins.cell_of_block Z3 2
        have hend : RefAt ((((wr.setCell ⟨rb, 0, none⟩ (.slice Au O.length cu)).setCell ⟨w.heap.size, 0, none⟩ (.int .i64 et)).setCell ⟨w.heap.size, 1, none⟩ (.int .i64 ea)).setCell ⟨w.heap.size, 2, none⟩ (.string es)) B rb (.slice Au O.length cu) (del t L) last ∧ RK rb w ((((wr.setCell ⟨rb, 0, none⟩ (.slice Au O.length cu)).setCell ⟨w.heap.size, 0, none⟩ (.int .i64 et)).setCell ⟨w.heap.size, 1, none⟩ (.int .i64 ea)).setCell ⟨w.heap.size, 2, none⟩ (.string es)) := by
          have rY := row_other (row_other (row_other rX (b1 := w.heap.size) (by omega) 0 (.int .i64 et)) (b1 := w.heap.size) (by omega) 1 (.int .i64 ea)) (b1 := w.heap.size) (by omega) 2 (.string es)
          refine ⟨⟨?_, by rw [← hO]; exact (rowL3 rY).base (by omega), H1.out.ge⟩, ?_⟩
          · exact ((Below.heap_setCell _ ⟨w.heap.size, 2, none⟩ _ rb (by simp; omega)).trans ((Below.heap_setCell _ ⟨w.heap.size, 1, none⟩ _ rb (by simp; omega)).trans (Below.heap_setCell _ ⟨w.heap.size, 0, none⟩ _ rb (by simp; omega)))).trans X1c
          · refine ⟨KRB.os, KRB.tape, KRB.output, by have := KRB.size; simpa [World.setCell] using this, fun k hk h1 => ?_⟩
            exact ((Below.heap_setCell _ ⟨w.heap.size, 2, none⟩ _ k (by simp; omega)).trans ((Below.heap_setCell _ ⟨w.heap.size, 1, none⟩ _ k (by simp; omega)).trans (Below.heap_setCell _ ⟨w.heap.size, 0, none⟩ _ k (by simp; omega)))).trans (KRB.block k hk h1)
        replace hend := Lib.hid hend
        replace hE := Lib.hid hE
        replace hO := Lib.hid hO
        replace hf := Lib.hid hf
        replace hg := Lib.hid hg
        replace hkl := Lib.hid hkl
        replace hK := Lib.hid hK
        replace KX := Lib.hid KX
        replace KRB := Lib.hid KRB
        replace hr := Lib.hid hr
        replace rX := Lib.hid rX
        replace hv := Lib.hid hv
        replace v1 := Lib.hid v1
        replace z1 := Lib.hid z1
        replace Z1 := Lib.hid Z1
        replace Z2 := Lib.hid Z2
        replace Z3 := Lib.hid Z3
        replace rcell := Lib.hid rcell
        replace X1c := Lib.hid X1c
        replace hlw := Lib.hid hlw
        clear far
        go_wp2
        have hE1 : enV F.1 = enV (et, ea, es) := by rw [← hE.out]
        have hE2 : F.2 = d := by rw [← hE.out]
        obtain ⟨r1, r2⟩ := hend.out
        refine bodyPost_ret (v := .tuple #[enV (et, ea, es), .bool d]) (by simp [results, Try.results30, go_sem, p0, p1, p2]) rfl ?_
        rw [hE1, hE2]
        first | exact ⟨rfl, ⟨_, r1⟩, r2⟩ | exact ⟨rfl, _, r1, r2⟩
end Go.Proofs.Ytmanlmhiiijlmaa
