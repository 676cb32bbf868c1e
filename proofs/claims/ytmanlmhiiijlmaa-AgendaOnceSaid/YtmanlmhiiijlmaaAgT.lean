/- An agenda in memory: New, Take. -/
import Derived.Test.YtmanlmhiiijlmaaAgF
namespace Go.Proofs.Ytmanlmhiiijlmaa
open Go.RowKit Go.Proofs.YtmanlmhiiijlmaaW.PrintWords Go.Lib
theorem new_any (w : World) : Calls Try.prog 7 #[] w fun e w' => ∃ ab pb mb, e = .returned (.pointer (some ⟨ab, 0, none⟩)) ∧ AgAt w' w.heap.size ab pb mb (.slice none 0 0) [] 0 ∧ Below w.heap.size w w' := by
  have hmm := @run_makeMap Try.prog
  go_enter Try.func7, Try.ntmps7
  go_wp2
  go_ret
  have s1 : (w.alloc (Obj.map #[] 0)).heap.size = w.heap.size + 1 := World.size_alloc _ _
  have s2 : ((w.alloc (Obj.map #[] 0)).alloc (.cells #[.slice none 0 0, .map (some w.heap.size)] 55)).heap.size = w.heap.size + 1 + 1 := by rw [World.size_alloc, s1]
  have b1 : Below w.heap.size w (w.alloc (Obj.map #[] 0)) := (Below.refl _ w).alloc (Nat.le_refl _) _
  have b2 : Below w.heap.size w ((w.alloc (Obj.map #[] 0)).alloc (.cells #[.slice none 0 0, .map (some w.heap.size)] 55)) := b1.alloc b1.size _
  have b3 : Below w.heap.size w (((w.alloc (Obj.map #[] 0)).alloc (.cells #[.slice none 0 0, .map (some w.heap.size)] 55)).alloc (.cells #[.pointer (some ⟨w.heap.size + 1, 0, none⟩), .int .i64 0] 57)) := b2.alloc b2.size _
  have h1 : (w.alloc (Obj.map #[] 0)).heap[w.heap.size]? = some (.map #[] 0) := by show (w.heap.push _)[w.heap.size]? = _; simp
  have h2 : ((w.alloc (Obj.map #[] 0)).alloc (.cells #[.slice none 0 0, .map (some w.heap.size)] 55)).heap[w.heap.size + 1]? = some (.cells #[.slice none 0 0, .map (some w.heap.size)] 55 (0, 0)) := by
    rw [← s1]; exact heap_alloc_new _ _
  have h3 : (((w.alloc (Obj.map #[] 0)).alloc (.cells #[.slice none 0 0, .map (some w.heap.size)] 55)).alloc (.cells #[.pointer (some ⟨w.heap.size + 1, 0, none⟩), .int .i64 0] 57)).heap[w.heap.size + 1 + 1]? = some (.cells #[.pointer (some ⟨w.heap.size + 1, 0, none⟩), .int .i64 0] 57 (0, 0)) := by
    rw [← s2]; exact heap_alloc_new _ _
  have c1 : Below (w.heap.size + 1) (w.alloc (Obj.map #[] 0)) ((w.alloc (Obj.map #[] 0)).alloc (.cells #[.slice none 0 0, .map (some w.heap.size)] 55)) := (Below.refl _ _).alloc (by omega) _
  have c2 : Below (w.heap.size + 1 + 1) ((w.alloc (Obj.map #[] 0)).alloc (.cells #[.slice none 0 0, .map (some w.heap.size)] 55)) (((w.alloc (Obj.map #[] 0)).alloc (.cells #[.slice none 0 0, .map (some w.heap.size)] 55)).alloc (.cells #[.pointer (some ⟨w.heap.size + 1, 0, none⟩), .int .i64 0] 57)) := (Below.refl _ _).alloc (by omega) _
  refine ⟨_, _, w.heap.size, rfl, ⟨h3, ⟨[], ⟨⟨fun _ => none, ⟨(c2.block _ (by omega)).trans h2, World.ownsRow_nil _ _ _ _, ⟨[], 0, ?_, ⟨List.nodup_nil, List.nodup_nil, fun _ h => absurd h (by simp)⟩, fun _ => rfl⟩, by omega, Nat.le_refl _⟩, fun t z => ?_⟩, fun k _ hk => absurd hk (by simp)⟩, .refl _⟩, List.Pairwise.nil, fun _ h => absurd h (by simp), fun _ h => absurd h (by simp), by omega, by simp⟩, b3⟩
  · exact ((c2.block _ (by omega)).trans (c1.block _ (by omega))).trans h1
  · simp
def due (now : Int) (e : En) : Bool := decide (e.2.1 ≤ now)
theorem take_bad (w : World) (ab : Option Addr) (now : Int) (hm : momB now = false) :
    Calls Try.prog 15 #[.pointer ab, .int .i64 now] w fun e w' => e = .returned (.tuple #[.slice none 0 0, .int .i64 1]) ∧ w = w' := by
  have C0 := moment_any now w
  rw [hm] at C0
  replace C0 := Lib.hid C0
  clear hm
  go_enter Try.func15, Try.ntmps15
  go_wp2_with fail
  refine C0.out.mono ?_
  rintro e w' ⟨rfl, rfl⟩
  go_wp2
  go_ret2
  exact ⟨rfl, rfl⟩
set_option maxRecDepth 100000 in
theorem take_nil (w : World) (now : Int) (hm : momB now = true) :
    Calls Try.prog 15 #[.pointer none, .int .i64 now] w fun e w' => e = .returned (.tuple #[.slice none 0 0, .int .i64 0]) ∧ Below w.heap.size w w' := by
  have C0 := moment_any now w
  rw [hm] at C0
  replace C0 := Lib.hid C0
  have C1 := Lib.hid (first_nil w)
  clear hm
  go_enter Try.func15, Try.ntmps15
  go_wp2_with fail
  refine C0.out.mono ?_
  rintro e w' ⟨rfl, rfl⟩
  go_wp2_with fail
  go_loopg [6] 1 (fun k u wr => u = .slice none 0 0 ∧ wr = w)
  case atStart => exact ⟨rfl, rfl⟩
  case round =>
    obtain ⟨rfl, rfl⟩ := hrel
    go_wp2_with fail
    refine C1.out.mono ?_
    rintro e w1 ⟨rfl, hb⟩
    replace hb := Lib.hid hb
    go_wp2
    go_ret2
    exact ⟨rfl, hb.out.alloc hb.out.size _⟩
/-- What has been told, and what is left. -/
theorem split_end {now : Int} : ∀ {L T R : List En}, L = T ++ R → (∀ e ∈ T, due now e = true) → (R = [] ∨ ∃ x R', R = x :: R' ∧ due now x = false) → T = L.takeWhile (due now) ∧ R = L.dropWhile (due now)
  | _, [], R, rfl, _, hR => by
    rw [List.nil_append]
    rcases hR with rfl | ⟨x, R', rfl, hx⟩
    · exact ⟨rfl, rfl⟩
    · rw [List.takeWhile_cons, List.dropWhile_cons, hx]
      exact ⟨rfl, rfl⟩
  | _, x :: T, R, rfl, hT, hR => by
    have h1 := hT x (List.mem_cons_self ..)
    obtain ⟨a, b⟩ := split_end (L := T ++ R) rfl (fun e he => hT e (List.mem_cons_of_mem _ he)) hR
    rw [List.cons_append, List.takeWhile_cons, List.dropWhile_cons, h1]
    exact ⟨congrArg _ a, b⟩
theorem sorted_app {T R : List En} (h : Sorted (T ++ R)) : Sorted R := (List.pairwise_append.1 h).2.1
/-- How it stands in the middle of Take. -/
structure Tk (w wr : World) (B ab pb mb : Nat) (v : Value) (L : List En) (last : Nat) (now : Int) (u : Value) (k : Nat) : Prop where
  out : ∃ v1 T R, L = T ++ R ∧ (∀ e ∈ T, due now e = true) ∧ AgAt wr B ab pb mb v1 R last ∧ v1.ownBlock = v.ownBlock ∧ AK ab pb mb v w wr ∧ wr.ownsRow w.heap.size 34 3 u T.length (flat T) ∧ k = R.length
theorem AK.grow {ab pb mb : Nat} {v : Value} {w w4 w6 : World} {row : Option Nat} (h : AK ab pb mb v w w4) (hg : w4.grownBy w6 row) (hr : ∀ k, row = some k → w.heap.size ≤ k) : AK ab pb mb v w w6 :=
  ⟨hg.os.trans h.os, hg.tape.trans h.tape, hg.output.trans h.output, Nat.le_trans h.size hg.size, fun k hk h1 h2 h3 h4 => (hg.block k (Nat.lt_of_lt_of_le hk h.size) fun e => by have := hr k e.symm; omega).trans (h.block k hk h1 h2 h3 h4)⟩
theorem rowPK {w w' : World} {pb mb n₀ n : Nat} {v u : Value} {e : TypeId} {sz : Nat} {xs : List Value} (h : w.ownsRow n₀ e sz u n xs) (hk : PK pb mb v w w') (h1 : pb < n₀) (h2 : mb < n₀) (h3 : ∀ k, some k = v.ownBlock → k < n₀) : w'.ownsRow n₀ e sz u n xs := by
  refine ⟨h.1, ?_⟩
  rcases h.2 with h4 | ⟨k, cap, cur, e1, e2, e3, e4⟩
  · exact .inl h4
  · exact .inr ⟨k, cap, cur, e1, e2, (hk.block k (Array.getElem?_eq_some_iff.1 e3).1 (by omega) (by omega) (fun e => by have := h3 k e; omega)).trans e3, e4⟩
set_option maxRecDepth 100000 in
set_option maxHeartbeats 4000000 in
theorem take_ok (w : World) (B ab pb mb : Nat) (v : Value) (L : List En) (last : Nat) (h : AgAt w B ab pb mb v L last) (now : Int) (hm : momB now = true) :
    Calls Try.prog 15 #[.pointer (some ⟨ab, 0, none⟩), .int .i64 now] w fun e w' => ∃ u, e = .returned (.tuple #[u, .int .i64 0]) ∧
      ∃ v', AgAt w' B ab pb mb v' (L.dropWhile (due now)) last ∧ v'.ownBlock = v.ownBlock ∧ AK ab pb mb v w w' ∧ w'.ownsRow w.heap.size 34 3 u (L.takeWhile (due now)).length (flat (L.takeWhile (due now))) := by
  have C0 := moment_any now w
  rw [hm] at C0
  replace C0 := Lib.hid C0
  have H := Lib.hid h
  have HLT := Lib.hid h.lt
  obtain ⟨i0, hi, hz0, hz1, hz2⟩ := info_parts info34
  clear hm h
  go_enter Try.func15, Try.ntmps15
  go_wp2_with fail
  refine C0.out.mono ?_
  rintro e w' ⟨rfl, rfl⟩
  go_wp2_with fail
  go_loopg [6] L.length (fun k u wr => Tk w wr B ab pb mb v L last now u k)
  case atStart => exact ⟨v, [], L, rfl, fun _ h => absurd h (by simp), H.out, rfl, AK.refl _ _ _ _ _, World.ownsRow_nil _ _ _ _, rfl⟩
  case round =>
    obtain ⟨v1, T, R, hL, hT, hA, hv, hK, hrow, rfl⟩ := hrel
    obtain ⟨Au, cu, eu⟩ := rowSlice hrow
    subst eu
    replace hL := Lib.hid hL
    replace hT := Lib.hid hT
    replace hv := Lib.hid hv
    replace hK := Lib.hid hK
    replace hrow := Lib.hid hrow
    match R, hL, hA with
    | [], hL, hA =>
      have C1 := Lib.hid (first_none _ B ab pb mb v1 last hA)
      replace hA := Lib.hid hA
      go_wp2_with fail
      refine C1.out.mono ?_
      rintro e w1 ⟨rfl, hb⟩
      replace hb := Lib.hid hb
      go_wp2
      go_ret2
      have hb2 := hb.out.alloc hb.out.size (.cells #[.int .i64 0, .int .i64 0, .string ⟨#[]⟩] 34)
      obtain ⟨e1, e2⟩ := split_end hL.out hT.out (.inl rfl)
      rw [← e1, ← e2]
      exact ⟨_, rfl, v1, hA.out.move hb2, hv.out, hK.out.trans (.inl hv.out) (AK.of_below hb2), pw_own_below hrow.out hb2⟩
    | x :: R, hL, hA =>
      have C1 := Lib.hid (first_some _ B ab pb mb v1 x R last hA)
      have hxm := hA.mom x (List.mem_cons_self ..)
      have hfew := hA.few
      replace hA := Lib.hid hA
      obtain ⟨t, a, s⟩ := x
      by_cases hd : now < a
      · go_wp2_with fail
        refine C1.out.mono ?_
        rintro e w1 ⟨rfl, hb⟩
        replace hb := Lib.hid hb
        have y1 : (w1.alloc (.cells #[.int .i64 t, .int .i64 a, .string s] 34)).cell? ⟨w1.heap.size, 1, none⟩ = some (.int .i64 a) := Go.Joins.cell_of_block (heap_alloc_new w1 _) 1
        go_wp2
        go_ret2
        have hb2 := hb.out.alloc hb.out.size (.cells #[.int .i64 t, .int .i64 a, .string s] 34)
        obtain ⟨e1, e2⟩ := split_end hL.out hT.out (.inr ⟨_, R, rfl, by simp [due]; omega⟩)
        rw [← e1, ← e2]
        exact ⟨_, rfl, v1, hA.out.move hb2, hv.out, hK.out.trans (.inl hv.out) (AK.of_below hb2), pw_own_below hrow.out hb2⟩
      · go_wp2_with fail
        refine C1.out.mono ?_
        rintro e w1 ⟨rfl, hb⟩
        have hb2 := hb.alloc hb.size (.cells #[.int .i64 t, .int .i64 a, .string s] 34)
        have A2 := hA.out.move hb2
        have K2 := hK.out.trans (.inl hv.out) (AK.of_below hb2)
        have r2 := pw_own_below hrow.out hb2
        have n2 : (w1.alloc (.cells #[.int .i64 t, .int .i64 a, .string s] 34)).heap[w1.heap.size]? = some (.cells #[.int .i64 t, .int .i64 a, .string s] 34 (0, 0)) := heap_alloc_new w1 _
        have hs1 := hb.size
        have hlt := hA.out.lt
        have y1 : (w1.alloc (.cells #[.int .i64 t, .int .i64 a, .string s] 34)).cell? ⟨w1.heap.size, 1, none⟩ = some (.int .i64 a) := Go.Joins.cell_of_block n2 1
        have z0 : (w1.alloc (.cells #[.int .i64 t, .int .i64 a, .string s] 34)).cell? ⟨ab, 0, none⟩ = some (.pointer (some ⟨pb, 0, none⟩)) := Go.Joins.cell_of_block A2.cell 0
        obtain ⟨l, hl1, hp⟩ := A2.out
        have hh := heap_head hl1.heap hp A2.sorted
        have hll := hp.length_eq
        rw [List.length_cons] at hll hfew
        have C2 := Lib.hid (heap_pop _ B pb mb v1 l hl1 R.length hll (t, a, s) hh (by omega))
        obtain ⟨E, hE⟩ : ∃ E, E = enV (t, a, s) := ⟨_, rfl⟩
        rw [← hE] at C2
        replace hE := Lib.hid hE
        replace hb := Lib.hid hb
        replace hb2 := Lib.hid hb2
        replace A2 := Lib.hid A2
        replace K2 := Lib.hid K2
        replace r2 := Lib.hid r2
        replace hl1 := Lib.hid hl1
        replace hp := Lib.hid hp
        replace hlt := Lib.hid hlt
        replace n2 := Lib.hid n2
        replace hxm := Lib.hid hxm
        clear hh hll
        go_wp2_with fail
        refine C2.out.mono ?_
        rintro e w3 ⟨rfl, v3, l3, H3, p3, K3, M3⟩
        have n3 := (K3.block w1.heap.size (Array.getElem?_eq_some_iff.1 n2.out).1 (by have := hlt.out.2.1; omega) (by have := hlt.out.2.2.1; omega) (fun e => by have := hlt.out.2.2.2 _ e; omega)).trans n2.out
        have c3 := pk_cell hl1.out.hp A2.out.cell K3
        have A3 : AgAt w3 B ab pb mb v3 R last := ⟨c3, ⟨l3, H3, (List.perm_cons _).1 (p3.symm.trans hp.out)⟩, (List.pairwise_cons.1 A2.out.sorted).2, fun e he => A2.out.tick e (List.mem_cons_of_mem _ he), fun e he => A2.out.mom e (List.mem_cons_of_mem _ he), A2.out.ge, by omega⟩
        have hL0 := HLT.out
        have r3 := rowPK r2.out K3 hL0.2.1 hL0.2.2.1 (fun k hk => hL0.2.2.2 k (hk.trans hv.out))
        have K4 := K2.out.trans (.inl hv.out) (AK.of_pk K3)
        have q0 : w3.cell? ⟨w1.heap.size, 0, none⟩ = some (.int .i64 t) := Go.Joins.cell_of_block n3 0
        have q1 : w3.cell? ⟨w1.heap.size, 1, none⟩ = some (.int .i64 a) := Go.Joins.cell_of_block n3 1
        have q2 : w3.cell? ⟨w1.heap.size, 2, none⟩ = some (.string s) := Go.Joins.cell_of_block n3 2
        have r4 := r3.alloc (.cells #[.int .i64 t, .int .i64 a, .string s] 34)
        have A4 := A3.move ((Below.refl _ w3).alloc (Nat.le_refl _) (.cells #[.int .i64 t, .int .i64 a, .string s] 34))
        have K5 := K4.trans (v' := v3) (.inl (M3.trans hv.out)) (AK.of_below ((Below.refl _ w3).alloc (Nat.le_refl _) (.cells #[.int .i64 t, .int .i64 a, .string s] 34)))
        have hN := World.news_of_block (heap_alloc_new w3 (.cells #[.int .i64 t, .int .i64 a, .string s] 34))
        have hw3 := K4.size
        have hTl : T.length ≤ 512 := by
          have h1 := congrArg List.length hL.out
          rw [List.length_append] at h1
          have := H.out.few
          omega
        have hub : ∀ k, (Value.slice Au T.length cu).ownBlock = some k → w.heap.size ≤ k := fun k hk => own_base r4 k hk
        replace n3 := Lib.hid n3
        replace c3 := Lib.hid c3
        replace A3 := Lib.hid A3
        replace A4 := Lib.hid A4
        replace K3 := Lib.hid K3
        replace K4 := Lib.hid K4
        replace K5 := Lib.hid K5
        replace r3 := Lib.hid r3
        replace r4 := Lib.hid r4
        replace hN := Lib.hid hN
        replace H3 := Lib.hid H3
        replace p3 := Lib.hid p3
        replace M3 := Lib.hid M3
        replace hub := Lib.hid hub
        replace hL0 := Lib.hid hL0
        go_wp2_with (at_builtin; refine wpList_append_own_at _ rfl _ _ 47 rfl w.heap.size 34 i0 (.agg #[.int .i64 0, .int .i64 0, .string ⟨#[]⟩]) 3 32 Try.underlying47 hi hz0 hz1 hz2 rfl (by decide) (.slice Au T.length cu) T.length (flat T) rfl r4.out ⟨w3.heap.size, 0, none⟩ 1 1 [.int .i64 t, .int .i64 a, .string s] rfl rfl hN.out (by simp [Value.oneCell']) ?h63 ?hbytes ?hbase ?_)
        case h63 => simp [maxLen]; omega
        case hbytes => omega
        case hbase => simp; omega
        intro u' w6 hown hgrow _ hat
        have A6 := A4.out.kept hgrow fun k hk => by
          have h1 := hub.out k hk
          have h2 := hL0.out
          refine ⟨by omega, by omega, by omega, fun e => ?_⟩
          have := h2.2.2.2 k (e.trans (M3.out.trans hv.out))
          omega
        have K6 := K5.out.grow hgrow hub.out
        replace A6 := Lib.hid A6
        replace K6 := Lib.hid K6
        replace hown := Lib.hid hown
        replace hgrow := Lib.hid hgrow
        replace hat := Lib.hid hat
        go_wp2
        go_roundg R.length
        case measure => simp
        case rel =>
          refine ⟨v3, T ++ [(t, a, s)], R, ?_, ?_, A6.out, M3.out.trans hv.out, K6.out, ?_, rfl⟩
          · rw [hL.out]; simp
          · intro e he
            rcases List.mem_append.1 he with he | he
            · exact hT.out e he
            · rw [List.mem_singleton] at he
              subst he
              simp [due]
              omega
          · have hfl : flat (T ++ [(t, a, s)]) = flat T ++ [.int .i64 t, .int .i64 a, .string s] := by simp [flat, cellsE]
            rw [hfl, List.length_append]
            exact hown.out
end Go.Proofs.Ytmanlmhiiijlmaa
