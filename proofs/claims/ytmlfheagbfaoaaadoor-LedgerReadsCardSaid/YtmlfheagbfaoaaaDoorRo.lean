/- The reference's Seal, Written, Read.
A record that is written and read again: the laws' own small case. -/
import Derived.Test.YtmlfheagbfaoaaaDoorMs
namespace Go.Proofs.YtmlfheagbfaoaaaDoor
open Go.RowKit Go.Proofs.YtmlfheagbfaoaaaDoorW.PrintWords Go.Proofs.YtmlfheagbfaoaaaDoorW.PrintMore Go.Lib
theorem number_any (w : World) (n size : Nat) (hn : n < 9223372036854775808) (hs : size ≤ 8) : Calls Tryd.prog 30 #[.int .i64 (n : Int), .int .i64 (size : Int)] w fun e w' => e = .returned (.string (beB n size)) ∧ Below w.heap.size w w' :=
  PDg.wardmoteref05_Number.calls (size + 1) n size _ w (Number_f n size hn hs _ (by omega))
set_option maxHeartbeats 1600000 in
theorem rseal_any (w : World) (n : Nat) (r : ByteArray) (hn : n < 1099511627776) (hr : r.size ≤ 1099511627776) :
    Calls Tryd.prog 27 #[.int .i64 (n : Int), .string r] w fun e w' => e = .returned (.string (sealB n r)) ∧ Below w.heap.size w w' := by
  have N1 := Lib.hid (number_any w n 8 (by omega) (by omega))
  have hadd := fun w => run_string_add_sum (P := Tryd.prog) w (beB n 8) r (by rw [beB_size]; omega)
  have S1 := Lib.hid (fun w => rsum_any w (beB n 8 ++ r) (by rw [app_size, beB_size]; omega))
  obtain ⟨H, hH⟩ : ∃ H, H = Sha.hash (beB n 8 ++ r) := ⟨_, rfl⟩
  have h32 : H.size = 32 := by rw [hH]; exact Sha.hash_size _
  rw [← hH] at S1
  have hs : sealB n r = H.extract 0 4 := by rw [hH]; rfl
  replace hH := Lib.hid hH
  replace hs := Lib.hid hs
  go_enter Tryd.func27, Tryd.ntmps27
  go_wp2_with fail
  refine N1.out.mono ?_
  rintro e w1 ⟨rfl, hb1⟩
  replace hb1 := Lib.hid hb1
  go_wp2_with fail
  refine (S1.out _).mono ?_
  rintro e w2 ⟨rfl, hb2⟩
  replace hb2 := Lib.hid hb2
  go_wp2
  go_ret
  exact ⟨by rw [hs.out]; try rfl, below_then hb1.out hb1.out.size hb2.out⟩
set_option maxHeartbeats 1600000 in
theorem rwritten_any (w : World) (n : Nat) (r : ByteArray) (hn : n < 1099511627776) (hr : r.size ≤ 9000) :
    Calls Tryd.prog 23 #[.int .i64 (n : Int), .string r] w fun e w' => e = .returned (.string (writtenB n r)) ∧ Below w.heap.size w w' := by
  have N1 := Lib.hid (number_any w r.size 2 (by omega) (by omega))
  have A1 := fun w => run_string_add_sum (P := Tryd.prog) w (beB r.size 2) r (by rw [beB_size]; omega)
  have A2 := fun w => run_string_add_sum (P := Tryd.prog) w (beB r.size 2 ++ r) (sealB n r) (by rw [app_size, beB_size, sealB_size]; omega)
  have S1 := Lib.hid (fun w => rseal_any w n r hn (by omega))
  go_enter Tryd.func23, Tryd.ntmps23
  go_wp2_with fail
  refine N1.out.mono ?_
  rintro e w1 ⟨rfl, hb1⟩
  replace hb1 := Lib.hid hb1
  go_wp2_with fail
  refine (S1.out _).mono ?_
  rintro e w2 ⟨rfl, hb2⟩
  replace hb2 := Lib.hid hb2
  go_wp2
  go_ret
  exact ⟨rfl, below_then hb1.out hb1.out.size hb2.out⟩
theorem endOf_at : ∀ (pre : List (ByteArray × Nat)) (at' : Nat), (pre = [] ∧ at' = 0 ∨ ∃ p x, pre = p ++ [x] ∧ x.2 = at') → endOf pre = at' := by
  rintro pre at' (⟨rfl, rfl⟩ | ⟨p, x, rfl, rfl⟩)
  · rfl
  · exact endOf_snoc p x
/-- How the reading stands: what was told, and where it is. -/
structure At (b : ByteArray) (w w' : World) (v : Value) (at' : Nat) (pre : List (ByteArray × Nat)) : Prop where
  told : toldB b = pre ++ toldFrom b at' pre.length
  place : at' ≤ b.size
  few : pre.length ≤ at'
  ends : endOf pre = at'
  cell : w'.heap[w.heap.size + 1]? = some (.cells #[v, .int .i64 (at' : Int)] 41 (0, 0))
  slot : ∃ cs, w'.heap[w.heap.size]? = some (.cells cs 41 (0, 0)) ∧ cs.size = 2
  row : w'.ownsRow (w.heap.size + 2) 9 1 v pre.length (pre.map fun x => .string x.1)
  below : Below w.heap.size w w'
theorem At.move {b : ByteArray} {w X X' : World} {v : Value} {at' : Nat} {pre : List (ByteArray × Nat)} (h : At b w X v at' pre) (hb : Below X.heap.size X X') : At b w X' v at' pre := by
  obtain ⟨h1, h2, h3, h4, h5, ⟨cs, h6, h6'⟩, h7, h8⟩ := h
  exact ⟨h1, h2, h3, h4, (hb.block _ (Array.getElem?_eq_some_iff.1 h5).1).trans h5, ⟨cs, (hb.block _ (Array.getElem?_eq_some_iff.1 h6).1).trans h6, h6'⟩, pw_own_below h7 hb, below_then h8 h8.size hb⟩
theorem below_drewN (X : World) (n : Nat) : Below X.heap.size X (X.drewN n) := pw_below_drewN (Below.refl _ _) n
theorem At.done {b : ByteArray} {w X : World} {v : Value} {at' : Nat} {pre : List (ByteArray × Nat)} (h : At b w X v at' pre) (hno : toldFrom b at' pre.length = []) (x y : Value) :
    endOf (toldB b) = at' ∧ ((X.setCell ⟨w.heap.size, 0, none⟩ x).setCell ⟨w.heap.size, 1, none⟩ y).ownsRow w.heap.size 9 1 v (toldB b).length ((toldB b).map fun x => .string x.1) ∧ Below w.heap.size w ((X.setCell ⟨w.heap.size, 0, none⟩ x).setCell ⟨w.heap.size, 1, none⟩ y) ∧
      ((X.setCell ⟨w.heap.size, 0, none⟩ x).setCell ⟨w.heap.size, 1, none⟩ y).cell? ⟨w.heap.size, 0, none⟩ = some x ∧ ((X.setCell ⟨w.heap.size, 0, none⟩ x).setCell ⟨w.heap.size, 1, none⟩ y).cell? ⟨w.heap.size, 1, none⟩ = some y := by
  have ht := h.told
  rw [hno, List.append_nil] at ht
  rw [ht]
  have hcells : ((X.setCell ⟨w.heap.size, 0, none⟩ x).setCell ⟨w.heap.size, 1, none⟩ y).heap[w.heap.size]? = some (.cells #[x, y] 41 (0, 0)) := by
    obtain ⟨⟨l⟩, hcs, hcz⟩ := h.slot
    match l, hcz with
    | [a, b], _ => exact set_at (set_at hcs 0 x) 1 y
  refine ⟨h.ends, ?_, (h.below.setCell (p := ⟨w.heap.size, 0, none⟩) (Nat.le_refl _) x).setCell (p := ⟨w.heap.size, 1, none⟩) (Nat.le_refl _) y, Go.Joins.cell_of_block hcells 0, Go.Joins.cell_of_block hcells 1⟩
  have hr := rowBase (b' := w.heap.size) (Nat.le_add_right _ 2) h.row
  refine ⟨hr.1, ?_⟩
  rcases hr.2 with h2 | ⟨k, cap, cur, e1, e2, e3, e4⟩
  · exact .inl h2
  · have hk : k ≠ w.heap.size := by
      have := own_base h.row k (by rw [e1]; rfl)
      omega
    exact .inr ⟨k, cap, cur, e1, e2, ((Below.heap_setCell _ ⟨w.heap.size, 1, none⟩ y k hk).trans (Below.heap_setCell X ⟨w.heap.size, 0, none⟩ x k hk)).trans e3, e4⟩
theorem At.step {b : ByteArray} {w X X8 : World} {v v' : Value} {at' sz : Nat} {pre : List (ByteArray × Nat)} (h : At b w X v at' pre) (hsz : sz = sizeAt b at') (hf : at' + 6 + sz ≤ b.size) (hl : sz ≤ 9000) (rc : ByteArray) (hrc : rc = b.extract (at' + 2) (at' + 2 + sz)) (hs : sealAt b at' pre.length)
    (hown : X8.ownsRow (w.heap.size + 2) 9 1 v' (pre.length + 1) ((pre.map fun x => .string x.1) ++ [.string rc])) (hg : (X.alloc (.cells #[.string rc] 9)).grownBy X8 v.ownBlock) (z : Int) (hz : z = ((at' + 6 + sz : Nat) : Int)) :
    X8.cell? ⟨w.heap.size + 1, 0, none⟩ = some v ∧ X8.frozen? ⟨w.heap.size + 1, 0, none⟩ = false ∧ (X8.setCell ⟨w.heap.size + 1, 0, none⟩ v').cell? ⟨w.heap.size + 1, 1, none⟩ = some (.int .i64 (at' : Int)) ∧ (X8.setCell ⟨w.heap.size + 1, 0, none⟩ v').frozen? ⟨w.heap.size + 1, 1, none⟩ = false ∧
    At b w ((X8.setCell ⟨w.heap.size + 1, 0, none⟩ v').setCell ⟨w.heap.size + 1, 1, none⟩ (.int .i64 z)) v' (at' + 6 + sz) (pre ++ [(rc, at' + 6 + sz)]) := by
  subst hz
  have hA := h.move ((Below.refl _ X).alloc (Nat.le_refl _) (.cells #[.string rc] 9))
  have hk : ∀ (k : Nat) (cs : Array Value) (t : TypeId), (X.alloc (.cells #[.string rc] 9)).heap[k]? = some (Obj.cells cs t (0, 0)) → t ≠ 9 → X8.heap[k]? = some (Obj.cells cs t (0, 0)) := by
    intro k cs t hk ht
    refine (hg.block k (Array.getElem?_eq_some_iff.1 hk).1 (fun e => ?_)).trans hk
    obtain ⟨cells, hc⟩ := own_typed hA.row k e.symm
    rw [hk] at hc
    injection hc with hc
    injection hc with _ hc
    exact ht hc
  have h8 := hk _ _ _ hA.cell (by decide)
  have h9 := set_at h8 0 v'
  have h10 := set_at h9 1 (.int .i64 ((at' + 6 + sz : Nat) : Int))
  have hB8 : Below w.heap.size w X8 := hA.below.grown hg hA.below.size (fun k hk => by have := own_base hA.row k hk; omega)
  refine ⟨Go.Joins.cell_of_block h8 0, Go.Joins.unfrozen_of_block h8 0, Go.Joins.cell_of_block h9 1, Go.Joins.unfrozen_of_block h9 1, ?_, hf, ?_, endOf_snoc _ _, h10, ?_, ?_, (hB8.setCell (p := ⟨w.heap.size + 1, 0, none⟩) (Nat.le_succ _) _).setCell (p := ⟨w.heap.size + 1, 1, none⟩) (Nat.le_succ _) _⟩
  · have hy := toldFrom_yes b at' pre.length ⟨⟨by omega, by omega, by omega⟩, hs⟩
    have ht := h.told
    rw [hy, ← hsz] at ht
    rw [ht, List.length_append, List.append_assoc, hrc, hsz]
    rfl
  · have := h.few
    rw [List.length_append, List.length_singleton]
    omega
  · obtain ⟨cs, hcs, hcz⟩ := hA.slot
    exact ⟨cs, (Below.heap_setCell _ ⟨w.heap.size + 1, 1, none⟩ _ _ (by show w.heap.size ≠ w.heap.size + 1; omega)).trans ((Below.heap_setCell X8 ⟨w.heap.size + 1, 0, none⟩ _ _ (by show w.heap.size ≠ w.heap.size + 1; omega)).trans (hk _ _ _ hcs (by decide))), hcz⟩
  · rw [List.length_append, List.map_append]
    refine ⟨hown.1, ?_⟩
    rcases hown.2 with h2 | ⟨k, cap, cur, e1, e2, e3, e4⟩
    · exact .inl h2
    · have hne : k ≠ w.heap.size + 1 := by omega
      exact .inr ⟨k, cap, cur, e1, e2, ((Below.heap_setCell _ ⟨w.heap.size + 1, 1, none⟩ _ k hne).trans (Below.heap_setCell X8 ⟨w.heap.size + 1, 0, none⟩ _ k hne)).trans e3, e4⟩
theorem wrap_sz (x y : Nat) (hx : x < 256) (hy : y < 256) : wrap64 (wrap64 (256 * wrap64 (x : Int)) + wrap64 (y : Int)) = ((256 * x + y : Nat) : Int) := by
  rw [Sha.i64_nat (n := x) (by omega), Sha.i64_nat (n := y) (by omega), show (256 : Int) * (x : Int) = ((256 * x : Nat) : Int) by omega, Sha.i64_nat (by omega), ← Int.natCast_add, Sha.i64_nat (by omega)]
theorem size_lt (b : ByteArray) (i : Nat) : sizeAt b i < 65536 := by
  have h0 := Sha.by8_lt b i
  have h1 := Sha.by8_lt b (i + 1)
  unfold sizeAt
  omega
theorem wrap_p (a k b : Nat) (h : a + k ≤ b) (hb : b ≤ 1099511627776) : IntKind.i64.wrap ((a : Int) + (k : Int)) = (a : Int) + (k : Int) := by rw [IntKind.wrap_i64]; omega
set_option maxRecDepth 100000 in
set_option maxHeartbeats 4000000 in
theorem rread_any (w : World) (b : ByteArray) (hb : b.size ≤ 1099511627776) :
    Calls Tryd.prog 16 #[.string b] w fun e w' => ∃ v, e = .returned (.agg #[v, .int .i64 (endOf (toldB b) : Int)]) ∧ w'.ownsRow w.heap.size 9 1 v (toldB b).length ((toldB b).map fun x => .string x.1) ∧ Below w.heap.size w w' := by
  obtain ⟨i0, hi, hz0, hz1, hz2⟩ := info_parts info_str
  go_enter Tryd.func16, Tryd.ntmps16
  go_wp2
  have hst : At b w ((w.alloc (.cells #[.slice none 0 0, .int .i64 0] 41)).alloc (.cells #[.slice none 0 0, .int .i64 0] 41)) (.slice none 0 0) 0 [] := by
    refine ⟨rfl, Nat.zero_le _, Nat.le_refl _, rfl, heap_alloc2_new _ _ _, ⟨_, heap_alloc2_old _ _ _, rfl⟩, World.ownsRow_nil _ _ _ _, ((Below.refl _ w).alloc (Nat.le_refl _) _).alloc (by simp) _⟩
  obtain ⟨w1, hw1⟩ : ∃ w1, w1 = (w.alloc (.cells #[.slice none 0 0, .int .i64 0] 41)).alloc (.cells #[.slice none 0 0, .int .i64 0] 41) := ⟨_, rfl⟩
  rw [← hw1] at hst ⊢
  clear hw1
  go_loopg [] b.size (fun kq wr => ∃ v at' pre, At b w wr v at' pre ∧ kq = b.size - at')
  case atStart => exact ⟨_, _, _, hst, rfl⟩
  case round =>
    clear hst
    obtain ⟨v, at', pre, h, hkq⟩ := hrel
    replace hkq := Lib.hid hkq
    obtain ⟨A, c, ev⟩ := rowSlice h.row
    subst ev
    have hpl := h.place
    have hpf := h.few
    have c0 : wr.cell? ⟨w.heap.size + 1, 0, none⟩ = some (.slice A pre.length c) := Go.Joins.cell_of_block h.cell 0
    have c1 : wr.cell? ⟨w.heap.size + 1, 1, none⟩ = some (.int .i64 (at' : Int)) := Go.Joins.cell_of_block h.cell 1
    obtain ⟨cs, hcs, hcz⟩ := h.slot
    obtain ⟨q0, q1, rfl⟩ : ∃ q0 q1, cs = #[q0, q1] := by
      obtain ⟨l⟩ := cs
      match l, hcz with
      | [a, b], _ => exact ⟨a, b, rfl⟩
    have s0 : wr.cell? ⟨w.heap.size, 0, none⟩ = some q0 := Go.Joins.cell_of_block hcs 0
    have s1 : wr.cell? ⟨w.heap.size, 1, none⟩ = some q1 := Go.Joins.cell_of_block hcs 1
    have f0 : wr.frozen? ⟨w.heap.size, 0, none⟩ = false := Go.Joins.unfrozen_of_block hcs 0
    have f1 : wr.frozen? ⟨w.heap.size, 1, none⟩ = false := Go.Joins.unfrozen_of_block hcs 1
    clear hcs hcz
    replace h := Lib.hid h
    by_cases h6 : at' + 6 ≤ b.size
    · have t6 : 6 ≤ (b.size : Int) - (at' : Int) := by omega
      have hi0 := fun w => index_str w b at' at' rfl (by omega)
      have hi1 := fun w => index_str w b (at' + 1) ((at' : Int) + 1) (by omega) (by omega)
      have hl0 := Sha.by8_lt b at'
      have hl1 := Sha.by8_lt b (at' + 1)
      have hsd : sizeAt b at' = 256 * Sha.by8 b at' + Sha.by8 b (at' + 1) := rfl
      obtain ⟨x, hx⟩ : ∃ x, x = Sha.by8 b at' := ⟨_, rfl⟩
      obtain ⟨y, hy⟩ : ∃ y, y = Sha.by8 b (at' + 1) := ⟨_, rfl⟩
      rw [← hx] at hi0 hl0 hsd
      rw [← hy] at hi1 hl1 hsd
      clear hx hy
      have wp : IntKind.i64.wrap ((at' : Int) + 1) = (at' : Int) + 1 := wrap_p at' 1 b.size (by omega) hb
      obtain ⟨sz, hsz⟩ : ∃ sz, sz = sizeAt b at' := ⟨_, rfl⟩
      have ws : wrap64 (wrap64 (256 * wrap64 (x : Int)) + wrap64 (y : Int)) = (sz : Int) := by rw [hsz, hsd]; exact wrap_sz x y hl0 hl1
      have hz : sz < 65536 := by rw [hsz]; exact size_lt _ _
      clear hsd hl0 hl1
      replace hsz := Lib.hid hsz
      go_wp2
      replace ws := Lib.hid ws
      go_quiet (fail)
      rw [ws.out]
      clear hi0 hi1 wp
      by_cases hf : sz ≤ 9000 ∧ at' + 6 + sz ≤ b.size
      · obtain ⟨hf1, hf2⟩ := hf
        have tz : ¬ (9000 : Int) < (sz : Int) := by omega
        have ty : ¬ (b.size : Int) - (at' : Int) < (sz : Int) + 6 := by omega
        have hsl := fun w => slice_str w b (at' + 2) (at' + 2 + sz) ((at' : Int) + 2) ((at' : Int) + 2 + sz) (by omega) (by omega) (by omega) (by omega)
        go_wp2
        obtain ⟨sv, hsv⟩ : ∃ sv, sv = sealB pre.length (b.extract (at' + 2) (at' + 2 + sz)) := ⟨_, rfl⟩
        have S1 := fun X => rseal_any X pre.length (b.extract (at' + 2) (at' + 2 + sz)) (by omega) (by rw [ByteArray.size_extract]; omega)
        rw [← hsv] at S1
        replace S1 := Lib.hid S1
        replace hsv := Lib.hid hsv
        have hsl2 := fun w => slice_str w b (at' + 2 + sz) (at' + 6 + sz) ((at' : Int) + 2 + sz) ((at' : Int) + 6 + sz) (by omega) (by omega) (by omega) (by omega)
        have wq1 : IntKind.i64.wrap ((at' : Int) + 2) = (at' : Int) + 2 := wrap_p at' 2 b.size (by omega) hb
        have wq2 : IntKind.i64.wrap ((at' : Int) + 2 + sz) = (at' : Int) + 2 + sz := wrap_p (at' + 2) sz b.size (by omega) hb
        have wq3 : IntKind.i64.wrap ((at' : Int) + 6) = (at' : Int) + 6 := wrap_p at' 6 b.size (by omega) hb
        have wq4 : IntKind.i64.wrap ((at' : Int) + 6 + sz) = (at' : Int) + 6 + sz := wrap_p (at' + 6) sz b.size (by omega) hb
        clear tz ty hsl
        by_cases hs : b.extract (at' + 2 + sz) (at' + 6 + sz) = sv
        · have hbq : ((b.extract (at' + 2 + sz) (at' + 6 + sz)).toList == sv.toList) = true := by rw [hs]; exact beq_self_eq_true _
          have hbn : ((b.extract (at' + 2 + sz) (at' + 6 + sz)).toList != sv.toList) = false := by rw [hs]; simp
          replace hs := Lib.hid hs
          go_region_held3 (fun w' => w'.cell? ⟨w.heap.size + 1, 0, none⟩ = some (.slice A pre.length c) ∧ w'.cell? ⟨w.heap.size + 1, 1, none⟩ = some (.int .i64 (at' : Int))) (first | exact ⟨c0, c1⟩ | exact ⟨e0, e1⟩) ((go_at_call 27; refine (S1.out _).mono ?_; rintro e w5 ⟨rfl, hb5⟩; have hb5' := below_then (below_drewN wr (nq + 1)) (Nat.le_refl _) hb5; have e0 := pw_cell_below hb5' c0; have e1 := pw_cell_below hb5' c1; replace hb5 := Lib.hid hb5; replace hb5' := Lib.hid hb5'))
          all_goals
            clear hbq hbn hsl2 wq1 wq2 wq3 wq4
            have h5 := h.out.move hb5'.out
            have r5 := h5.row.alloc (.cells #[.string (b.extract (at' + 2) (at' + 2 + sz))] 9)
            have hz5 := h5.below.size
            have hlt5 := (Array.getElem?_eq_some_iff.1 h5.cell).1
            replace h5 := Lib.hid h5
            replace r5 := Lib.hid r5
            go_wp2_with (at_builtin; refine wpList_append_own_at _ rfl _ _ 22 rfl (w.heap.size + 2) 9 i0 (.string ⟨#[]⟩) 1 16 Tryd.underlying22 hi hz0 hz1 hz2 rfl (by decide) (.slice A pre.length c) pre.length (pre.map fun x => .string x.1) rfl r5.out ⟨w5.heap.size, 0, none⟩ 1 1 [.string (b.extract (at' + 2) (at' + 2 + sz))] rfl rfl (cell_one_new _ _ _) (by simp [Value.oneCell']) ?h63 ?hbytes ?hbase ?_)
            case h63 => simp [maxLen]; omega
            case hbytes => omega
            case hbase => simp; omega
            intro v' w8 hown hgrow _ _
            obtain ⟨A', c', rfl⟩ := rowSlice hown
            obtain ⟨q1, q2, q3, q4, q5⟩ := h5.out.step hsz.out hf2 hf1 _ rfl (by unfold sealAt recAt; rw [← hsz.out, hs.out]; exact hsv.out) hown hgrow ((at' : Int) + 6 + sz) (by omega)
            replace q5 := Lib.hid q5
            replace hown := Lib.hid hown
            replace hgrow := Lib.hid hgrow
            go_wp2
            go_roundg (b.size - (at' + 6 + sz))
            case measure => rw [hkq.out]; omega
            case rel => exact ⟨_, _, _, q5.out, rfl⟩
        · have hbq : ((b.extract (at' + 2 + sz) (at' + 6 + sz)).toList == sv.toList) = false := by
            rw [beq_eq_false_iff_ne]
            exact fun h => hs (toList_inj h)
          have hbn : ((b.extract (at' + 2 + sz) (at' + 6 + sz)).toList != sv.toList) = true := by rw [bne, hbq]; rfl
          have hno : toldFrom b at' pre.length = [] := toldFrom_no _ _ _ (fun h => hs (by rw [hsv.out]; have h2 := h.2; unfold sealAt recAt at h2; rw [← hsz.out] at h2; exact h2))
          replace hs := Lib.hid hs
          replace hno := Lib.hid hno
          go_region_held3 (fun w' => w'.cell? ⟨w.heap.size + 1, 0, none⟩ = some (.slice A pre.length c) ∧ w'.cell? ⟨w.heap.size + 1, 1, none⟩ = some (.int .i64 (at' : Int))) (first | exact ⟨c0, c1⟩ | exact ⟨e0, e1⟩) ((go_at_call 27; refine (S1.out _).mono ?_; rintro e w5 ⟨rfl, hb5⟩; have hb5' := below_then (below_drewN wr (nq + 1)) (Nat.le_refl _) hb5; have e0 := pw_cell_below hb5' c0; have e1 := pw_cell_below hb5' c1; replace hb5 := Lib.hid hb5; replace hb5' := Lib.hid hb5'))
          all_goals
            clear hbq hbn hsl2 wq1 wq2 wq3 wq4
            have h5 := h.out.move hb5'.out
            obtain ⟨cs5, hcs5, hcz5⟩ := h5.slot
            have s05 : w5.frozen? ⟨w.heap.size, 0, none⟩ = false := Go.Joins.unfrozen_of_block hcs5 0
            have s15 : w5.frozen? ⟨w.heap.size, 1, none⟩ = false := Go.Joins.unfrozen_of_block hcs5 1
            have t05 := pw_cell_below hb5'.out s0
            have t15 := pw_cell_below hb5'.out s1
            obtain ⟨d1, d2, d3, d4, d5⟩ := h5.done hno.out (.slice A pre.length c) (.int .i64 at')
            replace hcs5 := Lib.hid hcs5
            replace hcz5 := Lib.hid hcz5
            replace h5 := Lib.hid h5
            replace d1 := Lib.hid d1
            replace d2 := Lib.hid d2
            replace d3 := Lib.hid d3
            go_wp2
            refine bodyPost_ret (v := .agg #[.slice A pre.length c, .int .i64 at']) (by simp [results, Tryd.results16, go_sem, d4, d5]) rfl ⟨_, by rw [d1.out], d2.out, d3.out⟩
      · have hno : toldFrom b at' pre.length = [] := toldFrom_no _ _ _ (fun h => hf (by have := hsz.out; unfold fitsAt at h; omega))
        obtain ⟨d1, d2, d3, d4, d5⟩ := (h.out.move (below_drewN wr nq)).done hno (.slice A pre.length c) (.int .i64 at')
        replace d1 := Lib.hid d1
        replace d2 := Lib.hid d2
        replace d3 := Lib.hid d3
        replace hno := Lib.hid hno
        by_cases hf1 : sz ≤ 9000
        · have tz : ¬ (9000 : Int) < (sz : Int) := by omega
          have ty : (b.size : Int) - (at' : Int) < (sz : Int) + 6 := by omega
          clear hf
          go_wp2
          refine bodyPost_ret (v := .agg #[.slice A pre.length c, .int .i64 at']) (by simp [results, Tryd.results16, go_sem, d4, d5]) rfl ⟨_, by rw [d1.out], d2.out, d3.out⟩
        · have tz : (9000 : Int) < (sz : Int) := by omega
          clear hf
          go_wp2
          refine bodyPost_ret (v := .agg #[.slice A pre.length c, .int .i64 at']) (by simp [results, Tryd.results16, go_sem, d4, d5]) rfl ⟨_, by rw [d1.out], d2.out, d3.out⟩
    · have t6 : ¬ 6 ≤ (b.size : Int) - (at' : Int) := by omega
      have hno : toldFrom b at' pre.length = [] := toldFrom_no _ _ _ (fun h => by unfold fitsAt at h; omega)
      obtain ⟨d1, d2, d3, d4, d5⟩ := h.out.done hno (.slice A pre.length c) (.int .i64 at')
      replace d1 := Lib.hid d1
      replace d2 := Lib.hid d2
      replace d3 := Lib.hid d3
      replace hno := Lib.hid hno
      go_wp2
      refine bodyPost_ret (v := .agg #[.slice A pre.length c, .int .i64 at']) (by simp [results, Tryd.results16, go_sem, d4, d5]) rfl ⟨_, by rw [d1.out], d2.out, d3.out⟩
end Go.Proofs.YtmlfheagbfaoaaaDoor
namespace Go.Proofs.YtmlfheagbfaoaaaDoor
open Go.RowKit Go.Proofs.YtmlfheagbfaoaaaDoorW.PrintWords Go.Proofs.YtmlfheagbfaoaaaDoorW.PrintMore Go.Lib
theorem rowC {w : World} {n₀ : Nat} {A : Option Addr} {c : Nat} {l : List ByteArray} (h : w.ownsRow n₀ 9 1 (.slice A l.length c) l.length (l.map Value.string)) : Kd.C Kd.string w A l.length l ∧ l.length ≤ c := by
  have hR : Kd.string.R 9 w n₀ (fun _ => True) (.slice A l.length c) l := Kd.R_of_own h (fun _ _ => trivial)
  obtain ⟨_, h1, h2⟩ := Kd.R_reads' hR
  exact ⟨h2, h1⟩
theorem texts_any (A : Option Addr) (c : Nat) (l : List ByteArray) (A' : Option Addr) (c' : Nat) (m : List ByteArray) (w : World) (n₀ n₁ : Nat) (h : w.ownsRow n₀ 9 1 (.slice A l.length c) l.length (l.map Value.string)) (h' : w.ownsRow n₁ 9 1 (.slice A' m.length c') m.length (m.map Value.string)) (hl : l.length ≤ 140737488355328) :
    Calls Tryd.prog 19 #[.slice A l.length c, .slice A' m.length c'] w fun e w' => e = .returned (.bool (decide (l = m))) ∧ ∃ n, w' = w.drewN n :=
  (PDg.wardmoteplain_Texts.calls (l.length + 1) A c l A' c' m _ w (rowC h).1 (rowC h).2 (rowC h').1 (rowC h').2 (Texts_f l m hl _ (by omega))).mono fun _ _ ⟨h1, h2⟩ => ⟨h1, h2.out⟩
theorem told_nil : toldB ⟨#[]⟩ = [] := told_whole [] (by simp)
theorem litRow (w : World) (x : ByteArray) : (w.alloc (.cells #[.string x] 9)).ownsRow w.heap.size 9 1 (.slice (some ⟨w.heap.size, 0, none⟩) 1 1) 1 [.string x] :=
  ⟨rfl, .inr ⟨w.heap.size, 1, #[.string x], rfl, Nat.le_refl _, heap_alloc_new w _, Nat.le_refl _, by decide, rfl, rfl⟩⟩
theorem LedgerV.move {w w' : World} {B g lg : Nat} {v : Value} {b : ByteArray} {sy : Nat} {recs : List ByteArray} {syn : Nat} (h : LedgerV w B g lg v b sy recs syn) (hb : Below w.heap.size w w') : LedgerV w' B g lg v b sy recs syn :=
  ⟨fileBelow h.file hb, (hb.block lg (Array.getElem?_eq_some_iff.1 h.cell).1).trans h.cell, pw_own_below h.row hb, h.ge, h.ne, h.few⟩
theorem open_nil (B g : Nat) (sy : Nat) (w : World) (h : Dk.FileAt w B g ⟨#[]⟩ sy) (hT : Tab w) (hB : B ≤ w.heap.size) :
    Calls Tryd.prog 10 #[.pointer (some ⟨g, 0, none⟩)] w fun e w' => ∃ lg v, e = .returned (.tuple #[.pointer (some ⟨lg, 0, none⟩), .int .i64 0]) ∧ LedgerV w' B g lg v ⟨#[]⟩ 0 [] 0 ∧ Dk.Keeps B g w w' := by
  refine (open_any B g ⟨#[]⟩ sy w h hT hB).mono ?_
  rintro e w' ⟨lg, v, rfl, L, _, _, K⟩
  rw [told_nil] at L
  exact ⟨lg, v, rfl, L, K⟩
theorem told_a (a : ByteArray) (h : a.size ≤ 9000) : toldB (writtenB 0 a) = [(a, 6 + a.size)] := by
  have := told_whole [a] (by simpa using h)
  rw [allB, allFrom, allFrom, app_empty, endsFrom, endsFrom, Nat.zero_add] at this
  exact this
set_option maxRecDepth 100000 in
set_option maxHeartbeats 4000000 in
theorem one_any (w : World) (hT : Tab w) : Calls Tryd.prog 8 #[] w fun e w' => e = .returned (.bool true) ∧ Below w.heap.size w w' := by
  obtain ⟨W, hW⟩ : ∃ W, W = writtenB 0 ⟨#[97]⟩ := ⟨_, rfl⟩
  have hWs : W.size ≤ 1048576 := by rw [hW, writtenB_size]; decide
  have hWt : toldB W = [(⟨#[97]⟩, 7)] := by rw [hW]; exact told_a _ (by decide)
  have HT := Lib.hid hT
  have F1 := Dk.FileAt.new w
  have B1 := (Below.refl w.heap.size w).alloc (Nat.le_refl _) (.cells #[.slice none 0 0, .int .i64 0] 58)
  have O1 := Lib.hid (open_nil w.heap.size w.heap.size 0 _ F1 (hT.below B1) (by simp))
  have hF1 := Lib.hid F1.ge
  replace B1 := Lib.hid B1
  clear F1 hT
  go_enter Tryd.func8, Tryd.ntmps8
  go_wp2_with fail
  refine (Dk.new_any w).mono ?_
  rintro e w1 ⟨rfl, rfl⟩
  go_wp2_with fail
  refine O1.out.mono ?_
  rintro e w2 ⟨lg, v, rfl, L2, K2⟩
  have B2 : Below w.heap.size w w2 := K2.below B1.out (Nat.le_refl _) B1.out.size
  have A2 := Lib.hid (lappend_room w.heap.size w.heap.size lg v ⟨#[]⟩ 0 [] 0 ⟨#[97]⟩ w2 L2 (HT.out.below B2) B2.size (by decide) (by decide))
  replace L2 := Lib.hid L2
  replace K2 := Lib.hid K2
  replace B2 := Lib.hid B2
  clear O1
  go_wp2_with fail
  refine A2.out.mono ?_
  rintro e w3 ⟨rfl, v3, L3, K3, M3⟩
  rw [empty_app] at L3
  replace L3 : LedgerV w3 w.heap.size w.heap.size lg v3 W 0 [⟨#[97]⟩] 0 := hW ▸ L3
  have B3 := K3.below L2.out B2.out
  have Y3 := Lib.hid (Dk.bytes_any _ _ _ _ _ L3.file)
  have R3 := read_any w3 W (by omega) (HT.out.below B3) (by rw [hWt]; decide)
  rw [hWt, show endOf [((⟨#[97]⟩ : ByteArray), 7)] = 7 from rfl] at R3
  replace R3 := Lib.hid R3
  replace L3 := Lib.hid L3
  replace K3 := Lib.hid K3
  replace B3 := Lib.hid B3
  replace M3 := Lib.hid M3
  have RW := Lib.hid (fun X => hW ▸ rwritten_any X 0 ⟨#[97]⟩ (by decide) (by decide))
  replace hW := Lib.hid hW
  replace hWt := Lib.hid hWt
  clear A2
  go_wp2_with fail
  refine Y3.out.mono ?_
  rintro e w4 ⟨rfl, rfl⟩
  go_wp2_with fail
  refine R3.out.mono ?_
  rintro e w5 ⟨v5, rfl, r5, b5⟩
  obtain ⟨A5, c5, rfl⟩ := rowSlice r5
  have L5 := L3.out.move b5
  have G5 := Lib.hid (get_yes _ _ _ _ _ _ _ _ 0 w5 L5 (by decide))
  have B5 := below_then B3.out B3.out.size b5
  have X5 := Lib.hid (texts_any A5 c5 [⟨#[97]⟩] (some ⟨w5.heap.size, 0, none⟩) 1 [⟨#[97]⟩] (w5.alloc (.cells #[.string ⟨#[97]⟩] 9)) _ _ (r5.alloc _) (litRow w5 _) (by decide))
  have L6 := fun n => L5.move (pw_below_drewN ((Below.refl _ w5).alloc (Nat.le_refl _) (.cells #[.string ⟨#[97]⟩] 9)) n)
  have B6 := fun n => below_then B5 B5.size (pw_below_drewN ((Below.refl _ w5).alloc (Nat.le_refl _) (.cells #[.string ⟨#[97]⟩] 9)) n)
  replace L5 := Lib.hid L5
  replace L6 := Lib.hid L6
  replace B5 := Lib.hid B5
  replace B6 := Lib.hid B6
  replace r5 := Lib.hid r5
  replace b5 := Lib.hid b5
  go_wp2_with fail
  refine G5.out.mono ?_
  rintro e w6 ⟨rfl, rfl⟩
  go_wp2_with (go_at_call 19; refine X5.out.mono ?_; rintro e w7 ⟨rfl, n7, rfl⟩; have Y7 := Lib.hid (Dk.bytes_any _ _ _ _ _ (L6.out n7).file))
  go_wp2_with (go_at_call 12; refine Y7.out.mono ?_; rintro e w8 ⟨rfl, rfl⟩)
  go_wp2_with (go_at_call 23; refine (RW.out _).mono ?_; rintro e w9 ⟨rfl, b9⟩; replace b9 := Lib.hid b9)
  go_ret
  exact ⟨by simp, below_then (B6.out n7) (B6.out n7).size b9.out⟩
end Go.Proofs.YtmlfheagbfaoaaaDoor
