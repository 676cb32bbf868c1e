/- Read, which collects what the iterator tells: walked where loops over functions are (the wide fence), told as a plain contract. -/
import Derived.Test.YtmlfheagbfaoaaaDoorTold
namespace Go.Proofs.YtmlfheagbfaoaaaDoor
open Go.RowKit Go.Shelf Go.Proofs.YtmlfheagbfaoaaaDoorW.PrintWords Go.Proofs.YtmlfheagbfaoaaaDoorW.PrintMore Go.Lib
attribute [local go_sem] Oper.semAt_some

theorem Kp.tr {n₀ bx : Nat} {A B C : World} (h : Kp n₀ bx A B) (k : Kp n₀ bx B C) : Kp n₀ bx A C := ⟨h.1.trans k.1, k.2.trans h.2⟩
theorem told_stops (n : Nat) (hn : 1 ≤ n) (bx n₀ : Nat) (w0 w : World) (b : ByteArray) (hb : b.size ≤ 1099511627776) (HT : Hid (Tab w0)) (hn0 : n₀ = w0.heap.size)
    (hlt : bx < w.heap.size) (hbx : w.heap[bx]? = some (.cells #[.string b] 9)) (hW0 : Below n₀ w0 w) :
    SeqStopsK Fence.wide n Tryd.prog 32 #[.pointer (some ⟨bx, 0, none⟩)] (fun x : ByteArray × Nat => #[Value.string x.1, .int .i64 (x.2 : Int)]) (Kp n₀ bx) (fun ys => ys = toldB b) (fun pre => pre <+: toldB b) (toldB b).length w := by
  intro l J Jx W hW hJ _ hY h0
  refine (told1_in n hn l bx n₀ w0 b hb HT hn0 W.heap.size J Jx hJ hY W ((hW.block bx hlt).trans hbx) (hW0.trans (hW.mono (by have := hW0.size; omega))) h0).mono ?_
  rintro e W' ⟨h1, h2 | h2⟩
  · exact ⟨h1, .inl ⟨_, rfl, h2⟩⟩
  · exact ⟨h1, .inr h2⟩
theorem Kp.box {n₀ bx : Nat} {w : World} (hn : n₀ ≤ w.heap.size) (hx : bx < w.heap.size) (W : World) (l : Nat) (o o' : Obj) (hl : w.heap.size ≤ l) (h : W.heap[l]? = some o) (h1 : o.isCells = false) (h2 : o.isWalk = false) : Kp n₀ bx W (W.putObj l o') :=
  ⟨belowK_b hn W l o o' hl h h1 h2, World.putObj_heap_other (by omega)⟩
theorem rowBase {w : World} {b b' : Nat} {e : TypeId} {size : Nat} {v : Value} {n : Nat} {xs : List Value} (hb : b' ≤ b) (h : w.ownsRow b e size v n xs) : w.ownsRow b' e size v n xs := by
  refine ⟨h.1, ?_⟩
  rcases h.2 with h2 | ⟨g, cap, cur, h1, h2, h3⟩
  · exact .inl h2
  · exact .inr ⟨g, cap, cur, h1, by omega, h3⟩
theorem rowApart {w : World} {b : Nat} {e : TypeId} {size : Nat} {v : Value} {n : Nat} {xs : List Value} (h : w.ownsRow b e size v n xs) (k : Nat) (hk : k < b) : some k ≠ v.ownBlock := by
  rcases h.2 with ⟨rfl, _⟩ | ⟨g, cap, cur, rfl, h2, h3⟩
  · simp [Value.ownBlock]
  · simp [Value.ownBlock]; omega
theorem info_str : (Tryd.prog.info? 9).map (fun i => (i.zero, i.size, i.bytes)) = some (some (.string ⟨#[]⟩), 1, 16) := by kernel_rfl

theorem boxed_own {β : Type} (B : Nat) (t : TypeId) (v : β → Value) : Own (fun s W => Boxed W B t (v s)) := by
  intro s X Y row hv hg hrow
  refine hv.kept hg (fun e' => ?_)
  obtain ⟨o, ho, hc⟩ := hrow B e'.symm
  rw [show X.heap[B]? = _ from hv] at ho; cases ho; cases hc

set_option maxRecDepth 100000 in
set_option maxHeartbeats 4000000 in
theorem read_in (n : Nat) (hn : 3 ≤ n) (w : World) (b : ByteArray) (hb : b.size ≤ 1099511627776) (HT : Hid (Tab w)) (hN : (toldB b).length ≤ 1099511627776) :
    CallsIn Fence.wide n Tryd.prog 15 #[.string b] w fun e W' => ∃ v, e = .returned (.tuple #[v, .int .i64 (endOf (toldB b) : Int)]) ∧ W'.ownsRow w.heap.size 9 1 v (toldB b).length ((toldB b).map fun x => .string x.1) ∧ Below w.heap.size w W' := by
  have h1 : 1 ≤ n := by omega
  have hF : ∀ f, Fence.wide.fn f := fun _ => trivial
  obtain ⟨i0, hi, hz0, hz1, hz2⟩ := info_parts info_str
  refine callsIn_of_wp_marks Tryd.func15 rfl trivial ?_ rfl
  simp only [Tryd.ntmps15, List.size_toArray, List.length_cons, List.length_nil, Nat.reduceAdd, Nat.reduceSub, Array.replicate_succ, Array.replicate_zero, List.push_toArray, List.append_toArray, List.nil_append, List.cons_append]
  gi_wp2_with (gi_at_call 26; refine (told_in (n - 1) _ _).mono ?_; rintro e w' ⟨rfl, rfl⟩)
  obtain ⟨B, hB⟩ : ∃ B, B = w.heap.size := ⟨_, rfl⟩
  obtain ⟨w1, hw1⟩ : ∃ w1, w1 = ((w.alloc (.cells #[.slice none 0 0] 22)).alloc (.cells #[.int .i64 0] 3)).alloc (.cells #[.string b] 9) := ⟨_, rfl⟩
  have hs1 : w1.heap.size = B + 3 := by rw [hw1, World.size_alloc, World.size_alloc, World.size_alloc]; omega
  have bO : Boxed w1 B 22 (.slice none 0 0) := by rw [hw1, hB]; exact ((Boxed.new w 22 (.slice none 0 0)).alloc _).alloc _
  have bA : Boxed w1 (B + 1) 3 (.int .i64 0) := by
    rw [hw1, hB]
    have := Boxed.new (w.alloc (.cells #[.slice none 0 0] 22)) 3 (.int .i64 0)
    rw [World.size_alloc] at this
    exact this.alloc _
  have bX : Boxed w1 (B + 2) 9 (.string b) := by
    rw [hw1, hB]
    have := Boxed.new ((w.alloc (.cells #[.slice none 0 0] 22)).alloc (.cells #[.int .i64 0] 3)) 9 (.string b)
    rw [World.size_alloc, World.size_alloc] at this
    exact this
  have hB0 : Below B w w1 := by
    rw [hw1, hB]
    exact (((Below.refl _ w).alloc (Nat.le_refl _) _).alloc (by simp) _).alloc (by simp; omega) _
  rw [← hw1, ← hB]
  clear hw1
  replace hB := Lib.hid hB
  refine wpIn_rangeFunc_ownG rfl h1 (gf := 32) (lb := #[.pointer (some ⟨B + 1 + 1, 0, none⟩)]) rfl trivial (enters_of Tryd.func32 (by kernel_rfl) rfl)
    (told_stops (n - 1) (by omega) (B + 2) B w w1 b hb HT hB.out (by omega) bX hB0) (fun h k => Kp.tr h k) (Kp.box (by omega) (by omega)) (Below.refl _ _) (fun _ => rfl)
    (fun pre W => (∃ v, Boxed W B 22 v ∧ W.ownsRow (B + 3) 9 1 v pre.length (pre.map fun x => .string x.1) ∧ True) ∧ Boxed W (B + 1) 3 (.int .i64 (endOf pre : Int)) ∧ Boxed W (B + 2) 9 (.string b) ∧ Below B w W)
    (fun _ _ _ => False)
    (OwnFrom.and (Own.from (holdsRow_own (B + 3) B 22 9 1 (fun pre : List (ByteArray × Nat) => pre.length) (fun pre => pre.map fun x => .string x.1) (fun _ _ => True)) _) (OwnFrom.and (Own.from (boxed_own (B + 1) 3 (fun pre => .int .i64 (endOf pre : Int))) _) (OwnFrom.and (Own.from (boxed_own (B + 2) 9 (fun _ => .string b)) _) (ownFrom_below (by have := hB.out; omega) (by omega)))))
    (fun _ _ _ _ _ hs _ _ => hs)
    ⟨⟨_, bO, World.ownsRow_nil _ _ _ _, trivial⟩, bA, bX, hB0⟩
    (fun x => { tmps := #[.string b, undef, .slice none 0 0, .int .i64 0, .pointer (some ⟨B, 0, none⟩), .pointer (some ⟨B + 1, 0, none⟩), .string x.1, .int .i64 (x.2 : Int), .string b, .func (.func 32) #[] #[.pointer (some ⟨B + 1 + 1, 0, none⟩)], .string x.1, .int .i64 (x.2 : Int), undef, undef, undef, undef, undef, undef, undef], defers := [] }) ?assign ?body ?done ?stop
  case assign =>
    intro l x W K hK
    gi_wp2
    exact hK
  case body =>
    rintro l pre x W ⟨⟨v, hv, hrow, -⟩, hA, hX, hBl⟩ hlt
    have hc := hv.cell
    have hcA := hA.cell
    have hsz := hX.lt
    gi_wp2_with (gi_at_builtin; refine wpListIn_append_own _ rfl _ _ 22 rfl (B + 3) 9 i0 (.string ⟨#[]⟩) 1 16 Tryd.underlying22 hi hz0 hz1 hz2 rfl (by decide) _ _ _ rfl (hrow.alloc _) ⟨W.heap.size, 0, none⟩ 1 1 [.string x.1] rfl rfl (cell_one_new _ _ _) (by simp [Value.oneCell']) (by simp [maxLen]; omega) (by omega) (by simp; omega) ?_; intro v' w2 hown' hgrow _; obtain ⟨g', cap', rfl⟩ := ownsRow_succ hown'; obtain ⟨hv1, hv2, hr2, hk2, hb2⟩ := hv.appended (by decide) (rowBase (Nat.le_add_right _ _) hrow) (by omega) (Nat.le_refl _) (rowBase (Nat.le_add_right _ _) hown') hgrow; have hc1 := hv1.cell; have hf1 := hv1.frozen; have hA2 := (hA.alloc _).kept hgrow (rowApart hrow (B + 1) (by omega)); have hX2 := (hX.alloc _).kept hgrow (rowApart hrow (B + 2) (by omega)); have hA3 := hA2.kept (grownBy_setCell' w2 B (.slice (some ⟨g', 0, none⟩) (pre.length + 1) cap')) (by simp); have hX3 := hX2.kept (grownBy_setCell' w2 B (.slice (some ⟨g', 0, none⟩) (pre.length + 1) cap')) (by simp); have hr3 := hown'.kept (grownBy_setCell' w2 B (.slice (some ⟨g', 0, none⟩) (pre.length + 1) cap')) (.inr (rowApart hown' B (by omega)).symm); have hcA2 := hA2.cell; have hfA2 := hA2.frozen; have hcA3 := hA3.cell; have hfA3 := hA3.frozen)
    have hX4 := hX3.kept (grownBy_setCell' _ (B + 1) (.int .i64 (x.2 : Int))) (by simp)
    have hr4 := hr3.kept (grownBy_setCell' _ (B + 1) (.int .i64 (x.2 : Int))) (.inr (rowApart hr3 (B + 1) (by omega)).symm)
    have hv4 := hv2.kept (grownBy_setCell' _ (B + 1) (.int .i64 (x.2 : Int))) (by simp)
    have hA4 := hA3.set (.int .i64 (x.2 : Int))
    have hb4 := hb2.setCell (p := ⟨B + 1, 0, none⟩) (Nat.le_succ B) (.int .i64 (x.2 : Int))
    exact ⟨(hk2.trans (KeepsOthers.setCell _ _ _)).from _, ⟨hb4, hX4.trans hX.symm⟩, ⟨_, hv4, by simpa using hr4, trivial⟩, by rw [endOf_snoc]; exact hA4, hX4, hBl.trans hb4⟩
  case done =>
    rintro D ys W hD rfl ⟨⟨v, hv, hrow, -⟩, hA, hX, hBl⟩ hK
    have hc := hv.cell
    have hcA := hA.cell
    gi_wp2
    gi_region
    gi_wp2
    refine ⟨by simp, .inl ⟨_, _, rfl, run_takeDeferred (w := W.drew) hK, ?_⟩⟩
    refine ⟨_, ?_, v, rfl, ?_, ?_⟩
    rotate_left
    · exact rowBase (by have := hB.out; omega) (ownsRow_putObj hrow.drew _ hK rfl)
    · rw [← hB.out]
      exact (hBl.drew).trans (belowK_b (w := w1) (by omega) W.drew D _ _ hD hK rfl rfl)
    · exact results_tmp2 (fn := Tryd.f15) (t := 2) (u := 3) rfl _ _ _
  case stop =>
    rintro D c pre W _ _ h _
    exact h.elim
theorem read_any (w : World) (b : ByteArray) (hb : b.size ≤ 1099511627776) (hT : Tab w) (hN : (toldB b).length ≤ 1099511627776) :
    Calls Tryd.prog 15 #[.string b] w fun e W' => ∃ v, e = .returned (.tuple #[v, .int .i64 (endOf (toldB b) : Int)]) ∧ W'.ownsRow w.heap.size 9 1 v (toldB b).length ((toldB b).map fun x => .string x.1) ∧ Below w.heap.size w W' :=
  callsIn_wide.1 (read_in 3 (Nat.le_refl _) w b hb (Lib.hid hT) hN)
end Go.Proofs.YtmlfheagbfaoaaaDoor
