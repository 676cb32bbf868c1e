/- A row of whole numbers of one kind that the program made: what each cell holds; made, copied into, appended to within its room, stored to. -/
import Derived.Test.YtkmbpakhbicnaaaDoorBlock
import Derived.Laws.CopyOwn
import Derived.OwnWalk
namespace Go.Proofs.YtkmbpakhbicnaaaDoor
open Go.RowKit Go.Lib

/-- Block g holds n whole numbers of kind k. -/
def NRow (w : World) (g : Nat) (t : TypeId) (k : IntKind) (n : Nat) (f : Nat → Nat) : Prop :=
  ∃ cs, w.heap[g]? = some (.cells cs t (0, 0)) ∧ cs.size = n ∧ ∀ i, i < n → cs[i]? = some (.int k (f i : Int))
section
variable {w w1 : World} {g n : Nat} {t : TypeId} {k : IntKind} {f : Nat → Nat}
theorem NRow.lt (h : NRow w g t k n f) : g < w.heap.size := by
  obtain ⟨cs, hh, _⟩ := h
  exact (Array.getElem?_eq_some_iff.1 hh).1
theorem NRow.cell (h : NRow w g t k n f) (i : Nat) (hi : i < n) : w.cell? ⟨g, i, none⟩ = some (.int k (f i : Int)) := by
  obtain ⟨cs, hh, _, hc⟩ := h
  rw [Go.Joins.cell_of_block hh i]
  exact hc i hi
theorem NRow.free (h : NRow w g t k n f) (i : Nat) : w.frozen? ⟨g, i, none⟩ = false := by
  obtain ⟨cs, hh, _, hc⟩ := h
  exact Go.Joins.unfrozen_of_block hh i
theorem NRow.move (h : NRow w g t k n f) (hm : w1.heap[g]? = w.heap[g]?) : NRow w1 g t k n f := by
  obtain ⟨cs, hh, r⟩ := h
  exact ⟨cs, hm.trans hh, r⟩
theorem NRow.eq (h : NRow w g t k n f) {f' : Nat → Nat} (hf : ∀ i, i < n → f i = f' i) : NRow w g t k n f' := by
  obtain ⟨cs, hh, hs, hc⟩ := h
  exact ⟨cs, hh, hs, fun i hi => hf i hi ▸ hc i hi⟩
theorem NRow.set (h : NRow w g t k n f) (j v : Nat) (hj : j < n) : NRow (w.setCell ⟨g, j, none⟩ (.int k (v : Int))) g t k n (fun i => if i = j then v else f i) := by
  obtain ⟨cs, hh, hs, hc⟩ := h
  refine ⟨cs.setIfInBounds j (.int k (v : Int)), Go.Joins.block_setCell hh _, by simp [hs], fun i hi => ?_⟩
  by_cases e : i = j
  · subst e
    rw [Array.getElem?_setIfInBounds_self_of_lt (by omega)]
    simp
  · simp only [if_neg e]
    rw [Array.getElem?_setIfInBounds_ne (by omega)]
    exact hc i hi
theorem NRow.other (h : NRow w g t k n f) (a : Addr) (v : Value) (ha : g ≠ a.block) : NRow (w.setCell a v) g t k n f := h.move (Below.heap_setCell w a v g ha)
theorem NRow.drewN (h : NRow w g t k n f) (m : Nat) : NRow (w.drewN m) g t k n f := h
theorem NRow.alloc (h : NRow w g t k n f) (o : Obj) : NRow (w.alloc o) g t k n f := h.move (heap_alloc_old w o h.lt)
theorem NRow.only (h : NRow w g t k n f) {g' : Nat} (ho : Only g' w w1) (hg : g ≠ g') : NRow w1 g t k n f := h.move (ho.block g h.lt hg)
theorem NRow.below (h : NRow w g t k n f) {B : Nat} (hb : Below B w w1) (hg : g < B) : NRow w1 g t k n f := h.move (hb.block g hg)
theorem NRow.new (w : World) (t : TypeId) (k : IntKind) (n : Nat) : NRow (w.alloc (.cells (madeCells #[.int k 0] n) t)) w.heap.size t k n (fun _ => 0) :=
  ⟨_, heap_alloc_new w _, size_madeCells _ _, fun i hi => by simp [madeCells, hi, Nat.mod_one]⟩
end
theorem Only.alloc {g : Nat} {w w1 : World} (h : Only g w w1) (o : Obj) : Only g w (w1.alloc o) :=
  ⟨h.os, h.tape, h.output, by have := h.size; simp; omega, fun k hk hg => (heap_alloc_old w1 o (Nat.lt_of_lt_of_le hk h.size)).trans (h.block k hk hg)⟩
theorem Only.below' {g B : Nat} {w0 w w1 : World} (h : Only g w w1) (hb : Below B w0 w) (hg : B ≤ g) (hs : B ≤ w.heap.size) : Below B w0 w1 :=
  ⟨h.os.trans hb.os, h.tape.trans hb.tape, h.output.trans hb.output, Nat.le_trans hb.size h.size, fun k hk => (h.block k (Nat.lt_of_lt_of_le hk hs) (by omega)).trans (hb.block k hk)⟩
theorem below_trans' {B : Nat} {w0 w w1 : World} (hb : Below B w0 w) (hs : B ≤ w.heap.size) (h : Below w.heap.size w w1) : Below B w0 w1 := hb.trans (h.mono hs)

section
variable {P : Program} {w : World} {ops : Array Oper} {rest : List Oper} {o : Oper} {a : Act} {Q : Exit → Act → World → Prop}
theorem wpList_make_row (hg : o.guard = none) (l c : Operand) (t : TypeId) (hop : o.op = Op.makeSlice t l c)
    (e : TypeId) (i : TypeInfo) (k : IntKind) (h1 : P.underlying t = some (.slice e)) (h2 : P.info? e = some i) (h3 : i.zero = some (.int k 0)) (h4 : i.size = 1)
    (kl kc : IntKind) (L C : Int) (n m : Nat) (hl : a.eval l = .int kl L) (hc : a.eval c = .int kc C) (hL : L = (n : Int)) (hC : C = (m : Int)) (hnm : n ≤ m) (b2 : i.bytes * m ≤ 281474976710656) (b3 : m ≤ 9223372036854775807)
    (hK : ∀ w', Hid (NRow w' w.heap.size e k m (fun _ => 0)) → Hid (Below w.heap.size w w') → Hid (w.heap.size < w'.heap.size) → wpList P ops Q rest (a.put o.dst (.slice (some ⟨w.heap.size, 0, none⟩) n m)) w') :
    wpList P ops Q (o :: rest) a w := by
  refine wpList_plain hg fun K hK' => ?_
  subst hL
  subst hC
  have hb' : (i.bytes : Int) * (m : Int) ≤ 281474976710656 := by
    have h : ((i.bytes * m : Nat) : Int) ≤ 281474976710656 := by omega
    rwa [Int.natCast_mul] at h
  have hrun := run_make (P := P) w t e i (.int k 0) h1 h2 h3 kl kc n m (by omega) (by omega) hb' (by omega)
  simp only [Int.toNat_natCast, h4, Nat.mul_one] at hrun
  unfold Oper.wp
  simp [execOp, hop, hl, hc, hrun, Result.andThen]
  exact hK' _ _ (hK _ (NRow.new w e k m) ((Below.refl _ w).alloc (Nat.le_refl _) _) (show _ < _ by simp))
theorem splice_get (L : List Value) (off : Nat) (cs : List Value) (hL : off + cs.length ≤ L.length) (i : Nat) :
    (L.take off ++ (cs ++ L.drop (off + cs.length)))[i]? = if off ≤ i ∧ i < off + cs.length then cs[i - off]? else L[i]? := by
  by_cases h1 : i < off
  · rw [if_neg (by omega), List.getElem?_append_left (by rw [List.length_take]; omega), List.getElem?_take_of_lt h1]
  · rw [List.getElem?_append_right (by rw [List.length_take]; omega), List.length_take, Nat.min_eq_left (by omega)]
    by_cases h2 : i < off + cs.length
    · rw [if_pos (by omega), List.getElem?_append_left (by omega)]
    · rw [if_neg (by omega), List.getElem?_append_right (by omega), List.getElem?_drop]
      congr 1
      omega
theorem NRow.splice {g n : Nat} {t : TypeId} {k : IntKind} {f : Nat → Nat} {cur : Array Value} (hg : w.heap[g]? = some (.cells cur t (0, 0))) (hs : cur.size = n) (hc : ∀ i, i < n → cur[i]? = some (.int k (f i : Int)))
    (off m : Nat) (b : Nat → Nat) (hm : off + m ≤ n) (cs : List Value) (hcs : cs = (List.range m).map fun j => Value.int k (b j : Int)) :
    NRow (w.setRow g (cur.toList.take off ++ (cs ++ cur.toList.drop (off + cs.length))).toArray) g t k n (fun i => if off ≤ i ∧ i < off + m then b (i - off) else f i) := by
  have hl : cs.length = m := by rw [hcs]; simp
  have hl2 : cur.toList.length = n := by rw [Array.length_toList]; exact hs
  refine ⟨_, setRow_heap w g cur _ t _ hg, ?_, fun i hi => ?_⟩
  · simp only [List.size_toArray, List.length_append, List.length_take, List.length_drop, Array.length_toList]
    omega
  · rw [List.getElem?_toArray, splice_get _ _ _ (by rw [hl2, hl]; omega), hl]
    dsimp only
    by_cases h : off ≤ i ∧ i < off + m
    · rw [if_pos h, if_pos h, hcs, List.getElem?_map, List.getElem?_range (by omega)]
      rfl
    · rw [if_neg h, if_neg h, Array.getElem?_toList]
      exact hc i hi
theorem Only.setRow (w : World) (g : Nat) (cs : Array Value) : Only g w (w.setRow g cs) :=
  ⟨rfl, rfl, rfl, by simp, fun k _ hk => setRow_other w g k cs hk⟩
theorem wpList_copy_row (hgd : o.guard = none) (d s : Operand) (dT sT : TypeId)
    (ho : o.op = .call { callee := .builtin .copy, args := #[d, s], argTypes := #[dT, sT] }) (elem : TypeId) (hu : P.underlying dT = some (.slice elem)) (hsz : (P.info? elem).map (·.size) = some 1)
    (g off dLen dCap : Nat) (hd : a.eval d = .slice (some ⟨g, off, none⟩) dLen dCap) (sp : Option Addr) (sLen sCap : Nat) (hs : a.eval s = .slice sp sLen sCap)
    (t : TypeId) (k : IntKind) (m : Nat) (f : Nat → Nat) (hrow : NRow w g t k m f) (n : Nat) (hn : n = Nat.min sLen dLen) (b : Nat → Nat)
    (hsrc : 0 < n → ∃ ad, sp = some ad ∧ ∀ j, j < n → w.cell? (ad.add j) = some (.int k (b j : Int))) (hfit : off + n ≤ m)
    (hK : ∀ w', Hid (NRow w' g t k m (fun i => if off ≤ i ∧ i < off + n then b (i - off) else f i)) → Hid (Only g w w') → wpList P ops Q rest (a.put o.dst (goInt n)) w') :
    wpList P ops Q (o :: rest) a w := by
  by_cases h0 : n = 0
  · refine wpList_copy_nothing hgd d s dT sT ho elem hu hsz _ _ dLen dCap sLen sCap hd hs (by omega) ?_
    have := hK w (hrow.eq (fun i _ => by rw [if_neg (by omega)])) (Only.refl g w)
    rwa [h0] at this
  · obtain ⟨ad, rfl, hcell⟩ := hsrc (by omega)
    obtain ⟨cur, hg, hs', hc⟩ := hrow
    have hl : ((List.range n).map fun j => Value.int k (b j : Int)).length = n := by simp
    refine wpList_copy_own hgd d s dT sT ho elem hu hsz g off dLen dCap ad sLen sCap hd hs cur t hg ((List.range n).map fun j => Value.int k (b j : Int)) (by rw [hl]; exact hn) ?_ (by rw [hl]; omega) ?_ ?_
    · intro j v hv
      have hj : j < n := by have := (List.getElem?_eq_some_iff.1 hv).1; rwa [hl] at this
      rw [List.getElem?_map, List.getElem?_range hj] at hv
      rw [hcell j hj]
      exact hv
    · intro v hv
      obtain ⟨j, _, rfl⟩ := List.mem_map.1 hv
      rfl
    · rw [hl]
      have h1 := NRow.splice (k := k) (f := f) hg hs' hc off n b hfit _ rfl
      rw [hl] at h1
      exact hK _ h1 (Only.setRow w g _)
theorem wpList_append_row (hgd : o.guard = none) (s x : Operand) (t : TypeId) (hop : o.op = .call { callee := .builtin .append, args := #[s, x], argTypes := #[t, t] })
    (e : TypeId) (i : TypeInfo) (h1 : P.underlying t = some (.slice e)) (h2 : P.info? e = some i) (h4 : i.size = 1)
    (g n cap : Nat) (hs : a.eval s = .slice (some ⟨g, 0, none⟩) n cap) (ad : Addr) (c : Nat) (hx : a.eval x = .slice (some ad) 1 c)
    (k : IntKind) (m : Nat) (f : Nat → Nat) (hrow : NRow w g e k m f) (v : Nat) (hv : w.cell? ad = some (.int k (v : Int))) (hn : n + 1 ≤ cap) (hm : n < m)
    (hK : ∀ w', Hid (NRow w' g e k m (fun i => if i = n then v else f i)) → Hid (Only g w w') → wpList P ops Q rest (a.put o.dst (.slice (some ⟨g, 0, none⟩) (n + 1) cap)) w') :
    wpList P ops Q (o :: rest) a w := by
  refine wpList_plain hgd fun K hK' => ?_
  obtain ⟨cur, hg, hs', hc⟩ := hrow
  have hrun := run_append_room (P := P) w t o.type e i h1 h2 g n cap cur hg ad 1 c [.int k (v : Int)] (by simp [h4]) (fun j u hu => by
    match j, hu with
    | 0, hu =>
      simp at hu
      subst hu
      rw [show ad.add 0 = ad by simp [Addr.add]]
      exact hv) (fun u hu => by simp at hu; subst hu; rfl) hn (by simp [h4]; omega)
  have hA := NRow.splice (k := k) (f := f) hg hs' hc n 1 (fun _ => v) (by omega) [.int k (v : Int)] rfl
  unfold Oper.wp
  simp only [h4, Nat.mul_one] at hrun
  simp [execOp, hop, resolve, invoke, builtin, hs, hx, hrun, Result.andThen]
  have hA' := hA.eq (f' := fun i => if i = n then v else f i) (fun i _ => by
    by_cases h : i = n
    · rw [if_pos (by omega), if_pos h]
    · rw [if_neg (by omega), if_neg h])
  have := hK _ hA' (Only.setRow w g _)
  simp at this
  exact hK' _ _ this
end
end Go.Proofs.YtkmbpakhbicnaaaDoor
