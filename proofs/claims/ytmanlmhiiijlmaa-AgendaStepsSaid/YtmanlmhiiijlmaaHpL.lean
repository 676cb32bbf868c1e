/- What a heap's operations leave, as lists. Plain. -/
import Derived.Test.YtmanlmhiiijlmaaAgL
namespace Go.Proofs.Ytmanlmhiiijlmaa
theorem g_lt {l : List En} {k : Nat} (h : k < l.length) : l[k]? = some (HL.g dE l k) := by
  unfold HL.g
  rw [List.getD_eq_getElem?_getD, List.getElem?_eq_getElem h]
  rfl
theorem g_app {l m : List En} {k : Nat} (h : k < l.length) : HL.g dE (l ++ m) k = HL.g dE l k := by
  unfold HL.g
  rw [List.getD_eq_getElem?_getD, List.getD_eq_getElem?_getD, List.getElem?_append_left h]
theorem push_inv {l : List En} (e : En) (h : HL.IsHeap dE ltE l l.length) : HL.UpInv dE ltE (l ++ [e]) (l.length + 1) l.length := by
  refine ⟨fun k k0 kn kne => ?_, fun k k0 kn kp _ => ?_⟩
  · have hp := HL.par_lt k0
    rw [g_app (by omega), g_app (by omega)]
    exact h k k0 (by omega)
  · have := HL.par_lt k0
    omega
theorem kids_far {l : List En} {n : Nat} (h : HL.IsHeap dE ltE l n) {k : Nat} (k0 : 0 < k) (kn : k < n) (p0 : 0 < HL.par k) : ltE (HL.g dE l k) (HL.g dE l (HL.par (HL.par k))) = false :=
  ordE.trans _ _ _ (h _ p0 (by have := HL.par_lt k0; omega)) (h k k0 kn)
theorem swap_fix {l : List En} {i n : Nat} (h : HL.IsHeap dE ltE l l.length) (hn : l.length = n + 1) (hi : i < n) : HL.FixInv dE ltE (HL.swap dE l i n) n i := by
  have G := fun k => HL.g_swap dE l i n k (by omega) (by omega)
  refine ⟨fun k k0 kn kne kp => ?_, fun k k0 kn kp i0 => ?_⟩
  · have hp := HL.par_lt k0
    rw [G, G, if_neg (by omega), if_neg kne, if_neg (by omega), if_neg kp]
    exact h k k0 (by omega)
  · have hp := HL.par_lt k0
    have hpp := HL.par_lt i0
    rw [G, G, if_neg (by omega), if_neg (by omega), if_neg (by omega), if_neg (by omega), ← kp]
    exact kids_far h k0 (by omega) (by omega)
theorem swap_down {l : List En} {n : Nat} (h : HL.IsHeap dE ltE l l.length) (hn : l.length = n + 1) : HL.DownInv dE ltE (HL.swap dE l 0 n) n 0 := by
  have G := fun k => HL.g_swap dE l 0 n k (by omega) (by omega)
  refine ⟨fun k k0 kn kp => ?_, fun k k0 kn kp i0 => by omega⟩
  have hp := HL.par_lt k0
  rw [G, G, if_neg (by omega), if_neg (by omega), if_neg (by omega), if_neg kp]
  exact h k k0 (by omega)
theorem set_fix {l : List En} {i : Nat} (h : HL.IsHeap dE ltE l l.length) (hi : i < l.length) (y : En) : HL.FixInv dE ltE (l.set i y) l.length i := by
  have G := fun k => HL.g_set dE l i k y hi
  refine ⟨fun k k0 kn kne kp => ?_, fun k k0 kn kp i0 => ?_⟩
  · rw [G, G, if_neg kne, if_neg kp]
    exact h k k0 kn
  · have hp := HL.par_lt k0
    have hpp := HL.par_lt i0
    rw [G, G, if_neg (by omega), if_neg (by omega), ← kp]
    exact kids_far h k0 kn (by omega)
theorem heap_init {r : List En} {n : Nat} {x : En} (hl : r.length = n + 1) (hx : HL.g dE r n = x) (h : HL.IsHeap dE ltE r n) : ∃ q, r = q ++ [x] ∧ q.length = n ∧ HL.IsHeap dE ltE q q.length := by
  have hr : r = r.take n ++ [x] := by
    have h1 := g_lt (l := r) (k := n) (by omega)
    rw [hx] at h1
    have h2 : r.drop n = [x] := by
      rw [List.drop_eq_getElem_cons (by omega), List.drop_eq_nil_of_le (by omega)]
      rw [List.getElem?_eq_getElem (by omega)] at h1
      rw [Option.some.inj h1]
    rw [← h2, List.take_append_drop]
  have hq : (r.take n).length = n := by rw [List.length_take]; omega
  refine ⟨r.take n, hr, hq, ?_⟩
  rw [hq]
  intro k k0 kn
  have hp := HL.par_lt k0
  have := h k k0 kn
  rw [hr, g_app (by omega), g_app (by omega)] at this
  exact this
end Go.Proofs.Ytmanlmhiiijlmaa
