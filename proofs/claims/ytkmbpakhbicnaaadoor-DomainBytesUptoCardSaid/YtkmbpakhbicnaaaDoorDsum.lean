/- The sum of a text, by the package's function. -/
import Derived.Test.YtkmbpakhbicnaaaDoorFin
namespace Go.Proofs.YtkmbpakhbicnaaaDoor
open Go.RowKit Go.Proofs.YtkmbpakhbicnaaaDoorW.PrintWords Go.Proofs.YtkmbpakhbicnaaaDoorW.PrintMore Go.Lib

theorem Tab.lt {w : World} (h : Tab w) : 0 < w.heap.size := World.block_lt_of_cell? w ⟨0, 0, none⟩ (h 0 (by decide))
theorem Tab.alloc {w : World} (h : Tab w) (o : Obj) : Tab (w.alloc o) := h.below ((Below.refl _ w).alloc (Nat.le_refl _) o)
theorem empty_app (s : ByteArray) : (⟨#[]⟩ : ByteArray) ++ s = s := by
  apply Go.WideShapes.bytes_inj
  rw [Go.Joins.data_append]
  rfl
set_option maxHeartbeats 4000000 in
theorem sum_any (w : World) (s : ByteArray) (hT : Tab w) (hs : s.size ≤ 140737488355264) :
    Calls Tryd.prog 19 #[.string s] w fun e w' => e = .returned (.string (Sha.hash s)) ∧ Below w.heap.size w w' := by
  have hlt := hT.lt
  have H1 := Lib.hid (HashAt.new w)
  have hT1 := hT.alloc (.cells (hashCells Sha.init (.slice none 0 0) 0) 71)
  have hB1 : Below w.heap.size w (w.alloc (.cells (hashCells Sha.init (.slice none 0 0) 0) 71)) := (Below.refl _ w).alloc (Nat.le_refl _) _
  have W1 := Lib.hid (write_any (w.alloc (.cells (hashCells Sha.init (.slice none 0 0) 0) 71)) w.heap.size w.heap.size ⟨#[]⟩ s hT1 hlt hB1.size H1.out (by show 0 + s.size ≤ _; omega))
  replace hB1 := Lib.hid hB1
  have HT := Lib.hid hT
  clear hT hT1 H1
  go_enter Tryd.func19, Tryd.ntmps19
  go_wp2_with fail
  refine (new_any w).mono ?_
  rintro e w1 ⟨rfl, rfl⟩
  go_wp2_with fail
  refine W1.out.mono ?_
  rintro e w2 ⟨rfl, h2, hb2⟩
  rw [empty_app] at h2
  have hb := hB1.out.trans hb2
  have S2 := Lib.hid (hsum_any w2 w.heap.size w.heap.size s (HT.out.below hb) h2 hs)
  replace hb := Lib.hid hb
  clear h2 hb2
  go_wp2_with fail
  refine S2.out.mono ?_
  rintro e w3 ⟨rfl, hb3⟩
  go_wp2
  go_ret
  exact ⟨rfl, below_then hb.out hb.out.size hb3⟩
end Go.Proofs.YtkmbpakhbicnaaaDoor
