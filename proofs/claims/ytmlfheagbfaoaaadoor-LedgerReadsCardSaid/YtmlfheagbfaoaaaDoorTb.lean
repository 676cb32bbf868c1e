/- Small facts on the table. -/
import Derived.Test.YtmlfheagbfaoaaaDoorFin
namespace Go.Proofs.YtmlfheagbfaoaaaDoor
open Go.RowKit Go.Proofs.YtmlfheagbfaoaaaDoorW.PrintWords Go.Proofs.YtmlfheagbfaoaaaDoorW.PrintMore Go.Lib

theorem Tab.lt {w : World} (h : Tab w) : 0 < w.heap.size := World.block_lt_of_cell? w ⟨0, 0, none⟩ (h 0 (by decide))
theorem Tab.alloc {w : World} (h : Tab w) (o : Obj) : Tab (w.alloc o) := h.below ((Below.refl _ w).alloc (Nat.le_refl _) o)
theorem empty_app (s : ByteArray) : (⟨#[]⟩ : ByteArray) ++ s = s := by
  apply Go.WideShapes.bytes_inj
  rw [Go.Joins.data_append]
  rfl
end Go.Proofs.YtmlfheagbfaoaaaDoor
