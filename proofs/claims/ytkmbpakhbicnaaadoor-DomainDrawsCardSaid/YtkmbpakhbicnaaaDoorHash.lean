/- The hash: what its block holds when s has been written; New, Len, Write. -/
import Derived.Test.YtkmbpakhbicnaaaDoorBlock
import Derived.Test.YtkmbpakhbicnaaaDoorBuf
namespace Go.Proofs.YtkmbpakhbicnaaaDoor
open Go.RowKit Go.Proofs.YtkmbpakhbicnaaaDoorW.PrintWords Go.Proofs.YtkmbpakhbicnaaaDoorW.PrintMore Go.Lib

/-- Block g is a hash of the program's to which s has been written; its rest lies from block B on. -/
structure HashAt (w : World) (B g : Nat) (s : ByteArray) : Prop where
  out : ∃ rv rest, w.heap[g]? = some (.cells (hashCells (Sha.many Sha.init (Sha.by8 s) (s.size / 64)) rv (s.size : Int)) 71 (0, 0)) ∧ Buf w B 5 rv rest ∧
    rest.size + 64 * (s.size / 64) = s.size ∧ ∀ i, i < rest.size → Sha.by8 rest i = Sha.by8 s (64 * (s.size / 64) + i)
  ge : B ≤ g

theorem new_any (w : World) : Calls Tryd.prog 22 #[] w fun e w' => e = .returned (.pointer (some ⟨w.heap.size, 0, none⟩)) ∧ w.alloc (.cells (hashCells Sha.init (.slice none 0 0) 0) 71) = w' := by
  go_enter Tryd.func22, Tryd.ntmps22
  go_wp2
  go_ret
  exact ⟨rfl, rfl⟩
theorem HashAt.new (w : World) : HashAt (w.alloc (.cells (hashCells Sha.init (.slice none 0 0) 0) 71)) w.heap.size w.heap.size ⟨#[]⟩ :=
  ⟨⟨.slice none 0 0, ⟨#[]⟩, heap_alloc_new w _, .nil _ _ _ _ rfl, rfl, fun i hi => absurd hi (Nat.not_lt_zero i)⟩, Nat.le_refl _⟩

end Go.Proofs.YtkmbpakhbicnaaaDoor
