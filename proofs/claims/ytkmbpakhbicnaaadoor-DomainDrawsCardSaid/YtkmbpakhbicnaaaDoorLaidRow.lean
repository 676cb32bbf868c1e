/- The table of the rounds, as the rows list it: a world in which it lies, and what the list gives. -/
import Derived.Test.YtkmbpakhbicnaaaDoorBlock
import Derived.Test.YtkmbpakhbicnaaaDoorRows
import Derived.WalkKit
import Derived.ProofKit
import Derived.OpenShut
import Derived.Deep.DeepHandedRow
import Derived.Lib.LaidTab
namespace Go.Proofs.YtkmbpakhbicnaaaDoor
open Go.ChangeShapes Go.WideShapes Go.ChangeAt Go.RowKit

theorem gTab : Tryd.prog.globalNamed "wardmote/digest.rounds" = some 0 := by kernel_rfl
theorem gTabType : (Tryd.prog.globals[0]?).map (·.type) = some 94 := by kernel_rfl
theorem cellsTab : Tryd.prog.cellsOf 94 = 64 := by kernel_rfl
theorem cellsElem : Tryd.prog.cellsOf 68 = 1 := by kernel_rfl
/-- The list of a row that names this table alone. -/
def laid1 : List (String × DataW Unit) := [("wardmote/digest.rounds", Rows.laid_wardmote_digest_rounds)]
theorem tab_of {W : World} (h : laidMetH Tryd.prog laid1 W) : Tab W := by
  have hT : Lib.TabIs Tryd.prog W "wardmote/digest.rounds" .u32 (Sha.ks.map fun (k : Nat) => (k : Int)) := Lib.tabIs_of_head (rest := []) gTab gTabType Tryd.underlying94 Tryd.underlying68 cellsElem cellsTab h
  intro i hi
  have h1 := hT.cell gTab i (by rw [List.length_map]; exact hi)
  rw [h1]
  have h2 : (Sha.ks.map fun (k : Nat) => (k : Int)).getD i 0 = (Sha.kk i : Int) := by
    unfold Sha.kk
    rw [List.getD_eq_getElem?_getD, List.getD_eq_getElem?_getD, List.getElem?_map, List.getElem?_eq_getElem (show i < Sha.ks.length from hi)]
    rfl
  rw [h2]
/-- A world for the witness. -/
noncomputable def laidWorld (os : Os) : World :=
  { World.holding Tryd.prog os ⟨#[], #[], []⟩ with heap := (World.holding Tryd.prog os ⟨#[], #[], []⟩).heap.modify 0 fun
      | .cells _ t frozen => .cells (Sha.ks.map fun (k : Nat) => Value.int .u32 (k : Int)).toArray t frozen
      | o => o }
set_option maxRecDepth 100000 in
theorem laid_met (os : Os) (args : Array Value) : laidMet Tryd.prog laid1 ((laidWorld os).forCall (fun _ _ => 0) ⟨#[], args, []⟩).memory :=
  laidMet_of_run' 8 (by kernel_rfl) (by kernel_rfl)
end Go.Proofs.YtkmbpakhbicnaaaDoor
