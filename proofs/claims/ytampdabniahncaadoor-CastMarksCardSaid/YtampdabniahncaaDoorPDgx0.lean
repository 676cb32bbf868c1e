/- Written by a program of this session (wip/tools/px.py), which runs the print of the kit beside contracts that were proved by hand: each Go function as a Lean function, and that the machine comes to its answers. -/
import Derived.Test.YtampdabniahncaaDoorProg
import Derived.Below
import Derived.Deep.Draws
import Derived.Deep.AppendLies
import Derived.Maps.AppendAt
import Derived.OwnWalk
import Derived.Laws.BytesArg
import Derived.Laws.MakeOwn
import Derived.Laws.OwnMore
import Derived.Deep.OwnRows
import Derived.Tactics
import Derived.Lib.ConvBytes
import Derived.Laws.Slices
import Derived.WalkKit
import Derived.KernelRfl
import Derived.RowKit3
import Derived.Deep.LoopGhost
import Derived.Deep.QuietTactic
import Derived.BigQuiet
import Derived.WideLaws
import Derived.Deep.DeepCutAuto
import Derived.Deep.CutBlock
import Derived.Deep.RegionHeld3
import Derived.Laws.Rows
import Derived.Lib.AppendStr
import Derived.ArgAppend
import Derived.Laws.IdiomCopy
import Derived.OrdersHeld
import Derived.Laws.BitsLemmas
import Derived.RowKit
import Derived.Test.YtampdabniahncaaDoorWWords
import Derived.Test.YtampdabniahncaaDoorWLast
import Derived.Test.YtampdabniahncaaDoorWTab
import Derived.Test.YtampdabniahncaaDoorWFour
import Derived.Test.YtampdabniahncaaDoorWQPut
import Derived.Test.YtampdabniahncaaDoorWApart
import Derived.Test.YtampdabniahncaaDoorWArr
import Derived.Test.YtampdabniahncaaDoorWZeros
import Derived.Test.YtampdabniahncaaDoorWFoot
import Derived.Test.YtampdabniahncaaDoorWKept
import Derived.Test.YtampdabniahncaaDoorWShare
import Derived.Test.YtampdabniahncaaDoorWN
import Derived.Test.YtampdabniahncaaDoorWFootNe
import Derived.Test.YtampdabniahncaaDoorWAt
import Derived.Test.YtampdabniahncaaDoorWEqStruct
import Derived.Test.YtampdabniahncaaDoorWRepsOne
import Derived.Test.YtampdabniahncaaDoorWInv
import Derived.Test.YtampdabniahncaaDoorWInvWords
import Derived.Test.YtampdabniahncaaDoorWGuard
import Derived.Test.YtampdabniahncaaDoorWNEv
import Derived.Test.YtampdabniahncaaDoorWMore
import Derived.Test.YtampdabniahncaaDoorTurn
import Derived.Test.YtampdabniahncaaDoorMost
import Derived.Test.YtampdabniahncaaDoorPx
namespace Go.Proofs.YtampdabniahncaaDoor.PDg
open Go.RowKit Go.Proofs.YtampdabniahncaaDoorW.PrintWords Go.Proofs.YtampdabniahncaaDoorW.PrintLast Go.Proofs.YtampdabniahncaaDoorW.PrintMore
attribute [local go_sem] max2_int min2_int max_two min_two max_three min_three max_four min_four   -- for this text's walks alone
set_option linter.unusedVariables false
set_option linter.unusedSimpArgs false



def errW : Option Int → Value
  | none => .nilIface
  | some c => .iface 0 (.int .i64 c)
theorem errW_none : errW none = .nilIface := rfl
theorem errW_some (c : Int) : errW (some c) = .iface 0 (.int .i64 c) := rfl

theorem info3 : (Tryd.prog.info? 3).map (fun i => (i.zero, i.size, i.bytes)) = some (some (.int .i64 0), 1, 8) := by kernel_rfl
theorem info9 : (Tryd.prog.info? 9).map (fun i => (i.zero, i.size, i.bytes)) = some (some (.string ⟨#[]⟩), 1, 16) := by kernel_rfl
-- the values' own types

end Go.Proofs.YtampdabniahncaaDoor.PDg
