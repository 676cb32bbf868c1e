/- Written by a program of this session (wip/tools/px.py), which runs the print of the kit beside contracts that were proved by hand: each Go function as a Lean function, and that the machine comes to its answers. -/
import Derived.Test.YtampdabniahncaaProg
import Derived.Below
import Derived.Deep.Draws
import Derived.Deep.AppendLies
import Derived.Maps.AppendAt
import Derived.OwnWalk
import Derived.Laws.BytesArg
import Derived.Laws.MakeOwn
import Derived.Laws.OwnMore
import Derived.Deep.OwnRows
import Derived.Tactics
import Derived.Lib.ConvBytes
import Derived.Laws.Slices
import Derived.WalkKit
import Derived.KernelRfl
import Derived.RowKit3
import Derived.Deep.LoopGhost
import Derived.Deep.QuietTactic
import Derived.BigQuiet
import Derived.WideLaws
import Derived.Deep.DeepCutAuto
import Derived.Deep.CutBlock
import Derived.Deep.RegionHeld3
import Derived.Laws.Rows
import Derived.Lib.AppendStr
import Derived.ArgAppend
import Derived.Laws.IdiomCopy
import Derived.OrdersHeld
import Derived.Laws.BitsLemmas
import Derived.RowKit
import Derived.Test.YtampdabniahncaaWWords
import Derived.Test.YtampdabniahncaaWLast
import Derived.Test.YtampdabniahncaaWTab
import Derived.Test.YtampdabniahncaaWFour
import Derived.Test.YtampdabniahncaaWQPut
import Derived.Test.YtampdabniahncaaWApart
import Derived.Test.YtampdabniahncaaWArr
import Derived.Test.YtampdabniahncaaWZeros
import Derived.Test.YtampdabniahncaaWFoot
import Derived.Test.YtampdabniahncaaWKept
import Derived.Test.YtampdabniahncaaWShare
import Derived.Test.YtampdabniahncaaWN
import Derived.Test.YtampdabniahncaaWFootNe
import Derived.Test.YtampdabniahncaaWAt
import Derived.Test.YtampdabniahncaaWEqStruct
import Derived.Test.YtampdabniahncaaWRepsOne
import Derived.Test.YtampdabniahncaaWInv
import Derived.Test.YtampdabniahncaaWInvWords
import Derived.Test.YtampdabniahncaaWGuard
import Derived.Test.YtampdabniahncaaWNEv
import Derived.Test.YtampdabniahncaaWMore
import Derived.Test.YtampdabniahncaaMost
import Derived.Test.YtampdabniahncaaPx
namespace Go.Proofs.Ytampdabniahncaa.PCast
open Go.RowKit Go.Proofs.YtampdabniahncaaW.PrintWords Go.Proofs.YtampdabniahncaaW.PrintLast Go.Proofs.YtampdabniahncaaW.PrintMore
attribute [local go_sem] max2_int min2_int max_two min_two max_three min_three max_four min_four   -- for this text's walks alone
set_option linter.unusedVariables false
set_option linter.unusedSimpArgs false



def errW : Option Int → Value
  | none => .nilIface
  | some c => .iface 0 (.int .i64 c)
theorem errW_none : errW none = .nilIface := rfl
theorem errW_some (c : Int) : errW (some c) = .iface 0 (.int .i64 c) := rfl

theorem info9 : (Try.prog.info? 9).map (fun i => (i.zero, i.size, i.bytes)) = some (some (.string ⟨#[]⟩), 1, 16) := by kernel_rfl
-- the values' own types

end Go.Proofs.Ytampdabniahncaa.PCast
