/-
  No cell of these rows narrows 'for every input' (looked for: loops, veiled, ifaces, maps, wideKeys, modest, calm, conditions, laid).
  DERIVED. THE GIVEN ROWS OF THIS SEAT. 4 by the template 'for every input the law returns true; each argument reads behind the call as it read before'; 0 by the template 'total and deterministic' (their statements: YtmanlmhiiijlmaaTotals.lean).
  GIVEN WITH THE SEED: the statements are not yours to turn. If you find one false, say at which input.
  Laid BY PROGRAM, IN A SANDBOX (cutbox-rows.mjs): the forced cells as the released guide's own fill.sh prints them over the translation d9ab88c5f643d13f… (all of the seat's roots in one cut). By AI agents, Wed Nov 11 2026. No macro, syntax, notation, axiom, sorry.
-/
import Derived.Test.YtmanlmhiiijlmaaChecked
import GoSem.Claim
import GoSem.ClaimJoined
import GoSem.ClaimMapViews
import Derived.JoinedTies
import Derived.KernelRfl
namespace Go.Proofs.Ytmanlmhiiijlmaa
/- THE CELL 'sum', in the pinned program and in every row, IS THE sha256 OF THE DUMP (.gsa) THAT YtmanlmhiiijlmaaProg.lean LOADS. Nothing in Lean hashes anything: it is a label: what it is worth is what the hold of that sum in a sandbox is worth. -/
noncomputable def Try.pinned : Pinned := { name := "ytmanlmhiiijlmaa", sum := "d9ab88c5f643d13f486b7a43eb509c50f87f3d5722747f4c2ce683e52c0b5b4d", checked := Try.checked }
namespace Rows
def none {H : Type} : Left H := { results := [], args := [] }

/-- 'wardmotelaw13.AgendaSteps': WHATEVER THE INPUT: true; the input reads as it did. -/
def agendaStepsSpec : ChangeSpec := { name := "agendaSteps", fn := fun _ => fun
  | [d] => { results := [.lit (.bool true)], args := [d] }
  | _ => none }
def agendaStepsRow : OpenClaim := { program := "ytmanlmhiiijlmaa", sum := "d9ab88c5f643d13f486b7a43eb509c50f87f3d5722747f4c2ce683e52c0b5b4d", func := "wardmote/wardmotelaw13.AgendaSteps", spec := "agendaSteps", unfollowed := true, recurses := true, apart := false }
def AgendaStepsSaid : Prop := agendaStepsRow.holds Try.pinned (OpenSpec.ofChange agendaStepsSpec)

/-- ITS FALSE NEIGHBOUR: 'it returns false'. Refute it at one input. -/
def agendaStepsWrong : ChangeSpec := { name := "agendaSteps", fn := fun _ => fun
  | [d] => { results := [.lit (.bool false)], args := [d] }
  | _ => none }
def AgendaStepsWrongFalsely : Prop := agendaStepsRow.holds Try.pinned (OpenSpec.ofChange agendaStepsWrong)

/-- 'wardmotelaw13.AgendaOnce': WHATEVER THE INPUT: true; the input reads as it did. -/
def agendaOnceSpec : ChangeSpec := { name := "agendaOnce", fn := fun _ => fun
  | [d] => { results := [.lit (.bool true)], args := [d] }
  | _ => none }
def agendaOnceRow : OpenClaim := { program := "ytmanlmhiiijlmaa", sum := "d9ab88c5f643d13f486b7a43eb509c50f87f3d5722747f4c2ce683e52c0b5b4d", func := "wardmote/wardmotelaw13.AgendaOnce", spec := "agendaOnce", unfollowed := true, recurses := true, apart := false }
def AgendaOnceSaid : Prop := agendaOnceRow.holds Try.pinned (OpenSpec.ofChange agendaOnceSpec)

/-- ITS FALSE NEIGHBOUR: 'it returns false'. Refute it at one input. -/
def agendaOnceWrong : ChangeSpec := { name := "agendaOnce", fn := fun _ => fun
  | [d] => { results := [.lit (.bool false)], args := [d] }
  | _ => none }
def AgendaOnceWrongFalsely : Prop := agendaOnceRow.holds Try.pinned (OpenSpec.ofChange agendaOnceWrong)

/-- 'wardmotelaw13.AgendaNil': WHATEVER THE INPUT: true; the input reads as it did. -/
def agendaNilSpec : ChangeSpec := { name := "agendaNil", fn := fun _ => fun
  | [d1, d2] => { results := [.lit (.bool true)], args := [d1, d2] }
  | _ => none }
def agendaNilRow : OpenClaim := { program := "ytmanlmhiiijlmaa", sum := "d9ab88c5f643d13f486b7a43eb509c50f87f3d5722747f4c2ce683e52c0b5b4d", func := "wardmote/wardmotelaw13.AgendaNil", spec := "agendaNil", unfollowed := true, recurses := true, apart := false }
def AgendaNilSaid : Prop := agendaNilRow.holds Try.pinned (OpenSpec.ofChange agendaNilSpec)

/-- ITS FALSE NEIGHBOUR: 'it returns false'. Refute it at one input. -/
def agendaNilWrong : ChangeSpec := { name := "agendaNil", fn := fun _ => fun
  | [d1, d2] => { results := [.lit (.bool false)], args := [d1, d2] }
  | _ => none }
def AgendaNilWrongFalsely : Prop := agendaNilRow.holds Try.pinned (OpenSpec.ofChange agendaNilWrong)

/-- 'wardmotelaw13.AgendaFirst': WHATEVER THE INPUT: true; the input reads as it did. -/
def agendaFirstSpec : ChangeSpec := { name := "agendaFirst", fn := fun _ => fun
  | [d1, d2] => { results := [.lit (.bool true)], args := [d1, d2] }
  | _ => none }
def agendaFirstRow : OpenClaim := { program := "ytmanlmhiiijlmaa", sum := "d9ab88c5f643d13f486b7a43eb509c50f87f3d5722747f4c2ce683e52c0b5b4d", func := "wardmote/wardmotelaw13.AgendaFirst", spec := "agendaFirst", unfollowed := true, recurses := true, apart := false }
def AgendaFirstSaid : Prop := agendaFirstRow.holds Try.pinned (OpenSpec.ofChange agendaFirstSpec)

/-- ITS FALSE NEIGHBOUR: 'it returns false'. Refute it at one input. -/
def agendaFirstWrong : ChangeSpec := { name := "agendaFirst", fn := fun _ => fun
  | [d1, d2] => { results := [.lit (.bool false)], args := [d1, d2] }
  | _ => none }
def AgendaFirstWrongFalsely : Prop := agendaFirstRow.holds Try.pinned (OpenSpec.ofChange agendaFirstWrong)

/- THE SECOND FORM. 'bulk': how many values and letters a reading holds, each counted each time it is reached (what is shared counts as often as it is met; a slice's spare places count too). A statement '..UptoSaid' is the law's where the arguments, and the package variables that the reading takes, are together of bulk at most 1048576: NARROWER than '..Said'. Prove '..Said' where nothing that the law and all that it calls make is longer than what came in: it says more and counts as full. Else prove '..UptoSaid'. A law counts once. -/
mutual
def uptoBulk {H : Type} : DataW H → Nat
  | .lit (.string bytes) => bytes.length + 1
  | .lit _ => 1
  | .nil => 1
  | .ptr d => uptoBulk d + 1
  | .slice elems spare => uptoBulkAll elems + uptoBulkAll spare + 1
  | .agg parts => uptoBulkAll parts + 1
  | .iface _ d => uptoBulk d + 1
  | .map entries => uptoBulkEntries entries + 1
  | .held _ => 1
def uptoBulkAll {H : Type} : List (DataW H) → Nat
  | [] => 0
  | d :: r => uptoBulk d + uptoBulkAll r
def uptoBulkEntries {H : Type} : List (Lit × DataW H) → Nat
  | [] => 0
  | x :: r => uptoBulkEntry x + uptoBulkEntries r
def uptoBulkEntry {H : Type} : Lit × DataW H → Nat
  | (.string bytes, d) => bytes.length + uptoBulk d + 1
  | (_, d) => uptoBulk d + 1
 end
def uptoSmall : (H : Type) → List (DataW H) → Bool := fun _ ds => decide (uptoBulkAll ds ≤ 1048576)
def OpenSpec.upto (s : _root_.Go.ChangeSpec) : _root_.Go.OpenSpec := { _root_.Go.OpenSpec.ofChange s with cond := some uptoSmall }

/-- 'wardmotelaw13.AgendaSteps', WHERE WHAT IT READS IS OF BULK AT MOST 1048576: true; the input reads as it did. -/
def agendaStepsUptoRow : OpenClaim := { program := "ytmanlmhiiijlmaa", sum := "d9ab88c5f643d13f486b7a43eb509c50f87f3d5722747f4c2ce683e52c0b5b4d", func := "wardmote/wardmotelaw13.AgendaSteps", spec := "agendaSteps", unfollowed := true, recurses := true, apart := false, narrowed := true }
def AgendaStepsUptoSaid : Prop := agendaStepsUptoRow.holds Try.pinned (OpenSpec.upto agendaStepsSpec)

/-- 'wardmotelaw13.AgendaOnce', WHERE WHAT IT READS IS OF BULK AT MOST 1048576: true; the input reads as it did. -/
def agendaOnceUptoRow : OpenClaim := { program := "ytmanlmhiiijlmaa", sum := "d9ab88c5f643d13f486b7a43eb509c50f87f3d5722747f4c2ce683e52c0b5b4d", func := "wardmote/wardmotelaw13.AgendaOnce", spec := "agendaOnce", unfollowed := true, recurses := true, apart := false, narrowed := true }
def AgendaOnceUptoSaid : Prop := agendaOnceUptoRow.holds Try.pinned (OpenSpec.upto agendaOnceSpec)

/-- 'wardmotelaw13.AgendaNil', WHERE WHAT IT READS IS OF BULK AT MOST 1048576: true; the input reads as it did. -/
def agendaNilUptoRow : OpenClaim := { program := "ytmanlmhiiijlmaa", sum := "d9ab88c5f643d13f486b7a43eb509c50f87f3d5722747f4c2ce683e52c0b5b4d", func := "wardmote/wardmotelaw13.AgendaNil", spec := "agendaNil", unfollowed := true, recurses := true, apart := false, narrowed := true }
def AgendaNilUptoSaid : Prop := agendaNilUptoRow.holds Try.pinned (OpenSpec.upto agendaNilSpec)

/-- 'wardmotelaw13.AgendaFirst', WHERE WHAT IT READS IS OF BULK AT MOST 1048576: true; the input reads as it did. -/
def agendaFirstUptoRow : OpenClaim := { program := "ytmanlmhiiijlmaa", sum := "d9ab88c5f643d13f486b7a43eb509c50f87f3d5722747f4c2ce683e52c0b5b4d", func := "wardmote/wardmotelaw13.AgendaFirst", spec := "agendaFirst", unfollowed := true, recurses := true, apart := false, narrowed := true }
def AgendaFirstUptoSaid : Prop := agendaFirstUptoRow.holds Try.pinned (OpenSpec.upto agendaFirstSpec)

end Rows
end Go.Proofs.Ytmanlmhiiijlmaa
