/-
  No cell of these rows narrows 'for every input' (looked for: loops, veiled, ifaces, maps, wideKeys, modest, calm, conditions, laid).
  DERIVED. THE GIVEN ROWS OF THIS SEAT. 4 by the template 'for every input the law returns true; each argument reads behind the call as it read before'; 0 by the template 'total and deterministic' (their statements: YtampdabniahncaaTotals.lean).
  GIVEN WITH THE SEED: the statements are not yours to turn. If you find one false, say at which input.
  Laid BY PROGRAM, IN A SANDBOX (cutbox-rows.mjs): the forced cells as the released guide's own fill.sh prints them over the translation f6756b6da56814a3… (all of the seat's roots in one cut). By AI agents, Wed Nov 11 2026. No macro, syntax, notation, axiom, sorry.
-/
import Derived.Test.YtampdabniahncaaChecked
import GoSem.Claim
import GoSem.ClaimJoined
import GoSem.ClaimMapViews
import Derived.JoinedTies
import Derived.KernelRfl
namespace Go.Proofs.Ytampdabniahncaa
/- THE CELL 'sum', in the pinned program and in every row, IS THE sha256 OF THE DUMP (.gsa) THAT YtampdabniahncaaProg.lean LOADS. Nothing in Lean hashes anything: it is a label: what it is worth is what the hold of that sum in a sandbox is worth. -/
noncomputable def Try.pinned : Pinned := { name := "ytampdabniahncaa", sum := "f6756b6da56814a362e003d179a0af9f22caf48ae74eb689936c118c52eccace", checked := Try.checked }
namespace Rows
def none {H : Type} : Left H := { results := [], args := [] }

/-- 'wardmotelaw16.CastOne': WHATEVER THE INPUT: true; the input reads as it did. -/
def castOneSpec : ChangeSpec := { name := "castOne", fn := fun _ => fun
  | [d1, d2, d3] => { results := [.lit (.bool true)], args := [d1, d2, d3] }
  | _ => none }
def castOneRow : OpenClaim := { program := "ytampdabniahncaa", sum := "f6756b6da56814a362e003d179a0af9f22caf48ae74eb689936c118c52eccace", func := "wardmote/wardmotelaw16.CastOne", spec := "castOne", apart := false }
def CastOneSaid : Prop := castOneRow.holds Try.pinned (OpenSpec.ofChange castOneSpec)

/-- ITS FALSE NEIGHBOUR: 'it returns false'. Refute it at one input. -/
def castOneWrong : ChangeSpec := { name := "castOne", fn := fun _ => fun
  | [d1, d2, d3] => { results := [.lit (.bool false)], args := [d1, d2, d3] }
  | _ => none }
def CastOneWrongFalsely : Prop := castOneRow.holds Try.pinned (OpenSpec.ofChange castOneWrong)

/-- 'wardmotelaw16.CastVotes': WHATEVER THE INPUT: true; the input reads as it did. -/
def castVotesSpec : ChangeSpec := { name := "castVotes", fn := fun _ => fun
  | [d1, d2, d3] => { results := [.lit (.bool true)], args := [d1, d2, d3] }
  | _ => none }
def castVotesRow : OpenClaim := { program := "ytampdabniahncaa", sum := "f6756b6da56814a362e003d179a0af9f22caf48ae74eb689936c118c52eccace", func := "wardmote/wardmotelaw16.CastVotes", spec := "castVotes", apart := false }
def CastVotesSaid : Prop := castVotesRow.holds Try.pinned (OpenSpec.ofChange castVotesSpec)

/-- ITS FALSE NEIGHBOUR: 'it returns false'. Refute it at one input. -/
def castVotesWrong : ChangeSpec := { name := "castVotes", fn := fun _ => fun
  | [d1, d2, d3] => { results := [.lit (.bool false)], args := [d1, d2, d3] }
  | _ => none }
def CastVotesWrongFalsely : Prop := castVotesRow.holds Try.pinned (OpenSpec.ofChange castVotesWrong)

/-- 'wardmotelaw16.CastReady': WHATEVER THE INPUT: true; the input reads as it did. -/
def castReadySpec : ChangeSpec := { name := "castReady", fn := fun _ => fun
  | [d1, d2, d3] => { results := [.lit (.bool true)], args := [d1, d2, d3] }
  | _ => none }
def castReadyRow : OpenClaim := { program := "ytampdabniahncaa", sum := "f6756b6da56814a362e003d179a0af9f22caf48ae74eb689936c118c52eccace", func := "wardmote/wardmotelaw16.CastReady", spec := "castReady", apart := false }
def CastReadySaid : Prop := castReadyRow.holds Try.pinned (OpenSpec.ofChange castReadySpec)

/-- ITS FALSE NEIGHBOUR: 'it returns false'. Refute it at one input. -/
def castReadyWrong : ChangeSpec := { name := "castReady", fn := fun _ => fun
  | [d1, d2, d3] => { results := [.lit (.bool false)], args := [d1, d2, d3] }
  | _ => none }
def CastReadyWrongFalsely : Prop := castReadyRow.holds Try.pinned (OpenSpec.ofChange castReadyWrong)

/-- 'wardmotelaw16.CastFew': WHATEVER THE INPUT: true; the input reads as it did. -/
def castFewSpec : ChangeSpec := { name := "castFew", fn := fun _ => fun
  | [d1, d2, d3] => { results := [.lit (.bool true)], args := [d1, d2, d3] }
  | _ => none }
def castFewRow : OpenClaim := { program := "ytampdabniahncaa", sum := "f6756b6da56814a362e003d179a0af9f22caf48ae74eb689936c118c52eccace", func := "wardmote/wardmotelaw16.CastFew", spec := "castFew", apart := false }
def CastFewSaid : Prop := castFewRow.holds Try.pinned (OpenSpec.ofChange castFewSpec)

/-- ITS FALSE NEIGHBOUR: 'it returns false'. Refute it at one input. -/
def castFewWrong : ChangeSpec := { name := "castFew", fn := fun _ => fun
  | [d1, d2, d3] => { results := [.lit (.bool false)], args := [d1, d2, d3] }
  | _ => none }
def CastFewWrongFalsely : Prop := castFewRow.holds Try.pinned (OpenSpec.ofChange castFewWrong)

/- THE SECOND FORM. 'bulk': how many values and letters a reading holds, each counted each time it is reached (what is shared counts as often as it is met; a slice's spare places count too). A statement '..UptoSaid' is the law's where the arguments, and the package variables that the reading takes, are together of bulk at most 1048576: NARROWER than '..Said'. Prove '..Said' where nothing that the law and all that it calls make is longer than what came in: it says more and counts as full. Else prove '..UptoSaid'. A law counts once. -/
mutual
def uptoBulk {H : Type} : DataW H → Nat
  | .lit (.string bytes) => bytes.length + 1
  | .lit _ => 1
  | .nil => 1
  | .ptr d => uptoBulk d + 1
  | .slice elems spare => uptoBulkAll elems + uptoBulkAll spare + 1
  | .agg parts => uptoBulkAll parts + 1
  | .iface _ d => uptoBulk d + 1
  | .map entries => uptoBulkEntries entries + 1
  | .held _ => 1
def uptoBulkAll {H : Type} : List (DataW H) → Nat
  | [] => 0
  | d :: r => uptoBulk d + uptoBulkAll r
def uptoBulkEntries {H : Type} : List (Lit × DataW H) → Nat
  | [] => 0
  | x :: r => uptoBulkEntry x + uptoBulkEntries r
def uptoBulkEntry {H : Type} : Lit × DataW H → Nat
  | (.string bytes, d) => bytes.length + uptoBulk d + 1
  | (_, d) => uptoBulk d + 1
 end
def uptoSmall : (H : Type) → List (DataW H) → Bool := fun _ ds => decide (uptoBulkAll ds ≤ 1048576)
def OpenSpec.upto (s : _root_.Go.ChangeSpec) : _root_.Go.OpenSpec := { _root_.Go.OpenSpec.ofChange s with cond := some uptoSmall }

/-- 'wardmotelaw16.CastOne', WHERE WHAT IT READS IS OF BULK AT MOST 1048576: true; the input reads as it did. -/
def castOneUptoRow : OpenClaim := { program := "ytampdabniahncaa", sum := "f6756b6da56814a362e003d179a0af9f22caf48ae74eb689936c118c52eccace", func := "wardmote/wardmotelaw16.CastOne", spec := "castOne", apart := false, narrowed := true }
def CastOneUptoSaid : Prop := castOneUptoRow.holds Try.pinned (OpenSpec.upto castOneSpec)

/-- 'wardmotelaw16.CastVotes', WHERE WHAT IT READS IS OF BULK AT MOST 1048576: true; the input reads as it did. -/
def castVotesUptoRow : OpenClaim := { program := "ytampdabniahncaa", sum := "f6756b6da56814a362e003d179a0af9f22caf48ae74eb689936c118c52eccace", func := "wardmote/wardmotelaw16.CastVotes", spec := "castVotes", apart := false, narrowed := true }
def CastVotesUptoSaid : Prop := castVotesUptoRow.holds Try.pinned (OpenSpec.upto castVotesSpec)

/-- 'wardmotelaw16.CastReady', WHERE WHAT IT READS IS OF BULK AT MOST 1048576: true; the input reads as it did. -/
def castReadyUptoRow : OpenClaim := { program := "ytampdabniahncaa", sum := "f6756b6da56814a362e003d179a0af9f22caf48ae74eb689936c118c52eccace", func := "wardmote/wardmotelaw16.CastReady", spec := "castReady", apart := false, narrowed := true }
def CastReadyUptoSaid : Prop := castReadyUptoRow.holds Try.pinned (OpenSpec.upto castReadySpec)

/-- 'wardmotelaw16.CastFew', WHERE WHAT IT READS IS OF BULK AT MOST 1048576: true; the input reads as it did. -/
def castFewUptoRow : OpenClaim := { program := "ytampdabniahncaa", sum := "f6756b6da56814a362e003d179a0af9f22caf48ae74eb689936c118c52eccace", func := "wardmote/wardmotelaw16.CastFew", spec := "castFew", apart := false, narrowed := true }
def CastFewUptoSaid : Prop := castFewUptoRow.holds Try.pinned (OpenSpec.upto castFewSpec)

end Rows
end Go.Proofs.Ytampdabniahncaa
