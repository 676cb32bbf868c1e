/-
  NARROWER THAN 'FOR EVERY INPUT', by the rows' own cells (each row's printed sentence says how): LedgerGrows: laid · LedgerReads: laid · LedgerNil: laid · LedgerTorn: laid · LedgerSteps: laid.
  DERIVED. THE GIVEN ROWS OF THIS SEAT. 5 by the template 'for every input the law returns true; each argument reads behind the call as it read before'; 0 by the template 'total and deterministic' (their statements: YtmlfheagbfaoaaaDoorTotals.lean).
  GIVEN WITH THE SEED: the statements are not yours to turn. If you find one false, say at which input.
  Laid BY PROGRAM, IN A SANDBOX (cutbox-rows.mjs): the forced cells as the released guide's own fill.sh prints them over the translation 47a79e01fae87784… (all of the seat's roots in one cut). By AI agents, Wed Nov 11 2026. No macro, syntax, notation, axiom, sorry.
-/
import Derived.Test.YtmlfheagbfaoaaaDoorChecked
import GoSem.Claim
import GoSem.ClaimJoined
import GoSem.ClaimMapViews
import Derived.JoinedTies
import Derived.KernelRfl
namespace Go.Proofs.YtmlfheagbfaoaaaDoor
/- THE CELL 'sum', in the pinned program and in every row, IS THE sha256 OF THE DUMP (.gsa) THAT YtmlfheagbfaoaaaDoorProg.lean LOADS. Nothing in Lean hashes anything: it is a label: what it is worth is what the hold of that sum in a sandbox is worth. -/
noncomputable def Tryd.pinned : Pinned := { name := "ytmlfheagbfaoaaadoor", sum := "47a79e01fae877848ed1863e98c1469081c747c4689285a7dfc46852761a934a", checked := Tryd.checked }
namespace Rows
def none {H : Type} : Left H := { results := [], args := [] }

/- WHAT THE LISTED PACKAGE-LEVEL VARIABLES READ AS WHEN THE CALL BEGINS. Each datum BY PROGRAM (the guide's laid-datum.mjs) off the statement by which the dump's own 'gosem.cut.vars' lays the variable. In a bare row this is a premise. The card (YtmlfheagbfaoaaaDoorCards.lean) ties it to the program's text. -/
def laid_wardmote_digest_rounds {H : Type} : DataW H := .agg [.lit (.int .u32 1116352408), .lit (.int .u32 1899447441), .lit (.int .u32 3049323471), .lit (.int .u32 3921009573), .lit (.int .u32 961987163), .lit (.int .u32 1508970993), .lit (.int .u32 2453635748), .lit (.int .u32 2870763221), .lit (.int .u32 3624381080), .lit (.int .u32 310598401), .lit (.int .u32 607225278), .lit (.int .u32 1426881987), .lit (.int .u32 1925078388), .lit (.int .u32 2162078206), .lit (.int .u32 2614888103), .lit (.int .u32 3248222580), .lit (.int .u32 3835390401), .lit (.int .u32 4022224774), .lit (.int .u32 264347078), .lit (.int .u32 604807628), .lit (.int .u32 770255983), .lit (.int .u32 1249150122), .lit (.int .u32 1555081692), .lit (.int .u32 1996064986), .lit (.int .u32 2554220882), .lit (.int .u32 2821834349), .lit (.int .u32 2952996808), .lit (.int .u32 3210313671), .lit (.int .u32 3336571891), .lit (.int .u32 3584528711), .lit (.int .u32 113926993), .lit (.int .u32 338241895), .lit (.int .u32 666307205), .lit (.int .u32 773529912), .lit (.int .u32 1294757372), .lit (.int .u32 1396182291), .lit (.int .u32 1695183700), .lit (.int .u32 1986661051), .lit (.int .u32 2177026350), .lit (.int .u32 2456956037), .lit (.int .u32 2730485921), .lit (.int .u32 2820302411), .lit (.int .u32 3259730800), .lit (.int .u32 3345764771), .lit (.int .u32 3516065817), .lit (.int .u32 3600352804), .lit (.int .u32 4094571909), .lit (.int .u32 275423344), .lit (.int .u32 430227734), .lit (.int .u32 506948616), .lit (.int .u32 659060556), .lit (.int .u32 883997877), .lit (.int .u32 958139571), .lit (.int .u32 1322822218), .lit (.int .u32 1537002063), .lit (.int .u32 1747873779), .lit (.int .u32 1955562222), .lit (.int .u32 2024104815), .lit (.int .u32 2227730452), .lit (.int .u32 2361852424), .lit (.int .u32 2428436474), .lit (.int .u32 2756734187), .lit (.int .u32 3204031479), .lit (.int .u32 3329325298)]

/-- 'wardmotelaw11.LedgerGrows': WHATEVER THE INPUT: true; the input reads as it did. -/
def ledgerGrowsSpec : ChangeSpec := { name := "ledgerGrows", fn := fun _ => fun
  | [d1, d2] => { results := [.lit (.bool true)], args := [d1, d2] }
  | _ => none }
def ledgerGrowsRow : OpenClaim := { program := "ytmlfheagbfaoaaadoor", sum := "47a79e01fae877848ed1863e98c1469081c747c4689285a7dfc46852761a934a", func := "wardmote/wardmotelaw11.LedgerGrows", spec := "ledgerGrows", unfollowed := true, recurses := true, named := ["wardmote/digest.rounds"], apart := false, laid := [("wardmote/digest.rounds", laid_wardmote_digest_rounds)] }
def LedgerGrowsSaid : Prop := ledgerGrowsRow.holds Tryd.pinned (OpenSpec.ofChange ledgerGrowsSpec)

/-- ITS FALSE NEIGHBOUR: 'it returns false'. Refute it at one input. -/
def ledgerGrowsWrong : ChangeSpec := { name := "ledgerGrows", fn := fun _ => fun
  | [d1, d2] => { results := [.lit (.bool false)], args := [d1, d2] }
  | _ => none }
def LedgerGrowsWrongFalsely : Prop := ledgerGrowsRow.holds Tryd.pinned (OpenSpec.ofChange ledgerGrowsWrong)

/-- 'wardmotelaw11.LedgerReads': WHATEVER THE INPUT: true; the input reads as it did. -/
def ledgerReadsSpec : ChangeSpec := { name := "ledgerReads", fn := fun _ => fun
  | [d] => { results := [.lit (.bool true)], args := [d] }
  | _ => none }
def ledgerReadsRow : OpenClaim := { program := "ytmlfheagbfaoaaadoor", sum := "47a79e01fae877848ed1863e98c1469081c747c4689285a7dfc46852761a934a", func := "wardmote/wardmotelaw11.LedgerReads", spec := "ledgerReads", unfollowed := true, recurses := true, named := ["wardmote/digest.rounds"], apart := false, laid := [("wardmote/digest.rounds", laid_wardmote_digest_rounds)] }
def LedgerReadsSaid : Prop := ledgerReadsRow.holds Tryd.pinned (OpenSpec.ofChange ledgerReadsSpec)

/-- ITS FALSE NEIGHBOUR: 'it returns false'. Refute it at one input. -/
def ledgerReadsWrong : ChangeSpec := { name := "ledgerReads", fn := fun _ => fun
  | [d] => { results := [.lit (.bool false)], args := [d] }
  | _ => none }
def LedgerReadsWrongFalsely : Prop := ledgerReadsRow.holds Tryd.pinned (OpenSpec.ofChange ledgerReadsWrong)

/-- 'wardmotelaw11.LedgerNil': WHATEVER THE INPUT: true; the input reads as it did. -/
def ledgerNilSpec : ChangeSpec := { name := "ledgerNil", fn := fun _ => fun
  | [d1, d2] => { results := [.lit (.bool true)], args := [d1, d2] }
  | _ => none }
def ledgerNilRow : OpenClaim := { program := "ytmlfheagbfaoaaadoor", sum := "47a79e01fae877848ed1863e98c1469081c747c4689285a7dfc46852761a934a", func := "wardmote/wardmotelaw11.LedgerNil", spec := "ledgerNil", unfollowed := true, recurses := true, named := ["wardmote/digest.rounds"], apart := false, laid := [("wardmote/digest.rounds", laid_wardmote_digest_rounds)] }
def LedgerNilSaid : Prop := ledgerNilRow.holds Tryd.pinned (OpenSpec.ofChange ledgerNilSpec)

/-- ITS FALSE NEIGHBOUR: 'it returns false'. Refute it at one input. -/
def ledgerNilWrong : ChangeSpec := { name := "ledgerNil", fn := fun _ => fun
  | [d1, d2] => { results := [.lit (.bool false)], args := [d1, d2] }
  | _ => none }
def LedgerNilWrongFalsely : Prop := ledgerNilRow.holds Tryd.pinned (OpenSpec.ofChange ledgerNilWrong)

/-- 'wardmotelaw11.LedgerTorn': WHATEVER THE INPUT: true; the input reads as it did. -/
def ledgerTornSpec : ChangeSpec := { name := "ledgerTorn", fn := fun _ => fun
  | [d1, d2, d3] => { results := [.lit (.bool true)], args := [d1, d2, d3] }
  | _ => none }
def ledgerTornRow : OpenClaim := { program := "ytmlfheagbfaoaaadoor", sum := "47a79e01fae877848ed1863e98c1469081c747c4689285a7dfc46852761a934a", func := "wardmote/wardmotelaw11.LedgerTorn", spec := "ledgerTorn", unfollowed := true, recurses := true, named := ["wardmote/digest.rounds"], apart := false, laid := [("wardmote/digest.rounds", laid_wardmote_digest_rounds)] }
def LedgerTornSaid : Prop := ledgerTornRow.holds Tryd.pinned (OpenSpec.ofChange ledgerTornSpec)

/-- ITS FALSE NEIGHBOUR: 'it returns false'. Refute it at one input. -/
def ledgerTornWrong : ChangeSpec := { name := "ledgerTorn", fn := fun _ => fun
  | [d1, d2, d3] => { results := [.lit (.bool false)], args := [d1, d2, d3] }
  | _ => none }
def LedgerTornWrongFalsely : Prop := ledgerTornRow.holds Tryd.pinned (OpenSpec.ofChange ledgerTornWrong)

/-- 'wardmotelaw11.LedgerSteps': WHATEVER THE INPUT: true; the input reads as it did. -/
def ledgerStepsSpec : ChangeSpec := { name := "ledgerSteps", fn := fun _ => fun
  | [d] => { results := [.lit (.bool true)], args := [d] }
  | _ => none }
def ledgerStepsRow : OpenClaim := { program := "ytmlfheagbfaoaaadoor", sum := "47a79e01fae877848ed1863e98c1469081c747c4689285a7dfc46852761a934a", func := "wardmote/wardmotelaw11.LedgerSteps", spec := "ledgerSteps", unfollowed := true, recurses := true, named := ["wardmote/digest.rounds"], apart := false, laid := [("wardmote/digest.rounds", laid_wardmote_digest_rounds)] }
def LedgerStepsSaid : Prop := ledgerStepsRow.holds Tryd.pinned (OpenSpec.ofChange ledgerStepsSpec)

/-- ITS FALSE NEIGHBOUR: 'it returns false'. Refute it at one input. -/
def ledgerStepsWrong : ChangeSpec := { name := "ledgerSteps", fn := fun _ => fun
  | [d] => { results := [.lit (.bool false)], args := [d] }
  | _ => none }
def LedgerStepsWrongFalsely : Prop := ledgerStepsRow.holds Tryd.pinned (OpenSpec.ofChange ledgerStepsWrong)

/- THE SECOND FORM. 'bulk': how many values and letters a reading holds, each counted each time it is reached (what is shared counts as often as it is met; a slice's spare places count too). A statement '..UptoSaid' is the law's where the arguments, and the package variables that the reading takes, are together of bulk at most 1048576: NARROWER than '..Said'. Prove '..Said' where nothing that the law and all that it calls make is longer than what came in: it says more and counts as full. Else prove '..UptoSaid'. A law counts once. -/
mutual
def uptoBulk {H : Type} : DataW H → Nat
  | .lit (.string bytes) => bytes.length + 1
  | .lit _ => 1
  | .nil => 1
  | .ptr d => uptoBulk d + 1
  | .slice elems spare => uptoBulkAll elems + uptoBulkAll spare + 1
  | .agg parts => uptoBulkAll parts + 1
  | .iface _ d => uptoBulk d + 1
  | .map entries => uptoBulkEntries entries + 1
  | .held _ => 1
def uptoBulkAll {H : Type} : List (DataW H) → Nat
  | [] => 0
  | d :: r => uptoBulk d + uptoBulkAll r
def uptoBulkEntries {H : Type} : List (Lit × DataW H) → Nat
  | [] => 0
  | x :: r => uptoBulkEntry x + uptoBulkEntries r
def uptoBulkEntry {H : Type} : Lit × DataW H → Nat
  | (.string bytes, d) => bytes.length + uptoBulk d + 1
  | (_, d) => uptoBulk d + 1
 end
def uptoSmall : (H : Type) → List (DataW H) → Bool := fun _ ds => decide (uptoBulkAll ds ≤ 1048576)
def OpenSpec.upto (s : _root_.Go.ChangeSpec) : _root_.Go.OpenSpec := { _root_.Go.OpenSpec.ofChange s with cond := some uptoSmall }

/-- 'wardmotelaw11.LedgerGrows', WHERE WHAT IT READS IS OF BULK AT MOST 1048576: true; the input reads as it did. -/
def ledgerGrowsUptoRow : OpenClaim := { program := "ytmlfheagbfaoaaadoor", sum := "47a79e01fae877848ed1863e98c1469081c747c4689285a7dfc46852761a934a", func := "wardmote/wardmotelaw11.LedgerGrows", spec := "ledgerGrows", unfollowed := true, recurses := true, named := ["wardmote/digest.rounds"], apart := false, laid := [("wardmote/digest.rounds", laid_wardmote_digest_rounds)], narrowed := true }
def LedgerGrowsUptoSaid : Prop := ledgerGrowsUptoRow.holds Tryd.pinned (OpenSpec.upto ledgerGrowsSpec)

/-- 'wardmotelaw11.LedgerReads', WHERE WHAT IT READS IS OF BULK AT MOST 1048576: true; the input reads as it did. -/
def ledgerReadsUptoRow : OpenClaim := { program := "ytmlfheagbfaoaaadoor", sum := "47a79e01fae877848ed1863e98c1469081c747c4689285a7dfc46852761a934a", func := "wardmote/wardmotelaw11.LedgerReads", spec := "ledgerReads", unfollowed := true, recurses := true, named := ["wardmote/digest.rounds"], apart := false, laid := [("wardmote/digest.rounds", laid_wardmote_digest_rounds)], narrowed := true }
def LedgerReadsUptoSaid : Prop := ledgerReadsUptoRow.holds Tryd.pinned (OpenSpec.upto ledgerReadsSpec)

/-- 'wardmotelaw11.LedgerNil', WHERE WHAT IT READS IS OF BULK AT MOST 1048576: true; the input reads as it did. -/
def ledgerNilUptoRow : OpenClaim := { program := "ytmlfheagbfaoaaadoor", sum := "47a79e01fae877848ed1863e98c1469081c747c4689285a7dfc46852761a934a", func := "wardmote/wardmotelaw11.LedgerNil", spec := "ledgerNil", unfollowed := true, recurses := true, named := ["wardmote/digest.rounds"], apart := false, laid := [("wardmote/digest.rounds", laid_wardmote_digest_rounds)], narrowed := true }
def LedgerNilUptoSaid : Prop := ledgerNilUptoRow.holds Tryd.pinned (OpenSpec.upto ledgerNilSpec)

/-- 'wardmotelaw11.LedgerTorn', WHERE WHAT IT READS IS OF BULK AT MOST 1048576: true; the input reads as it did. -/
def ledgerTornUptoRow : OpenClaim := { program := "ytmlfheagbfaoaaadoor", sum := "47a79e01fae877848ed1863e98c1469081c747c4689285a7dfc46852761a934a", func := "wardmote/wardmotelaw11.LedgerTorn", spec := "ledgerTorn", unfollowed := true, recurses := true, named := ["wardmote/digest.rounds"], apart := false, laid := [("wardmote/digest.rounds", laid_wardmote_digest_rounds)], narrowed := true }
def LedgerTornUptoSaid : Prop := ledgerTornUptoRow.holds Tryd.pinned (OpenSpec.upto ledgerTornSpec)

/-- 'wardmotelaw11.LedgerSteps', WHERE WHAT IT READS IS OF BULK AT MOST 1048576: true; the input reads as it did. -/
def ledgerStepsUptoRow : OpenClaim := { program := "ytmlfheagbfaoaaadoor", sum := "47a79e01fae877848ed1863e98c1469081c747c4689285a7dfc46852761a934a", func := "wardmote/wardmotelaw11.LedgerSteps", spec := "ledgerSteps", unfollowed := true, recurses := true, named := ["wardmote/digest.rounds"], apart := false, laid := [("wardmote/digest.rounds", laid_wardmote_digest_rounds)], narrowed := true }
def LedgerStepsUptoSaid : Prop := ledgerStepsUptoRow.holds Tryd.pinned (OpenSpec.upto ledgerStepsSpec)

end Rows
end Go.Proofs.YtmlfheagbfaoaaaDoor
