/- The three laws of the chapter, at the arguments as their rows hand them over. -/
import Derived.Test.YtnoiejmigonaoaaLasts
namespace Go.Proofs.Ytnoiejmigonaoaa
open Go.RowKit Go.Proofs.YtnoiejmigonaoaaW.PrintWords Go.Lib
set_option linter.unusedVariables false
theorem law_DiskNil (n mask : Int) (w : World) (_ : (Lit.int .i64 n).wf = true) (_ : (Lit.int .i64 mask).wf = true) :
    Calls Try.prog 5 #[.int .i64 n, .int .i64 mask] w fun e w' => e = .returned (.bool true) ∧ Below w.heap.size w w' := nil_any n mask w
theorem law_DiskLasts (a b : ByteArray) (what n mask : Int) (y : ByteArray) (w : World) (ha : a.size ≤ 140737488351232) (hb : b.size ≤ 140737488351232) (_ : (Lit.int .i64 what).wf = true) (_ : (Lit.int .i64 n).wf = true) (_ : (Lit.int .i64 mask).wf = true) (_ : y.size ≤ 140737488351232) :
    Calls Try.prog 4 #[.string a, .string b, .agg #[.int .i64 what, .int .i64 n, .int .i64 mask, .string y]] w fun e w' => e = .returned (.bool true) ∧ Below w.heap.size w w' := lasts_any a b y what n mask w ha hb
theorem law_DiskSteps (A : Option Addr) (c : Nat) (l : List (Int × Int × Int × ByteArray)) (w : World) (hm : l.length ≤ 140737488351232) (hok : ∀ x ∈ l, StepOk x) (hr : Steps4 w A l) (_ : l.length ≤ c) :
    Calls Try.prog 3 #[.slice A l.length c] w fun e w' => e = .returned (.bool true) ∧ Below w.heap.size w w' := by
  by_cases h : l.length ≤ 300
  · exact steps_short A c l w h hr hok
  · exact steps_long A l.length c w h hm
end Go.Proofs.Ytnoiejmigonaoaa
