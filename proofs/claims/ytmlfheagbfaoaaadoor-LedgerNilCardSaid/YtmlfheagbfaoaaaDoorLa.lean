/- The laws of the ledger, walked: LedgerNil, LedgerGrows. -/
import Derived.Test.YtmlfheagbfaoaaaDoorRo
namespace Go.Proofs.YtmlfheagbfaoaaaDoor
open Go.RowKit Go.Proofs.YtmlfheagbfaoaaaDoorW.PrintWords Go.Proofs.YtmlfheagbfaoaaaDoorW.PrintMore Go.Lib
set_option maxRecDepth 100000 in
set_option maxHeartbeats 4000000 in
theorem law_LedgerNil (s : ByteArray) (n : Int) (w : World) (_hs : s.size ≤ 140737488351232) (_hn : (Lit.int .i64 n).wf = true) (hT : Tab w) :
    Calls Tryd.prog 5 #[.string s, .int .i64 n] w fun e w' => e = .returned (.bool true) ∧ Below w.heap.size w w' := by
  have O1 := Lib.hid (one_any w hT)
  by_cases hs : s.size ≤ 9000
  · have h1 : ¬ (9000 : Int) < (s.size : Int) := by omega
    go_enter Tryd.func5, Tryd.ntmps5
    go_wp2_with (first
      | (go_at_call 11; refine (nil_append s _ hs).mono ?_; rintro e w1 ⟨rfl, rfl⟩)
      | (go_at_call 14; refine (nil_get n _).mono ?_; rintro e w1 ⟨rfl, rfl⟩)
      | (go_at_call 10; refine (nil_open _).mono ?_; rintro e w1 ⟨rfl, rfl⟩)
      | (go_at_call 13; refine (nil_len _).mono ?_; rintro e w1 ⟨rfl, rfl⟩)
      | (go_at_call 21; refine (nil_sync _).mono ?_; rintro e w1 ⟨rfl, rfl⟩)
      | (go_at_call 20; refine (nil_records _).mono ?_; rintro e w1 ⟨rfl, rfl⟩)
      | (go_at_call 8; refine O1.out.mono ?_; rintro e w1 ⟨rfl, hb⟩; replace hb := Lib.hid hb))
    go_ret
    exact ⟨rfl, hb.out⟩
  · have h1 : (9000 : Int) < (s.size : Int) := by omega
    have h2 := Lib.hid (show 9000 < s.size by omega)
    clear hs
    go_enter Tryd.func5, Tryd.ntmps5
    go_wp2_with (first
      | (go_at_call 11; refine (lappend_long none s _ h2.out).mono ?_; rintro e w1 ⟨rfl, rfl⟩)
      | (go_at_call 14; refine (nil_get n _).mono ?_; rintro e w1 ⟨rfl, rfl⟩)
      | (go_at_call 10; refine (nil_open _).mono ?_; rintro e w1 ⟨rfl, rfl⟩)
      | (go_at_call 13; refine (nil_len _).mono ?_; rintro e w1 ⟨rfl, rfl⟩)
      | (go_at_call 21; refine (nil_sync _).mono ?_; rintro e w1 ⟨rfl, rfl⟩)
      | (go_at_call 20; refine (nil_records _).mono ?_; rintro e w1 ⟨rfl, rfl⟩)
      | (go_at_call 8; refine O1.out.mono ?_; rintro e w1 ⟨rfl, hb⟩; replace hb := Lib.hid hb))
    go_ret
    exact ⟨rfl, hb.out⟩
end Go.Proofs.YtmlfheagbfaoaaaDoor
