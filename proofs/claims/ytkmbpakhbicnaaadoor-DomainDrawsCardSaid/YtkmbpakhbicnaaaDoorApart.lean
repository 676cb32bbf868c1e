/- DomainApart: whatever two tags and lists of parts are told, the law's function answers true. -/
import Derived.Test.YtkmbpakhbicnaaaDoorFeed
import Derived.Test.YtkmbpakhbicnaaaDoorOpen
import Derived.Deep.RegionHeld3
namespace Go.Proofs.YtkmbpakhbicnaaaDoor
open Go.RowKit Go.Proofs.YtkmbpakhbicnaaaDoorW.PrintWords Go.Proofs.YtkmbpakhbicnaaaDoorW.PrintMore Go.Lib

/-- Block g holds a tag and parts. -/
def TwoAt (w : World) (g : Nat) (s : ByteArray) (A : Option Addr) (n c : Nat) : Prop := w.cell? ⟨g, 0, none⟩ = some (.string s) ∧ w.cell? ⟨g, 1, none⟩ = some (.slice A n c)
theorem TwoAt.below {w w' : World} {g : Nat} {s : ByteArray} {A : Option Addr} {n c : Nat} (h : TwoAt w g s A n c) (hb : Below w.heap.size w w') : TwoAt w' g s A n c := ⟨pw_cell_below hb h.1, pw_cell_below hb h.2⟩
/-- The two arguments, as the call lays them. -/
abbrev laidTwo (w : World) (s : ByteArray) (A : Option Addr) (n c : Nat) (t : ByteArray) (A' : Option Addr) (n' c' : Nat) : World := (w.alloc (.cells #[.string s, .slice A n c] 24)).alloc (.cells #[.string t, .slice A' n' c'] 24)
theorem laidTwo_below (w : World) (s : ByteArray) (A : Option Addr) (n c : Nat) (t : ByteArray) (A' : Option Addr) (n' c' : Nat) : Below w.heap.size w (laidTwo w s A n c t A' n' c') := ((Below.refl _ w).alloc (Nat.le_refl _) _).alloc (by simp) _
theorem laidTwo_fst (w : World) (s : ByteArray) (A : Option Addr) (n c : Nat) (t : ByteArray) (A' : Option Addr) (n' c' : Nat) : TwoAt (laidTwo w s A n c t A' n' c') w.heap.size s A n c := by
  have h : (laidTwo w s A n c t A' n' c').heap[w.heap.size]? = some (.cells #[.string s, .slice A n c] 24 (0, 0)) := heap_alloc2_old w _ _
  exact ⟨Go.Joins.cell_of_block h 0, Go.Joins.cell_of_block h 1⟩
theorem laidTwo_snd (w : World) (s : ByteArray) (A : Option Addr) (n c : Nat) (t : ByteArray) (A' : Option Addr) (n' c' : Nat) : TwoAt (laidTwo w s A n c t A' n' c') (w.heap.size + 1) t A' n' c' := by
  have h : (laidTwo w s A n c t A' n' c').heap[w.heap.size + 1]? = some (.cells #[.string t, .slice A' n' c'] 24 (0, 0)) := heap_alloc2_new w _ _
  exact ⟨Go.Joins.cell_of_block h 0, Go.Joins.cell_of_block h 1⟩
theorem large_any (w : World) (A : Option Addr) (c : Nat) (l : List ByteArray) (s : ByteArray) (hr : Kd.C Kd.string w A l.length l) (hc : l.length ≤ c) (hl : l.length ≤ 140737488355328) (hz : s.size + total l ≤ 4611686018427387904) :
    Calls Tryd.prog 6 #[.slice A l.length c, .string s] w fun e w' => e = .returned (.bool (decide (20000 < s.size + total l))) ∧ Drawn0 w w' := by
  have h := PDg.wardmotelaw05_large.calls (l.length + 1) A c l s _ w hr hc (large_f s l hl hz (l.length + 1) (by omega))
  rwa [show decide (((s.size + total l : Nat) : Int) > 20000) = decide (20000 < s.size + total l) by rw [decide_eq_decide]; omega] at h
theorem tag_any (w : World) (s : ByteArray) : Calls Tryd.prog 7 #[.string s] w fun e w' => e = .returned (.bool (decide (1 ≤ s.size ∧ s.size ≤ 40))) ∧ Drawn0 w w' := PDg.wardmoteref05_Tag.calls s _ w (Tag_f s)
theorem hashed_any (w : World) (A : Option Addr) (c : Nat) (l : List ByteArray) (s : ByteArray) (hr : Kd.C Kd.string w A l.length l) (hc : l.length ≤ c) (hs : s.size ≤ 1099511627776) (hz : 4 * l.length + total l ≤ 1099511627776) :
    Calls Tryd.prog 10 #[.string s, .slice A l.length c] w fun e w' => e = .returned (.string (hashedB s l)) ∧ Below w.heap.size w w' := PDg.wardmoteref05_Hashed.calls (l.length + 6) s A c l _ w hr hc (Hashed_f s l hs hz _ (by omega))
theorem texts_any (w : World) (A : Option Addr) (c : Nat) (l : List ByteArray) (A' : Option Addr) (c' : Nat) (m : List ByteArray) (hr : Kd.C Kd.string w A l.length l) (hc : l.length ≤ c) (hr' : Kd.C Kd.string w A' m.length m) (_hc' : m.length ≤ c') (hl : l.length ≤ 140737488355328) :
    Calls Tryd.prog 9 #[.slice A l.length c, .slice A' m.length c'] w fun e w' => e = .returned (.bool (decide (l = m))) ∧ Drawn0 w w' := PDg.wardmoteplain_Texts.calls (l.length + 1) A c l A' c' m _ w hr hc hr' _hc' (Texts_f l m hl _ (by omega))
set_option maxHeartbeats 8000000 in
set_option maxRecDepth 100000 in
theorem apart1 (s : ByteArray) (A : Option Addr) (c : Nat) (l : List ByteArray) (t : ByteArray) (A' : Option Addr) (c' : Nat) (m : List ByteArray) (w : World) (hr : Kd.C Kd.string w A l.length l) (hc : l.length ≤ c) (hr' : Kd.C Kd.string w A' m.length m) (_hc' : m.length ≤ c')
    (hbulk : s.size + l.length + total l + t.size + m.length + total m ≤ 1048576) (hT : Tab w) (h1 : 20000 < s.size + total l) :
    Calls Tryd.prog 3 #[.agg #[.string s, .slice A l.length c], .agg #[.string t, .slice A' m.length c']] w fun e w' => e = .returned (.bool true) ∧ Below w.heap.size w w' := by
  have B0 := Lib.hid (laidTwo_below w s A l.length c t A' m.length c')
  have X := laidTwo_fst w s A l.length c t A' m.length c'
  have Y := laidTwo_snd w s A l.length c t A' m.length c'
  have HR := Lib.hid (Kd.C_below hr B0.out)
  have HR' := Lib.hid (Kd.C_below hr' B0.out)
  have HT := Lib.hid hT
  have HSa := Lib.hid (strs_of hr rfl)
  have HSb := Lib.hid (strs_of hr' rfl)
  obtain ⟨x0, x1⟩ := X
  obtain ⟨y0, y1⟩ := Y
  have O := Lib.hid (fun w' (hb : Below w.heap.size w w') => one_any w' (hT.below hb))
  clear hr hr' hT
  go_enter Tryd.func3, Tryd.ntmps3
  go_wp2_with fail
  refine (large_any _ A c l s HR.out hc (by omega) (by omega)).mono ?_
  rintro e w1 ⟨rfl, hD⟩
  have Dw1 := Lib.hid hD.below
  replace x0 := pw_cell_below Dw1.out x0
  replace x1 := pw_cell_below Dw1.out x1
  replace y0 := pw_cell_below Dw1.out y0
  replace y1 := pw_cell_below Dw1.out y1
  replace HR := Lib.hid (Kd.C_below HR.out Dw1.out)
  replace HR' := Lib.hid (Kd.C_below HR'.out Dw1.out)
  replace B0 := Lib.hid (below_then B0.out B0.out.size Dw1.out)
  clear hD Dw1
  rw [show decide (20000 < s.size + total l) = true by first | exact decide_eq_true (by omega) | exact decide_eq_false (by omega)]
  go_wp2_with fail
  refine (O.out _ B0.out).mono ?_
  rintro e wz ⟨rfl, hz⟩
  go_wp2
  go_ret
  exact ⟨rfl, below_then B0.out B0.out.size hz⟩
set_option maxHeartbeats 8000000 in
set_option maxRecDepth 100000 in
theorem apart2 (s : ByteArray) (A : Option Addr) (c : Nat) (l : List ByteArray) (t : ByteArray) (A' : Option Addr) (c' : Nat) (m : List ByteArray) (w : World) (hr : Kd.C Kd.string w A l.length l) (hc : l.length ≤ c) (hr' : Kd.C Kd.string w A' m.length m) (hc' : m.length ≤ c')
    (hbulk : s.size + l.length + total l + t.size + m.length + total m ≤ 1048576) (hT : Tab w) (h1 : ¬ 20000 < s.size + total l) (h2 : 20000 < t.size + total m) :
    Calls Tryd.prog 3 #[.agg #[.string s, .slice A l.length c], .agg #[.string t, .slice A' m.length c']] w fun e w' => e = .returned (.bool true) ∧ Below w.heap.size w w' := by
  have B0 := Lib.hid (laidTwo_below w s A l.length c t A' m.length c')
  have X := laidTwo_fst w s A l.length c t A' m.length c'
  have Y := laidTwo_snd w s A l.length c t A' m.length c'
  have HR := Lib.hid (Kd.C_below hr B0.out)
  have HR' := Lib.hid (Kd.C_below hr' B0.out)
  have HT := Lib.hid hT
  have HSa := Lib.hid (strs_of hr rfl)
  have HSb := Lib.hid (strs_of hr' rfl)
  obtain ⟨x0, x1⟩ := X
  obtain ⟨y0, y1⟩ := Y
  have O := Lib.hid (fun w' (hb : Below w.heap.size w w') => one_any w' (hT.below hb))
  clear hr hr' hT
  go_enter Tryd.func3, Tryd.ntmps3
  go_wp2_with fail
  refine (large_any _ A c l s HR.out hc (by omega) (by omega)).mono ?_
  rintro e w1 ⟨rfl, hD⟩
  have Dw1 := Lib.hid hD.below
  replace x0 := pw_cell_below Dw1.out x0
  replace x1 := pw_cell_below Dw1.out x1
  replace y0 := pw_cell_below Dw1.out y0
  replace y1 := pw_cell_below Dw1.out y1
  replace HR := Lib.hid (Kd.C_below HR.out Dw1.out)
  replace HR' := Lib.hid (Kd.C_below HR'.out Dw1.out)
  replace B0 := Lib.hid (below_then B0.out B0.out.size Dw1.out)
  clear hD Dw1
  rw [show decide (20000 < s.size + total l) = false by first | exact decide_eq_true (by omega) | exact decide_eq_false (by omega)]
  go_wp2_with fail
  refine (large_any _ A' c' m t HR'.out hc' (by omega) (by omega)).mono ?_
  rintro e w2 ⟨rfl, hD⟩
  have Dw2 := Lib.hid hD.below
  replace x0 := pw_cell_below Dw2.out x0
  replace x1 := pw_cell_below Dw2.out x1
  replace y0 := pw_cell_below Dw2.out y0
  replace y1 := pw_cell_below Dw2.out y1
  replace HR := Lib.hid (Kd.C_below HR.out Dw2.out)
  replace HR' := Lib.hid (Kd.C_below HR'.out Dw2.out)
  replace B0 := Lib.hid (below_then B0.out B0.out.size Dw2.out)
  clear hD Dw2
  rw [show decide (20000 < t.size + total m) = true by first | exact decide_eq_true (by omega) | exact decide_eq_false (by omega)]
  go_wp2_with fail
  refine (O.out _ B0.out).mono ?_
  rintro e wz ⟨rfl, hz⟩
  go_wp2
  go_ret
  exact ⟨rfl, below_then B0.out B0.out.size hz⟩
set_option maxHeartbeats 8000000 in
set_option maxRecDepth 100000 in
theorem apart3 (s : ByteArray) (A : Option Addr) (c : Nat) (l : List ByteArray) (t : ByteArray) (A' : Option Addr) (c' : Nat) (m : List ByteArray) (w : World) (hr : Kd.C Kd.string w A l.length l) (hc : l.length ≤ c) (hr' : Kd.C Kd.string w A' m.length m) (hc' : m.length ≤ c')
    (hbulk : s.size + l.length + total l + t.size + m.length + total m ≤ 1048576) (hT : Tab w) (h1 : ¬ 20000 < s.size + total l) (h2 : ¬ 20000 < t.size + total m) (h3 : ¬ (1 ≤ s.size ∧ s.size ≤ 40)) :
    Calls Tryd.prog 3 #[.agg #[.string s, .slice A l.length c], .agg #[.string t, .slice A' m.length c']] w fun e w' => e = .returned (.bool true) ∧ Below w.heap.size w w' := by
  have B0 := Lib.hid (laidTwo_below w s A l.length c t A' m.length c')
  have X := laidTwo_fst w s A l.length c t A' m.length c'
  have Y := laidTwo_snd w s A l.length c t A' m.length c'
  have HR := Lib.hid (Kd.C_below hr B0.out)
  have HR' := Lib.hid (Kd.C_below hr' B0.out)
  have HT := Lib.hid hT
  have HSa := Lib.hid (strs_of hr rfl)
  have HSb := Lib.hid (strs_of hr' rfl)
  obtain ⟨x0, x1⟩ := X
  obtain ⟨y0, y1⟩ := Y
  have O := Lib.hid (fun w' (hb : Below w.heap.size w w') => one_any w' (hT.below hb))
  clear hr hr' hT
  go_enter Tryd.func3, Tryd.ntmps3
  go_wp2_with fail
  refine (large_any _ A c l s HR.out hc (by omega) (by omega)).mono ?_
  rintro e w1 ⟨rfl, hD⟩
  have Dw1 := Lib.hid hD.below
  replace x0 := pw_cell_below Dw1.out x0
  replace x1 := pw_cell_below Dw1.out x1
  replace y0 := pw_cell_below Dw1.out y0
  replace y1 := pw_cell_below Dw1.out y1
  replace HR := Lib.hid (Kd.C_below HR.out Dw1.out)
  replace HR' := Lib.hid (Kd.C_below HR'.out Dw1.out)
  replace B0 := Lib.hid (below_then B0.out B0.out.size Dw1.out)
  clear hD Dw1
  rw [show decide (20000 < s.size + total l) = false by first | exact decide_eq_true (by omega) | exact decide_eq_false (by omega)]
  go_wp2_with fail
  refine (large_any _ A' c' m t HR'.out hc' (by omega) (by omega)).mono ?_
  rintro e w2 ⟨rfl, hD⟩
  have Dw2 := Lib.hid hD.below
  replace x0 := pw_cell_below Dw2.out x0
  replace x1 := pw_cell_below Dw2.out x1
  replace y0 := pw_cell_below Dw2.out y0
  replace y1 := pw_cell_below Dw2.out y1
  replace HR := Lib.hid (Kd.C_below HR.out Dw2.out)
  replace HR' := Lib.hid (Kd.C_below HR'.out Dw2.out)
  replace B0 := Lib.hid (below_then B0.out B0.out.size Dw2.out)
  clear hD Dw2
  rw [show decide (20000 < t.size + total m) = false by first | exact decide_eq_true (by omega) | exact decide_eq_false (by omega)]
  go_wp2_with fail
  refine (tag_any _ s).mono ?_
  rintro e w3 ⟨rfl, hD⟩
  have Dw3 := Lib.hid hD.below
  replace x0 := pw_cell_below Dw3.out x0
  replace x1 := pw_cell_below Dw3.out x1
  replace y0 := pw_cell_below Dw3.out y0
  replace y1 := pw_cell_below Dw3.out y1
  replace HR := Lib.hid (Kd.C_below HR.out Dw3.out)
  replace HR' := Lib.hid (Kd.C_below HR'.out Dw3.out)
  replace B0 := Lib.hid (below_then B0.out B0.out.size Dw3.out)
  clear hD Dw3
  rw [show decide (1 ≤ s.size ∧ s.size ≤ 40) = false by first | exact decide_eq_true (by omega) | exact decide_eq_false (by omega)]
  go_wp2_with fail
  refine (O.out _ B0.out).mono ?_
  rintro e wz ⟨rfl, hz⟩
  go_wp2
  go_ret
  exact ⟨rfl, below_then B0.out B0.out.size hz⟩
set_option maxHeartbeats 8000000 in
set_option maxRecDepth 100000 in
theorem apart4 (s : ByteArray) (A : Option Addr) (c : Nat) (l : List ByteArray) (t : ByteArray) (A' : Option Addr) (c' : Nat) (m : List ByteArray) (w : World) (hr : Kd.C Kd.string w A l.length l) (hc : l.length ≤ c) (hr' : Kd.C Kd.string w A' m.length m) (hc' : m.length ≤ c')
    (hbulk : s.size + l.length + total l + t.size + m.length + total m ≤ 1048576) (hT : Tab w) (h1 : ¬ 20000 < s.size + total l) (h2 : ¬ 20000 < t.size + total m) (h3 : 1 ≤ s.size ∧ s.size ≤ 40) (h4 : ¬ (1 ≤ t.size ∧ t.size ≤ 40)) :
    Calls Tryd.prog 3 #[.agg #[.string s, .slice A l.length c], .agg #[.string t, .slice A' m.length c']] w fun e w' => e = .returned (.bool true) ∧ Below w.heap.size w w' := by
  have B0 := Lib.hid (laidTwo_below w s A l.length c t A' m.length c')
  have X := laidTwo_fst w s A l.length c t A' m.length c'
  have Y := laidTwo_snd w s A l.length c t A' m.length c'
  have HR := Lib.hid (Kd.C_below hr B0.out)
  have HR' := Lib.hid (Kd.C_below hr' B0.out)
  have HT := Lib.hid hT
  have HSa := Lib.hid (strs_of hr rfl)
  have HSb := Lib.hid (strs_of hr' rfl)
  obtain ⟨x0, x1⟩ := X
  obtain ⟨y0, y1⟩ := Y
  have O := Lib.hid (fun w' (hb : Below w.heap.size w w') => one_any w' (hT.below hb))
  clear hr hr' hT
  go_enter Tryd.func3, Tryd.ntmps3
  go_wp2_with fail
  refine (large_any _ A c l s HR.out hc (by omega) (by omega)).mono ?_
  rintro e w1 ⟨rfl, hD⟩
  have Dw1 := Lib.hid hD.below
  replace x0 := pw_cell_below Dw1.out x0
  replace x1 := pw_cell_below Dw1.out x1
  replace y0 := pw_cell_below Dw1.out y0
  replace y1 := pw_cell_below Dw1.out y1
  replace HR := Lib.hid (Kd.C_below HR.out Dw1.out)
  replace HR' := Lib.hid (Kd.C_below HR'.out Dw1.out)
  replace B0 := Lib.hid (below_then B0.out B0.out.size Dw1.out)
  clear hD Dw1
  rw [show decide (20000 < s.size + total l) = false by first | exact decide_eq_true (by omega) | exact decide_eq_false (by omega)]
  go_wp2_with fail
  refine (large_any _ A' c' m t HR'.out hc' (by omega) (by omega)).mono ?_
  rintro e w2 ⟨rfl, hD⟩
  have Dw2 := Lib.hid hD.below
  replace x0 := pw_cell_below Dw2.out x0
  replace x1 := pw_cell_below Dw2.out x1
  replace y0 := pw_cell_below Dw2.out y0
  replace y1 := pw_cell_below Dw2.out y1
  replace HR := Lib.hid (Kd.C_below HR.out Dw2.out)
  replace HR' := Lib.hid (Kd.C_below HR'.out Dw2.out)
  replace B0 := Lib.hid (below_then B0.out B0.out.size Dw2.out)
  clear hD Dw2
  rw [show decide (20000 < t.size + total m) = false by first | exact decide_eq_true (by omega) | exact decide_eq_false (by omega)]
  go_wp2_with fail
  refine (tag_any _ s).mono ?_
  rintro e w3 ⟨rfl, hD⟩
  have Dw3 := Lib.hid hD.below
  replace x0 := pw_cell_below Dw3.out x0
  replace x1 := pw_cell_below Dw3.out x1
  replace y0 := pw_cell_below Dw3.out y0
  replace y1 := pw_cell_below Dw3.out y1
  replace HR := Lib.hid (Kd.C_below HR.out Dw3.out)
  replace HR' := Lib.hid (Kd.C_below HR'.out Dw3.out)
  replace B0 := Lib.hid (below_then B0.out B0.out.size Dw3.out)
  clear hD Dw3
  rw [show decide (1 ≤ s.size ∧ s.size ≤ 40) = true by first | exact decide_eq_true (by omega) | exact decide_eq_false (by omega)]
  go_wp2_with fail
  refine (tag_any _ t).mono ?_
  rintro e w4 ⟨rfl, hD⟩
  have Dw4 := Lib.hid hD.below
  replace x0 := pw_cell_below Dw4.out x0
  replace x1 := pw_cell_below Dw4.out x1
  replace y0 := pw_cell_below Dw4.out y0
  replace y1 := pw_cell_below Dw4.out y1
  replace HR := Lib.hid (Kd.C_below HR.out Dw4.out)
  replace HR' := Lib.hid (Kd.C_below HR'.out Dw4.out)
  replace B0 := Lib.hid (below_then B0.out B0.out.size Dw4.out)
  clear hD Dw4
  rw [show decide (1 ≤ t.size ∧ t.size ≤ 40) = false by first | exact decide_eq_true (by omega) | exact decide_eq_false (by omega)]
  go_wp2_with fail
  refine (O.out _ B0.out).mono ?_
  rintro e wz ⟨rfl, hz⟩
  go_wp2
  go_ret
  exact ⟨rfl, below_then B0.out B0.out.size hz⟩
set_option maxHeartbeats 8000000 in
set_option maxRecDepth 100000 in
theorem apart5 (s : ByteArray) (A : Option Addr) (c : Nat) (l : List ByteArray) (t : ByteArray) (A' : Option Addr) (c' : Nat) (m : List ByteArray) (w : World) (hr : Kd.C Kd.string w A l.length l) (hc : l.length ≤ c) (hr' : Kd.C Kd.string w A' m.length m) (hc' : m.length ≤ c')
    (hbulk : s.size + l.length + total l + t.size + m.length + total m ≤ 1048576) (hT : Tab w) (h1 : ¬ 20000 < s.size + total l) (h2 : ¬ 20000 < t.size + total m) (h3 : 1 ≤ s.size ∧ s.size ≤ 40) (h4 : 1 ≤ t.size ∧ t.size ≤ 40) (h5 : ¬ s = t) :
    Calls Tryd.prog 3 #[.agg #[.string s, .slice A l.length c], .agg #[.string t, .slice A' m.length c']] w fun e w' => e = .returned (.bool true) ∧ Below w.heap.size w w' := by
  have hst : (s.toList == t.toList) = false := by
    rw [beq_eq_false_iff_ne]
    exact fun h => h5 (bytes_ext (by rwa [ByteArray.toList_eq, ByteArray.toList_eq] at h))
  obtain ⟨X0, hX⟩ : ∃ X0, X0 = hashedB s l := ⟨_, rfl⟩
  obtain ⟨Y0, hY⟩ : ∃ Y0, Y0 = hashedB t m := ⟨_, rfl⟩
  have hXY : (X0.toList == Y0.toList) = false := by
    rw [beq_eq_false_iff_ne]
    intro h
    have h6 : hashedB s l = hashedB t m := by rw [← hX, ← hY]; exact bytes_ext (by rwa [ByteArray.toList_eq, ByteArray.toList_eq] at h)
    exact h5 ((hashedB_inj s t l m h3.2 h4.2 (fun p hp => by have := total_le hp; omega) (fun p hp => by have := total_le hp; omega)).1 h6).1
  replace hX := Lib.hid hX
  replace hY := Lib.hid hY
  clear h5
  have B0 := Lib.hid (laidTwo_below w s A l.length c t A' m.length c')
  have X := laidTwo_fst w s A l.length c t A' m.length c'
  have Y := laidTwo_snd w s A l.length c t A' m.length c'
  have HR := Lib.hid (Kd.C_below hr B0.out)
  have HR' := Lib.hid (Kd.C_below hr' B0.out)
  have HT := Lib.hid hT
  have HSa := Lib.hid (strs_of hr rfl)
  have HSb := Lib.hid (strs_of hr' rfl)
  obtain ⟨x0, x1⟩ := X
  obtain ⟨y0, y1⟩ := Y
  have O := Lib.hid (fun w' (hb : Below w.heap.size w w') => one_any w' (hT.below hb))
  clear hr hr' hT
  go_enter Tryd.func3, Tryd.ntmps3
  go_wp2_with fail
  refine (large_any _ A c l s HR.out hc (by omega) (by omega)).mono ?_
  rintro e w1 ⟨rfl, hD⟩
  have Dw1 := Lib.hid hD.below
  replace x0 := pw_cell_below Dw1.out x0
  replace x1 := pw_cell_below Dw1.out x1
  replace y0 := pw_cell_below Dw1.out y0
  replace y1 := pw_cell_below Dw1.out y1
  replace HR := Lib.hid (Kd.C_below HR.out Dw1.out)
  replace HR' := Lib.hid (Kd.C_below HR'.out Dw1.out)
  replace B0 := Lib.hid (below_then B0.out B0.out.size Dw1.out)
  clear hD Dw1
  rw [show decide (20000 < s.size + total l) = false by first | exact decide_eq_true (by omega) | exact decide_eq_false (by omega)]
  go_wp2_with fail
  refine (large_any _ A' c' m t HR'.out hc' (by omega) (by omega)).mono ?_
  rintro e w2 ⟨rfl, hD⟩
  have Dw2 := Lib.hid hD.below
  replace x0 := pw_cell_below Dw2.out x0
  replace x1 := pw_cell_below Dw2.out x1
  replace y0 := pw_cell_below Dw2.out y0
  replace y1 := pw_cell_below Dw2.out y1
  replace HR := Lib.hid (Kd.C_below HR.out Dw2.out)
  replace HR' := Lib.hid (Kd.C_below HR'.out Dw2.out)
  replace B0 := Lib.hid (below_then B0.out B0.out.size Dw2.out)
  clear hD Dw2
  rw [show decide (20000 < t.size + total m) = false by first | exact decide_eq_true (by omega) | exact decide_eq_false (by omega)]
  go_wp2_with fail
  refine (tag_any _ s).mono ?_
  rintro e w3 ⟨rfl, hD⟩
  have Dw3 := Lib.hid hD.below
  replace x0 := pw_cell_below Dw3.out x0
  replace x1 := pw_cell_below Dw3.out x1
  replace y0 := pw_cell_below Dw3.out y0
  replace y1 := pw_cell_below Dw3.out y1
  replace HR := Lib.hid (Kd.C_below HR.out Dw3.out)
  replace HR' := Lib.hid (Kd.C_below HR'.out Dw3.out)
  replace B0 := Lib.hid (below_then B0.out B0.out.size Dw3.out)
  clear hD Dw3
  rw [show decide (1 ≤ s.size ∧ s.size ≤ 40) = true by first | exact decide_eq_true (by omega) | exact decide_eq_false (by omega)]
  go_wp2_with fail
  refine (tag_any _ t).mono ?_
  rintro e w4 ⟨rfl, hD⟩
  have Dw4 := Lib.hid hD.below
  replace x0 := pw_cell_below Dw4.out x0
  replace x1 := pw_cell_below Dw4.out x1
  replace y0 := pw_cell_below Dw4.out y0
  replace y1 := pw_cell_below Dw4.out y1
  replace HR := Lib.hid (Kd.C_below HR.out Dw4.out)
  replace HR' := Lib.hid (Kd.C_below HR'.out Dw4.out)
  replace B0 := Lib.hid (below_then B0.out B0.out.size Dw4.out)
  clear hD Dw4
  rw [show decide (1 ≤ t.size ∧ t.size ≤ 40) = true by first | exact decide_eq_true (by omega) | exact decide_eq_false (by omega)]
  go_wp2_with fail
  have GA := Lib.hid (fun w1 (hb : Below w4.heap.size w4 w1) => (by rw [hX.out]; exact hashed_any w1 A c l s (Kd.C_below HR.out hb) hc (by omega) (by omega) : Calls Tryd.prog 10 #[.string s, .slice A l.length c] w1 fun e w' => e = .returned (.string X0) ∧ Below w1.heap.size w1 w'))
  have GB := Lib.hid (fun w1 (hb : Below w4.heap.size w4 w1) => (by rw [hY.out]; exact hashed_any w1 A' c' m t (Kd.C_below HR'.out hb) hc' (by omega) (by omega) : Calls Tryd.prog 10 #[.string t, .slice A' m.length c'] w1 fun e w' => e = .returned (.string Y0) ∧ Below w1.heap.size w1 w'))
  have DR := Lib.hid (pw_below_drewN (Below.refl w4.heap.size w4) 1)
  go_region_held3 (fun w' => w'.cell? ⟨w.heap.size, 0, none⟩ = some (.string s) ∧ w'.cell? ⟨w.heap.size, 1, none⟩ = some (.slice A l.length c) ∧ w'.cell? ⟨w.heap.size + 1, 0, none⟩ = some (.string t) ∧ w'.cell? ⟨w.heap.size + 1, 1, none⟩ = some (.slice A' m.length c')) (first | exact ⟨x0, x1, y0, y1⟩ | exact ⟨p0, p1, p2, p3⟩ | exact ⟨q0, q1, q2, q3⟩) (first
    | (go_at_call 10; (with_reducible refine (GA.out _ ?hD1).mono ?_); (case hD1 => exact DR.out); rintro e wA ⟨rfl, hA⟩; have PA := Lib.hid (below_then DR.out DR.out.size hA); have p0 := pw_cell_below PA.out x0; have p1 := pw_cell_below PA.out x1; have p2 := pw_cell_below PA.out y0; have p3 := pw_cell_below PA.out y1; clear hA)
    | (go_at_call 10; (with_reducible refine (GB.out _ ?hD2).mono ?_); (case hD2 => exact DR.out); rintro e wA ⟨rfl, hA⟩; have PB := Lib.hid (below_then DR.out DR.out.size hA); have p0 := pw_cell_below PB.out x0; have p1 := pw_cell_below PB.out x1; have p2 := pw_cell_below PB.out y0; have p3 := pw_cell_below PB.out y1; clear hA)
    | (go_at_call 10; (with_reducible refine (GB.out _ ?hD3).mono ?_); (case hD3 => exact PA.out); rintro e wB ⟨rfl, hA⟩; have PZ := Lib.hid (below_then PA.out PA.out.size hA); have q0 := pw_cell_below PZ.out x0; have q1 := pw_cell_below PZ.out x1; have q2 := pw_cell_below PZ.out y0; have q3 := pw_cell_below PZ.out y1; clear hA)
    | (go_at_call 10; (with_reducible refine (GA.out _ ?hD4).mono ?_); (case hD4 => exact PB.out); rintro e wB ⟨rfl, hA⟩; have PZ := Lib.hid (below_then PB.out PB.out.size hA); have q0 := pw_cell_below PZ.out x0; have q1 := pw_cell_below PZ.out x1; have q2 := pw_cell_below PZ.out y0; have q3 := pw_cell_below PZ.out y1; clear hA))
  have BZ := Lib.hid (below_then B0.out B0.out.size PZ.out)
  have R1 := Lib.hid (bytes_any wB s A c l (HT.out.below BZ.out) (HSa.out.below BZ.out) h3 (by omega))
  obtain ⟨F, hF⟩ : ∃ F, F = Sha.hash (hashedB s l) := ⟨_, rfl⟩
  obtain ⟨G, hG⟩ : ∃ G, G = Sha.hash (hashedB t m) := ⟨_, rfl⟩
  rw [← hF] at R1
  replace hF := Lib.hid hF
  clear p0 p1 p2 p3 x0 x1 y0 y1
  go_wp2_with fail
  refine R1.out.mono ?_
  rintro e wC ⟨rfl, hC⟩
  have BC := Lib.hid (below_then BZ.out BZ.out.size hC)
  have r2 := pw_cell_below hC q2
  have r3 := pw_cell_below hC q3
  have R2 := Lib.hid (bytes_any wC t A' c' m (HT.out.below BC.out) (HSb.out.below BC.out) h4 (by omega))
  rw [← hG] at R2
  replace hG := Lib.hid hG
  clear hC q0 q1 q2 q3
  go_wp2_with fail
  refine R2.out.mono ?_
  rintro e wD ⟨rfl, hD⟩
  have BD := Lib.hid (below_then BC.out BC.out.size hD)
  clear hD
  go_wp2_with fail
  refine (O.out _ BD.out).mono ?_
  rintro e wE ⟨rfl, hE⟩
  go_wp2
  go_ret
  exact ⟨rfl, below_then BD.out BD.out.size hE⟩
set_option maxHeartbeats 8000000 in
set_option maxRecDepth 100000 in
theorem apart6 (s : ByteArray) (A : Option Addr) (c : Nat) (l : List ByteArray) (t : ByteArray) (A' : Option Addr) (c' : Nat) (m : List ByteArray) (w : World) (hr : Kd.C Kd.string w A l.length l) (hc : l.length ≤ c) (hr' : Kd.C Kd.string w A' m.length m) (hc' : m.length ≤ c')
    (hbulk : s.size + l.length + total l + t.size + m.length + total m ≤ 1048576) (hT : Tab w) (h1 : ¬ 20000 < s.size + total l) (h2 : ¬ 20000 < t.size + total m) (h3 : 1 ≤ s.size ∧ s.size ≤ 40) (h4 : 1 ≤ t.size ∧ t.size ≤ 40) (h5 : s = t) (h6 : ¬ l = m) :
    Calls Tryd.prog 3 #[.agg #[.string s, .slice A l.length c], .agg #[.string t, .slice A' m.length c']] w fun e w' => e = .returned (.bool true) ∧ Below w.heap.size w w' := by
  subst h5
  obtain ⟨X0, hX⟩ : ∃ X0, X0 = hashedB s l := ⟨_, rfl⟩
  obtain ⟨Y0, hY⟩ : ∃ Y0, Y0 = hashedB s m := ⟨_, rfl⟩
  have hXY : (X0.toList == Y0.toList) = false := by
    rw [beq_eq_false_iff_ne]
    intro h
    have h7 : hashedB s l = hashedB s m := by rw [← hX, ← hY]; exact bytes_ext (by rwa [ByteArray.toList_eq, ByteArray.toList_eq] at h)
    exact h6 ((hashedB_inj s s l m h3.2 h4.2 (fun p hp => by have := total_le hp; omega) (fun p hp => by have := total_le hp; omega)).1 h7).2
  have hlm : decide (l = m) = false := decide_eq_false h6
  replace hX := Lib.hid hX
  replace hY := Lib.hid hY
  replace hlm := Lib.hid hlm
  clear h6
  have B0 := Lib.hid (laidTwo_below w s A l.length c s A' m.length c')
  have X := laidTwo_fst w s A l.length c s A' m.length c'
  have Y := laidTwo_snd w s A l.length c s A' m.length c'
  have HR := Lib.hid (Kd.C_below hr B0.out)
  have HR' := Lib.hid (Kd.C_below hr' B0.out)
  have HT := Lib.hid hT
  have HSa := Lib.hid (strs_of hr rfl)
  have HSb := Lib.hid (strs_of hr' rfl)
  obtain ⟨x0, x1⟩ := X
  obtain ⟨y0, y1⟩ := Y
  have O := Lib.hid (fun w' (hb : Below w.heap.size w w') => one_any w' (hT.below hb))
  clear hr hr' hT
  go_enter Tryd.func3, Tryd.ntmps3
  go_wp2_with fail
  refine (large_any _ A c l s HR.out hc (by omega) (by omega)).mono ?_
  rintro e w1 ⟨rfl, hD⟩
  have Dw1 := Lib.hid hD.below
  replace x0 := pw_cell_below Dw1.out x0
  replace x1 := pw_cell_below Dw1.out x1
  replace y0 := pw_cell_below Dw1.out y0
  replace y1 := pw_cell_below Dw1.out y1
  replace HR := Lib.hid (Kd.C_below HR.out Dw1.out)
  replace HR' := Lib.hid (Kd.C_below HR'.out Dw1.out)
  replace B0 := Lib.hid (below_then B0.out B0.out.size Dw1.out)
  clear hD Dw1
  rw [show decide (20000 < s.size + total l) = false by first | exact decide_eq_true (by omega) | exact decide_eq_false (by omega)]
  go_wp2_with fail
  refine (large_any _ A' c' m s HR'.out hc' (by omega) (by omega)).mono ?_
  rintro e w2 ⟨rfl, hD⟩
  have Dw2 := Lib.hid hD.below
  replace x0 := pw_cell_below Dw2.out x0
  replace x1 := pw_cell_below Dw2.out x1
  replace y0 := pw_cell_below Dw2.out y0
  replace y1 := pw_cell_below Dw2.out y1
  replace HR := Lib.hid (Kd.C_below HR.out Dw2.out)
  replace HR' := Lib.hid (Kd.C_below HR'.out Dw2.out)
  replace B0 := Lib.hid (below_then B0.out B0.out.size Dw2.out)
  clear hD Dw2
  rw [show decide (20000 < s.size + total m) = false by first | exact decide_eq_true (by omega) | exact decide_eq_false (by omega)]
  go_wp2_with fail
  refine (tag_any _ s).mono ?_
  rintro e w3 ⟨rfl, hD⟩
  have Dw3 := Lib.hid hD.below
  replace x0 := pw_cell_below Dw3.out x0
  replace x1 := pw_cell_below Dw3.out x1
  replace y0 := pw_cell_below Dw3.out y0
  replace y1 := pw_cell_below Dw3.out y1
  replace HR := Lib.hid (Kd.C_below HR.out Dw3.out)
  replace HR' := Lib.hid (Kd.C_below HR'.out Dw3.out)
  replace B0 := Lib.hid (below_then B0.out B0.out.size Dw3.out)
  clear hD Dw3
  rw [show decide (1 ≤ s.size ∧ s.size ≤ 40) = true by first | exact decide_eq_true (by omega) | exact decide_eq_false (by omega)]
  go_wp2_with fail
  refine (tag_any _ s).mono ?_
  rintro e w4 ⟨rfl, hD⟩
  have Dw4 := Lib.hid hD.below
  replace x0 := pw_cell_below Dw4.out x0
  replace x1 := pw_cell_below Dw4.out x1
  replace y0 := pw_cell_below Dw4.out y0
  replace y1 := pw_cell_below Dw4.out y1
  replace HR := Lib.hid (Kd.C_below HR.out Dw4.out)
  replace HR' := Lib.hid (Kd.C_below HR'.out Dw4.out)
  replace B0 := Lib.hid (below_then B0.out B0.out.size Dw4.out)
  clear hD Dw4
  rw [show decide (1 ≤ s.size ∧ s.size ≤ 40) = true by first | exact decide_eq_true (by omega) | exact decide_eq_false (by omega)]
  go_wp2_with fail
  refine (texts_any _ A c l A' c' m HR.out hc HR'.out hc' (by omega)).mono ?_
  rintro e w5 ⟨rfl, hD⟩
  have Dw5 := Lib.hid hD.below
  replace x0 := pw_cell_below Dw5.out x0
  replace x1 := pw_cell_below Dw5.out x1
  replace y0 := pw_cell_below Dw5.out y0
  replace y1 := pw_cell_below Dw5.out y1
  replace HR := Lib.hid (Kd.C_below HR.out Dw5.out)
  replace HR' := Lib.hid (Kd.C_below HR'.out Dw5.out)
  replace B0 := Lib.hid (below_then B0.out B0.out.size Dw5.out)
  clear hD Dw5
  rw [hlm.out]
  go_wp2_with fail
  have GA := Lib.hid (fun w1 (hb : Below w5.heap.size w5 w1) => (by rw [hX.out]; exact hashed_any w1 A c l s (Kd.C_below HR.out hb) hc (by omega) (by omega) : Calls Tryd.prog 10 #[.string s, .slice A l.length c] w1 fun e w' => e = .returned (.string X0) ∧ Below w1.heap.size w1 w'))
  have GB := Lib.hid (fun w1 (hb : Below w5.heap.size w5 w1) => (by rw [hY.out]; exact hashed_any w1 A' c' m s (Kd.C_below HR'.out hb) hc' (by omega) (by omega) : Calls Tryd.prog 10 #[.string s, .slice A' m.length c'] w1 fun e w' => e = .returned (.string Y0) ∧ Below w1.heap.size w1 w'))
  have DR := Lib.hid (pw_below_drewN (Below.refl w5.heap.size w5) 1)
  go_region_held3 (fun w' => w'.cell? ⟨w.heap.size, 0, none⟩ = some (.string s) ∧ w'.cell? ⟨w.heap.size, 1, none⟩ = some (.slice A l.length c) ∧ w'.cell? ⟨w.heap.size + 1, 0, none⟩ = some (.string s) ∧ w'.cell? ⟨w.heap.size + 1, 1, none⟩ = some (.slice A' m.length c')) (first | exact ⟨x0, x1, y0, y1⟩ | exact ⟨p0, p1, p2, p3⟩ | exact ⟨q0, q1, q2, q3⟩) (first
    | (go_at_call 10; (with_reducible refine (GA.out _ ?hD1).mono ?_); (case hD1 => exact DR.out); rintro e wA ⟨rfl, hA⟩; have PA := Lib.hid (below_then DR.out DR.out.size hA); have p0 := pw_cell_below PA.out x0; have p1 := pw_cell_below PA.out x1; have p2 := pw_cell_below PA.out y0; have p3 := pw_cell_below PA.out y1; clear hA)
    | (go_at_call 10; (with_reducible refine (GB.out _ ?hD2).mono ?_); (case hD2 => exact DR.out); rintro e wA ⟨rfl, hA⟩; have PB := Lib.hid (below_then DR.out DR.out.size hA); have p0 := pw_cell_below PB.out x0; have p1 := pw_cell_below PB.out x1; have p2 := pw_cell_below PB.out y0; have p3 := pw_cell_below PB.out y1; clear hA)
    | (go_at_call 10; (with_reducible refine (GB.out _ ?hD3).mono ?_); (case hD3 => exact PA.out); rintro e wB ⟨rfl, hA⟩; have PZ := Lib.hid (below_then PA.out PA.out.size hA); have q0 := pw_cell_below PZ.out x0; have q1 := pw_cell_below PZ.out x1; have q2 := pw_cell_below PZ.out y0; have q3 := pw_cell_below PZ.out y1; clear hA)
    | (go_at_call 10; (with_reducible refine (GA.out _ ?hD4).mono ?_); (case hD4 => exact PB.out); rintro e wB ⟨rfl, hA⟩; have PZ := Lib.hid (below_then PB.out PB.out.size hA); have q0 := pw_cell_below PZ.out x0; have q1 := pw_cell_below PZ.out x1; have q2 := pw_cell_below PZ.out y0; have q3 := pw_cell_below PZ.out y1; clear hA))
  have BZ := Lib.hid (below_then B0.out B0.out.size PZ.out)
  have R1 := Lib.hid (bytes_any wB s A c l (HT.out.below BZ.out) (HSa.out.below BZ.out) h3 (by omega))
  obtain ⟨F, hF⟩ : ∃ F, F = Sha.hash (hashedB s l) := ⟨_, rfl⟩
  obtain ⟨G, hG⟩ : ∃ G, G = Sha.hash (hashedB s m) := ⟨_, rfl⟩
  rw [← hF] at R1
  replace hF := Lib.hid hF
  clear p0 p1 p2 p3 x0 x1 y0 y1
  go_wp2_with fail
  refine R1.out.mono ?_
  rintro e wC ⟨rfl, hC⟩
  have BC := Lib.hid (below_then BZ.out BZ.out.size hC)
  have r2 := pw_cell_below hC q2
  have r3 := pw_cell_below hC q3
  have R2 := Lib.hid (bytes_any wC s A' c' m (HT.out.below BC.out) (HSb.out.below BC.out) h4 (by omega))
  rw [← hG] at R2
  replace hG := Lib.hid hG
  clear hC q0 q1 q2 q3
  go_wp2_with fail
  refine R2.out.mono ?_
  rintro e wD ⟨rfl, hD⟩
  have BD := Lib.hid (below_then BC.out BC.out.size hD)
  clear hD
  go_wp2_with fail
  refine (O.out _ BD.out).mono ?_
  rintro e wE ⟨rfl, hE⟩
  go_wp2
  go_ret
  exact ⟨rfl, below_then BD.out BD.out.size hE⟩
set_option maxHeartbeats 8000000 in
set_option maxRecDepth 100000 in
theorem apart7 (s : ByteArray) (A : Option Addr) (c : Nat) (l : List ByteArray) (t : ByteArray) (A' : Option Addr) (c' : Nat) (m : List ByteArray) (w : World) (hr : Kd.C Kd.string w A l.length l) (hc : l.length ≤ c) (hr' : Kd.C Kd.string w A' m.length m) (hc' : m.length ≤ c')
    (hbulk : s.size + l.length + total l + t.size + m.length + total m ≤ 1048576) (hT : Tab w) (h1 : ¬ 20000 < s.size + total l) (h2 : ¬ 20000 < t.size + total m) (h3 : 1 ≤ s.size ∧ s.size ≤ 40) (h4 : 1 ≤ t.size ∧ t.size ≤ 40) (h5 : s = t) (h6 : l = m) :
    Calls Tryd.prog 3 #[.agg #[.string s, .slice A l.length c], .agg #[.string t, .slice A' m.length c']] w fun e w' => e = .returned (.bool true) ∧ Below w.heap.size w w' := by
  subst h5
  subst h6
  obtain ⟨X0, hX⟩ : ∃ X0, X0 = hashedB s l := ⟨_, rfl⟩
  have hY := hX
  replace hX := Lib.hid hX
  replace hY := Lib.hid hY
  have B0 := Lib.hid (laidTwo_below w s A l.length c s A' l.length c')
  have X := laidTwo_fst w s A l.length c s A' l.length c'
  have Y := laidTwo_snd w s A l.length c s A' l.length c'
  have HR := Lib.hid (Kd.C_below hr B0.out)
  have HR' := Lib.hid (Kd.C_below hr' B0.out)
  have HT := Lib.hid hT
  have HSa := Lib.hid (strs_of hr rfl)
  have HSb := Lib.hid (strs_of hr' rfl)
  obtain ⟨x0, x1⟩ := X
  obtain ⟨y0, y1⟩ := Y
  have O := Lib.hid (fun w' (hb : Below w.heap.size w w') => one_any w' (hT.below hb))
  clear hr hr' hT
  go_enter Tryd.func3, Tryd.ntmps3
  go_wp2_with fail
  refine (large_any _ A c l s HR.out hc (by omega) (by omega)).mono ?_
  rintro e w1 ⟨rfl, hD⟩
  have Dw1 := Lib.hid hD.below
  replace x0 := pw_cell_below Dw1.out x0
  replace x1 := pw_cell_below Dw1.out x1
  replace y0 := pw_cell_below Dw1.out y0
  replace y1 := pw_cell_below Dw1.out y1
  replace HR := Lib.hid (Kd.C_below HR.out Dw1.out)
  replace HR' := Lib.hid (Kd.C_below HR'.out Dw1.out)
  replace B0 := Lib.hid (below_then B0.out B0.out.size Dw1.out)
  clear hD Dw1
  rw [show decide (20000 < s.size + total l) = false by first | exact decide_eq_true (by omega) | exact decide_eq_false (by omega)]
  go_wp2_with fail
  refine (large_any _ A' c' l s HR'.out hc' (by omega) (by omega)).mono ?_
  rintro e w2 ⟨rfl, hD⟩
  have Dw2 := Lib.hid hD.below
  replace x0 := pw_cell_below Dw2.out x0
  replace x1 := pw_cell_below Dw2.out x1
  replace y0 := pw_cell_below Dw2.out y0
  replace y1 := pw_cell_below Dw2.out y1
  replace HR := Lib.hid (Kd.C_below HR.out Dw2.out)
  replace HR' := Lib.hid (Kd.C_below HR'.out Dw2.out)
  replace B0 := Lib.hid (below_then B0.out B0.out.size Dw2.out)
  clear hD Dw2
  rw [show decide (20000 < s.size + total l) = false by first | exact decide_eq_true (by omega) | exact decide_eq_false (by omega)]
  go_wp2_with fail
  refine (tag_any _ s).mono ?_
  rintro e w3 ⟨rfl, hD⟩
  have Dw3 := Lib.hid hD.below
  replace x0 := pw_cell_below Dw3.out x0
  replace x1 := pw_cell_below Dw3.out x1
  replace y0 := pw_cell_below Dw3.out y0
  replace y1 := pw_cell_below Dw3.out y1
  replace HR := Lib.hid (Kd.C_below HR.out Dw3.out)
  replace HR' := Lib.hid (Kd.C_below HR'.out Dw3.out)
  replace B0 := Lib.hid (below_then B0.out B0.out.size Dw3.out)
  clear hD Dw3
  rw [show decide (1 ≤ s.size ∧ s.size ≤ 40) = true by first | exact decide_eq_true (by omega) | exact decide_eq_false (by omega)]
  go_wp2_with fail
  refine (tag_any _ s).mono ?_
  rintro e w4 ⟨rfl, hD⟩
  have Dw4 := Lib.hid hD.below
  replace x0 := pw_cell_below Dw4.out x0
  replace x1 := pw_cell_below Dw4.out x1
  replace y0 := pw_cell_below Dw4.out y0
  replace y1 := pw_cell_below Dw4.out y1
  replace HR := Lib.hid (Kd.C_below HR.out Dw4.out)
  replace HR' := Lib.hid (Kd.C_below HR'.out Dw4.out)
  replace B0 := Lib.hid (below_then B0.out B0.out.size Dw4.out)
  clear hD Dw4
  rw [show decide (1 ≤ s.size ∧ s.size ≤ 40) = true by first | exact decide_eq_true (by omega) | exact decide_eq_false (by omega)]
  go_wp2_with fail
  refine (texts_any _ A c l A' c' l HR.out hc HR'.out hc' (by omega)).mono ?_
  rintro e w5 ⟨rfl, hD⟩
  have Dw5 := Lib.hid hD.below
  replace x0 := pw_cell_below Dw5.out x0
  replace x1 := pw_cell_below Dw5.out x1
  replace y0 := pw_cell_below Dw5.out y0
  replace y1 := pw_cell_below Dw5.out y1
  replace HR := Lib.hid (Kd.C_below HR.out Dw5.out)
  replace HR' := Lib.hid (Kd.C_below HR'.out Dw5.out)
  replace B0 := Lib.hid (below_then B0.out B0.out.size Dw5.out)
  clear hD Dw5
  rw [show decide (l = l) = true from decide_eq_true rfl]
  go_wp2_with fail
  have GA := Lib.hid (fun w1 (hb : Below w5.heap.size w5 w1) => (by rw [hX.out]; exact hashed_any w1 A c l s (Kd.C_below HR.out hb) hc (by omega) (by omega) : Calls Tryd.prog 10 #[.string s, .slice A l.length c] w1 fun e w' => e = .returned (.string X0) ∧ Below w1.heap.size w1 w'))
  have GB := Lib.hid (fun w1 (hb : Below w5.heap.size w5 w1) => (by rw [hY.out]; exact hashed_any w1 A' c' l s (Kd.C_below HR'.out hb) hc' (by omega) (by omega) : Calls Tryd.prog 10 #[.string s, .slice A' l.length c'] w1 fun e w' => e = .returned (.string X0) ∧ Below w1.heap.size w1 w'))
  have DR := Lib.hid (pw_below_drewN (Below.refl w5.heap.size w5) 1)
  go_region_held3 (fun w' => w'.cell? ⟨w.heap.size, 0, none⟩ = some (.string s) ∧ w'.cell? ⟨w.heap.size, 1, none⟩ = some (.slice A l.length c) ∧ w'.cell? ⟨w.heap.size + 1, 0, none⟩ = some (.string s) ∧ w'.cell? ⟨w.heap.size + 1, 1, none⟩ = some (.slice A' l.length c')) (first | exact ⟨x0, x1, y0, y1⟩ | exact ⟨p0, p1, p2, p3⟩ | exact ⟨q0, q1, q2, q3⟩) (first
    | (go_at_call 10; (with_reducible refine (GA.out _ ?hD1).mono ?_); (case hD1 => exact DR.out); rintro e wA ⟨rfl, hA⟩; have PA := Lib.hid (below_then DR.out DR.out.size hA); have p0 := pw_cell_below PA.out x0; have p1 := pw_cell_below PA.out x1; have p2 := pw_cell_below PA.out y0; have p3 := pw_cell_below PA.out y1; clear hA)
    | (go_at_call 10; (with_reducible refine (GB.out _ ?hD2).mono ?_); (case hD2 => exact DR.out); rintro e wA ⟨rfl, hA⟩; have PB := Lib.hid (below_then DR.out DR.out.size hA); have p0 := pw_cell_below PB.out x0; have p1 := pw_cell_below PB.out x1; have p2 := pw_cell_below PB.out y0; have p3 := pw_cell_below PB.out y1; clear hA)
    | (go_at_call 10; (with_reducible refine (GB.out _ ?hD3).mono ?_); (case hD3 => exact PA.out); rintro e wB ⟨rfl, hA⟩; have PZ := Lib.hid (below_then PA.out PA.out.size hA); have q0 := pw_cell_below PZ.out x0; have q1 := pw_cell_below PZ.out x1; have q2 := pw_cell_below PZ.out y0; have q3 := pw_cell_below PZ.out y1; clear hA)
    | (go_at_call 10; (with_reducible refine (GA.out _ ?hD4).mono ?_); (case hD4 => exact PB.out); rintro e wB ⟨rfl, hA⟩; have PZ := Lib.hid (below_then PB.out PB.out.size hA); have q0 := pw_cell_below PZ.out x0; have q1 := pw_cell_below PZ.out x1; have q2 := pw_cell_below PZ.out y0; have q3 := pw_cell_below PZ.out y1; clear hA))
  have BZ := Lib.hid (below_then B0.out B0.out.size PZ.out)
  have R1 := Lib.hid (bytes_any wB s A c l (HT.out.below BZ.out) (HSa.out.below BZ.out) h3 (by omega))
  obtain ⟨F, hF⟩ : ∃ F, F = Sha.hash (hashedB s l) := ⟨_, rfl⟩
  obtain ⟨G, hG⟩ : ∃ G, G = Sha.hash (hashedB s l) := ⟨_, rfl⟩
  rw [← hF] at R1
  replace hF := Lib.hid hF
  clear p0 p1 p2 p3 x0 x1 y0 y1
  go_wp2_with fail
  refine R1.out.mono ?_
  rintro e wC ⟨rfl, hC⟩
  have BC := Lib.hid (below_then BZ.out BZ.out.size hC)
  have r2 := pw_cell_below hC q2
  have r3 := pw_cell_below hC q3
  have R2 := Lib.hid (bytes_any wC s A' c' l (HT.out.below BC.out) (HSb.out.below BC.out) h4 (by omega))
  rw [← hG] at R2
  obtain rfl : F = G := by rw [hF.out, hG]
  replace hG := Lib.hid hG
  clear hC q0 q1 q2 q3
  go_wp2_with fail
  refine R2.out.mono ?_
  rintro e wD ⟨rfl, hD⟩
  have BD := Lib.hid (below_then BC.out BC.out.size hD)
  clear hD
  go_wp2_with fail
  refine (O.out _ BD.out).mono ?_
  rintro e wE ⟨rfl, hE⟩
  go_wp2
  go_ret
  exact ⟨rfl, below_then BD.out BD.out.size hE⟩
theorem law_DomainApart (s : ByteArray) (A : Option Addr) (c : Nat) (l : List ByteArray) (t : ByteArray) (A' : Option Addr) (c' : Nat) (m : List ByteArray) (w : World)
    (hr : Kd.C Kd.string w A l.length l) (hc : l.length ≤ c) (hr' : Kd.C Kd.string w A' m.length m) (hc' : m.length ≤ c') (hbulk : s.size + l.length + total l + t.size + m.length + total m ≤ 1048576) (hT : Tab w) :
    Calls Tryd.prog 3 #[.agg #[.string s, .slice A l.length c], .agg #[.string t, .slice A' m.length c']] w fun e w' => e = .returned (.bool true) ∧ Below w.heap.size w w' := by
  by_cases h1 : 20000 < s.size + total l
  · exact apart1 s A c l t A' c' m w hr hc hr' hc' hbulk hT h1
  · by_cases h2 : 20000 < t.size + total m
    · exact apart2 s A c l t A' c' m w hr hc hr' hc' hbulk hT h1 h2
    · by_cases h3 : 1 ≤ s.size ∧ s.size ≤ 40
      · by_cases h4 : 1 ≤ t.size ∧ t.size ≤ 40
        · by_cases h5 : s = t
          · by_cases h6 : l = m
            · exact apart7 s A c l t A' c' m w hr hc hr' hc' hbulk hT h1 h2 h3 h4 h5 h6
            · exact apart6 s A c l t A' c' m w hr hc hr' hc' hbulk hT h1 h2 h3 h4 h5 h6
          · exact apart5 s A c l t A' c' m w hr hc hr' hc' hbulk hT h1 h2 h3 h4 h5
        · exact apart4 s A c l t A' c' m w hr hc hr' hc' hbulk hT h1 h2 h3 h4
      · exact apart3 s A c l t A' c' m w hr hc hr' hc' hbulk hT h1 h2 h3
end Go.Proofs.YtkmbpakhbicnaaaDoor
