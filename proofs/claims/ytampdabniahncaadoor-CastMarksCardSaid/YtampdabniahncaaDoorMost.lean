/- The contract of cast.most: of n votes the only one, but the empty one, that just so many gave when it was counted last. No condition but that each vote is a string of Go's. -/
import Derived.Test.YtampdabniahncaaDoorProg
import Derived.Test.YtampdabniahncaaDoorWWords
import Derived.Test.YtampdabniahncaaDoorWLast
import Derived.Test.YtampdabniahncaaDoorWMore
import Derived.Maps.Own
import Derived.Maps.OwnOps
import Derived.Maps.Views
import Derived.WalkKit
import Derived.Outline
import Derived.Lib.Hide
import Derived.KernelRfl
namespace Go.Proofs.YtampdabniahncaaDoor
open Go.RowKit Go.WideMaps Go.Maps Go.Proofs.YtampdabniahncaaDoorW.PrintWords

abbrev ki (n : Int) : DataW Unit := .lit (.int .i64 n)
def bkey (s : ByteArray) : Lit := .string s.data.toList
theorem bkey_inj {a b : ByteArray} (h : bkey a = bkey b) : a = b := by
  unfold bkey at h
  injection h with h
  exact Go.WideShapes.bytes_inj h
/-- How many of the first k are s. -/
def cnt (ss : List ByteArray) (k : Nat) (s : ByteArray) : Nat := (ss.take k).countP (fun x => decide (x = s))
theorem cnt_le (ss : List ByteArray) (k : Nat) (s : ByteArray) : cnt ss k s ≤ k := by
  unfold cnt
  exact Nat.le_trans List.countP_le_length (by simp; omega)
theorem cnt_succ (ss : List ByteArray) (k : Nat) (hk : k < ss.length) (s : ByteArray) : cnt ss (k + 1) s = cnt ss k s + if ss.getD k ByteArray.empty = s then 1 else 0 := by
  unfold cnt
  rw [List.take_add_one, List.getElem?_eq_getElem hk, List.countP_append]
  simp [List.countP_cons, List.getD, List.getElem?_eq_getElem hk]
/-- What the map reads as behind k rounds. -/
def C (ss : List ByteArray) : Nat → DataW Unit
  | 0 => .map []
  | k + 1 => (C ss k).put (bkey (ss.getD k ByteArray.empty)) (ki (cnt ss (k + 1) (ss.getD k ByteArray.empty)))
theorem C_isMap (ss : List ByteArray) : ∀ k, IsMap (C ss k)
  | 0 => isMap_empty
  | k + 1 => (C_isMap ss k).put _ _
theorem C_at (ss : List ByteArray) (s : ByteArray) : ∀ k, k ≤ ss.length → (C ss k).atKey (bkey s) (ki 0) = ki (cnt ss k s)
  | 0, _ => by simp [C, cnt, DataW.atKey]
  | k + 1, hk => by
    unfold C
    by_cases h : ss.getD k ByteArray.empty = s
    · rw [h, atKey_put_same (C_isMap ss k) (by simp [bkey, Go.WideAt.IsKeyLit])]
    · rw [atKey_put_other (fun e => h (bkey_inj e).symm), C_at ss s k (by omega), cnt_succ ss k (by omega), if_neg h]; rfl

/-- Behind k rounds: the text, and how many times one was found. -/
def pick (least : Int) (ss : List ByteArray) : Nat → ByteArray × Nat
  | 0 => (⟨#[]⟩, 0)
  | k + 1 => if ¬ (ss.getD k ByteArray.empty).toList = [] ∧ (cnt ss (k + 1) (ss.getD k ByteArray.empty) : Int) = least then (ss.getD k ByteArray.empty, (pick least ss k).2 + 1) else pick least ss k
theorem pick_le (least : Int) (ss : List ByteArray) : ∀ k, (pick least ss k).2 ≤ k
  | 0 => Nat.le_refl _
  | k + 1 => by
    have := pick_le least ss k
    unfold pick
    split
    · simp; omega
    · omega
def table (n f : Int) : Bool := decide (1 ≤ n ∧ n ≤ 10 ∧ 0 ≤ f ∧ f < n ∧ 3 * f < n)
def most (n f least : Int) (ss : List ByteArray) : ByteArray × Bool × Int :=
  if table n f = true ∧ (ss.length : Int) = n then (if (pick least ss ss.length).2 = 1 then ((pick least ss ss.length).1, true, 0) else (⟨#[]⟩, false, 0)) else (⟨#[]⟩, false, 1)

theorem law9 : Keyed Tryd.prog 9 := string_keyed Tryd.underlying9
theorem zero3 (w : World) : (zeroValue 3).run Tryd.prog w = .ok (.int .i64 0) w := by kernel_rfl

set_option maxHeartbeats 800000 in
theorem table_any (n f : Int) (w : World) : Calls Tryd.prog 21 #[.int .i64 n, .int .i64 f] w fun e w' => e = .returned (.bool (table n f)) ∧ w = w' := by
  by_cases h1 : 1 ≤ n
  · by_cases h2 : n ≤ 10
    · by_cases h3 : 0 ≤ f
      · by_cases h4 : f < n
        · go_enter Tryd.func21, Tryd.ntmps21
          go_wp2
          go_ret
          exact ⟨by simp [table, *], rfl⟩
        · have : table n f = false := by simp [table]; omega
          go_enter Tryd.func21, Tryd.ntmps21
          go_wp2
          go_ret
          exact ⟨by simp [*], rfl⟩
      · have : table n f = false := by simp [table]; omega
        go_enter Tryd.func21, Tryd.ntmps21
        go_wp2
        go_ret
        exact ⟨by simp [*], rfl⟩
    · have : table n f = false := by simp [table]; omega
      go_enter Tryd.func21, Tryd.ntmps21
      go_wp2
      go_ret
      exact ⟨by simp [*], rfl⟩
  · have : table n f = false := by simp [table]; omega
    go_enter Tryd.func21, Tryd.ntmps21
    go_wp2
    go_ret
    exact ⟨by simp [*], rfl⟩

set_option maxHeartbeats 1600000 in
set_option maxRecDepth 100000 in
theorem most_any (n f least : Int) (A : Option Addr) (c : Nat) (ss : List ByteArray) (w : World)
    (hr : Kd.C Kd.string w A ss.length ss) (hsz : ∀ s ∈ ss, s.size ≤ maxLen) :
    Calls Tryd.prog 13 #[.int .i64 n, .int .i64 f, .int .i64 least, .slice A ss.length c] w fun e w' => e = .returned (.tuple #[.string (most n f least ss).1, .bool (most n f least ss).2.1, .int .i64 (most n f least ss).2.2]) ∧ Below w.heap.size w w' := by
  have hmm := @run_makeMap Tryd.prog
  by_cases ht : table n f = true
  · by_cases hl : (ss.length : Int) = n
    · have hn : ss.length ≤ 10 := by simp [table] at ht; omega
      have HM := Lib.hid (show most n f least ss = (if (pick least ss ss.length).2 = 1 then ((pick least ss ss.length).1, true, 0) else (⟨#[]⟩, false, 0)) by simp [most, ht, hl])
      have hl' : ((ss.length : Int) != n) = false := by simp [hl]
      have HL := Lib.hid hl
      have HT := Lib.hid ht
      have HR := Aside0.mk hr
      clear hl ht hr
      go_enter Tryd.func13, Tryd.ntmps13
      go_wp2_with (first | (go_at_call 21; refine (table_any _ _ _).mono ?_; rintro e w' ⟨rfl, rfl⟩; rw [HT.out]))
      go_loopw [12, 13, 29] (fun o m i wr => ∃ k : Nat, k ≤ ss.length ∧ i = .int .i64 k ∧ o = .string (pick least ss k).1 ∧ m = .int .i64 ((pick least ss k).2 : Nat) ∧ wr.ownsMap Tryd.prog 9 (plainElem Tryd.prog 3) w.heap.size k (C ss k) ∧ Below w.heap.size w wr)
        (fun _ _ i _ => ss.length - (intOf i).toNat)
      case atStart => exact ⟨0, Nat.zero_le _, rfl, rfl, rfl, World.ownsMap_made _ _ _ _, (Below.refl _ _).alloc (Nat.le_refl _) _⟩
      case round =>
        obtain ⟨k, hk, rfl, rfl, rfl, hown, hb⟩ := hrel
        by_cases hlt : k < ss.length
        · obtain ⟨ad, e, hx⟩ := Kd.at_string HR.out (k : Int) (by omega) (by omega)
          cases e
          have hs0 : ss.getD k ByteArray.empty = rdOf ByteArray.empty ss (k : Int) := by simp [rdOf]
          have hP := Lib.hid (show pick least ss (k + 1) = if ¬ (ss.getD k ByteArray.empty).toList = [] ∧ (cnt ss (k + 1) (ss.getD k ByteArray.empty) : Int) = least then (ss.getD k ByteArray.empty, (pick least ss k).2 + 1) else pick least ss k from rfl)
          have hC := Lib.hid (show C ss (k + 1) = (C ss k).put (bkey (ss.getD k ByteArray.empty)) (ki (cnt ss (k + 1) (ss.getD k ByteArray.empty))) from rfl)
          have hA0 := Lib.hid (C_at ss (ss.getD k ByteArray.empty) k (by omega))
          have hA1 := Lib.hid (C_at ss (ss.getD k ByteArray.empty) (k + 1) (by omega))
          have hcs := Lib.hid (cnt_succ ss k hlt (ss.getD k ByteArray.empty))
          have hcl := cnt_le ss k (ss.getD k ByteArray.empty)
          have hsz1 : (ss.getD k ByteArray.empty).size ≤ maxLen := by rw [List.getD, List.getElem?_eq_getElem hlt]; exact hsz _ (List.getElem_mem hlt)
          have hpl := pick_le least ss k
          rw [← hs0] at hx
          clear hs0
          generalize ss.getD k ByteArray.empty = s at *
          have hkey : keyOf Tryd.prog 9 (.string s) = some (bkey s) := keyOf_string_mk Tryd.underlying9 hsz1
          have hcx : wr.cell? (ad.add k) = some (.string s) := pw_cell_below hb (by simpa using hx)
          clear hx
          obtain ⟨c0, hrun, hat, _⟩ := hown.lookup_int law9 Tryd.underlying45 Tryd.underlying3 (zero3 _) hkey
          have hc0 : c0 = (cnt ss k s : Nat) := by have h1 := hA0.out; unfold ki at h1; rw [hat] at h1; injection h1 with h1; injection h1
          subst hc0
          clear hat
          have hwf : (Lit.int .i64 ((cnt ss k s : Nat) + 1 : Int)).wf = true := WalkArith.wf_i64 (by omega)
          have hkm : k < maxLen := Nat.lt_of_le_of_lt (Nat.le_trans hk hn) (by decide)
          have HE := Lib.hid (show (C ss k).put (bkey s) (.lit (.int .i64 ((cnt ss k s : Nat) + 1 : Int))) = C ss (k + 1) by rw [hC.out, hcs.out]; simp)
          have HK1 := Lib.hid (show (cnt ss (k + 1) s : Int) = (cnt ss k s : Nat) + 1 by rw [hcs.out]; simp)
          by_cases hne : s.toList = []
          · have hn0 : (s.toList == []) = true := by simp [hne]
            have hn1 : (s.toList != []) = false := by simp [hne]
            have HP := Lib.hid (show pick least ss (k + 1) = pick least ss k by rw [hP.out]; simp [hne])
            clear hne
            go_wp2_with (first
              | (at_mapUpdate; refine wpList_mapUpdate_own _ rfl _ _ _ 45 rfl 9 3 law9 Tryd.underlying45 _ w.heap.size k _ rfl hown hkm _ _ _ rfl rfl hkey _ [] (plainElem_int Tryd.underlying3 hwf) ?_)
              | go_in)
            intro w1 hown1 hgrow1
            have R2 := hb.grown hgrow1 hb.size (fun j hj => by cases hj; exact Nat.le_refl _)
            rw [HE.out] at hown1
            clear hrun hgrow1 hcx hown
            go_wp2
            go_roundw
            case rel => exact ⟨k + 1, by omega, by go_num, by rw [HP.out], by rw [HP.out], hown1, R2⟩
            case measure => simp [intOf]; omega
          · have hn0 : (s.toList == []) = false := by simp [hne]
            have hn1 : (s.toList != []) = true := by simp [hne]
            go_wp2_with (first
              | (at_mapUpdate; refine wpList_mapUpdate_own _ rfl _ _ _ 45 rfl 9 3 law9 Tryd.underlying45 _ w.heap.size k _ rfl hown hkm _ _ _ rfl rfl hkey _ [] (plainElem_int Tryd.underlying3 hwf) ?_)
              | go_in)
            intro w1 hown1 hgrow1
            have R2 := hb.grown hgrow1 hb.size (fun j hj => by cases hj; exact Nat.le_refl _)
            rw [HE.out] at hown1
            clear hrun hgrow1 hcx hown
            obtain ⟨c1, hrun1, hat1, _⟩ := hown1.lookup_int law9 Tryd.underlying45 Tryd.underlying3 (zero3 _) hkey
            have hc1 : c1 = ((cnt ss k s : Nat) : Int) + 1 := by
              have h1 := hA1.out
              unfold ki at h1
              rw [hat1] at h1
              simp only [DataW.lit.injEq, Lit.int.injEq, true_and] at h1
              rw [h1, HK1.out]
            subst hc1
            clear hat1
            by_cases he : ((cnt ss k s : Nat) : Int) + 1 = least
            · have HP := Lib.hid (show pick least ss (k + 1) = (s, (pick least ss k).2 + 1) by rw [hP.out, if_pos ⟨hne, by rw [HK1.out]; exact he⟩])
              have he1 : (((cnt ss k s : Nat) : Int) + 1 == least) = true := by simp [he]
              clear he hne
              go_wp2
              go_roundw
              case rel => exact ⟨k + 1, by omega, by go_num, by rw [HP.out], by rw [HP.out]; go_num, hown1, R2⟩
              case measure => simp [intOf]; omega
            · have HP := Lib.hid (show pick least ss (k + 1) = pick least ss k by rw [hP.out, if_neg (fun h => he (by rw [← HK1.out]; exact h.2))])
              have he1 : (((cnt ss k s : Nat) : Int) + 1 == least) = false := by simp [he]
              clear he hne
              go_wp2
              go_roundw
              case rel => exact ⟨k + 1, by omega, by go_num, by rw [HP.out], by rw [HP.out], hown1, R2⟩
              case measure => simp [intOf]; omega
        · have hk' : k = ss.length := by omega
          subst hk'
          have HM' := HM
          clear HM
          by_cases h1 : (pick least ss ss.length).2 = 1
          · have hq : (((pick least ss ss.length).2 : Int) != 1) = false := by simp [h1]
            have HF := Lib.hid (show most n f least ss = ((pick least ss ss.length).1, true, 0) by rw [HM'.out, if_pos h1])
            clear h1 HM'
            go_wp2
            go_ret3
            exact ⟨by rw [HF.out]; rfl, hb⟩
          · have hq : (((pick least ss ss.length).2 : Int) != 1) = true := by simp; omega
            have HF := Lib.hid (show most n f least ss = (⟨#[]⟩, false, 0) by rw [HM'.out, if_neg h1])
            clear h1 HM'
            go_wp2
            go_ret3
            exact ⟨by rw [HF.out]; rfl, hb⟩
    · have HM := Lib.hid (show most n f least ss = (⟨#[]⟩, false, 1) by simp [most, hl])
      have hl' : ((ss.length : Int) != n) = true := by simp [hl]
      have HT := Lib.hid ht
      clear hl ht hr hsz
      go_enter Tryd.func13, Tryd.ntmps13
      go_wp2_with (first | (go_at_call 21; refine (table_any _ _ _).mono ?_; rintro e w' ⟨rfl, rfl⟩; rw [HT.out]))
      go_ret3
      exact ⟨by rw [HM.out]; rfl, Below.refl _ _⟩
  · have ht' : table n f = false := by simpa using ht
    have HM := Lib.hid (show most n f least ss = (⟨#[]⟩, false, 1) by simp [most, ht'])
    have HT := Lib.hid ht'
    clear ht ht' hr hsz
    go_enter Tryd.func13, Tryd.ntmps13
    go_wp2_with (first | (go_at_call 21; refine (table_any _ _ _).mono ?_; rintro e w' ⟨rfl, rfl⟩; rw [HT.out]))
    go_ret3
    exact ⟨by rw [HM.out]; rfl, Below.refl _ _⟩

/-! ### in the print's form -/
/-- None where a vote is no string of Go's. -/
def cast_most.f (a0 a1 a2 : Int) (l3 : List ByteArray) : Option (ByteArray × Bool × Int) := if l3.all (fun s => decide (s.size ≤ maxLen)) then some (most a0 a1 a2 l3) else none
theorem cast_most.calls (a0 a1 a2 : Int) (A3 : Option Addr) (c3 : Nat) (l3 : List ByteArray) (r1 : ByteArray) (r2 : Bool) (r3 : Int) (w : World) (hr3 : Kd.C Kd.string w A3 l3.length l3) (_ : l3.length ≤ c3) (h : cast_most.f a0 a1 a2 l3 = some (r1, r2, r3)) :
    Calls Tryd.prog 13 #[.int .i64 a0, .int .i64 a1, .int .i64 a2, .slice A3 l3.length c3] w fun e w' => e = .returned (.tuple #[.string r1, .bool r2, .int .i64 r3]) ∧ Below w.heap.size w w' := by
  unfold cast_most.f at h
  split at h
  · rename_i hs
    have hm := Option.some.inj h
    refine (most_any a0 a1 a2 A3 c3 l3 w hr3 (fun s hs' => by simpa using List.all_eq_true.1 hs s hs')).mono ?_
    rintro e w' ⟨he, hb⟩
    rw [hm] at he
    exact ⟨he, hb⟩
  · cases h

end Go.Proofs.YtampdabniahncaaDoor
