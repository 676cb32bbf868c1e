/- The walk of the reference's sum. -/
import Derived.Test.YtmlfheagbfaoaaaDoorRWords
import Derived.Test.YtmlfheagbfaoaaaDoorRPlain
import Derived.StillTailTactics
import Derived.LoopTactic
namespace Go.Proofs.YtmlfheagbfaoaaaDoor
open Go.RowKit Go.Proofs.YtmlfheagbfaoaaaDoorW.PrintWords Go.Proofs.YtmlfheagbfaoaaaDoorW.PrintMore Go.Lib

/-- The cells of numbers that were made and are written no more. -/
def Ints (w : World) (g n : Nat) (f : Nat → Nat) : Prop := ∀ i, i < n → w.cell? ⟨g, i, none⟩ = some (.int .i64 (f i : Int))
theorem ints_of_R {w : World} {e base : Nat} {ok : Nat → Prop} {v : Value} {f : Nat → Nat} {n : Nat} (h : Kd.R (Kd.int .i64) e w base ok v (natL f n)) (hn : 0 < n) :
    ∃ g cap, v = .slice (some ⟨g, 0, none⟩) n cap ∧ n ≤ cap ∧ base ≤ g ∧ g < w.heap.size ∧ Ints w g n f := by
  have ho := Kd.own_of_R h
  rw [natL_len] at ho
  rcases ho.2 with ⟨rfl, h0⟩ | ⟨g, cap, cur, rfl, hb, hh, hc, hm, hs, ht⟩
  · omega
  · refine ⟨g, cap, rfl, hc, hb, (Array.getElem?_eq_some_iff.1 hh).1, fun i hi => ?_⟩
    rw [World.ownsRow.cellAt ho i (by omega)]
    simp [encs, natL, hi]
theorem C_of_row {w : World} {g n : Nat} {t : TypeId} {f : Nat → Nat} (h : NRow w g t .i64 n f) (off m : Nat) (hm : off + m ≤ n) (hb : n ≤ 9223372036854775807) : Kd.C (Kd.int .i64) w (some ⟨g, off, none⟩) (natL (fun i => f (off + i)) m).length (natL (fun i => f (off + i)) m) := by
  refine ⟨rfl, by rw [natL_len]; omega, fun _ => ⟨_, rfl, ?_⟩⟩
  intro j p hp
  have hj : j < m := by have := (List.getElem?_eq_some_iff.1 hp).1; rwa [natL_len] at this
  unfold natL at hp
  rw [List.getElem?_map, List.getElem?_range hj] at hp
  obtain rfl := Option.some.inj hp
  refine ⟨[.int .i64 (f (off + j) : Int)], rfl, rfl, ?_⟩
  intro i u hu
  match i, hu with
  | 0, hu =>
    simp at hu
    subst hu
    rw [show (⟨g, off, none⟩ : Addr).add (j * (Kd.int .i64).sz + 0) = ⟨g, off + j, none⟩ by rw [add_at]; simp [Kd.int, Kd.scalar]]
    exact h.cell _ (by omega)
theorem new8 (w : World) (X : Sha.Eight) : NRow (w.alloc (.cells #[.int .i64 (X.a : Int), .int .i64 (X.b : Int), .int .i64 (X.c : Int), .int .i64 (X.d : Int), .int .i64 (X.e : Int), .int .i64 (X.f : Int), .int .i64 (X.g : Int), .int .i64 (X.h : Int)] 73)) w.heap.size 73 .i64 8 X.get :=
  ⟨_, heap_alloc_new w _, rfl, fun i hi => by
    match i, hi with
    | 0, _ => rfl
    | 1, _ => rfl
    | 2, _ => rfl
    | 3, _ => rfl
    | 4, _ => rfl
    | 5, _ => rfl
    | 6, _ => rfl
    | 7, _ => rfl⟩
theorem rspread_any (w : World) (A : Option Addr) (c : Nat) (l : Nat → Nat) (hl : ∀ i, i < 16 → l i < Sha.M) (hr : Kd.C (Kd.int .i64) w A (natL l 16).length (natL l 16)) (hc : 16 ≤ c) :
    Calls Tryd.prog 39 #[.slice A 16 c] w fun e w' => (∃ g cap, e = .returned (.slice (some ⟨g, 0, none⟩) 64 cap) ∧ 64 ≤ cap ∧ w.heap.size ≤ g ∧ g < w'.heap.size ∧ Ints w' g 64 (Sha.W l)) ∧ Below w.heap.size w w' := by
  have h := PDg.wardmoteref04_spread.calls 64 A c (natL l 16) (natL (Sha.W l) 64) w hr (by rw [natL_len]; exact hc) (spread_f4 l hl)
  have h16 : (natL l 16).length = 16 := natL_len l 16
  rw [h16] at h
  refine h.mono ?_
  rintro e w' ⟨v, rfl, hR, hb⟩
  obtain ⟨g, cap, rfl, h1, h2, h3, h4⟩ := ints_of_R hR (by decide)
  exact ⟨⟨g, cap, rfl, h1, h2, h3, h4⟩, hb⟩
theorem rround_any (w : World) (X Z : Sha.Eight) (k v : Nat) (hx : X.ok) (hk : k < Sha.M) (hv : v < Sha.M) (hZ : Z = Sha.rnd X k v) :
    Calls Tryd.prog 40 #[.agg #[.int .i64 (X.a : Int), .int .i64 (X.b : Int), .int .i64 (X.c : Int), .int .i64 (X.d : Int), .int .i64 (X.e : Int), .int .i64 (X.f : Int), .int .i64 (X.g : Int), .int .i64 (X.h : Int)], .int .i64 (k : Int), .int .i64 (v : Int)] w
      fun e w' => e = .returned (.agg #[.int .i64 (Z.a : Int), .int .i64 (Z.b : Int), .int .i64 (Z.c : Int), .int .i64 (Z.d : Int), .int .i64 (Z.e : Int), .int .i64 (Z.f : Int), .int .i64 (Z.g : Int), .int .i64 (Z.h : Int)]) ∧ Below w.heap.size w w' := by
  subst hZ
  exact PDg.wardmoteref04_round.calls _ _ _ _ _ _ _ _ _ _ _ _ _ _ _ _ _ _ w (round_f X k v hx hk hv)
theorem word_part (P : Nat → Nat) (m j : Nat) : Sha.word (fun i => P (64 * m + i)) j = Sha.word P (16 * m + j) := by
  have h : ∀ k, Sha.pw (fun i => P (64 * m + i)) j k = Sha.pw P (16 * m + j) k := fun k => by
    induction k with
    | zero => rfl
    | succ k ih => rw [Sha.pw, Sha.pw, ih, show 4 * (16 * m + j) + k = 64 * m + (4 * j + k) by omega]
  exact h 4
theorem plus_int (a b : Nat) : (((a + b) % Sha.M : Nat) : Int) = ((a : Int) + (b : Int)) % 4294967296 := by
  show (((a + b) % 4294967296 : Nat) : Int) = _
  omega
/-- What the answer holds when i words and q bytes of the next one are written. -/
def outF (X : Sha.Eight) (i q x : Nat) : Nat := if x < 4 * i ∨ (4 * i + 4 ≤ x + q ∧ x < 4 * i + 4) then outB X x else 0
theorem outF_set (X : Sha.Eight) (i q p x v : Nat) (hp : p + q = 3) (hv : v = X.get i / 256 ^ q % 256) : (if x = 4 * i + p then v else outF X i q x) = outF X i (q + 1) x := by
  unfold outF
  by_cases e : x = 4 * i + p
  · rw [if_pos e, if_pos (by omega), outB, hv, show x / 4 = i by omega, show 3 - x % 4 = q by omega]
  · rw [if_neg e]
    by_cases h : x < 4 * i ∨ (4 * i + 4 ≤ x + q ∧ x < 4 * i + 4)
    · rw [if_pos h, if_pos (by omega)]
    · rw [if_neg h, if_neg (by omega)]
theorem outF_next (X : Sha.Eight) (i x : Nat) : outF X i 4 x = outF X (i + 1) 0 x := by
  unfold outF
  by_cases h : x < 4 * i ∨ (4 * i + 4 ≤ x + 4 ∧ x < 4 * i + 4)
  · rw [if_pos h, if_pos (by omega)]
  · rw [if_neg h, if_neg (by omega)]
theorem outF_outs (X : Sha.Eight) : (List.range 32).map (fun i => UInt8.ofNat (outF X 8 0 i)) = Sha.outs X := by
  rw [← outs_eq]
  refine List.map_congr_left (fun i hi => ?_)
  have := List.mem_range.1 hi
  rw [outF, if_pos (by omega), if_pos this]
theorem new8t (w : World) (X : Sha.Eight) (t : TypeId) : NRow (w.alloc (.cells #[.int .i64 (X.a : Int), .int .i64 (X.b : Int), .int .i64 (X.c : Int), .int .i64 (X.d : Int), .int .i64 (X.e : Int), .int .i64 (X.f : Int), .int .i64 (X.g : Int), .int .i64 (X.h : Int)] t)) w.heap.size t .i64 8 X.get :=
  ⟨_, heap_alloc_new w _, rfl, fun i hi => by
    match i, hi with
    | 0, _ => rfl
    | 1, _ => rfl
    | 2, _ => rfl
    | 3, _ => rfl
    | 4, _ => rfl
    | 5, _ => rfl
    | 6, _ => rfl
    | 7, _ => rfl⟩
theorem plus_w (a b : Nat) (ha : a < Sha.M) (hb : b < Sha.M) : (wrap64 ((a : Int) + (b : Int))).tmod 4294967296 = (((a + b) % Sha.M : Nat) : Int) := by
  rw [w64_add a b (by have hM : Sha.M = 4294967296 := rfl; omega), tmod_nat]
/-- The eight cells of a struct. -/
theorem cells8 {w : World} {g : Nat} {t : TypeId} {X : Sha.Eight} (h : NRow w g t .i64 8 X.get) :
    w.cell? ⟨g, 0, none⟩ = some (.int .i64 (X.a : Int)) ∧ w.cell? ⟨g, 1, none⟩ = some (.int .i64 (X.b : Int)) ∧ w.cell? ⟨g, 2, none⟩ = some (.int .i64 (X.c : Int)) ∧ w.cell? ⟨g, 3, none⟩ = some (.int .i64 (X.d : Int)) ∧
      w.cell? ⟨g, 4, none⟩ = some (.int .i64 (X.e : Int)) ∧ w.cell? ⟨g, 5, none⟩ = some (.int .i64 (X.f : Int)) ∧ w.cell? ⟨g, 6, none⟩ = some (.int .i64 (X.g : Int)) ∧ w.cell? ⟨g, 7, none⟩ = some (.int .i64 (X.h : Int)) :=
  ⟨h.cell 0 (by decide), h.cell 1 (by decide), h.cell 2 (by decide), h.cell 3 (by decide), h.cell 4 (by decide), h.cell 5 (by decide), h.cell 6 (by decide), h.cell 7 (by decide)⟩
theorem store8 {w : World} {g : Nat} {t : TypeId} {X : Sha.Eight} (Z : Sha.Eight) (h : NRow w g t .i64 8 X.get) :
    NRow ((((((((w.setCell ⟨g, 0, none⟩ (.int .i64 (Z.a : Int))).setCell ⟨g, 1, none⟩ (.int .i64 (Z.b : Int))).setCell ⟨g, 2, none⟩ (.int .i64 (Z.c : Int))).setCell ⟨g, 3, none⟩ (.int .i64 (Z.d : Int))).setCell ⟨g, 4, none⟩ (.int .i64 (Z.e : Int))).setCell ⟨g, 5, none⟩ (.int .i64 (Z.f : Int))).setCell ⟨g, 6, none⟩ (.int .i64 (Z.g : Int))).setCell ⟨g, 7, none⟩ (.int .i64 (Z.h : Int))) g t .i64 8 Z.get :=
  ((((((((h.set 0 Z.a (by decide)).set 1 Z.b (by decide)).set 2 Z.c (by decide)).set 3 Z.d (by decide)).set 4 Z.e (by decide)).set 5 Z.f (by decide)).set 6 Z.g (by decide)).set 7 Z.h (by decide)).eq (fun i hi => by
    match i, hi with
    | 0, _ => rfl
    | 1, _ => rfl
    | 2, _ => rfl
    | 3, _ => rfl
    | 4, _ => rfl
    | 5, _ => rfl
    | 6, _ => rfl
    | 7, _ => rfl)
theorem Only.set8 {g : Nat} {w w1 : World} (h : Only g w w1) (a b c d e f i j : Value) :
    Only g w ((((((((w1.setCell ⟨g, 0, none⟩ a).setCell ⟨g, 1, none⟩ b).setCell ⟨g, 2, none⟩ c).setCell ⟨g, 3, none⟩ d).setCell ⟨g, 4, none⟩ e).setCell ⟨g, 5, none⟩ f).setCell ⟨g, 6, none⟩ i).setCell ⟨g, 7, none⟩ j) :=
  (((((((h.set 0 a).set 1 b).set 2 c).set 3 d).set 4 e).set 5 f).set 6 i).set 7 j
theorem Only.then_below {g : Nat} {w w1 w2 : World} (h : Only g w w1) (hb : Below w1.heap.size w1 w2) : Only g w w2 := h.trans (Only.of_below hb g)
set_option maxHeartbeats 12000000 in
set_option maxRecDepth 100000 in
theorem rsum_any (w : World) (s : ByteArray) (hs : s.size ≤ 140737488351232) :
    Calls Tryd.prog 33 #[.string s] w fun e w' => e = .returned (.string (Sha.hash s)) ∧ Below w.heap.size w w' := by
  obtain ⟨nb, hnb⟩ : ∃ n : Nat, n = Sha.blocks s.size := ⟨_, rfl⟩
  have hnb1 : 64 * nb ≤ s.size + 72 := by rw [hnb]; unfold Sha.blocks; omega
  have hW := Lib.hid (fun w => words_any w s hs)
  rw [← hnb] at hW
  replace hnb := Lib.hid hnb
  go_enter Tryd.func33, Tryd.ntmps33
  go_wp2_with fail
  refine (hW.out _).mono ?_
  rintro e w2 ⟨⟨gl, rfl, hrow, hgl⟩, hb2⟩
  have hx2 := (new8 w Sha.init).below hb2 (by simp)
  have hbe2 : Below w.heap.size w w2 := below_then ((Below.refl _ w).alloc (Nat.le_refl _) (.cells #[.int .i64 (Sha.init.a : Int), .int .i64 (Sha.init.b : Int), .int .i64 (Sha.init.c : Int), .int .i64 (Sha.init.d : Int), .int .i64 (Sha.init.e : Int), .int .i64 (Sha.init.f : Int), .int .i64 (Sha.init.g : Int), .int .i64 (Sha.init.h : Int)] 73)) (by simp) hb2
  replace hgl : w.heap.size < gl := by simp at hgl; omega
  have hlt2 := hrow.lt
  replace hrow := Lib.hid hrow
  replace hx2 := Lib.hid hx2
  replace hbe2 := Lib.hid hbe2
  clear hb2
  go_wp2_with fail
  refine (PDg.wardmoteref04_cubes.calls _ _ cubes_f).mono ?_
  rintro e w3 ⟨v0, rfl, hR, hb3⟩
  obtain ⟨gk, ck, rfl, hck, hgk, hgk3, hk⟩ := ints_of_R hR (by decide)
  have hrow3 := hrow.out.below hb3 hlt2
  have hx3 := hx2.out.below hb3 (by omega)
  have hbe3 := below_then hbe2.out hbe2.out.size hb3
  obtain ⟨gx, egx⟩ : ∃ gx : Nat, gx = w.heap.size := ⟨_, rfl⟩
  rw [← egx] at hx3 hgl ⊢
  have hgkl : gl < gk := by omega
  have hlt3 := hrow3.lt
  replace egx := Lib.hid egx
  replace hrow3 := Lib.hid hrow3
  replace hx3 := Lib.hid hx3
  replace hbe3 := Lib.hid hbe3
  replace hk := Lib.hid hk
  clear hR hb3 hrow hx2 hbe2 hlt2
  go_wp2_with fail
  obtain ⟨P, hP⟩ : ∃ P : Nat → Nat, P = Sha.padded s := ⟨_, rfl⟩
  rw [← hP] at hrow3
  have hPlt : ∀ x, P x < 256 := fun x => by rw [hP]; exact padded_lt s x
  replace hP := Lib.hid hP
  replace hPlt := Lib.hid hPlt
  go_loopw [6] (fun v6 wr => ∃ m : Nat, m ≤ nb ∧ v6 = .int .i64 (16 * (m : Int)) ∧ NRow wr gx 73 .i64 8 (Sha.many Sha.init P m).get ∧ NRow wr gl 3 .i64 (16 * nb) (Sha.word P) ∧ Ints wr gk 64 Sha.kk ∧ Below gx w wr) (fun v6 _ => 16 * nb - (intOf v6).toNat)
  case atStart => exact ⟨0, by omega, by go_num, hx3.out, hrow3.out, hk.out, by rw [egx.out]; exact hbe3.out⟩
  case round =>
    obtain ⟨m, hm, rfl, hx, hl, hk, hbe⟩ := hrel
    obtain ⟨X, hX⟩ : ∃ X : Sha.Eight, X = Sha.many Sha.init P m := ⟨_, rfl⟩
    rw [← hX] at hx
    have hXok : X.ok := by rw [hX]; exact Sha.many_ok Sha.init_ok _ _
    obtain ⟨c0, c1, c2, c3, c4, c5, c6, c7⟩ := cells8 hx
    by_cases hmn : m < nb
    · have hmn' : (m : Int) < (nb : Int) := by omega
      have hx4 := hx.alloc (.cells #[.int .i64 (X.a : Int), .int .i64 (X.b : Int), .int .i64 (X.c : Int), .int .i64 (X.d : Int), .int .i64 (X.e : Int), .int .i64 (X.f : Int), .int .i64 (X.g : Int), .int .i64 (X.h : Int)] 73)
      have hl4 := hl.alloc (.cells #[.int .i64 (X.a : Int), .int .i64 (X.b : Int), .int .i64 (X.c : Int), .int .i64 (X.d : Int), .int .i64 (X.e : Int), .int .i64 (X.f : Int), .int .i64 (X.g : Int), .int .i64 (X.h : Int)] 73)
      have hk4 : Ints (wr.alloc (.cells #[.int .i64 (X.a : Int), .int .i64 (X.b : Int), .int .i64 (X.c : Int), .int .i64 (X.d : Int), .int .i64 (X.e : Int), .int .i64 (X.f : Int), .int .i64 (X.g : Int), .int .i64 (X.h : Int)] 73)) gk 64 Sha.kk := fun i hi => pw_cell_below ((Below.refl _ wr).alloc (Nat.le_refl _) _) (hk i hi)
      have hb4 := hbe.alloc (by have := hx.lt; omega) (.cells #[.int .i64 (X.a : Int), .int .i64 (X.b : Int), .int .i64 (X.c : Int), .int .i64 (X.d : Int), .int .i64 (X.e : Int), .int .i64 (X.f : Int), .int .i64 (X.g : Int), .int .i64 (X.h : Int)] 73)
      have hy4 := new8 wr X
      have hgxy := hx.lt
      have hgly := hl.lt
      have hgky := World.block_lt_of_cell? wr ⟨gk, 0, none⟩ (hk 0 (by decide))
      have hCl := C_of_row hl4 (16 * m) 16 (by omega) (by omega)
      have hlp : ∀ i, i < 16 → Sha.word P (16 * m + i) < Sha.M := fun i _ => Sha.pw_lt (16 * m + i) 4 (fun k _ => hPlt.out _)
      have S4 := Lib.hid (rspread_any _ _ (16 * nb - 16 * m) (fun i => Sha.word P (16 * m + i)) hlp hCl (by omega))
      have hdrop : ¬ (16 * nb = 16 * m) := by omega
      replace hx4 := Lib.hid hx4
      replace hl4 := Lib.hid hl4
      replace hk4 := Lib.hid hk4
      replace hb4 := Lib.hid hb4
      replace hy4 := Lib.hid hy4
      replace hX := Lib.hid hX
      replace hXok := Lib.hid hXok
      replace hlp := Lib.hid hlp
      clear hx hl hk hbe hCl hx3 hrow3 hbe3
      go_wp2_with fail
      refine S4.out.mono ?_
      rintro e w5 ⟨⟨gw, cw, rfl, hcw, hgw, hgw5, hw5⟩, hb5⟩
      have hx5 := hx4.out.below hb5 hx4.out.lt
      have hl5 := hl4.out.below hb5 hl4.out.lt
      have hy5 := hy4.out.below hb5 hy4.out.lt
      have hk5 : Ints w5 gk 64 Sha.kk := fun i hi => pw_cell_below hb5 (hk4.out i hi)
      have hbe5 : Below gx w w5 := below_trans' hb4.out (by have := hx4.out.lt; omega) hb5
      obtain ⟨gy, egy⟩ : ∃ gy : Nat, gy = wr.heap.size := ⟨_, rfl⟩
      rw [← egy] at hy5 hgxy hgly hgky ⊢
      replace hgw : gy < gw := by simp at hgw; omega
      replace hx5 := Lib.hid hx5
      replace hl5 := Lib.hid hl5
      replace hy5 := Lib.hid hy5
      replace hk5 := Lib.hid hk5
      replace hw5 := Lib.hid hw5
      replace hbe5 := Lib.hid hbe5
      clear hb5 hx4 hl4 hy4 hk4 hb4 S4 egy c0 c1 c2 c3 c4 c5 c6 c7
      go_wp2_with fail
      obtain ⟨L, hL⟩ : ∃ L : Nat → Nat, L = fun i => Sha.word P (16 * m + i) := ⟨_, rfl⟩
      rw [← hL] at hw5
      have hLlt : ∀ i, i < 16 → L i < Sha.M := by rw [hL]; exact hlp.out
      replace hLlt := Lib.hid hLlt
      replace hL := Lib.hid hL
      go_loopw [9] (fun v9 wr => ∃ t : Nat, t ≤ 64 ∧ v9 = .int .i64 (t : Int) ∧ NRow wr gy 73 .i64 8 (Sha.st X L t).get ∧ Only gy w5 wr) (fun v9 _ => 64 - (intOf v9).toNat)
      case atStart => exact ⟨0, by omega, rfl, hy5.out, Only.refl _ _⟩
      case round =>
        obtain ⟨t, ht, rfl, hy, hO⟩ := hrel
        by_cases ht64 : t < 64
        · obtain ⟨Y, hY⟩ : ∃ Y : Sha.Eight, Y = Sha.st X L t := ⟨_, rfl⟩
          rw [← hY] at hy
          have hYok : Y.ok := by rw [hY]; exact Sha.st_ok hXok.out L t
          obtain ⟨c0, c1, c2, c3, c4, c5, c6, c7⟩ := cells8 hy
          obtain ⟨k, hkk⟩ : ∃ k : Nat, k = Sha.kk t := ⟨_, rfl⟩
          have ck' : wr.cell? ⟨gk, t, none⟩ = some (.int .i64 (k : Int)) := by rw [hkk]; exact hO.cell (hk5.out t ht64) (by show gk ≠ gy; omega)
          obtain ⟨v, hv⟩ : ∃ v : Nat, v = Sha.W L t := ⟨_, rfl⟩
          have cv : wr.cell? ⟨gw, t, none⟩ = some (.int .i64 (v : Int)) := by rw [hv]; exact hO.cell (hw5.out t ht64) (by show gw ≠ gy; omega)
          obtain ⟨Z, hZ⟩ : ∃ Z : Sha.Eight, Z = Sha.rnd Y k v := ⟨_, rfl⟩
          have R := Lib.hid (fun w => rround_any w Y Z k v hYok (by rw [hkk]; exact Sha.kk_lt t) (by rw [hv]; exact Sha.W_lt L hLlt.out t) hZ)
          have hZst : Z = Sha.st X L (t + 1) := by rw [hZ, hY, hkk, hv, Sha.st]
          replace hZst := Lib.hid hZst
          replace hY := Lib.hid hY
          replace hkk := Lib.hid hkk
          replace hv := Lib.hid hv
          replace hZ := Lib.hid hZ
          replace hYok := Lib.hid hYok
          replace hy := Lib.hid hy
          replace hO := Lib.hid hO
          have t0 : (t : Int) < 64 := by omega
          go_wp2_with fail
          go_still_tail 9, (by kernel_rfl)
          go_wp2_with fail
          refine (R.out _).mono ?_
          rintro e w7 ⟨rfl, hb7⟩
          have hy7 : NRow w7 gy 73 .i64 8 Y.get := NRow.below (hy.out.drewN 1) hb7 hy.out.lt
          have hO7 : Only gy w5 w7 := Only.then_below (hO.out.drewN 1) hb7
          have hyZ := (store8 Z hy7).eq (f' := (Sha.st X L (t + 1)).get) (fun i _ => by rw [← hZst.out])
          have hOZ := hO7.set8 (.int .i64 (Z.a : Int)) (.int .i64 (Z.b : Int)) (.int .i64 (Z.c : Int)) (.int .i64 (Z.d : Int)) (.int .i64 (Z.e : Int)) (.int .i64 (Z.f : Int)) (.int .i64 (Z.g : Int)) (.int .i64 (Z.h : Int))
          obtain ⟨d0, d1, d2, d3, d4, d5, d6, d7⟩ := cells8 hy7
          have fz := hy7.free
          have fz0 := fz 0
          have fz1 := fz 1
          have fz2 := fz 2
          have fz3 := fz 3
          have fz4 := fz 4
          have fz5 := fz 5
          have fz6 := fz 6
          have fz7 := fz 7
          replace hyZ := Lib.hid hyZ
          replace hOZ := Lib.hid hOZ
          clear hy7 hO7 hb7 fz c0 c1 c2 c3 c4 c5 c6 c7 ck' cv
          go_wp2
          go_roundw
          case rel => exact ⟨t + 1, by omega, by go_num, hyZ.out, hOZ.out⟩
          case measure => simp [intOf]; omega
        · obtain rfl : t = 64 := by omega
          obtain ⟨Y, hY⟩ : ∃ Y : Sha.Eight, Y = Sha.st X L 64 := ⟨_, rfl⟩
          rw [← hY] at hy
          have hYok : Y.ok := by rw [hY]; exact Sha.st_ok hXok.out L 64
          obtain ⟨c0, c1, c2, c3, c4, c5, c6, c7⟩ := cells8 hy
          have hx6 : NRow wr gx 73 .i64 8 X.get := hx5.out.only hO (by omega)
          have hl6 : NRow wr gl 3 .i64 (16 * nb) (Sha.word P) := hl5.out.only hO (by omega)
          have hk6 : Ints wr gk 64 Sha.kk := fun i hi => hO.cell (hk5.out i hi) (by show gk ≠ gy; omega)
          have hbe6 : Below gx w wr := hO.below' hbe5.out (by omega) (by have := hx5.out.lt; omega)
          obtain ⟨d0, d1, d2, d3, d4, d5, d6, d7⟩ := cells8 hx6
          obtain ⟨Z, hZ⟩ : ∃ Z : Sha.Eight, Z = Sha.plus X Y := ⟨_, rfl⟩
          obtain ⟨l0, l1, l2, l3, l4, l5, l6, l7⟩ := hXok.out.lt
          obtain ⟨m0, m1, m2, m3, m4, m5, m6, m7⟩ := hYok.lt
          have z0 : (wrap64 ((X.a : Int) + (Y.a : Int))).tmod 4294967296 = (Z.a : Int) := by rw [hZ]; exact plus_w _ _ l0 m0
          have z1 : (wrap64 ((X.b : Int) + (Y.b : Int))).tmod 4294967296 = (Z.b : Int) := by rw [hZ]; exact plus_w _ _ l1 m1
          have z2 : (wrap64 ((X.c : Int) + (Y.c : Int))).tmod 4294967296 = (Z.c : Int) := by rw [hZ]; exact plus_w _ _ l2 m2
          have z3 : (wrap64 ((X.d : Int) + (Y.d : Int))).tmod 4294967296 = (Z.d : Int) := by rw [hZ]; exact plus_w _ _ l3 m3
          have z4 : (wrap64 ((X.e : Int) + (Y.e : Int))).tmod 4294967296 = (Z.e : Int) := by rw [hZ]; exact plus_w _ _ l4 m4
          have z5 : (wrap64 ((X.f : Int) + (Y.f : Int))).tmod 4294967296 = (Z.f : Int) := by rw [hZ]; exact plus_w _ _ l5 m5
          have z6 : (wrap64 ((X.g : Int) + (Y.g : Int))).tmod 4294967296 = (Z.g : Int) := by rw [hZ]; exact plus_w _ _ l6 m6
          have z7 : (wrap64 ((X.h : Int) + (Y.h : Int))).tmod 4294967296 = (Z.h : Int) := by rw [hZ]; exact plus_w _ _ l7 m7
          have hZm : Z = Sha.many Sha.init P (m + 1) := by
            rw [hZ, Sha.many, ← hX.out, Sha.comp, hY, Sha.st_eq (l := L) (m := Sha.word (fun i => P (64 * m + i))) X (fun i hi => by rw [word_part, hL.out])]
          have hxZ := (store8 Z hx6).eq (f' := (Sha.many Sha.init P (m + 1)).get) (fun i _ => by rw [← hZm])
          have hOx := (Only.refl gx wr).set8 (.int .i64 (Z.a : Int)) (.int .i64 (Z.b : Int)) (.int .i64 (Z.c : Int)) (.int .i64 (Z.d : Int)) (.int .i64 (Z.e : Int)) (.int .i64 (Z.f : Int)) (.int .i64 (Z.g : Int)) (.int .i64 (Z.h : Int))
          have hlZ := hl6.only hOx (by omega)
          have hkZ : Ints _ gk 64 Sha.kk := fun i hi => hOx.cell (hk6 i hi) (by show gk ≠ gx; omega)
          have hbZ := hOx.below' hbe6 (Nat.le_refl _) (Nat.le_of_lt hx6.lt)
          have fz := hx6.free
          have fz0 := fz 0
          have fz1 := fz 1
          have fz2 := fz 2
          have fz3 := fz 3
          have fz4 := fz 4
          have fz5 := fz 5
          have fz6 := fz 6
          have fz7 := fz 7
          replace hxZ := Lib.hid hxZ
          replace hlZ := Lib.hid hlZ
          replace hkZ := Lib.hid hkZ
          replace hbZ := Lib.hid hbZ
          replace hZ := Lib.hid hZ
          replace hY := Lib.hid hY
          replace hZm := Lib.hid hZm
          replace hYok := Lib.hid hYok
          clear hx6 hl6 hk6 hbe6 hOx fz hy hO l0 l1 l2 l3 l4 l5 l6 l7 m0 m1 m2 m3 m4 m5 m6 m7
          go_wp2
          go_roundw
          case rel => exact ⟨m + 1, by omega, by go_num, hxZ.out, hlZ.out, hkZ.out, hbZ.out⟩
          case measure => simp [intOf]; omega
    · obtain rfl : m = nb := by omega
      have hXs : X = Sha.sum s := by rw [hX, hP.out, hnb.out]; rfl
      obtain ⟨i0, hi, hz0, hz1, hz2⟩ := info_parts info_u8
      have hgx1 := hx.lt
      replace hXs := Lib.hid hXs
      replace hX := Lib.hid hX
      replace hXok := Lib.hid hXok
      replace hx := Lib.hid hx
      replace hbe := Lib.hid hbe
      clear hl hk hx3 hrow3 hbe3
      go_wp2_with (first
        | (at_make; refine wpList_make_row rfl _ _ 56 rfl 5 i0 .u8 Tryd.underlying56 hi hz0 hz1 _ _ _ _ 32 32 rfl rfl rfl rfl (by omega) (by rw [hz2]; omega) (by omega) ?_))
      intro w8 HO8 HB8 HS8
      obtain ⟨d0, d1, d2, d3, d4, d5, d6, d7⟩ := cells8 (hx.out.below HB8.out hgx1)
      have hbe8 : Below gx w w8 := below_trans' hbe.out (by omega) HB8.out
      obtain ⟨go, ego⟩ : ∃ go : Nat, go = wr.heap.size := ⟨_, rfl⟩
      rw [← ego] at HO8 HS8 hgx1 ⊢
      replace ego := Lib.hid ego
      replace hbe8 := Lib.hid hbe8
      clear HB8 hx hbe c0 c1 c2 c3 c4 c5 c6 c7
      go_wp2_with fail
      have hout9 := HO8.out.alloc (.cells #[.int .i64 (X.a : Int), .int .i64 (X.b : Int), .int .i64 (X.c : Int), .int .i64 (X.d : Int), .int .i64 (X.e : Int), .int .i64 (X.f : Int), .int .i64 (X.g : Int), .int .i64 (X.h : Int)] 3)
      have hbe9 := hbe8.out.alloc (by have := HS8.out; omega) (.cells #[.int .i64 (X.a : Int), .int .i64 (X.b : Int), .int .i64 (X.c : Int), .int .i64 (X.d : Int), .int .i64 (X.e : Int), .int .i64 (X.f : Int), .int .i64 (X.g : Int), .int .i64 (X.h : Int)] 3)
      have hxs9 := new8t w8 X 3
      have hs8 := HS8.out
      obtain ⟨gb, egb⟩ : ∃ gb : Nat, gb = w8.heap.size := ⟨_, rfl⟩
      rw [← egb] at hxs9 hs8
      simp only [← egb]
      generalize w8.alloc (.cells #[.int .i64 (X.a : Int), .int .i64 (X.b : Int), .int .i64 (X.c : Int), .int .i64 (X.d : Int), .int .i64 (X.e : Int), .int .i64 (X.f : Int), .int .i64 (X.g : Int), .int .i64 (X.h : Int)] 3) = w9 at hout9 hbe9 hxs9 ⊢
      replace hout9 := Lib.hid (hout9.eq (f' := outF X 0 0) (fun x _ => by unfold outF; rw [if_neg (by omega)]))
      replace hbe9 := Lib.hid hbe9
      replace hxs9 := Lib.hid hxs9
      clear egb hbe8 HS8 HO8 d0 d1 d2 d3 d4 d5 d6 d7
      go_loopw [113] (fun v113 wr => ∃ i : Nat, i ≤ 8 ∧ v113 = .int .i64 (i : Int) ∧ NRow wr go 5 .u8 32 (outF X i 0) ∧ NRow wr gb 3 .i64 8 X.get ∧ Below gx w wr) (fun v113 _ => 8 - (intOf v113).toNat)
      case atStart => exact ⟨0, by omega, rfl, hout9.out, hxs9.out, hbe9.out⟩
      case round =>
        obtain ⟨i, hi8, rfl, hro, hrb, hb⟩ := hrel
        by_cases hil : i < 8
        · have hcb := hrb.cell i hil
          obtain ⟨y, hy⟩ : ∃ y : Nat, y = X.get i := ⟨_, rfl⟩
          rw [← hy] at hcb
          have hyl : y < 4294967296 := by rw [hy]; exact hXok.out i
          have hil' : (i : Int) < 8 := by omega
          replace hro := Lib.hid hro
          replace hrb := Lib.hid hrb
          replace hb := Lib.hid hb
          replace hy := Lib.hid hy
          go_wp2_with fail
          obtain ⟨wo, rfl⟩ : ∃ wo : World, wo = wr := ⟨_, rfl⟩
          go_loopw [12, 13] (fun v12 v13 wr => ∃ (q z : Nat) (jj : Int), q ≤ 4 ∧ z = y / 256 ^ q ∧ jj = 3 - (q : Int) ∧ v12 = .int .i64 (z : Int) ∧ v13 = .int .i64 jj ∧ NRow wr go 5 .u8 32 (outF X i q) ∧ NRow wr gb 3 .i64 8 X.get ∧ Below gx w wr) (fun _ v13 _ => (intOf v13 + 1).toNat)
          case atStart => exact ⟨0, y, 3, by omega, by simp, by omega, rfl, rfl, hro.out, hrb.out, hb.out⟩
          case round =>
            obtain ⟨q, z, jj, hq, hz, hjj, rfl, rfl, hrq, hrbq, hbq⟩ := hrel
            by_cases hq4 : q < 4
            · obtain ⟨p, rfl⟩ : ∃ p : Nat, jj = (p : Int) := ⟨jj.toNat, by omega⟩
              have hpq : p + q = 3 := by omega
              obtain ⟨r, hr⟩ : ∃ r : Nat, r = 4 * i + p := ⟨_, rfl⟩
              have er : 4 * (i : Int) + (p : Int) = (r : Int) := by omega
              have hr32 : r < 32 := by omega
              have hr32' : (r : Int) < 32 := by omega
              have hr0 : (0 : Int) ≤ (r : Int) := by omega
              have hpp : (0 : Int) ≤ (p : Int) := by omega
              have hp3 : p ≤ 3 := by omega
              have hcl := hrq.cell r hr32
              have hfz := hrq.free r
              generalize outF X i q r = old at hcl
              have hzb : z ≤ y := by rw [hz]; exact Nat.div_le_self _ _
              obtain ⟨v, hv⟩ : ∃ v : Nat, v = z % 256 := ⟨_, rfl⟩
              have hv0 : (z : Int).tmod 256 = (v : Int) := by rw [Int.tmod_eq_emod_of_nonneg (by omega)]; omega
              have hv2 : v < 256 := by omega
              have hv1 : IntKind.u8.wrap (v : Int) = (v : Int) := by simp [IntKind.wrap, IntKind.signed, IntKind.bits]; omega
              have hset := (hrq.set r v hr32).eq (f' := outF X i (q + 1)) (fun x _ => by rw [hr]; exact outF_set X i q p x v hpq (by rw [hv, hz, hy.out]))
              have hrb' := hrbq.other ⟨go, r, none⟩ (.int .u8 (v : Int)) (by show gb ≠ go; omega)
              have hb' := hbq.setCell (p := ⟨go, r, none⟩) (by show gx ≤ go; omega) (.int .u8 (v : Int))
              have hzz : z / 256 = y / 256 ^ (q + 1) := by rw [hz, Nat.div_div_eq_div_mul, Nat.pow_succ]
              replace hset := Lib.hid hset
              replace hrb' := Lib.hid hrb'
              replace hb' := Lib.hid hb'
              replace hz := Lib.hid hz
              replace hzz := Lib.hid hzz
              replace hv := Lib.hid hv
              replace hjj := Lib.hid hjj
              replace hpq := Lib.hid hpq
              replace hr := Lib.hid hr
              clear hrq hrbq hbq
              go_wp2
              go_roundw
              case rel => exact ⟨q + 1, z / 256, (p : Int) - 1, by omega, hzz.out, by have := hjj.out; omega, by go_num, by go_num, hset.out, hrb'.out, hb'.out⟩
              case measure => simp [intOf]
            · obtain rfl : q = 4 := by omega
              have hro4 := hrq.eq (f' := outF X (i + 1) 0) (fun x _ => outF_next X i x)
              replace hro4 := Lib.hid hro4
              replace hrbq := Lib.hid hrbq
              replace hbq := Lib.hid hbq
              replace hz := Lib.hid hz
              replace hjj := Lib.hid hjj
              have hj0 : jj < 0 := by have := hjj.out; omega
              clear hrq
              go_wp2
              go_roundw
              case rel => exact ⟨i + 1, by omega, by go_num, hro4.out, hrbq.out, hbq.out⟩
              case measure => simp [intOf]; omega
        · obtain rfl : i = 8 := by omega
          have hcv := hro.string (c := 32) Tryd.underlying56 Tryd.underlying5 Tryd.underlying9 (by decide)
          rw [outF_outs, hXs.out] at hcv
          replace hcv : (convert 56 9 (.slice (some ⟨go, 0, none⟩) 32 32)).run Tryd.prog wr = .ok (.string (Sha.hash s)) wr := hcv
          replace hb := Lib.hid hb
          clear hro hrb
          go_wp2
          go_ret
          exact ⟨rfl, by rw [← egx.out]; exact hb.out⟩
end Go.Proofs.YtmlfheagbfaoaaaDoor
