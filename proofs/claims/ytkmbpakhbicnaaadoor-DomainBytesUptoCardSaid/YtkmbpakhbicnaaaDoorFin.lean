/- The walk of the hash's Sum. -/
import Derived.Test.YtkmbpakhbicnaaaDoorWrite
import Derived.Test.YtkmbpakhbicnaaaDoorNRow
namespace Go.Proofs.YtkmbpakhbicnaaaDoor
open Go.RowKit Go.Proofs.YtkmbpakhbicnaaaDoorW.PrintWords Go.Proofs.YtkmbpakhbicnaaaDoorW.PrintMore Go.Lib

/-- What the last blocks hold, when the text's rest and 128 lie there; and when j bytes of how many bits do. -/
def lastB (rest : ByteArray) (x : Nat) : Nat := if x < rest.size then Sha.by8 rest x else if x = rest.size then 128 else 0
def lastN (rest : ByteArray) (z K j x : Nat) : Nat := if 64 * K ≤ x + j ∧ x < 64 * K then z / 256 ^ (64 * K - 1 - x) % 256 else lastB rest x
theorem lastN_zero (rest : ByteArray) (z K x : Nat) : lastN rest z K 0 x = lastB rest x := if_neg (by omega)
theorem lastN_set (rest : ByteArray) (z K j p x : Nat) (hp : p + j + 1 = 64 * K) : (if x = p then z / 256 ^ j % 256 else lastN rest z K j x) = lastN rest z K (j + 1) x := by
  unfold lastN
  by_cases e : x = p
  · rw [if_pos e, if_pos (by omega), show 64 * K - 1 - x = j by omega]
  · rw [if_neg e]
    by_cases h : 64 * K ≤ x + j ∧ x < 64 * K
    · rw [if_pos h, if_pos (by omega)]
    · rw [if_neg h, if_neg (by omega)]
theorem div_pow_zero {z j e : Nat} (h : z / 256 ^ j = 0) (he : j ≤ e) : z / 256 ^ e = 0 := by
  rw [Nat.div_eq_zero_iff] at h ⊢
  rcases h with h | h
  · exact absurd h (Nat.ne_of_gt (Nat.pow_pos (by decide)))
  · exact .inr (Nat.lt_of_lt_of_le h (Nat.pow_le_pow_right (by decide) he))
theorem lastN_end (s rest : ByteArray) (K j x : Nat) (hsz : rest.size + 64 * (s.size / 64) = s.size) (hby : ∀ i, i < rest.size → Sha.by8 rest i = Sha.by8 s (64 * (s.size / 64) + i))
    (hK : K = (rest.size + 1 + 8 + 63) / 64) (hz : 8 * s.size / 256 ^ j = 0) (hj : j ≤ 7) (hx : x < 64 * K) :
    lastN rest (8 * s.size) K j x = Sha.padded s (64 * (s.size / 64) + x) := by
  have hb : 64 * Sha.blocks s.size - 1 - (64 * (s.size / 64) + x) = 64 * K - 1 - x := by unfold Sha.blocks; omega
  unfold lastN lastB Sha.padded
  rw [hb]
  by_cases h : 64 * K ≤ x + j ∧ x < 64 * K
  · have e1 : ¬ 64 * (s.size / 64) + x < s.size := by omega
    have e2 : ¬ 64 * (s.size / 64) + x = s.size := by omega
    rw [if_pos h, if_neg e1, if_neg e2]
  · rw [if_neg h]
    by_cases h1 : x < rest.size
    · have e1 : 64 * (s.size / 64) + x < s.size := by omega
      rw [if_pos h1, if_pos e1]
      exact hby x h1
    · have e1 : ¬ 64 * (s.size / 64) + x < s.size := by omega
      by_cases h2 : x = rest.size
      · have e2 : 64 * (s.size / 64) + x = s.size := by omega
        rw [if_neg h1, if_pos h2, if_neg e1, if_pos e2]
      · have e2 : ¬ 64 * (s.size / 64) + x = s.size := by omega
        rw [if_neg h1, if_neg h2, if_neg e1, if_neg e2, div_pow_zero hz (by omega)]
theorem z_small (n : Nat) (hn : n ≤ 140737488355264) : 8 * n / 256 ^ 7 = 0 := Nat.div_eq_of_lt (by omega)
theorem padded_lt (s : ByteArray) (x : Nat) : Sha.padded s x < 256 := by
  unfold Sha.padded
  split
  · exact Sha.by8_lt s x
  · split
    · decide
    · exact Nat.mod_lt _ (by decide)
/-- The last blocks on top of the whole ones are the sum. -/
theorem sum_split (s : ByteArray) (K : Nat) (hK : 64 * (s.size / 64) + 64 * K = 64 * Sha.blocks s.size) :
    Sha.many (Sha.many Sha.init (Sha.by8 s) (s.size / 64)) (fun x => Sha.padded s (64 * (s.size / 64) + x)) K = Sha.sum s := by
  rw [Sha.sum, show Sha.blocks s.size = s.size / 64 + K by omega, Sha.many_add]
  congr 1
  exact Sha.many_eq _ _ (fun i hi => by rw [Sha.padded, if_pos (by omega)])
/-- A byte of the answer. -/
def outB (x : Sha.Eight) (i : Nat) : Nat := x.get (i / 4) / 256 ^ (3 - i % 4) % 256
theorem out_step {w : World} {go : Nat} {t : TypeId} {Y : Sha.Eight} {i : Nat} (h : NRow w go t .u8 32 (fun x => if x < i then outB Y x else 0)) (hi : i < 32) (z : Int) (hz : z = (outB Y i : Int)) :
    NRow (w.setCell ⟨go, i, none⟩ (.int .u8 z)) go t .u8 32 (fun x => if x < i + 1 then outB Y x else 0) := by
  subst hz
  refine (h.set i (outB Y i) hi).eq (fun x _ => ?_)
  by_cases e : x = i
  · rw [if_pos e, if_pos (by omega), e]
  · rw [if_neg e]
    by_cases hx : x < i
    · rw [if_pos hx, if_pos (by omega)]
    · rw [if_neg hx, if_neg (by omega)]
/-- string(b[:]) of a row of bytes. -/
theorem NRow.string {P : Program} {w : World} {g n c : Nat} {t src dst e : TypeId} {f : Nat → Nat} (h : NRow w g t .u8 n f) (hs : P.underlying src = some (.slice e)) (he : P.underlying e = some (.int .u8)) (hd : P.underlying dst = some .string) (hn : n ≤ 9223372036854775807) :
    (convert src dst (.slice (some ⟨g, 0, none⟩) n c)).run P w = .ok (.string ⟨((List.range n).map fun i => UInt8.ofNat (f i)).toArray⟩) w := by
  have hC : (Kd.int .u8).C w (some ⟨g, 0, none⟩) n ((List.range n).map fun i => (f i : Int)) := by
    refine ⟨by simp, by simpa using hn, fun _ => ⟨_, rfl, ?_⟩⟩
    intro j p hp
    have hj : j < n := by simpa using (List.getElem?_eq_some_iff.1 hp).1
    rw [List.getElem?_map, List.getElem?_range hj] at hp
    obtain rfl := Option.some.inj hp
    refine ⟨[.int .u8 (f j : Int)], rfl, rfl, ?_⟩
    intro i u hu
    match i, hu with
    | 0, hu =>
      simp at hu
      subst hu
      rw [show (⟨g, 0, none⟩ : Addr).add (j * (Kd.int .u8).sz + 0) = ⟨g, j, none⟩ by rw [add_at]; simp [Kd.int, Kd.scalar]]
      exact h.cell j hj
  rw [Kd.C_string hs he hd hC]
  refine congrArg (fun z => Result.ok (Value.string z) w) ?_
  apply Go.WideShapes.bytes_inj
  simp [strOfNums, List.map_map, Function.comp_def]
theorem outs_eq (Y : Sha.Eight) : (List.range 32).map (fun i => UInt8.ofNat (if i < 32 then outB Y i else 0)) = Sha.outs Y := by
  unfold Sha.outs
  refine List.map_congr_left (fun i hi => ?_)
  rw [if_pos (List.mem_range.1 hi), outB]
  exact UInt8.toNat_inj.1 (by simp)
/-- How long a slice is. -/
def lenOf : Value → Nat
  | .slice _ n _ => n
  | _ => 0
theorem copy_u8 : (Tryd.prog.info? 5).map (·.size) = some 1 := by kernel_rfl
set_option maxHeartbeats 4000000 in
set_option maxRecDepth 100000 in
theorem hsum_any (w : World) (B g : Nat) (s : ByteArray) (hT : Tab w) (h : HashAt w B g s) (hs : s.size ≤ 140737488355264) :
    Calls Tryd.prog 25 #[.pointer (some ⟨g, 0, none⟩)] w fun e w' => e = .returned (.string (Sha.hash s)) ∧ Below w.heap.size w w' := by
  obtain ⟨⟨rv, rest, hg, hb, hsz, hby⟩, hge⟩ := h
  obtain ⟨A, c, rfl, hc⟩ := hb.slice
  have hgs := (Array.getElem?_eq_some_iff.1 hg).1
  have c8 : w.cell? ⟨g, 8, none⟩ = some (.slice A rest.size c) := Go.Joins.cell_of_block hg 8
  have hr64 : rest.size < 64 := by omega
  obtain ⟨i0, hi, hz0, hz1, hz2⟩ := info_parts info_u8
  have hsrc : 0 < rest.size → ∃ ad, A = some ad ∧ ∀ j, j < rest.size → w.cell? (ad.add j) = some (.int .u8 (Sha.by8 rest j : Int)) := fun hp => by
    obtain ⟨gr, off, cap, hv, _, _, hcells⟩ := hb.big hp
    injection hv with hv _ _
    exact ⟨_, hv, fun j hj => by rw [add_at]; exact hcells j hj⟩
  have HG := Lib.hid hg
  have HB := Lib.hid hb
  have HBY := Lib.hid hby
  have HT := Lib.hid hT
  have HSRC := Lib.hid hsrc
  clear hg hb hby hT hsrc
  go_enter Tryd.func25, Tryd.ntmps25
  go_wp2_with (first
    | (at_make; refine wpList_make_row rfl _ _ 67 rfl 5 i0 .u8 Tryd.underlying67 hi hz0 hz1 _ _ _ _ rest.size 128 rfl rfl rfl rfl (by omega) (by rw [hz2]; decide) (by decide) ?_))
  intro w1 HR1 HB1 HS1
  have c81 : w1.cell? ⟨g, 8, none⟩ = some (.slice A rest.size c) := pw_cell_below HB1.out c8
  have hsrc1 : 0 < rest.size → ∃ ad, A = some ad ∧ ∀ j, j < rest.size → w1.cell? (ad.add j) = some (.int .u8 (Sha.by8 rest j : Int)) := fun hp => by
    obtain ⟨ad, h1, h2⟩ := HSRC.out hp
    exact ⟨ad, h1, fun j hj => pw_cell_below HB1.out (h2 j hj)⟩
  obtain ⟨gl, egl⟩ : ∃ gl : Nat, gl = w.heap.size := ⟨_, rfl⟩
  rw [← egl] at HR1 HS1 ⊢
  have xgl : g ≠ gl := by omega
  replace egl := Lib.hid egl
  replace hsrc1 := Lib.hid hsrc1
  go_wp2_with (with_reducible refine wpList_copy_row (o := ⟨some 22, _, _, _, _, _⟩) rfl (.tmp 17) (.tmp 21) 67 67 rfl 5 Tryd.underlying67 copy_u8 gl 0 rest.size 128 rfl A rest.size c rfl 5 .u8 128 _ HR1.out rest.size (Nat.min_self _).symm (Sha.by8 rest) hsrc1.out (by omega) ?_)
  intro w2 HR2 HO2
  have hw1 : IntKind.i64.wrap ((rest.size : Int) + 1) = (rest.size : Int) + 1 := by rw [IntKind.wrap_i64]; omega
  go_wp2_with (first
    | (at_builtin; refine wpList_append_row rfl (.tmp 23) (.tmp 24) 67 rfl 5 i0 Tryd.underlying67 hi hz1 gl rest.size 128 rfl ⟨w2.heap.size, 0, none⟩ 1 rfl .u8 128 _ (HR2.out.alloc _) 128 (Go.Joins.cell_of_block (heap_alloc_new w2 _) 0) (by omega) (by omega) ?_))
  intro w3 HR3 HO3
  have hb3 : Below w.heap.size w w3 := HO3.out.below' ((HO2.out.below' HB1.out (by rw [egl.out]; exact Nat.le_refl _) HB1.out.size).alloc (by have := HB1.out.size; have := HO2.out.size; omega) _) (by rw [egl.out]; exact Nat.le_refl _) (by have := HB1.out.size; have := HO2.out.size; simp; omega)
  have c93 : w3.cell? ⟨g, 9, none⟩ = some (.int .i64 (s.size : Int)) := pw_cell_below hb3 (Go.Joins.cell_of_block HG.out 9)
  go_wp2_with fail
  obtain ⟨K, hK⟩ : ∃ K : Nat, K = (rest.size + 1 + 8 + 63) / 64 := ⟨_, rfl⟩
  rw [← hK]
  have hK1 : 1 ≤ K := by omega
  have hK2 : K ≤ 2 := by omega
  have hwl : IntKind.i64.wrap (64 * (K : Int) - 1) = 64 * (K : Int) - 1 := by rw [IntKind.wrap_i64]; omega
  have hu1 : IntKind.u64.wrap (s.size : Int) = (s.size : Int) := by simp [IntKind.wrap, IntKind.signed, IntKind.bits]; omega
  replace hK := Lib.hid hK
  replace hb3 := Lib.hid hb3
  clear hw1 HB1 HR1 HO2 HR2 HS1 hsrc1 HSRC
  go_quiet (fail)
  go_wp2
  have hr3 : NRow (w3.drewN nq) gl 5 .u8 128 (lastN rest (8 * s.size) K 0) := HR3.out.eq (fun i _ => by
    rw [lastN_zero]
    unfold lastB
    by_cases e : i = rest.size
    · rw [if_pos e, if_neg (by omega), if_pos e]
    · rw [if_neg e]
      by_cases h : i < rest.size
      · rw [if_pos h, if_pos h]
      · rw [if_neg h, if_neg h, if_neg e])
  have hb3' := pw_below_drewN hb3.out nq
  generalize w3.drewN nq = w4 at hr3 hb3' ⊢
  replace hr3 := Lib.hid hr3
  replace hb3' := Lib.hid hb3'
  clear HR3 HO3 c93 hwl hu1 hb3 c81 c8
  go_loopw [4, 5] (fun v4 v5 wr => ∃ (j z : Nat) (i : Int), z = 8 * s.size / 256 ^ j ∧ j ≤ 7 ∧ i = 64 * (K : Int) - 1 - (j : Int) ∧ v4 = .int .i64 i ∧ v5 = .int .u64 (z : Int) ∧
    NRow wr gl 5 .u8 128 (lastN rest (8 * s.size) K j) ∧ Below w.heap.size w wr) (fun _ v5 _ => (intOf v5).toNat)
  case atStart => exact ⟨0, 8 * s.size, 64 * (K : Int) - 1, by simp, by omega, by omega, rfl, by congr 1; omega, hr3.out, hb3'.out⟩
  case round =>
    obtain ⟨j, z, i, hz, hj, hi', rfl, rfl, hrow, hbe⟩ := hrel
    by_cases h0 : 0 < z
    · have hj7 : j < 7 := by
        rcases Nat.lt_or_ge j 7 with h | h
        · exact h
        · have : j = 7 := by omega
          rw [this, z_small s.size hs] at hz
          omega
      obtain ⟨p, rfl⟩ : ∃ p : Nat, i = (p : Int) := ⟨i.toNat, by omega⟩
      have hp : p + j + 1 = 64 * K := by omega
      have hp1 : p < 64 * K := by omega
      have hp128 : p < 128 := by omega
      have hfz := hrow.free p
      have hzz : z / 256 = 8 * s.size / 256 ^ (j + 1) := by rw [hz, Nat.div_div_eq_div_mul, Nat.pow_succ]
      obtain ⟨v, hv⟩ : ∃ v : Nat, v = z % 256 := ⟨_, rfl⟩
      have hv1 : IntKind.u8.wrap (z : Int) = (v : Int) := by rw [hv]; simp [IntKind.wrap, IntKind.signed, IntKind.bits]
      have hset := (hrow.set p v hp128).eq (f' := lastN rest (8 * s.size) K (j + 1)) (fun x _ => by
        rw [hv, hz]
        exact lastN_set rest (8 * s.size) K j p x hp)
      have hcl := hrow.cell p hp128
      generalize lastN rest (8 * s.size) K j p = old at hcl
      replace hz := Lib.hid hz
      replace hzz := Lib.hid hzz
      replace hi' := Lib.hid hi'
      replace hp := Lib.hid hp
      replace hv := Lib.hid hv
      replace hset := Lib.hid hset
      replace hbe := Lib.hid hbe
      clear hrow
      go_wp2
      go_roundw
      case rel => exact ⟨j + 1, z / 256, (p : Int) - 1, hzz.out, by omega, by have := hi'.out; omega, by go_num, by go_num, hset.out, hbe.out.setCell (by rw [egl.out]; exact Nat.le_refl _) _⟩
      case measure => simp [intOf]; omega
    · obtain rfl : z = 0 := by omega
      have hend := hrow.eq (f' := fun x => if x < 64 * K then Sha.padded s (64 * (s.size / 64) + x) else lastN rest (8 * s.size) K j x) (fun x _ => by
        by_cases h : x < 64 * K
        · rw [if_pos h]
          exact lastN_end s rest K j x hsz HBY.out hK.out hz.symm hj h
        · rw [if_neg h])
      have hgr := (hbe.block g hgs).trans HG.out
      obtain ⟨X, hX⟩ : ∃ X : Sha.Eight, X = Sha.many Sha.init (Sha.by8 s) (s.size / 64) := ⟨_, rfl⟩
      rw [← hX] at hgr
      have g0 : wr.cell? ⟨g, 0, none⟩ = some (.int .u32 (X.a : Int)) := Go.Joins.cell_of_block hgr 0
      have g1 : wr.cell? ⟨g, 1, none⟩ = some (.int .u32 (X.b : Int)) := Go.Joins.cell_of_block hgr 1
      have g2 : wr.cell? ⟨g, 2, none⟩ = some (.int .u32 (X.c : Int)) := Go.Joins.cell_of_block hgr 2
      have g3 : wr.cell? ⟨g, 3, none⟩ = some (.int .u32 (X.d : Int)) := Go.Joins.cell_of_block hgr 3
      have g4 : wr.cell? ⟨g, 4, none⟩ = some (.int .u32 (X.e : Int)) := Go.Joins.cell_of_block hgr 4
      have g5 : wr.cell? ⟨g, 5, none⟩ = some (.int .u32 (X.f : Int)) := Go.Joins.cell_of_block hgr 5
      have g6 : wr.cell? ⟨g, 6, none⟩ = some (.int .u32 (X.g : Int)) := Go.Joins.cell_of_block hgr 6
      have g7 : wr.cell? ⟨g, 7, none⟩ = some (.int .u32 (X.h : Int)) := Go.Joins.cell_of_block hgr 7
      replace hX := Lib.hid hX
      replace hgr := Lib.hid hgr
      replace hend := Lib.hid hend
      replace hbe := Lib.hid hbe
      replace hz := Lib.hid hz
      replace hi' := Lib.hid hi'
      clear hrow
      go_wp2_with fail
      have hge2 : (wr.alloc (.cells #[.int .u32 (X.a : Int), .int .u32 (X.b : Int), .int .u32 (X.c : Int), .int .u32 (X.d : Int), .int .u32 (X.e : Int), .int .u32 (X.f : Int), .int .u32 (X.g : Int), .int .u32 (X.h : Int), .slice none 0 0, .int .i64 0] 71)).heap[wr.heap.size]? = some (.cells (hashCells X (.slice none 0 0) 0) 71 (0, 0)) := heap_alloc_new wr _
      have hrow2 := hend.out.alloc (.cells #[.int .u32 (X.a : Int), .int .u32 (X.b : Int), .int .u32 (X.c : Int), .int .u32 (X.d : Int), .int .u32 (X.e : Int), .int .u32 (X.f : Int), .int .u32 (X.g : Int), .int .u32 (X.h : Int), .slice none 0 0, .int .i64 0] 71)
      have hbe2 := hbe.out.alloc hbe.out.size (.cells #[.int .u32 (X.a : Int), .int .u32 (X.b : Int), .int .u32 (X.c : Int), .int .u32 (X.d : Int), .int .u32 (X.e : Int), .int .u32 (X.f : Int), .int .u32 (X.g : Int), .int .u32 (X.h : Int), .slice none 0 0, .int .i64 0] 71)
      have xge : gl < wr.heap.size := hend.out.lt
      have hwge := hbe.out.size
      obtain ⟨ge, ege⟩ : ∃ ge : Nat, ge = wr.heap.size := ⟨_, rfl⟩
      rw [← ege] at hge2 xge hwge
      simp only [← ege]
      generalize wr.alloc (.cells #[.int .u32 (X.a : Int), .int .u32 (X.b : Int), .int .u32 (X.c : Int), .int .u32 (X.d : Int), .int .u32 (X.e : Int), .int .u32 (X.f : Int), .int .u32 (X.g : Int), .int .u32 (X.h : Int), .slice none 0 0, .int .i64 0] 71) = w5 at hge2 hrow2 hbe2 ⊢
      have hXok : X.ok := by rw [hX.out]; exact Sha.many_ok Sha.init_ok _ _
      obtain ⟨P, hP⟩ : ∃ P : Nat → Nat, P = fun x => Sha.padded s (64 * (s.size / 64) + x) := ⟨_, rfl⟩
      have hrow3 : ∃ f, NRow w5 gl 5 .u8 128 f ∧ ∀ x, x < 64 * K → f x = P x := ⟨_, hrow2, fun x hx => by rw [if_pos hx, hP]⟩
      have hPlt : ∀ x, P x < 256 := fun x => by rw [hP]; exact padded_lt s _
      obtain ⟨f, hrow3, hf⟩ := hrow3
      replace hge2 := Lib.hid hge2
      replace hrow3 := Lib.hid hrow3
      replace hbe2 := Lib.hid hbe2
      replace hP := Lib.hid hP
      replace hf := Lib.hid hf
      replace hPlt := Lib.hid hPlt
      replace hXok := Lib.hid hXok
      clear g0 g1 g2 g3 g4 g5 g6 g7 hgr hend hbe hrow2 ege
      go_loopw [3] (fun v3 wr2 => ∃ m o n : Nat, m ≤ K ∧ v3 = .slice (some ⟨gl, o, none⟩) n (128 - 64 * m) ∧ n = 64 * (K - m) ∧ (m < K → o = 64 * m) ∧
        wr2.heap[ge]? = some (.cells (hashCells (Sha.many X P m) (.slice none 0 0) 0) 71 (0, 0)) ∧ NRow wr2 gl 5 .u8 128 f ∧ Below w.heap.size w wr2) (fun v3 _ => lenOf v3)
      case atStart => exact ⟨0, 0, 64 * K, by omega, rfl, by omega, fun _ => rfl, hge2.out, hrow3.out, hbe2.out⟩
      case round =>
        obtain ⟨m, o, n, hm, rfl, hn, ho, hgm, hrm, hbm⟩ := hrel
        by_cases hmk : m < K
        · have ho' := ho hmk
          subst ho'
          have hlt := hrm.lt
          have hTm := HT.out.below hbm
          have hcells : ∀ i, i < 64 → wr.cell? ⟨gl, 64 * m + i, none⟩ = some (.int .u8 (P (64 * m + i) : Int)) := fun i hi => by
            rw [hrm.cell _ (by omega), hf.out _ (by omega)]
          have hblk := Lib.hid (block_any wr ge gl (64 * m) (128 - 64 * m) (Sha.many X P m) (.slice none 0 0) 0 (fun i => P (64 * m + i)) (Sha.many_ok hXok.out _ m) hTm hgm (fun i => hPlt.out _) hcells)
          have hgelt := (Array.getElem?_eq_some_iff.1 hgm).1
          replace hgm := Lib.hid hgm
          replace hrm := Lib.hid hrm
          replace hbm := Lib.hid hbm
          have hn64 : 64 ≤ n := by omega
          replace hn := Lib.hid hn
          clear hcells hTm ho
          obtain rfl | rfl : m = 0 ∨ m = 1 := by omega
          · go_wp2_with fail
            refine hblk.out.mono ?_
            rintro e w6 ⟨rfl, hO6, hg6⟩
            have hstep : NRow w6 gl 5 .u8 128 f ∧ Below w.heap.size w w6 := ⟨hrm.out.only hO6 (by omega), hO6.below' hbm.out hwge hbm.out.size⟩
            replace hstep := Lib.hid hstep
            replace hg6 := Lib.hid hg6
            clear hO6
            go_wp2
            go_roundw
            case rel => (repeat apply Exists.intro); exact ⟨⟨1, 64, n - 64, by omega, by go_num, by have := hn.out; omega, fun _ => rfl, hg6.out, hstep.out⟩, rfl⟩
            case measure => simp [lenOf]; omega
          · go_wp2_with fail
            refine hblk.out.mono ?_
            rintro e w6 ⟨rfl, hO6, hg6⟩
            have hstep : NRow w6 gl 5 .u8 128 f ∧ Below w.heap.size w w6 := ⟨hrm.out.only hO6 (by omega), hO6.below' hbm.out hwge hbm.out.size⟩
            replace hstep := Lib.hid hstep
            replace hg6 := Lib.hid hg6
            clear hO6
            go_wp2
            go_roundw
            case rel => (repeat apply Exists.intro); exact ⟨⟨2, 64, n - 64, by omega, by go_num, by have := hn.out; omega, fun h => by omega, hg6.out, hstep.out⟩, rfl⟩
            case measure => simp [lenOf]; omega
        · obtain rfl : m = K := by omega
          obtain rfl : n = 0 := by omega
          obtain ⟨Y, hY⟩ : ∃ Y : Sha.Eight, Y = Sha.many X P m := ⟨_, rfl⟩
          rw [← hY] at hgm
          have hgelt := (Array.getElem?_eq_some_iff.1 hgm).1
          have hbsz := hbm.size
          have hYs : Y = Sha.sum s := by
            rw [hY, hX.out, hP.out]
            exact sum_split s m (by have := hK.out; unfold Sha.blocks; omega)
          replace hY := Lib.hid hY
          replace hYs := Lib.hid hYs
          replace hgm := Lib.hid hgm
          replace hbm := Lib.hid hbm
          clear hrm ho hn
          go_wp2_with fail
          have hout0 : NRow (wr.alloc (.cells #[.int .u8 0, .int .u8 0, .int .u8 0, .int .u8 0, .int .u8 0, .int .u8 0, .int .u8 0, .int .u8 0, .int .u8 0, .int .u8 0, .int .u8 0, .int .u8 0, .int .u8 0, .int .u8 0, .int .u8 0, .int .u8 0, .int .u8 0, .int .u8 0, .int .u8 0, .int .u8 0, .int .u8 0, .int .u8 0, .int .u8 0, .int .u8 0, .int .u8 0, .int .u8 0, .int .u8 0, .int .u8 0, .int .u8 0, .int .u8 0, .int .u8 0, .int .u8 0] 74)) wr.heap.size 74 .u8 32 (fun _ => 0) :=
            ⟨_, heap_alloc_new wr _, rfl, fun i hi => by
              show (Array.replicate 32 (Value.int .u8 0))[i]? = _
              rw [Array.getElem?_replicate, if_pos hi]
              rfl⟩
          have hbo := hbm.out.alloc hbm.out.size (.cells #[.int .u8 0, .int .u8 0, .int .u8 0, .int .u8 0, .int .u8 0, .int .u8 0, .int .u8 0, .int .u8 0, .int .u8 0, .int .u8 0, .int .u8 0, .int .u8 0, .int .u8 0, .int .u8 0, .int .u8 0, .int .u8 0, .int .u8 0, .int .u8 0, .int .u8 0, .int .u8 0, .int .u8 0, .int .u8 0, .int .u8 0, .int .u8 0, .int .u8 0, .int .u8 0, .int .u8 0, .int .u8 0, .int .u8 0, .int .u8 0, .int .u8 0, .int .u8 0] 74)
          have hgo := (heap_alloc_old wr (.cells #[.int .u8 0, .int .u8 0, .int .u8 0, .int .u8 0, .int .u8 0, .int .u8 0, .int .u8 0, .int .u8 0, .int .u8 0, .int .u8 0, .int .u8 0, .int .u8 0, .int .u8 0, .int .u8 0, .int .u8 0, .int .u8 0, .int .u8 0, .int .u8 0, .int .u8 0, .int .u8 0, .int .u8 0, .int .u8 0, .int .u8 0, .int .u8 0, .int .u8 0, .int .u8 0, .int .u8 0, .int .u8 0, .int .u8 0, .int .u8 0, .int .u8 0, .int .u8 0] 74) hgelt).trans hgm.out
          obtain ⟨go, ego⟩ : ∃ go : Nat, go = wr.heap.size := ⟨_, rfl⟩
          rw [← ego] at hout0 hgelt hbsz
          simp only [← ego]
          generalize wr.alloc (.cells #[.int .u8 0, .int .u8 0, .int .u8 0, .int .u8 0, .int .u8 0, .int .u8 0, .int .u8 0, .int .u8 0, .int .u8 0, .int .u8 0, .int .u8 0, .int .u8 0, .int .u8 0, .int .u8 0, .int .u8 0, .int .u8 0, .int .u8 0, .int .u8 0, .int .u8 0, .int .u8 0, .int .u8 0, .int .u8 0, .int .u8 0, .int .u8 0, .int .u8 0, .int .u8 0, .int .u8 0, .int .u8 0, .int .u8 0, .int .u8 0, .int .u8 0, .int .u8 0] 74) = w7 at hout0 hbo hgo ⊢
          replace hout0 := Lib.hid (hout0.eq (f' := fun x => if x < 0 then outB Y x else 0) (fun x _ => (if_neg (Nat.not_lt_zero x)).symm))
          replace hbo := Lib.hid hbo
          replace hgo := Lib.hid hgo
          clear hgm hbm ego
          go_loopw [67] (fun v67 wr3 => ∃ i : Nat, i ≤ 32 ∧ v67 = .int .i64 (i : Int) ∧ NRow wr3 go 74 .u8 32 (fun x => if x < i then outB Y x else 0) ∧
            wr3.heap[ge]? = some (.cells (hashCells Y (.slice none 0 0) 0) 71 (0, 0)) ∧ Below w.heap.size w wr3) (fun v67 _ => 32 - (intOf v67).toNat)
          case atStart => exact ⟨0, by omega, rfl, hout0.out, hgo.out, hbo.out⟩
          case round =>
            obtain ⟨i, hi32, rfl, hro, hgY, hbY⟩ := hrel
            by_cases hil : i < 32
            · obtain ⟨j, hj⟩ : ∃ j : Nat, j = i / 4 := ⟨_, rfl⟩
              have hj8 : j < 8 := by omega
              have e1 : (i : Int).tdiv 4 = (j : Int) := by rw [Int.tdiv_eq_ediv_of_nonneg (by omega)]; omega
              obtain ⟨y, hy⟩ : ∃ y : Nat, y = Y.get j := ⟨_, rfl⟩
              have hcj : wr.cell? ⟨ge, j, none⟩ = some (.int .u32 (y : Int)) := by rw [hy]; exact (HArr.of hgY).cell j hj8
              have m0 : (0 : Int) ≤ (j : Int) := by omega
              have m1 : (j : Int) < 8 := by omega
              have hfz := hro.free i
              have hci := hro.cell i hil
              simp only [Nat.lt_irrefl, if_false] at hci
              replace hj := Lib.hid hj
              replace hy := Lib.hid hy
              replace hro := Lib.hid hro
              replace hgY := Lib.hid hgY
              replace hbY := Lib.hid hbY
              obtain e | e | e | e : i % 4 = 0 ∨ i % 4 = 1 ∨ i % 4 = 2 ∨ i % 4 = 3 := by omega
              · have e2 : (i : Int).tmod 4 = 0 := by rw [Int.tmod_eq_emod_of_nonneg (by omega)]; omega
                have hv : (outB Y i : Int) = (y : Int) / 16777216 % 256 := by
                  rw [outB, ← hj.out, ← hy.out, e]
                  show ((y / 16777216 % 256 : Nat) : Int) = _
                  omega
                replace hv := Lib.hid hv
                replace e := Lib.hid e
                go_wp2
                go_roundw
                case rel => exact ⟨i + 1, by omega, by go_num, out_step hro.out hil _ (by rw [hv.out]; try omega), (Below.heap_setCell wr ⟨go, i, none⟩ _ ge (by show ge ≠ go; omega)).trans hgY.out, hbY.out.setCell hbsz _⟩
                case measure => simp [intOf]; omega
              · have e2 : (i : Int).tmod 4 = 1 := by rw [Int.tmod_eq_emod_of_nonneg (by omega)]; omega
                have hv : (outB Y i : Int) = (y : Int) / 65536 % 256 := by
                  rw [outB, ← hj.out, ← hy.out, e]
                  show ((y / 65536 % 256 : Nat) : Int) = _
                  omega
                replace hv := Lib.hid hv
                replace e := Lib.hid e
                go_wp2
                go_roundw
                case rel => exact ⟨i + 1, by omega, by go_num, out_step hro.out hil _ (by rw [hv.out]; try omega), (Below.heap_setCell wr ⟨go, i, none⟩ _ ge (by show ge ≠ go; omega)).trans hgY.out, hbY.out.setCell hbsz _⟩
                case measure => simp [intOf]; omega
              · have e2 : (i : Int).tmod 4 = 2 := by rw [Int.tmod_eq_emod_of_nonneg (by omega)]; omega
                have hv : (outB Y i : Int) = (y : Int) / 256 % 256 := by
                  rw [outB, ← hj.out, ← hy.out, e]
                  show ((y / 256 % 256 : Nat) : Int) = _
                  omega
                replace hv := Lib.hid hv
                replace e := Lib.hid e
                go_wp2
                go_roundw
                case rel => exact ⟨i + 1, by omega, by go_num, out_step hro.out hil _ (by rw [hv.out]; try omega), (Below.heap_setCell wr ⟨go, i, none⟩ _ ge (by show ge ≠ go; omega)).trans hgY.out, hbY.out.setCell hbsz _⟩
                case measure => simp [intOf]; omega
              · have e2 : (i : Int).tmod 4 = 3 := by rw [Int.tmod_eq_emod_of_nonneg (by omega)]; omega
                have hv : (outB Y i : Int) = (y : Int) / 1 % 256 := by
                  rw [outB, ← hj.out, ← hy.out, e]
                  show ((y / 1 % 256 : Nat) : Int) = _
                  omega
                replace hv := Lib.hid hv
                replace e := Lib.hid e
                go_wp2
                go_roundw
                case rel => exact ⟨i + 1, by omega, by go_num, out_step hro.out hil _ (by rw [hv.out]; try omega), (Below.heap_setCell wr ⟨go, i, none⟩ _ ge (by show ge ≠ go; omega)).trans hgY.out, hbY.out.setCell hbsz _⟩
                case measure => simp [intOf]; omega
            · obtain rfl : i = 32 := by omega
              have hcv := hro.string (c := 32) Tryd.underlying67 Tryd.underlying5 Tryd.underlying9 (by decide)
              rw [outs_eq, hYs.out] at hcv
              replace hcv : (convert 67 9 (.slice (some ⟨go, 0, none⟩) 32 32)).run Tryd.prog wr = .ok (.string (Sha.hash s)) wr := hcv
              replace hbY := Lib.hid hbY
              clear hro
              go_wp2
              go_ret
              exact ⟨rfl, hbY.out⟩
end Go.Proofs.YtkmbpakhbicnaaaDoor
