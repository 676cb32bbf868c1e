/- The reference's Reduce, walked.
Reduce by the order of the group: the reference's and the program's.
field.Scalars: the field of the scalars.
field.Scalars, closed. -/
import Derived.Test.YtkmbpakhbicnaaaDoorLnB
namespace Go.Proofs.YtkmbpakhbicnaaaDoor
open Go.RowKit Go.Proofs.YtkmbpakhbicnaaaDoorW.PrintWords Go.Lib
namespace Lm
theorem cell_field {W : World} {R : Nat} {v0 v1 v2 v3 v4 v5 v6 v7 : Value} {ty : TypeId} (h : W.heap[R]? = some (.cells #[v0, v1, v2, v3, v4, v5, v6, v7] ty (0, 0))) :
    (W.cell? ⟨R, 0, none⟩ = some v0 ∧ W.cell? ⟨R, 1, none⟩ = some v1 ∧ W.cell? ⟨R, 2, none⟩ = some v2 ∧ W.cell? ⟨R, 3, none⟩ = some v3) ∧ (W.cell? ⟨R, 4, none⟩ = some v4 ∧ W.cell? ⟨R, 5, none⟩ = some v5 ∧ W.cell? ⟨R, 6, none⟩ = some v6 ∧ W.cell? ⟨R, 7, none⟩ = some v7) :=
  ⟨⟨Go.Joins.cell_of_block h 0, Go.Joins.cell_of_block h 1, Go.Joins.cell_of_block h 2, Go.Joins.cell_of_block h 3⟩, Go.Joins.cell_of_block h 4, Go.Joins.cell_of_block h 5, Go.Joins.cell_of_block h 6, Go.Joins.cell_of_block h 7⟩
set_option maxRecDepth 100000 in
set_option maxHeartbeats 8000000 in
theorem rreduce_gen (w : World) (q c W : Nat) (bd : Nat → Nat) (hq0 : 0 < q) (hq : q < B4) (hc : c < B4) (hW : W < bd 0)
    (H1 : ∀ i N, i < 4 → N < bd i → N % B4 + c * (N / B4) < bd (i + 1)) (H2 : ∀ N, (N % B4 + c * (N / B4)) % q = N % q)
    (H3 : ∀ i N, N < bd i → N < B8) (H4 : ∀ N, N < bd 4 → N / B4 = 0)
    (HP : ∀ N P, N < B8 → P = c * (N / B4) → P < B8 ∧ (N % B4 + P % B4) % B4 = (N % B4 + P) % B4 ∧ P / B4 + (N % B4 + P % B4) / B4 = (N % B4 + P) / B4 ∧ (N % B4 + P % B4) / B4 ≤ 1 ∧ P / B4 + 1 < B4 ∧ N % B4 + P < B8) :
    Calls Tryd.prog 32 #[fieldL (lm q) (lm c), wideV W] w fun e w' => e = .returned (numV (W % q)) ∧ Below w.heap.size w w' := by
  have st0 := RS.start w q c W
  replace st0 := Lib.hid st0
  replace H1 := Lib.hid H1
  replace H2 := Lib.hid H2
  replace H3 := Lib.hid H3
  replace H4 := Lib.hid H4
  replace HP := Lib.hid HP
  replace hW := Lib.hid hW
  replace hq0 := Lib.hid hq0
  replace hq := Lib.hid hq
  replace hc := Lib.hid hc
  go_enter Tryd.func32, Tryd.ntmps32
  go_wp2_with fail
  go_loopg [7] 4 (fun gk v7 wr => ∃ i N : Nat, i ≤ 4 ∧ gk = 4 - i ∧ v7 = .int .i64 (i : Int) ∧ N % q = W % q ∧ N < bd i ∧ RS w wr q c (N % B4) (N / B4))
  case atStart => exact ⟨0, W, by omega, rfl, rfl, rfl, hW.out, st0.out⟩
  case round =>
    clear st0
    obtain ⟨i, N, hi4, hgi, rfl, hN, hNb, hS⟩ := hrel
    have q1 : (i : Int) < 8 := by omega
    have hN8 := H3.out i N hNb
    have hhi4 : N / B4 < B4 := by simp only [B4, B8] at *; omega
    have hlo4 : N % B4 < B4 := Nat.mod_lt _ (by decide)
    obtain ⟨hi, hhi⟩ : ∃ h, h = N / B4 := ⟨_, rfl⟩
    obtain ⟨lo, hlo⟩ : ∃ h, h = N % B4 := ⟨_, rfl⟩
    rw [← hhi] at hhi4
    rw [← hlo] at hlo4
    rw [← hhi, ← hlo] at hS
    obtain ⟨y0, y1, y2, y3⟩ := cell4 hS.hi
    replace hgi := Lib.hid hgi
    replace hN := Lib.hid hN
    replace hlo := Lib.hid hlo
    replace hhi := Lib.hid hhi
    replace hNb := Lib.hid hNb
    replace hN8 := Lib.hid hN8
    replace hS := Lib.hid hS
    by_cases h0 : hi = 0
    · have z0 : ∀ k, lm 0 k = 0 := fun k => by rw [lm_eq]; simp
      rw [h0, z0] at y0 y1 y2 y3
      clear z0
      go_wp2_with fail
      clear y0 y1 y2 y3
      go_loopg [89] lo (fun gk v89 wz => ∃ x : Nat, x < B4 ∧ gk = x ∧ x % q = W % q ∧ RS w wz q c x hi)
      case atStart => exact ⟨lo, hlo4, rfl, by have e := Nat.div_add_mod N B4; rw [← hhi.out, ← hlo.out, h0, Nat.mul_zero, Nat.zero_add] at e; rw [e]; exact hN.out, hS.out⟩
      case round =>
        clear hS
        obtain ⟨x, hx4, hgx, hxq, hT⟩ := hrel
        have C := fun X => less_any X (lm x) (lm q)
        rw [lessN hx4 hq.out] at C
        obtain ⟨x0, x1, x2, x3⟩ := cell4 hT.lo
        obtain ⟨⟨f0, f1, f2, f3⟩, -⟩ := cell_field hT.f
        replace hT := Lib.hid hT
        replace C := Lib.hid C
        replace hx4 := Lib.hid hx4
        replace hxq := Lib.hid hxq
        replace hgx := Lib.hid hgx
        go_wp2_with fail
        refine (C.out _).mono ?_
        rintro e w2 ⟨rfl, hb2⟩
        have T2 := hT.out.move hb2
        clear x0 x1 x2 x3 f0 f1 f2 f3
        obtain ⟨x0, x1, x2, x3⟩ := cell4 T2.lo
        obtain ⟨l0, l1, l2, l3⟩ := free4 T2.lo
        obtain ⟨⟨f0, f1, f2, f3⟩, -⟩ := cell_field T2.f
        by_cases hxl : x < q
        · have d : decide (x < q) = true := by simp [hxl]
          have hxe : x = W % q := by rw [← hxq.out, Nat.mod_eq_of_lt hxl]
          obtain ⟨y0, y1, y2, y3⟩ := cell4 T2.z
          obtain ⟨z0, z1, z2, z3⟩ := free4 T2.z
          obtain ⟨p0, p1, p2, p3⟩ := cell4 (four_set T2.z rfl (u (lm x 0)) (u (lm x 1)) (u (lm x 2)) (u (lm x 3)))
          have hB := below_four T2.below (w.heap.size + 1 + 1) (by omega) (u (lm x 0)) (u (lm x 1)) (u (lm x 2)) (u (lm x 3))
          replace hB := Lib.hid hB
          replace T2 := Lib.hid T2
          replace hb2 := Lib.hid hb2
          replace hxe := Lib.hid hxe
          rw [d]
          clear d
          go_wp2
          refine bodyPost_ret (v := numV x) (by simp [results, Tryd.results32, go_sem, p0, p1, p2, p3]) rfl ⟨by rw [hxe.out], hB.out⟩
        · have d : decide (x < q) = false := by simp [hxl]
          have C2 := fun X => rminus_any X (lm x) (lm q)
          rw [(subN hx4.out hq.out).1] at C2
          have he : (x + B4 - q) % B4 = x - q := by
            have := hx4.out
            have := hq.out
            rw [show x + B4 - q = (x - q) + B4 by omega, Nat.add_mod_right, Nat.mod_eq_of_lt (by omega)]
          rw [he] at C2
          have hm' : (x - q) % q = W % q := by rw [← hxq.out, Nat.mod_eq_sub_mod (Nat.le_of_not_lt hxl)]
          have hx5 : x - q < B4 := by have := hx4.out; omega
          have hx6 : x - q < x := by have := hq0.out; omega
          obtain ⟨x', hx'⟩ : ∃ x', x' = x - q := ⟨_, rfl⟩
          rw [← hx'] at C2 hm' hx5 hx6
          replace C2 := Lib.hid C2
          replace T2 := Lib.hid T2
          replace hb2 := Lib.hid hb2
          replace hm' := Lib.hid hm'
          replace hx5 := Lib.hid hx5
          replace hx6 := Lib.hid hx6
          replace he := Lib.hid he
          replace hx' := Lib.hid hx'
          rw [d]
          clear d
          go_wp2_with fail
          refine (C2.out _).mono ?_
          rintro e w3 ⟨rfl, hb3⟩
          have T3 := T2.out.move hb3
          clear x0 x1 x2 x3 f0 f1 f2 f3 l0 l1 l2 l3
          obtain ⟨x0, x1, x2, x3⟩ := cell4 T3.lo
          obtain ⟨l0, l1, l2, l3⟩ := free4 T3.lo
          have T4 := T3.putlo x'
          replace T3 := Lib.hid T3
          replace T4 := Lib.hid T4
          replace hb3 := Lib.hid hb3
          go_wp2
          go_roundg x'
          case measure => rw [hgx.out]; exact hx6.out
          case rel => exact ⟨x', hx5.out, rfl, hm'.out, T4.out⟩
    · have hlt : i < 4 := by
        rcases Nat.lt_or_ge i 4 with h | h
        · exact h
        · exfalso
          have h4 : i = 4 := by omega
          rw [h4] at hNb
          exact h0 (hhi.out.trans (H4.out N hNb.out))
      obtain ⟨P, hP⟩ : ∃ P, P = c * hi := ⟨_, rfl⟩
      have hp := HP.out N P hN8.out (by rw [hP, hhi.out])
      rw [← hlo.out] at hp
      obtain ⟨hP8, e1, e2, e3, e4, e5⟩ := hp
      have C1 := fun X => times_any X c hi hc.out hhi4
      rw [← hP] at C1
      have hNb' := H1.out i N hlt hNb.out
      have hN' := (H2.out N).trans hN.out
      rw [← hlo.out, ← hhi.out, ← hP] at hNb' hN'
      have hPm : P % B4 < B4 := Nat.mod_lt _ (by decide)
      have C2 := fun X => rplus_any X (lm lo) (lm (P % B4)) (fun i => lm_lt i _) (fun i => lm_lt i _)
      rw [(addN hlo4 hPm).1, (addN hlo4 hPm).2, show numL (lm (P % B4)) = numL (lm P) from (lm_mod4 P).symm, e1] at C2
      obtain ⟨N', hNN⟩ : ∃ N', N' = lo + P := ⟨_, rfl⟩
      rw [← hNN] at hNb' hN' C2 e2 e5
      obtain ⟨lo', hlo'⟩ : ∃ x, x = N' % B4 := ⟨_, rfl⟩
      rw [← hlo'] at C2
      obtain ⟨ov, hov⟩ : ∃ x, x = (lo + P % B4) / B4 := ⟨_, rfl⟩
      rw [← hov] at C2 e2 e3
      obtain ⟨a0, ha0⟩ : ∃ x, x = lm hi 0 := ⟨_, rfl⟩
      obtain ⟨a1, ha1⟩ : ∃ x, x = lm hi 1 := ⟨_, rfl⟩
      obtain ⟨a2, ha2⟩ : ∃ x, x = lm hi 2 := ⟨_, rfl⟩
      obtain ⟨a3, ha3⟩ : ∃ x, x = lm hi 3 := ⟨_, rfl⟩
      have hz : a0 = 0 → a1 = 0 → a2 = 0 → a3 = 0 → False := fun h0' h1 h2 h3 => by
        have := limbs_zero hhi4
        rw [← ha0, ← ha1, ← ha2, ← ha3, h0', h1, h2, h3] at this
        simp [h0] at this
      have eH : numV hi = .agg #[u a0, u a1, u a2, u a3] := by rw [ha0, ha1, ha2, ha3]
      rw [eH] at C1
      rw [← ha0] at y0
      rw [← ha1] at y1
      rw [← ha2] at y2
      rw [← ha3] at y3
      have F := cell_field hS.out.f
      obtain ⟨-, f4, f5, f6, f7⟩ := F
      replace C1 := Lib.hid C1
      replace hz := Lib.hid hz
      replace hP := Lib.hid hP
      replace hP8 := Lib.hid hP8
      replace e1 := Lib.hid e1
      replace e4 := Lib.hid e4
      replace e5 := Lib.hid e5
      replace hPm := Lib.hid hPm
      replace hNb' := Lib.hid hNb'
      replace hN' := Lib.hid hN'
      replace hNN := Lib.hid hNN
      replace hlo' := Lib.hid hlo'
      replace hov := Lib.hid hov
      replace hhi4 := Lib.hid hhi4
      replace hlo4 := Lib.hid hlo4
      clear ha0 ha1 ha2 ha3 eH h0
      rcases (show ov = 0 ∨ ov = 1 by omega) with hv | hv
      · subst hv
        have hhi' : P / B4 = N' / B4 := e2
        replace C2 := Lib.hid C2
        replace hhi' := Lib.hid hhi'
        clear e2 e3
        by_cases g0 : a0 = 0
        · subst g0
          by_cases g1 : a1 = 0
          · subst g1
            by_cases g2 : a2 = 0
            · subst g2
              by_cases g3 : a3 = 0
              · exact (hz.out rfl rfl rfl g3).elim
              · have nz : ((a3 : Int) == 0) = false := by simp [g3]
                go_wp2_with fail
                refine (C1.out _).mono ?_
                rintro e w2 ⟨rfl, hb2⟩
                have S2 := hS.out.move hb2
                have lt2 := (Array.getElem?_eq_some_iff.1 S2.hi).1
                have ba := (Below.refl _ w2).alloc (Nat.le_refl _) (.cells (eight (lm P)) 64)
                have S3 := S2.move ba
                have P3 : (w2.alloc (.cells (eight (lm P)) 64)).heap[w2.heap.size]? = some (.cells (eight (lm P)) 64 (0, 0)) := heap_alloc_new w2 _
                clear y0 y1 y2 y3
                obtain ⟨x0, x1, x2, x3⟩ := cell4 S3.lo
                obtain ⟨⟨p0, p1, p2, p3⟩, -⟩ := cell_field P3
                replace ba := Lib.hid ba
                replace S2 := Lib.hid S2
                replace S3 := Lib.hid S3
                replace P3 := Lib.hid P3
                replace hb2 := Lib.hid hb2
                replace lt2 := Lib.hid lt2
                go_wp2_with fail
                refine (C2.out _).mono ?_
                rintro e w4 ⟨rfl, hb4⟩
                clear x0 x1 x2 x3 p0 p1 p2 p3
                have bb := (Below.refl _ w4).alloc (Nat.le_refl _) (.cells #[u (lm lo' 0), u (lm lo' 1), u (lm lo' 2), u (lm lo' 3)] 38)
                have S5 := (S3.out.move hb4).move bb
                have P4 := (hb4.block _ (Array.getElem?_eq_some_iff.1 P3.out).1).trans P3.out
                have P5 := (bb.block _ (Array.getElem?_eq_some_iff.1 P4).1).trans P4
                have s5 : (w4.alloc (.cells #[u (lm lo' 0), u (lm lo' 1), u (lm lo' 2), u (lm lo' 3)] 38)).heap[w4.heap.size]? = some (.cells #[u (lm lo' 0), u (lm lo' 1), u (lm lo' 2), u (lm lo' 3)] 38 (0, 0)) := heap_alloc_new w4 _
                have P6 := (four_far (w4.alloc (.cells #[u (lm lo' 0), u (lm lo' 1), u (lm lo' 2), u (lm lo' 3)] 38)) (w.heap.size + 1 + 1 + 1) (u (lm lo' 0)) (u (lm lo' 1)) (u (lm lo' 2)) (u (lm lo' 3)) w2.heap.size (by have := lt2.out; omega)).trans P5
                have S6 := S5.putlo lo'
                have S7 := S6.puthi (P / B4)
                rw [lm_high, lm_high, lm_high, lm_high] at S7
                obtain ⟨s0, s1, s2, s3⟩ := cell4 s5
                obtain ⟨l0, l1, l2, l3⟩ := free4 S5.lo
                obtain ⟨m0, m1, m2, m3⟩ := cell4 S5.lo
                obtain ⟨-, p4, p5, p6, p7⟩ := cell_field P6
                obtain ⟨r0, r1, r2, r3⟩ := free4 S6.hi
                obtain ⟨o0, o1, o2, o3⟩ := cell4 S6.hi
                replace S5 := Lib.hid S5
                replace S6 := Lib.hid S6
                replace S7 := Lib.hid S7
                replace P4 := Lib.hid P4
                replace P5 := Lib.hid P5
                replace P6 := Lib.hid P6
                replace s5 := Lib.hid s5
                replace bb := Lib.hid bb
                replace hb4 := Lib.hid hb4
                go_wp2
                go_roundg (4 - (i + 1))
                case measure => have := hgi.out; omega
                case rel => exact ⟨i + 1, N', by omega, rfl, by go_num, hN'.out, hNb'.out, by rw [← hlo'.out, ← hhi'.out]; exact S7.out⟩
            · have nz : ((a2 : Int) == 0) = false := by simp [g2]
              go_wp2_with fail
              refine (C1.out _).mono ?_
              rintro e w2 ⟨rfl, hb2⟩
              have S2 := hS.out.move hb2
              have lt2 := (Array.getElem?_eq_some_iff.1 S2.hi).1
              have ba := (Below.refl _ w2).alloc (Nat.le_refl _) (.cells (eight (lm P)) 64)
              have S3 := S2.move ba
              have P3 : (w2.alloc (.cells (eight (lm P)) 64)).heap[w2.heap.size]? = some (.cells (eight (lm P)) 64 (0, 0)) := heap_alloc_new w2 _
              clear y0 y1 y2 y3
              obtain ⟨x0, x1, x2, x3⟩ := cell4 S3.lo
              obtain ⟨⟨p0, p1, p2, p3⟩, -⟩ := cell_field P3
              replace ba := Lib.hid ba
              replace S2 := Lib.hid S2
              replace S3 := Lib.hid S3
              replace P3 := Lib.hid P3
              replace hb2 := Lib.hid hb2
              replace lt2 := Lib.hid lt2
              go_wp2_with fail
              refine (C2.out _).mono ?_
              rintro e w4 ⟨rfl, hb4⟩
              clear x0 x1 x2 x3 p0 p1 p2 p3
              have bb := (Below.refl _ w4).alloc (Nat.le_refl _) (.cells #[u (lm lo' 0), u (lm lo' 1), u (lm lo' 2), u (lm lo' 3)] 38)
              have S5 := (S3.out.move hb4).move bb
              have P4 := (hb4.block _ (Array.getElem?_eq_some_iff.1 P3.out).1).trans P3.out
              have P5 := (bb.block _ (Array.getElem?_eq_some_iff.1 P4).1).trans P4
              have s5 : (w4.alloc (.cells #[u (lm lo' 0), u (lm lo' 1), u (lm lo' 2), u (lm lo' 3)] 38)).heap[w4.heap.size]? = some (.cells #[u (lm lo' 0), u (lm lo' 1), u (lm lo' 2), u (lm lo' 3)] 38 (0, 0)) := heap_alloc_new w4 _
              have P6 := (four_far (w4.alloc (.cells #[u (lm lo' 0), u (lm lo' 1), u (lm lo' 2), u (lm lo' 3)] 38)) (w.heap.size + 1 + 1 + 1) (u (lm lo' 0)) (u (lm lo' 1)) (u (lm lo' 2)) (u (lm lo' 3)) w2.heap.size (by have := lt2.out; omega)).trans P5
              have S6 := S5.putlo lo'
              have S7 := S6.puthi (P / B4)
              rw [lm_high, lm_high, lm_high, lm_high] at S7
              obtain ⟨s0, s1, s2, s3⟩ := cell4 s5
              obtain ⟨l0, l1, l2, l3⟩ := free4 S5.lo
              obtain ⟨m0, m1, m2, m3⟩ := cell4 S5.lo
              obtain ⟨-, p4, p5, p6, p7⟩ := cell_field P6
              obtain ⟨r0, r1, r2, r3⟩ := free4 S6.hi
              obtain ⟨o0, o1, o2, o3⟩ := cell4 S6.hi
              replace S5 := Lib.hid S5
              replace S6 := Lib.hid S6
              replace S7 := Lib.hid S7
              replace P4 := Lib.hid P4
              replace P5 := Lib.hid P5
              replace P6 := Lib.hid P6
              replace s5 := Lib.hid s5
              replace bb := Lib.hid bb
              replace hb4 := Lib.hid hb4
              go_wp2
              go_roundg (4 - (i + 1))
              case measure => have := hgi.out; omega
              case rel => exact ⟨i + 1, N', by omega, rfl, by go_num, hN'.out, hNb'.out, by rw [← hlo'.out, ← hhi'.out]; exact S7.out⟩
          · have nz : ((a1 : Int) == 0) = false := by simp [g1]
            go_wp2_with fail
            refine (C1.out _).mono ?_
            rintro e w2 ⟨rfl, hb2⟩
            have S2 := hS.out.move hb2
            have lt2 := (Array.getElem?_eq_some_iff.1 S2.hi).1
            have ba := (Below.refl _ w2).alloc (Nat.le_refl _) (.cells (eight (lm P)) 64)
            have S3 := S2.move ba
            have P3 : (w2.alloc (.cells (eight (lm P)) 64)).heap[w2.heap.size]? = some (.cells (eight (lm P)) 64 (0, 0)) := heap_alloc_new w2 _
            clear y0 y1 y2 y3
            obtain ⟨x0, x1, x2, x3⟩ := cell4 S3.lo
            obtain ⟨⟨p0, p1, p2, p3⟩, -⟩ := cell_field P3
            replace ba := Lib.hid ba
            replace S2 := Lib.hid S2
            replace S3 := Lib.hid S3
            replace P3 := Lib.hid P3
            replace hb2 := Lib.hid hb2
            replace lt2 := Lib.hid lt2
            go_wp2_with fail
            refine (C2.out _).mono ?_
            rintro e w4 ⟨rfl, hb4⟩
            clear x0 x1 x2 x3 p0 p1 p2 p3
            have bb := (Below.refl _ w4).alloc (Nat.le_refl _) (.cells #[u (lm lo' 0), u (lm lo' 1), u (lm lo' 2), u (lm lo' 3)] 38)
            have S5 := (S3.out.move hb4).move bb
            have P4 := (hb4.block _ (Array.getElem?_eq_some_iff.1 P3.out).1).trans P3.out
            have P5 := (bb.block _ (Array.getElem?_eq_some_iff.1 P4).1).trans P4
            have s5 : (w4.alloc (.cells #[u (lm lo' 0), u (lm lo' 1), u (lm lo' 2), u (lm lo' 3)] 38)).heap[w4.heap.size]? = some (.cells #[u (lm lo' 0), u (lm lo' 1), u (lm lo' 2), u (lm lo' 3)] 38 (0, 0)) := heap_alloc_new w4 _
            have P6 := (four_far (w4.alloc (.cells #[u (lm lo' 0), u (lm lo' 1), u (lm lo' 2), u (lm lo' 3)] 38)) (w.heap.size + 1 + 1 + 1) (u (lm lo' 0)) (u (lm lo' 1)) (u (lm lo' 2)) (u (lm lo' 3)) w2.heap.size (by have := lt2.out; omega)).trans P5
            have S6 := S5.putlo lo'
            have S7 := S6.puthi (P / B4)
            rw [lm_high, lm_high, lm_high, lm_high] at S7
            obtain ⟨s0, s1, s2, s3⟩ := cell4 s5
            obtain ⟨l0, l1, l2, l3⟩ := free4 S5.lo
            obtain ⟨m0, m1, m2, m3⟩ := cell4 S5.lo
            obtain ⟨-, p4, p5, p6, p7⟩ := cell_field P6
            obtain ⟨r0, r1, r2, r3⟩ := free4 S6.hi
            obtain ⟨o0, o1, o2, o3⟩ := cell4 S6.hi
            replace S5 := Lib.hid S5
            replace S6 := Lib.hid S6
            replace S7 := Lib.hid S7
            replace P4 := Lib.hid P4
            replace P5 := Lib.hid P5
            replace P6 := Lib.hid P6
            replace s5 := Lib.hid s5
            replace bb := Lib.hid bb
            replace hb4 := Lib.hid hb4
            go_wp2
            go_roundg (4 - (i + 1))
            case measure => have := hgi.out; omega
            case rel => exact ⟨i + 1, N', by omega, rfl, by go_num, hN'.out, hNb'.out, by rw [← hlo'.out, ← hhi'.out]; exact S7.out⟩
        · have nz : ((a0 : Int) == 0) = false := by simp [g0]
          go_wp2_with fail
          refine (C1.out _).mono ?_
          rintro e w2 ⟨rfl, hb2⟩
          have S2 := hS.out.move hb2
          have lt2 := (Array.getElem?_eq_some_iff.1 S2.hi).1
          have ba := (Below.refl _ w2).alloc (Nat.le_refl _) (.cells (eight (lm P)) 64)
          have S3 := S2.move ba
          have P3 : (w2.alloc (.cells (eight (lm P)) 64)).heap[w2.heap.size]? = some (.cells (eight (lm P)) 64 (0, 0)) := heap_alloc_new w2 _
          clear y0 y1 y2 y3
          obtain ⟨x0, x1, x2, x3⟩ := cell4 S3.lo
          obtain ⟨⟨p0, p1, p2, p3⟩, -⟩ := cell_field P3
          replace ba := Lib.hid ba
          replace S2 := Lib.hid S2
          replace S3 := Lib.hid S3
          replace P3 := Lib.hid P3
          replace hb2 := Lib.hid hb2
          replace lt2 := Lib.hid lt2
          go_wp2_with fail
          refine (C2.out _).mono ?_
          rintro e w4 ⟨rfl, hb4⟩
          clear x0 x1 x2 x3 p0 p1 p2 p3
          have bb := (Below.refl _ w4).alloc (Nat.le_refl _) (.cells #[u (lm lo' 0), u (lm lo' 1), u (lm lo' 2), u (lm lo' 3)] 38)
          have S5 := (S3.out.move hb4).move bb
          have P4 := (hb4.block _ (Array.getElem?_eq_some_iff.1 P3.out).1).trans P3.out
          have P5 := (bb.block _ (Array.getElem?_eq_some_iff.1 P4).1).trans P4
          have s5 : (w4.alloc (.cells #[u (lm lo' 0), u (lm lo' 1), u (lm lo' 2), u (lm lo' 3)] 38)).heap[w4.heap.size]? = some (.cells #[u (lm lo' 0), u (lm lo' 1), u (lm lo' 2), u (lm lo' 3)] 38 (0, 0)) := heap_alloc_new w4 _
          have P6 := (four_far (w4.alloc (.cells #[u (lm lo' 0), u (lm lo' 1), u (lm lo' 2), u (lm lo' 3)] 38)) (w.heap.size + 1 + 1 + 1) (u (lm lo' 0)) (u (lm lo' 1)) (u (lm lo' 2)) (u (lm lo' 3)) w2.heap.size (by have := lt2.out; omega)).trans P5
          have S6 := S5.putlo lo'
          have S7 := S6.puthi (P / B4)
          rw [lm_high, lm_high, lm_high, lm_high] at S7
          obtain ⟨s0, s1, s2, s3⟩ := cell4 s5
          obtain ⟨l0, l1, l2, l3⟩ := free4 S5.lo
          obtain ⟨m0, m1, m2, m3⟩ := cell4 S5.lo
          obtain ⟨-, p4, p5, p6, p7⟩ := cell_field P6
          obtain ⟨r0, r1, r2, r3⟩ := free4 S6.hi
          obtain ⟨o0, o1, o2, o3⟩ := cell4 S6.hi
          replace S5 := Lib.hid S5
          replace S6 := Lib.hid S6
          replace S7 := Lib.hid S7
          replace P4 := Lib.hid P4
          replace P5 := Lib.hid P5
          replace P6 := Lib.hid P6
          replace s5 := Lib.hid s5
          replace bb := Lib.hid bb
          replace hb4 := Lib.hid hb4
          go_wp2
          go_roundg (4 - (i + 1))
          case measure => have := hgi.out; omega
          case rel => exact ⟨i + 1, N', by omega, rfl, by go_num, hN'.out, hNb'.out, by rw [← hlo'.out, ← hhi'.out]; exact S7.out⟩
      · subst hv
        obtain ⟨hi', hhi'⟩ : ∃ x, x = N' / B4 := ⟨_, rfl⟩
        rw [← hhi'] at e2
        have h14 : (1 : Nat) < B4 := by decide
        have C3 := fun X => rplus_any X (lm (P / B4)) (lm 1) (fun i => lm_lt i _) (fun i => lm_lt i _)
        have hp4 : P / B4 < B4 := Nat.lt_trans (Nat.lt_succ_self _) e4.out
        rw [(addN hp4 h14).1, (addN hp4 h14).2, Nat.mod_eq_of_lt e4.out, Nat.div_eq_of_lt e4.out, e2] at C3
        have e6 : numL (lm (P / B4)) = .agg #[u (lm P 4), u (lm P 5), u (lm P 6), u (lm P 7)] := by
          simp only [numL]
          rw [lm_high, lm_high, lm_high, lm_high]
        rw [e6, show numL (lm 1) = .agg #[.int .u64 1, .int .u64 0, .int .u64 0, .int .u64 0] by simp [lm]] at C3
        replace C2 := Lib.hid C2
        replace C3 := Lib.hid C3
        replace hhi' := Lib.hid hhi'
        replace hp4 := Lib.hid hp4
        clear e2 e3 e6 h14
        by_cases g0 : a0 = 0
        · subst g0
          by_cases g1 : a1 = 0
          · subst g1
            by_cases g2 : a2 = 0
            · subst g2
              by_cases g3 : a3 = 0
              · exact (hz.out rfl rfl rfl g3).elim
              · have nz : ((a3 : Int) == 0) = false := by simp [g3]
                go_wp2_with fail
                refine (C1.out _).mono ?_
                rintro e w2 ⟨rfl, hb2⟩
                have S2 := hS.out.move hb2
                have lt2 := (Array.getElem?_eq_some_iff.1 S2.hi).1
                have ba := (Below.refl _ w2).alloc (Nat.le_refl _) (.cells (eight (lm P)) 64)
                have S3 := S2.move ba
                have P3 : (w2.alloc (.cells (eight (lm P)) 64)).heap[w2.heap.size]? = some (.cells (eight (lm P)) 64 (0, 0)) := heap_alloc_new w2 _
                clear y0 y1 y2 y3
                obtain ⟨x0, x1, x2, x3⟩ := cell4 S3.lo
                obtain ⟨⟨p0, p1, p2, p3⟩, -⟩ := cell_field P3
                replace ba := Lib.hid ba
                replace S2 := Lib.hid S2
                replace S3 := Lib.hid S3
                replace P3 := Lib.hid P3
                replace hb2 := Lib.hid hb2
                replace lt2 := Lib.hid lt2
                go_wp2_with fail
                refine (C2.out _).mono ?_
                rintro e w4 ⟨rfl, hb4⟩
                clear x0 x1 x2 x3 p0 p1 p2 p3
                have bb := (Below.refl _ w4).alloc (Nat.le_refl _) (.cells #[u (lm lo' 0), u (lm lo' 1), u (lm lo' 2), u (lm lo' 3)] 38)
                have S5 := (S3.out.move hb4).move bb
                have P4 := (hb4.block _ (Array.getElem?_eq_some_iff.1 P3.out).1).trans P3.out
                have P5 := (bb.block _ (Array.getElem?_eq_some_iff.1 P4).1).trans P4
                have s5 : (w4.alloc (.cells #[u (lm lo' 0), u (lm lo' 1), u (lm lo' 2), u (lm lo' 3)] 38)).heap[w4.heap.size]? = some (.cells #[u (lm lo' 0), u (lm lo' 1), u (lm lo' 2), u (lm lo' 3)] 38 (0, 0)) := heap_alloc_new w4 _
                have P6 := (four_far (w4.alloc (.cells #[u (lm lo' 0), u (lm lo' 1), u (lm lo' 2), u (lm lo' 3)] 38)) (w.heap.size + 1 + 1 + 1) (u (lm lo' 0)) (u (lm lo' 1)) (u (lm lo' 2)) (u (lm lo' 3)) w2.heap.size (by have := lt2.out; omega)).trans P5
                have S6 := S5.putlo lo'
                have S7 := S6.puthi (P / B4)
                rw [lm_high, lm_high, lm_high, lm_high] at S7
                obtain ⟨s0, s1, s2, s3⟩ := cell4 s5
                obtain ⟨l0, l1, l2, l3⟩ := free4 S5.lo
                obtain ⟨m0, m1, m2, m3⟩ := cell4 S5.lo
                obtain ⟨-, p4, p5, p6, p7⟩ := cell_field P6
                obtain ⟨r0, r1, r2, r3⟩ := free4 S6.hi
                obtain ⟨o0, o1, o2, o3⟩ := cell4 S6.hi
                have hP := S7.hi
                rw [lm_high, lm_high, lm_high, lm_high] at hP
                obtain ⟨t0, t1, t2, t3⟩ := cell4 hP
                replace hP := Lib.hid hP
                replace S5 := Lib.hid S5
                replace S6 := Lib.hid S6
                replace S7 := Lib.hid S7
                replace P4 := Lib.hid P4
                replace P5 := Lib.hid P5
                replace P6 := Lib.hid P6
                replace s5 := Lib.hid s5
                replace bb := Lib.hid bb
                replace hb4 := Lib.hid hb4
                go_wp2_with fail
                refine (C3.out _).mono ?_
                rintro e w8 ⟨rfl, hb8⟩
                clear t0 t1 t2 t3 s0 s1 s2 s3 l0 l1 l2 l3 m0 m1 m2 m3 p4 p5 p6 p7 r0 r1 r2 r3 o0 o1 o2 o3
                have bc := (Below.refl _ w8).alloc (Nat.le_refl _) (.cells #[u (lm hi' 0), u (lm hi' 1), u (lm hi' 2), u (lm hi' 3)] 38)
                have S9 := (S7.out.move hb8).move bc
                have t9 : (w8.alloc (.cells #[u (lm hi' 0), u (lm hi' 1), u (lm hi' 2), u (lm hi' 3)] 38)).heap[w8.heap.size]? = some (.cells #[u (lm hi' 0), u (lm hi' 1), u (lm hi' 2), u (lm hi' 3)] 38 (0, 0)) := heap_alloc_new w8 _
                obtain ⟨t0, t1, t2, t3⟩ := cell4 t9
                obtain ⟨r0, r1, r2, r3⟩ := free4 S9.hi
                obtain ⟨o0, o1, o2, o3⟩ := cell4 S9.hi
                have S10 := S9.puthi hi'
                replace S9 := Lib.hid S9
                replace S10 := Lib.hid S10
                replace t9 := Lib.hid t9
                replace bc := Lib.hid bc
                replace hb8 := Lib.hid hb8
                go_wp2
                go_roundg (4 - (i + 1))
                case measure => have := hgi.out; omega
                case rel => exact ⟨i + 1, N', by omega, rfl, by go_num, hN'.out, hNb'.out, by rw [← hlo'.out, ← hhi'.out]; exact S10.out⟩
            · have nz : ((a2 : Int) == 0) = false := by simp [g2]
              go_wp2_with fail
              refine (C1.out _).mono ?_
              rintro e w2 ⟨rfl, hb2⟩
              have S2 := hS.out.move hb2
              have lt2 := (Array.getElem?_eq_some_iff.1 S2.hi).1
              have ba := (Below.refl _ w2).alloc (Nat.le_refl _) (.cells (eight (lm P)) 64)
              have S3 := S2.move ba
              have P3 : (w2.alloc (.cells (eight (lm P)) 64)).heap[w2.heap.size]? = some (.cells (eight (lm P)) 64 (0, 0)) := heap_alloc_new w2 _
              clear y0 y1 y2 y3
              obtain ⟨x0, x1, x2, x3⟩ := cell4 S3.lo
              obtain ⟨⟨p0, p1, p2, p3⟩, -⟩ := cell_field P3
              replace ba := Lib.hid ba
              replace S2 := Lib.hid S2
              replace S3 := Lib.hid S3
              replace P3 := Lib.hid P3
              replace hb2 := Lib.hid hb2
              replace lt2 := Lib.hid lt2
              go_wp2_with fail
              refine (C2.out _).mono ?_
              rintro e w4 ⟨rfl, hb4⟩
              clear x0 x1 x2 x3 p0 p1 p2 p3
              have bb := (Below.refl _ w4).alloc (Nat.le_refl _) (.cells #[u (lm lo' 0), u (lm lo' 1), u (lm lo' 2), u (lm lo' 3)] 38)
              have S5 := (S3.out.move hb4).move bb
              have P4 := (hb4.block _ (Array.getElem?_eq_some_iff.1 P3.out).1).trans P3.out
              have P5 := (bb.block _ (Array.getElem?_eq_some_iff.1 P4).1).trans P4
              have s5 : (w4.alloc (.cells #[u (lm lo' 0), u (lm lo' 1), u (lm lo' 2), u (lm lo' 3)] 38)).heap[w4.heap.size]? = some (.cells #[u (lm lo' 0), u (lm lo' 1), u (lm lo' 2), u (lm lo' 3)] 38 (0, 0)) := heap_alloc_new w4 _
              have P6 := (four_far (w4.alloc (.cells #[u (lm lo' 0), u (lm lo' 1), u (lm lo' 2), u (lm lo' 3)] 38)) (w.heap.size + 1 + 1 + 1) (u (lm lo' 0)) (u (lm lo' 1)) (u (lm lo' 2)) (u (lm lo' 3)) w2.heap.size (by have := lt2.out; omega)).trans P5
              have S6 := S5.putlo lo'
              have S7 := S6.puthi (P / B4)
              rw [lm_high, lm_high, lm_high, lm_high] at S7
              obtain ⟨s0, s1, s2, s3⟩ := cell4 s5
              obtain ⟨l0, l1, l2, l3⟩ := free4 S5.lo
              obtain ⟨m0, m1, m2, m3⟩ := cell4 S5.lo
              obtain ⟨-, p4, p5, p6, p7⟩ := cell_field P6
              obtain ⟨r0, r1, r2, r3⟩ := free4 S6.hi
              obtain ⟨o0, o1, o2, o3⟩ := cell4 S6.hi
              have hP := S7.hi
              rw [lm_high, lm_high, lm_high, lm_high] at hP
              obtain ⟨t0, t1, t2, t3⟩ := cell4 hP
              replace hP := Lib.hid hP
              replace S5 := Lib.hid S5
              replace S6 := Lib.hid S6
              replace S7 := Lib.hid S7
              replace P4 := Lib.hid P4
              replace P5 := Lib.hid P5
              replace P6 := Lib.hid P6
              replace s5 := Lib.hid s5
              replace bb := Lib.hid bb
              replace hb4 := Lib.hid hb4
              go_wp2_with fail
              refine (C3.out _).mono ?_
              rintro e w8 ⟨rfl, hb8⟩
              clear t0 t1 t2 t3 s0 s1 s2 s3 l0 l1 l2 l3 m0 m1 m2 m3 p4 p5 p6 p7 r0 r1 r2 r3 o0 o1 o2 o3
              have bc := (Below.refl _ w8).alloc (Nat.le_refl _) (.cells #[u (lm hi' 0), u (lm hi' 1), u (lm hi' 2), u (lm hi' 3)] 38)
              have S9 := (S7.out.move hb8).move bc
              have t9 : (w8.alloc (.cells #[u (lm hi' 0), u (lm hi' 1), u (lm hi' 2), u (lm hi' 3)] 38)).heap[w8.heap.size]? = some (.cells #[u (lm hi' 0), u (lm hi' 1), u (lm hi' 2), u (lm hi' 3)] 38 (0, 0)) := heap_alloc_new w8 _
              obtain ⟨t0, t1, t2, t3⟩ := cell4 t9
              obtain ⟨r0, r1, r2, r3⟩ := free4 S9.hi
              obtain ⟨o0, o1, o2, o3⟩ := cell4 S9.hi
              have S10 := S9.puthi hi'
              replace S9 := Lib.hid S9
              replace S10 := Lib.hid S10
              replace t9 := Lib.hid t9
              replace bc := Lib.hid bc
              replace hb8 := Lib.hid hb8
              go_wp2
              go_roundg (4 - (i + 1))
              case measure => have := hgi.out; omega
              case rel => exact ⟨i + 1, N', by omega, rfl, by go_num, hN'.out, hNb'.out, by rw [← hlo'.out, ← hhi'.out]; exact S10.out⟩
          · have nz : ((a1 : Int) == 0) = false := by simp [g1]
            go_wp2_with fail
            refine (C1.out _).mono ?_
            rintro e w2 ⟨rfl, hb2⟩
            have S2 := hS.out.move hb2
            have lt2 := (Array.getElem?_eq_some_iff.1 S2.hi).1
            have ba := (Below.refl _ w2).alloc (Nat.le_refl _) (.cells (eight (lm P)) 64)
            have S3 := S2.move ba
            have P3 : (w2.alloc (.cells (eight (lm P)) 64)).heap[w2.heap.size]? = some (.cells (eight (lm P)) 64 (0, 0)) := heap_alloc_new w2 _
            clear y0 y1 y2 y3
            obtain ⟨x0, x1, x2, x3⟩ := cell4 S3.lo
            obtain ⟨⟨p0, p1, p2, p3⟩, -⟩ := cell_field P3
            replace ba := Lib.hid ba
            replace S2 := Lib.hid S2
            replace S3 := Lib.hid S3
            replace P3 := Lib.hid P3
            replace hb2 := Lib.hid hb2
            replace lt2 := Lib.hid lt2
            go_wp2_with fail
            refine (C2.out _).mono ?_
            rintro e w4 ⟨rfl, hb4⟩
            clear x0 x1 x2 x3 p0 p1 p2 p3
            have bb := (Below.refl _ w4).alloc (Nat.le_refl _) (.cells #[u (lm lo' 0), u (lm lo' 1), u (lm lo' 2), u (lm lo' 3)] 38)
            have S5 := (S3.out.move hb4).move bb
            have P4 := (hb4.block _ (Array.getElem?_eq_some_iff.1 P3.out).1).trans P3.out
            have P5 := (bb.block _ (Array.getElem?_eq_some_iff.1 P4).1).trans P4
            have s5 : (w4.alloc (.cells #[u (lm lo' 0), u (lm lo' 1), u (lm lo' 2), u (lm lo' 3)] 38)).heap[w4.heap.size]? = some (.cells #[u (lm lo' 0), u (lm lo' 1), u (lm lo' 2), u (lm lo' 3)] 38 (0, 0)) := heap_alloc_new w4 _
            have P6 := (four_far (w4.alloc (.cells #[u (lm lo' 0), u (lm lo' 1), u (lm lo' 2), u (lm lo' 3)] 38)) (w.heap.size + 1 + 1 + 1) (u (lm lo' 0)) (u (lm lo' 1)) (u (lm lo' 2)) (u (lm lo' 3)) w2.heap.size (by have := lt2.out; omega)).trans P5
            have S6 := S5.putlo lo'
            have S7 := S6.puthi (P / B4)
            rw [lm_high, lm_high, lm_high, lm_high] at S7
            obtain ⟨s0, s1, s2, s3⟩ := cell4 s5
            obtain ⟨l0, l1, l2, l3⟩ := free4 S5.lo
            obtain ⟨m0, m1, m2, m3⟩ := cell4 S5.lo
            obtain ⟨-, p4, p5, p6, p7⟩ := cell_field P6
            obtain ⟨r0, r1, r2, r3⟩ := free4 S6.hi
            obtain ⟨o0, o1, o2, o3⟩ := cell4 S6.hi
            have hP := S7.hi
            rw [lm_high, lm_high, lm_high, lm_high] at hP
            obtain ⟨t0, t1, t2, t3⟩ := cell4 hP
            replace hP := Lib.hid hP
            replace S5 := Lib.hid S5
            replace S6 := Lib.hid S6
            replace S7 := Lib.hid S7
            replace P4 := Lib.hid P4
            replace P5 := Lib.hid P5
            replace P6 := Lib.hid P6
            replace s5 := Lib.hid s5
            replace bb := Lib.hid bb
            replace hb4 := Lib.hid hb4
            go_wp2_with fail
            refine (C3.out _).mono ?_
            rintro e w8 ⟨rfl, hb8⟩
            clear t0 t1 t2 t3 s0 s1 s2 s3 l0 l1 l2 l3 m0 m1 m2 m3 p4 p5 p6 p7 r0 r1 r2 r3 o0 o1 o2 o3
            have bc := (Below.refl _ w8).alloc (Nat.le_refl _) (.cells #[u (lm hi' 0), u (lm hi' 1), u (lm hi' 2), u (lm hi' 3)] 38)
            have S9 := (S7.out.move hb8).move bc
            have t9 : (w8.alloc (.cells #[u (lm hi' 0), u (lm hi' 1), u (lm hi' 2), u (lm hi' 3)] 38)).heap[w8.heap.size]? = some (.cells #[u (lm hi' 0), u (lm hi' 1), u (lm hi' 2), u (lm hi' 3)] 38 (0, 0)) := heap_alloc_new w8 _
            obtain ⟨t0, t1, t2, t3⟩ := cell4 t9
            obtain ⟨r0, r1, r2, r3⟩ := free4 S9.hi
            obtain ⟨o0, o1, o2, o3⟩ := cell4 S9.hi
            have S10 := S9.puthi hi'
            replace S9 := Lib.hid S9
            replace S10 := Lib.hid S10
            replace t9 := Lib.hid t9
            replace bc := Lib.hid bc
            replace hb8 := Lib.hid hb8
            go_wp2
            go_roundg (4 - (i + 1))
            case measure => have := hgi.out; omega
            case rel => exact ⟨i + 1, N', by omega, rfl, by go_num, hN'.out, hNb'.out, by rw [← hlo'.out, ← hhi'.out]; exact S10.out⟩
        · have nz : ((a0 : Int) == 0) = false := by simp [g0]
          go_wp2_with fail
          refine (C1.out _).mono ?_
          rintro e w2 ⟨rfl, hb2⟩
          have S2 := hS.out.move hb2
          have lt2 := (Array.getElem?_eq_some_iff.1 S2.hi).1
          have ba := (Below.refl _ w2).alloc (Nat.le_refl _) (.cells (eight (lm P)) 64)
          have S3 := S2.move ba
          have P3 : (w2.alloc (.cells (eight (lm P)) 64)).heap[w2.heap.size]? = some (.cells (eight (lm P)) 64 (0, 0)) := heap_alloc_new w2 _
          clear y0 y1 y2 y3
          obtain ⟨x0, x1, x2, x3⟩ := cell4 S3.lo
          obtain ⟨⟨p0, p1, p2, p3⟩, -⟩ := cell_field P3
          replace ba := Lib.hid ba
          replace S2 := Lib.hid S2
          replace S3 := Lib.hid S3
          replace P3 := Lib.hid P3
          replace hb2 := Lib.hid hb2
          replace lt2 := Lib.hid lt2
          go_wp2_with fail
          refine (C2.out _).mono ?_
          rintro e w4 ⟨rfl, hb4⟩
          clear x0 x1 x2 x3 p0 p1 p2 p3
          have bb := (Below.refl _ w4).alloc (Nat.le_refl _) (.cells #[u (lm lo' 0), u (lm lo' 1), u (lm lo' 2), u (lm lo' 3)] 38)
          have S5 := (S3.out.move hb4).move bb
          have P4 := (hb4.block _ (Array.getElem?_eq_some_iff.1 P3.out).1).trans P3.out
          have P5 := (bb.block _ (Array.getElem?_eq_some_iff.1 P4).1).trans P4
          have s5 : (w4.alloc (.cells #[u (lm lo' 0), u (lm lo' 1), u (lm lo' 2), u (lm lo' 3)] 38)).heap[w4.heap.size]? = some (.cells #[u (lm lo' 0), u (lm lo' 1), u (lm lo' 2), u (lm lo' 3)] 38 (0, 0)) := heap_alloc_new w4 _
          have P6 := (four_far (w4.alloc (.cells #[u (lm lo' 0), u (lm lo' 1), u (lm lo' 2), u (lm lo' 3)] 38)) (w.heap.size + 1 + 1 + 1) (u (lm lo' 0)) (u (lm lo' 1)) (u (lm lo' 2)) (u (lm lo' 3)) w2.heap.size (by have := lt2.out; omega)).trans P5
          have S6 := S5.putlo lo'
          have S7 := S6.puthi (P / B4)
          rw [lm_high, lm_high, lm_high, lm_high] at S7
          obtain ⟨s0, s1, s2, s3⟩ := cell4 s5
          obtain ⟨l0, l1, l2, l3⟩ := free4 S5.lo
          obtain ⟨m0, m1, m2, m3⟩ := cell4 S5.lo
          obtain ⟨-, p4, p5, p6, p7⟩ := cell_field P6
          obtain ⟨r0, r1, r2, r3⟩ := free4 S6.hi
          obtain ⟨o0, o1, o2, o3⟩ := cell4 S6.hi
          have hP := S7.hi
          rw [lm_high, lm_high, lm_high, lm_high] at hP
          obtain ⟨t0, t1, t2, t3⟩ := cell4 hP
          replace hP := Lib.hid hP
          replace S5 := Lib.hid S5
          replace S6 := Lib.hid S6
          replace S7 := Lib.hid S7
          replace P4 := Lib.hid P4
          replace P5 := Lib.hid P5
          replace P6 := Lib.hid P6
          replace s5 := Lib.hid s5
          replace bb := Lib.hid bb
          replace hb4 := Lib.hid hb4
          go_wp2_with fail
          refine (C3.out _).mono ?_
          rintro e w8 ⟨rfl, hb8⟩
          clear t0 t1 t2 t3 s0 s1 s2 s3 l0 l1 l2 l3 m0 m1 m2 m3 p4 p5 p6 p7 r0 r1 r2 r3 o0 o1 o2 o3
          have bc := (Below.refl _ w8).alloc (Nat.le_refl _) (.cells #[u (lm hi' 0), u (lm hi' 1), u (lm hi' 2), u (lm hi' 3)] 38)
          have S9 := (S7.out.move hb8).move bc
          have t9 : (w8.alloc (.cells #[u (lm hi' 0), u (lm hi' 1), u (lm hi' 2), u (lm hi' 3)] 38)).heap[w8.heap.size]? = some (.cells #[u (lm hi' 0), u (lm hi' 1), u (lm hi' 2), u (lm hi' 3)] 38 (0, 0)) := heap_alloc_new w8 _
          obtain ⟨t0, t1, t2, t3⟩ := cell4 t9
          obtain ⟨r0, r1, r2, r3⟩ := free4 S9.hi
          obtain ⟨o0, o1, o2, o3⟩ := cell4 S9.hi
          have S10 := S9.puthi hi'
          replace S9 := Lib.hid S9
          replace S10 := Lib.hid S10
          replace t9 := Lib.hid t9
          replace bc := Lib.hid bc
          replace hb8 := Lib.hid hb8
          go_wp2
          go_roundg (4 - (i + 1))
          case measure => have := hgi.out; omega
          case rel => exact ⟨i + 1, N', by omega, rfl, by go_num, hN'.out, hNb'.out, by rw [← hlo'.out, ← hhi'.out]; exact S10.out⟩
end Lm
end Go.Proofs.YtkmbpakhbicnaaaDoor
namespace Go.Proofs.YtkmbpakhbicnaaaDoor
open Go.RowKit Go.Proofs.YtkmbpakhbicnaaaDoorW.PrintWords Go.Lib
namespace Lm
theorem rreduce_any (w : World) (W : Nat) (hW : W < B8) :
    Calls Tryd.prog 32 #[fieldL (lm Q) (lm CQ), wideV W] w fun e w' => e = .returned (numV (W % Q)) ∧ Below w.heap.size w w' :=
  rreduce_gen w Q CQ W bnd (by decide) Q_lt CQ_lt hW fold_bnd fold_mod bnd_le bnd_four fold_parts
/-- The middle of the program's Reduce. -/
structure FR (w X : World) (p q W : Nat) : Prop where
  below : Below w.heap.size w X
  wd : X.heap[w.heap.size]? = some (.cells (eight (lm W)) 64 (0, 0))
  res : X.heap[w.heap.size + 1]? = some (.cells #[.int .u64 0, .int .u64 0, .int .u64 0, .int .u64 0] 38 (0, 0))
  pc : ∀ i, i < 4 → X.cell? ⟨p, i, none⟩ = some (u (lm q i))
  pl : p < w.heap.size
theorem cell_below {n : Nat} {X X' : World} (hb : Below n X X') (p i : Nat) (hp : p < n) : X'.cell? ⟨p, i, none⟩ = X.cell? ⟨p, i, none⟩ := by
  have := hb.block p hp
  unfold World.cell?
  simp only [this]
theorem FR.call {w X X' : World} {p q W : Nat} (h : FR w X p q W) (hb : Below X.heap.size X X') : FR w X' p q W :=
  ⟨below_then h.below h.below.size hb, (hb.block _ (Array.getElem?_eq_some_iff.1 h.wd).1).trans h.wd, (hb.block _ (Array.getElem?_eq_some_iff.1 h.res).1).trans h.res,
    fun i hi => (cell_below hb p i (Nat.lt_trans h.pl (Array.getElem?_eq_some_iff.1 h.wd).1)).trans (h.pc i hi), h.pl⟩
theorem FR.alloc {w X : World} {p q W : Nat} (h : FR w X p q W) (o : Obj) : FR w (X.alloc o) p q W := h.call ((Below.refl _ X).alloc (Nat.le_refl _) o)
theorem FR.fin {w X : World} {p q W R : Nat} {cs : Array Value} {ty : TypeId} (h : FR w X p q W) (hz : X.heap[R]? = some (.cells cs ty (0, 0))) (hs : cs.size = 4) (hR : w.heap.size + 1 < R) (v0 v1 v2 v3 : Value) :
    FR w (four X R v0 v1 v2 v3) p q W ∧ (four X R v0 v1 v2 v3).heap[R]? = some (.cells #[v0, v1, v2, v3] ty (0, 0)) := by
  have far : ∀ k, k ≠ R → (four X R v0 v1 v2 v3).heap[k]? = X.heap[k]? := four_far X R v0 v1 v2 v3
  have hb := below_four (n := R) (Below.refl R X) R (Nat.le_refl _) v0 v1 v2 v3
  refine ⟨⟨below_four h.below R (by omega) _ _ _ _, (far _ (by omega)).trans h.wd, (far _ (by omega)).trans h.res, fun i hi => (cell_below hb p i (by have := h.pl; omega)).trans (h.pc i hi), h.pl⟩, four_set hz hs _ _ _ _⟩
theorem FR.drew {w X : World} {p q W : Nat} (h : FR w X p q W) : FR w X.drew p q W := ⟨h.below.drew, h.wd, h.res, h.pc, h.pl⟩
theorem z_old3 {X X' : World} {cs : Array Value} {ty : TypeId} (h : Below (X.alloc (.cells cs ty)).drew.heap.size (X.alloc (.cells cs ty)).drew X') : X'.heap[X.heap.size]? = some (.cells cs ty (0, 0)) :=
  (h.block _ (by rw [World.size_drew, World.size_alloc]; omega)).trans (heap_alloc_new X _)
set_option maxRecDepth 100000 in
set_option maxHeartbeats 4000000 in
theorem reduce_any (w : World) (p q W : Nat) (hW : W < B8) (hq0 : 0 < q) (hq : q < B4) (hpl : p < w.heap.size)
    (hp : ∀ i, i < 4 → w.cell? ⟨p, i, none⟩ = some (u (lm q i))) :
    Calls Tryd.prog 30 #[.pointer (some ⟨p, 0, none⟩), wideV W] w fun e w' => e = .returned (numV (W % q)) ∧ Below w.heap.size w w' := by
  have C := fun X => mod_any X W q hW hq0 hq
  obtain ⟨r, hr⟩ : ∃ r, r = W % q := ⟨_, rfl⟩
  rw [← hr]
  rw [← hr] at C
  have b1 := (Below.refl _ w).alloc (Nat.le_refl _) (.cells (eight (lm W)) 64)
  have b2 := b1.alloc b1.size (.cells #[.int .u64 0, .int .u64 0, .int .u64 0, .int .u64 0] 38)
  have n1 : (w.alloc (.cells (eight (lm W)) 64)).heap[w.heap.size]? = some (.cells (eight (lm W)) 64 (0, 0)) := heap_alloc_new w _
  have s1 : (w.alloc (.cells (eight (lm W)) 64)).heap.size = w.heap.size + 1 := World.size_alloc _ _
  have n2 := heap_alloc_new (w.alloc (.cells (eight (lm W)) 64)) (.cells #[.int .u64 0, .int .u64 0, .int .u64 0, .int .u64 0] 38)
  rw [s1] at n2
  have F0 : FR w ((w.alloc (.cells (eight (lm W)) 64)).alloc (.cells #[.int .u64 0, .int .u64 0, .int .u64 0, .int .u64 0] 38)) p q W :=
    ⟨b2, (((Below.refl _ (w.alloc (.cells (eight (lm W)) 64))).alloc (Nat.le_refl _) (.cells #[.int .u64 0, .int .u64 0, .int .u64 0, .int .u64 0] 38)).block _ (by rw [s1]; omega)).trans n1, n2,
      fun i hi => (cell_below b2 p i hpl).trans (hp i hi), hpl⟩
  obtain ⟨⟨x0, x1, x2, x3⟩, x4, x5, x6, x7⟩ := cell_field F0.drew.wd
  have y0 := F0.drew.pc 0 (by omega)
  have y1 := F0.drew.pc 1 (by omega)
  have y2 := F0.drew.pc 2 (by omega)
  have y3 := F0.drew.pc 3 (by omega)
  have G0 := (F0.alloc (.cells #[.int .u64 0, .int .u64 0, .int .u64 0, .int .u64 0] 38)).drew
  obtain ⟨⟨i0, i1, i2, i3⟩, i4, i5, i6, i7⟩ := cell_field G0.wd
  have j0 := G0.pc 0 (by omega)
  have j1 := G0.pc 1 (by omega)
  have j2 := G0.pc 2 (by omega)
  have j3 := G0.pc 3 (by omega)
  have s2 : ((w.alloc (.cells (eight (lm W)) 64)).alloc (.cells #[.int .u64 0, .int .u64 0, .int .u64 0, .int .u64 0] 38)).heap.size = w.heap.size + 1 + 1 := by rw [World.size_alloc, s1]
  replace C := Lib.hid C
  replace b1 := Lib.hid b1
  replace b2 := Lib.hid b2
  replace n1 := Lib.hid n1
  replace n2 := Lib.hid n2
  replace s1 := Lib.hid s1
  replace s2 := Lib.hid s2
  replace F0 := Lib.hid F0
  replace G0 := Lib.hid G0
  replace hp := Lib.hid hp
  replace hr := Lib.hid hr
  clear hW hq0 hq hpl
  go_enter Tryd.func30, Tryd.ntmps30
  go_wp2_with fail
  go_region_with (first
    | (go_at_call 41; refine (C.out _).mono ?_; rintro e w4 ⟨rfl, hb4⟩; have N4 := Lib.hid (show FR w w4 p q W from by first | exact F0.out.drew.call hb4 | exact G0.out.call hb4); (try (have Z4 : w4.heap[w.heap.size + 1 + 1]? = some (.cells #[.int .u64 0, .int .u64 0, .int .u64 0, .int .u64 0] 38 (0, 0)) := (by have h := z_old3 hb4; rw [s2.out] at h; exact h); have F4 := free4 Z4; obtain ⟨f0, f1, f2, f3⟩ := F4; have G4 := cell4 Z4; obtain ⟨h0, h1, h2, h3⟩ := G4; replace Z4 := Lib.hid Z4)); replace hb4 := Lib.hid hb4))
  all_goals
    clear x0 x1 x2 x3 x4 x5 x6 x7 y0 y1 y2 y3 i0 i1 i2 i3 i4 i5 i6 i7 j0 j1 j2 j3
    first
    | (have F6 := N4.out.fin Z4.out rfl (by omega) (u (lm r 0)) (u (lm r 1)) (u (lm r 2)) (u (lm r 3)); obtain ⟨M6, T6⟩ := F6; (try clear f0 f1 f2 f3 h0 h1 h2 h3); obtain ⟨a0, a1, a2, a3⟩ := cell4 T6; obtain ⟨l0, l1, l2, l3⟩ := free4 M6.res; obtain ⟨m0, m1, m2, m3⟩ := cell4 M6.res; obtain ⟨o0, o1, o2, o3⟩ := cell4 (four_set M6.res rfl (u (lm r 0)) (u (lm r 1)) (u (lm r 2)) (u (lm r 3))); have hB := below_four M6.below (w.heap.size + 1) (by omega) (u (lm r 0)) (u (lm r 1)) (u (lm r 2)) (u (lm r 3)); replace hB := Lib.hid hB; replace M6 := Lib.hid M6; replace T6 := Lib.hid T6; go_wp2; refine bodyPost_ret (v := numV r) (by simp [results, Tryd.results30, go_sem, o0, o1, o2, o3]) rfl ⟨rfl, hB.out⟩)
    | (have M6 := N4.out.alloc (.cells #[u (lm r 0), u (lm r 1), u (lm r 2), u (lm r 3)] 38); have T6 := heap_alloc_new w4 (.cells #[u (lm r 0), u (lm r 1), u (lm r 2), u (lm r 3)] 38); obtain ⟨a0, a1, a2, a3⟩ := cell4 T6; obtain ⟨l0, l1, l2, l3⟩ := free4 M6.res; obtain ⟨m0, m1, m2, m3⟩ := cell4 M6.res; obtain ⟨o0, o1, o2, o3⟩ := cell4 (four_set M6.res rfl (u (lm r 0)) (u (lm r 1)) (u (lm r 2)) (u (lm r 3))); have hB := below_four M6.below (w.heap.size + 1) (by omega) (u (lm r 0)) (u (lm r 1)) (u (lm r 2)) (u (lm r 3)); replace hB := Lib.hid hB; replace M6 := Lib.hid M6; replace T6 := Lib.hid T6; go_wp2; refine bodyPost_ret (v := numV r) (by simp [results, Tryd.results30, go_sem, o0, o1, o2, o3]) rfl ⟨rfl, hB.out⟩)
end Lm
end Go.Proofs.YtkmbpakhbicnaaaDoor
namespace Go.Proofs.YtkmbpakhbicnaaaDoor
open Go.RowKit Go.Proofs.YtkmbpakhbicnaaaDoorW.PrintWords Go.Lib
namespace Lm
set_option maxRecDepth 100000 in
set_option maxHeartbeats 1000000 in
theorem scalars_gen (w : World) (NM : ∀ X, Calls Tryd.prog 40 #[.agg #[.int .u64 13822214165235122497, .int .u64 13451932020343611451, .int .u64 18446744073709551614, .int .u64 18446744073709551615]] X fun e w' => (∃ p, e = .returned (.tuple #[.pointer (some ⟨p, 0, none⟩), .int .i64 0])) ∧ Below X.heap.size X w') :
    Calls Tryd.prog 29 #[] w fun e w' => (∃ p, e = .returned (.pointer (some ⟨p, 0, none⟩)) ∧ p < w'.heap.size ∧ w.heap.size ≤ p ∧ ∀ i, i < 4 → w'.cell? ⟨p, i, none⟩ = some (u (lm Q i))) ∧ Below w.heap.size w w' := by
  have b1 := (Below.refl _ w).alloc (Nat.le_refl _) (.cells #[.int .u64 13822214165235122497, .int .u64 13451932020343611451, .int .u64 18446744073709551614, .int .u64 18446744073709551615] 38)
  have n1 : (w.alloc (.cells #[.int .u64 13822214165235122497, .int .u64 13451932020343611451, .int .u64 18446744073709551614, .int .u64 18446744073709551615] 38)).heap[w.heap.size]? = some (.cells #[.int .u64 13822214165235122497, .int .u64 13451932020343611451, .int .u64 18446744073709551614, .int .u64 18446744073709551615] 38 (0, 0)) := heap_alloc_new w _
  replace b1 := Lib.hid b1
  replace n1 := Lib.hid n1
  replace NM := Lib.hid NM
  go_enter Tryd.func29, Tryd.ntmps29
  go_wp2_with fail
  refine (NM.out _).mono ?_
  rintro e w2 ⟨⟨way, rfl⟩, hb2⟩
  have m2 := (hb2.block w.heap.size (Array.getElem?_eq_some_iff.1 n1.out).1).trans n1.out
  obtain ⟨x0, x1, x2, x3⟩ := cell4 m2
  have b2 := below_then b1.out b1.out.size hb2
  replace hb2 := Lib.hid hb2
  replace m2 := Lib.hid m2
  replace b2 := Lib.hid b2
  go_wp2
  go_ret
  have T := heap_alloc_new w2 (.cells #[.int .u64 13822214165235122497, .int .u64 13451932020343611451, .int .u64 18446744073709551614, .int .u64 18446744073709551615, .pointer (some ⟨way, 0, none⟩), .int .u64 0, .int .u64 0, .int .u64 0, .int .u64 0] 86)
  refine ⟨⟨w2.heap.size, rfl, by rw [World.size_alloc]; omega, b2.out.size, fun i hi => ?_⟩, b2.out.alloc b2.out.size _⟩
  match i, hi with
  | 0, _ => exact (Go.Joins.cell_of_block T 0).trans (by simp [lm])
  | 1, _ => exact (Go.Joins.cell_of_block T 1).trans (by simp [lm])
  | 2, _ => exact (Go.Joins.cell_of_block T 2).trans (by simp [lm])
  | 3, _ => exact (Go.Joins.cell_of_block T 3).trans (by simp [lm])
end Lm
end Go.Proofs.YtkmbpakhbicnaaaDoor
namespace Go.Proofs.YtkmbpakhbicnaaaDoor
open Go.RowKit Go.Proofs.YtkmbpakhbicnaaaDoorW.PrintWords Go.Lib
namespace Lm
theorem scalars_any (w : World) :
    Calls Tryd.prog 29 #[] w fun e w' => (∃ p, e = .returned (.pointer (some ⟨p, 0, none⟩)) ∧ p < w'.heap.size ∧ w.heap.size ≤ p ∧ ∀ i, i < 4 → w'.cell? ⟨p, i, none⟩ = some (u (lm Q i))) ∧ Below w.heap.size w w' :=
  scalars_gen w (fun X => by
    have h := newMont_any X Q (by decide) (by decide) Q_lt
    rw [litQ_eq] at h
    exact h)
end Lm
end Go.Proofs.YtkmbpakhbicnaaaDoor
