/- container/heap's down over the agenda's pile. -/
import Derived.Test.YtmanlmhiiijlmaaHp
namespace Go.Proofs.Ytmanlmhiiijlmaa
open Go.RowKit Go.Proofs.YtmanlmhiiijlmaaW.PrintWords Go.Lib
set_option maxRecDepth 100000 in
set_option maxHeartbeats 4000000 in
theorem down_any (w : World) (B pb mb : Nat) (v : Value) (l : List En) (h : Hp w B pb mb v l) (i n F : Nat) (hn : n ≤ l.length) (hF : n ≤ i + F) (hl : l.length ≤ 100000) (hi : i ≤ 100000) :
    Calls Try.prog 32 #[.iface 52 (.pointer (some ⟨pb, 0, none⟩)), .int .i64 (i : Int), .int .i64 (n : Int)] w fun e w' => e = .returned (.bool (decide (i < (HL.down dE ltE F l n i).2))) ∧ Hp w' B pb mb v (HL.down dE ltE F l n i).1 ∧ PK pb mb v w w' := by
  have ml := m_less ⟨pb, 0, none⟩
  have ms := m_swap ⟨pb, 0, none⟩
  replace h := Lib.hid h
  obtain ⟨R, hR⟩ : ∃ R, R = HL.down dE ltE F l n i := ⟨_, rfl⟩
  rw [← hR]
  replace hR := Lib.hid hR
  go_enter Try.func32, Try.ntmps32
  go_wp2_with fail
  go_loopg [7] F (fun k v7 wr => ∃ i' : Nat, ∃ l' : List En, v7 = .int .i64 (i' : Int) ∧ n ≤ i' + k ∧ i' ≤ 100000 ∧ l'.length = l.length ∧ Hp wr B pb mb v l' ∧ PK pb mb v w wr ∧ HL.down dE ltE k l' n i' = R)
  case atStart => exact ⟨i, l, rfl, hF, hi, rfl, h.out, PK.refl _ _ _ _, hR.out.symm⟩
  case round =>
    obtain ⟨i', l', rfl, hk, hi', hll, hH, hK, hU⟩ := hrel
    replace hll := Lib.hid hll
    replace hK := Lib.hid hK
    by_cases h0 : n ≤ 2 * i' + 1
    · have hU2 : (l', i') = R := by
        rw [← hU]
        cases gk with
        | zero => rfl
        | succ k => rw [HL.down, if_pos h0]
      have e1 : R.1 = l' := by rw [← hU2]
      have e2 : R.2 = i' := by rw [← hU2]
      replace e1 := Lib.hid e1
      replace e2 := Lib.hid e2
      replace hH := Lib.hid hH
      have t1 : (n : Int) ≤ 2 * (i' : Int) + 1 := by omega
      have t2 : decide ((n : Int) ≤ 2 * (i' : Int) + 1) = true := by simpa using t1
      clear h0 hU hU2 hR
      go_wp2
      go_ret
      refine ⟨?_, by rw [e1.out]; exact hH.out, hK.out⟩
      rw [e2.out]
      simp
    · obtain ⟨k, rfl⟩ : ∃ m, gk = m + 1 := ⟨gk - 1, by omega⟩
      rw [HL.down, if_neg h0] at hU
      obtain ⟨j1, j2, -, -⟩ := HL.kid_lt dE ltE (l := l') h0
      have t1 : ¬ (n : Int) ≤ 2 * (i' : Int) + 1 := by omega
      have hnl : n ≤ l'.length := by have := hll.out; omega
      have hn0 : n ≤ 100000 := by omega
      replace hnl := Lib.hid hnl
      clear h0 hn
      have c1 : ((2 * i' + 2 : Nat) : Int) = 2 * (i' : Int) + 1 + 1 := by omega
      have c2 : ((2 * i' + 1 : Nat) : Int) = 2 * (i' : Int) + 1 := by omega
      by_cases h2 : 2 * i' + 2 < n
      · have t2 : 2 * (i' : Int) + 1 + 1 < (n : Int) := by omega
        by_cases h3 : ltE (HL.g dE l' (2 * i' + 2)) (HL.g dE l' (2 * i' + 1)) = true
        · have hkd : HL.kid dE ltE l' n i' = 2 * i' + 2 := by unfold HL.kid; rw [if_pos ⟨h2, h3⟩]
          have L1 := hless wr B pb mb v l' hH (2 * i' + 2) (2 * i' + 1) (by have := hnl.out; omega) (by have := hnl.out; omega) true h3
          rw [hkd] at hU
          rw [c1, c2] at L1
          replace L1 := Lib.hid L1
          by_cases h4 : ltE (HL.g dE l' (2 * i' + 2)) (HL.g dE l' i') = true
          · as_aux_lemma =>
              rw [if_pos h4] at hU
              have L2 := fun W hW => hless W B pb mb v l' hW (2 * i' + 2) i' (by have := hnl.out; omega) (by have := hnl.out; omega) true h4
              have S2 := fun W hW => hswap W B pb mb v l' hW i' (2 * i' + 2) (by have := hnl.out; omega) (by have := hnl.out; omega)
              rw [c1] at L2 S2
              replace S2 := Lib.hid S2
              replace hU := Lib.hid hU
              clear h4
              replace L2 := Lib.hid L2
              clear h3 hkd c1 c2 j1 j2 h2
              replace hH := Lib.hid hH
              go_wp2_with fail
              refine L1.out.mono ?_
              rintro e w2 ⟨rfl, H2, K2⟩
              have L3 := Lib.hid (L2.out _ H2)
              replace H2 := Lib.hid H2
              replace K2 := Lib.hid K2
              go_wp2_with fail
              refine L3.out.mono ?_
              rintro e w3 ⟨rfl, H3, K3⟩
              have S3 := Lib.hid (S2.out _ H3)
              replace H3 := Lib.hid H3
              replace K3 := Lib.hid K3
              go_wp2_with fail
              refine S3.out.mono ?_
              rintro e w4 ⟨rfl, H4, K4⟩
              replace H4 := Lib.hid H4
              replace K4 := Lib.hid K4
              go_wp2
              go_roundg k
              case measure => omega
              case rel => exact ⟨2 * i' + 2, HL.swap dE l' i' (2 * i' + 2), by congr 1, by omega, by omega, by rw [HL.swap_len]; exact hll.out, H4.out, ((hK.out.trans (.inl rfl) K2.out).trans (.inl rfl) K3.out).trans (.inl rfl) K4.out, hU.out⟩
          · as_aux_lemma =>
              rw [if_neg h4] at hU
              have e1 : R.1 = l' := by rw [← hU]
              have e2 : R.2 = i' := by rw [← hU]
              have L2 := fun W hW => hless W B pb mb v l' hW (2 * i' + 2) i' (by have := hnl.out; omega) (by have := hnl.out; omega) false (by simpa using h4)
              rw [c1] at L2
              replace e1 := Lib.hid e1
              replace e2 := Lib.hid e2
              clear hU h4 hR
              replace L2 := Lib.hid L2
              clear h3 hkd c1 c2 j1 j2 h2
              replace hH := Lib.hid hH
              go_wp2_with fail
              refine L1.out.mono ?_
              rintro e w2 ⟨rfl, H2, K2⟩
              have L3 := Lib.hid (L2.out _ H2)
              replace H2 := Lib.hid H2
              replace K2 := Lib.hid K2
              go_wp2_with fail
              refine L3.out.mono ?_
              rintro e w3 ⟨rfl, H3, K3⟩
              replace H3 := Lib.hid H3
              replace K3 := Lib.hid K3
              go_wp2
              go_ret
              refine ⟨?_, by rw [e1.out]; exact H3.out, (hK.out.trans (.inl rfl) K2.out).trans (.inl rfl) K3.out⟩
              rw [e2.out]
              simp
        · have hkd : HL.kid dE ltE l' n i' = 2 * i' + 1 := by unfold HL.kid; rw [if_neg (fun e => h3 e.2)]
          have L1 := hless wr B pb mb v l' hH (2 * i' + 2) (2 * i' + 1) (by have := hnl.out; omega) (by have := hnl.out; omega) false (by simpa using h3)
          rw [hkd] at hU
          rw [c1, c2] at L1
          replace L1 := Lib.hid L1
          by_cases h4 : ltE (HL.g dE l' (2 * i' + 1)) (HL.g dE l' i') = true
          · as_aux_lemma =>
              rw [if_pos h4] at hU
              have L2 := fun W hW => hless W B pb mb v l' hW (2 * i' + 1) i' (by have := hnl.out; omega) (by have := hnl.out; omega) true h4
              have S2 := fun W hW => hswap W B pb mb v l' hW i' (2 * i' + 1) (by have := hnl.out; omega) (by have := hnl.out; omega)
              rw [c2] at L2 S2
              replace S2 := Lib.hid S2
              replace hU := Lib.hid hU
              clear h4
              replace L2 := Lib.hid L2
              clear h3 hkd c1 c2 j1 j2 h2
              replace hH := Lib.hid hH
              go_wp2_with fail
              refine L1.out.mono ?_
              rintro e w2 ⟨rfl, H2, K2⟩
              have L3 := Lib.hid (L2.out _ H2)
              replace H2 := Lib.hid H2
              replace K2 := Lib.hid K2
              go_wp2_with fail
              refine L3.out.mono ?_
              rintro e w3 ⟨rfl, H3, K3⟩
              have S3 := Lib.hid (S2.out _ H3)
              replace H3 := Lib.hid H3
              replace K3 := Lib.hid K3
              go_wp2_with fail
              refine S3.out.mono ?_
              rintro e w4 ⟨rfl, H4, K4⟩
              replace H4 := Lib.hid H4
              replace K4 := Lib.hid K4
              go_wp2
              go_roundg k
              case measure => omega
              case rel => exact ⟨2 * i' + 1, HL.swap dE l' i' (2 * i' + 1), by congr 1, by omega, by omega, by rw [HL.swap_len]; exact hll.out, H4.out, ((hK.out.trans (.inl rfl) K2.out).trans (.inl rfl) K3.out).trans (.inl rfl) K4.out, hU.out⟩
          · as_aux_lemma =>
              rw [if_neg h4] at hU
              have e1 : R.1 = l' := by rw [← hU]
              have e2 : R.2 = i' := by rw [← hU]
              have L2 := fun W hW => hless W B pb mb v l' hW (2 * i' + 1) i' (by have := hnl.out; omega) (by have := hnl.out; omega) false (by simpa using h4)
              rw [c2] at L2
              replace e1 := Lib.hid e1
              replace e2 := Lib.hid e2
              clear hU h4 hR
              replace L2 := Lib.hid L2
              clear h3 hkd c1 c2 j1 j2 h2
              replace hH := Lib.hid hH
              go_wp2_with fail
              refine L1.out.mono ?_
              rintro e w2 ⟨rfl, H2, K2⟩
              have L3 := Lib.hid (L2.out _ H2)
              replace H2 := Lib.hid H2
              replace K2 := Lib.hid K2
              go_wp2_with fail
              refine L3.out.mono ?_
              rintro e w3 ⟨rfl, H3, K3⟩
              replace H3 := Lib.hid H3
              replace K3 := Lib.hid K3
              go_wp2
              go_ret
              refine ⟨?_, by rw [e1.out]; exact H3.out, (hK.out.trans (.inl rfl) K2.out).trans (.inl rfl) K3.out⟩
              rw [e2.out]
              simp
      · have t2 : ¬ 2 * (i' : Int) + 1 + 1 < (n : Int) := by omega
        have hkd : HL.kid dE ltE l' n i' = 2 * i' + 1 := by unfold HL.kid; rw [if_neg (fun e => h2 e.1)]
        rw [hkd] at hU
        by_cases h4 : ltE (HL.g dE l' (2 * i' + 1)) (HL.g dE l' i') = true
        · as_aux_lemma =>
            rw [if_pos h4] at hU
            have L2 := fun W hW => hless W B pb mb v l' hW (2 * i' + 1) i' (by have := hnl.out; omega) (by have := hnl.out; omega) true h4
            have S2 := fun W hW => hswap W B pb mb v l' hW i' (2 * i' + 1) (by have := hnl.out; omega) (by have := hnl.out; omega)
            rw [c2] at L2 S2
            replace S2 := Lib.hid S2
            replace hU := Lib.hid hU
            clear h4
            replace L2 := Lib.hid L2
            clear hkd c1 c2 j1 j2 h2
            have L3 := Lib.hid (L2.out _ hH)
            replace hH := Lib.hid hH
            go_wp2_with fail
            refine L3.out.mono ?_
            rintro e w3 ⟨rfl, H3, K3⟩
            have S3 := Lib.hid (S2.out _ H3)
            replace H3 := Lib.hid H3
            replace K3 := Lib.hid K3
            go_wp2_with fail
            refine S3.out.mono ?_
            rintro e w4 ⟨rfl, H4, K4⟩
            replace H4 := Lib.hid H4
            replace K4 := Lib.hid K4
            go_wp2
            go_roundg k
            case measure => omega
            case rel => exact ⟨2 * i' + 1, HL.swap dE l' i' (2 * i' + 1), by congr 1, by omega, by omega, by rw [HL.swap_len]; exact hll.out, H4.out, (hK.out.trans (.inl rfl) K3.out).trans (.inl rfl) K4.out, hU.out⟩
        · as_aux_lemma =>
            rw [if_neg h4] at hU
            have e1 : R.1 = l' := by rw [← hU]
            have e2 : R.2 = i' := by rw [← hU]
            have L2 := fun W hW => hless W B pb mb v l' hW (2 * i' + 1) i' (by have := hnl.out; omega) (by have := hnl.out; omega) false (by simpa using h4)
            rw [c2] at L2
            replace e1 := Lib.hid e1
            replace e2 := Lib.hid e2
            clear hU h4 hR
            replace L2 := Lib.hid L2
            clear hkd c1 c2 j1 j2 h2
            have L3 := Lib.hid (L2.out _ hH)
            replace hH := Lib.hid hH
            go_wp2_with fail
            refine L3.out.mono ?_
            rintro e w3 ⟨rfl, H3, K3⟩
            replace H3 := Lib.hid H3
            replace K3 := Lib.hid K3
            go_wp2
            go_ret
            refine ⟨?_, by rw [e1.out]; exact H3.out, hK.out.trans (.inl rfl) K3.out⟩
            rw [e2.out]
            simp
end Go.Proofs.Ytmanlmhiiijlmaa
