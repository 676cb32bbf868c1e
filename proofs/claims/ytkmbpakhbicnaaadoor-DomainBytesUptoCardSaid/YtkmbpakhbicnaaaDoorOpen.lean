/- How the arguments of this seat's laws are read: strings, slices of strings, and how large they may be. -/
import Derived.Test.YtkmbpakhbicnaaaDoorWWords
import Derived.Test.YtkmbpakhbicnaaaDoorWSized
import Derived.ProofKit
import Derived.SizedLaws
import Derived.Lib.SmallJoins
import Derived.Deep.Slices
namespace Go.Proofs.YtkmbpakhbicnaaaDoor
open Go.Deep Go.ChangeShapes Go.WideShapes Go.RowKit Go.Joins Go.Proofs.YtkmbpakhbicnaaaDoorW.PrintWords
section
variable {H : Type} {enc : TypeId × Value → H} {P : Program} {w : World} {base : Nat} {spare : Nat → Bool} {held : Bool}

/-- What the form's reach says of one argument, or of a part of it. -/
def Fits (P : Program) (t : TypeId) (d : DataW H) : Prop := ∀ n ∈ d.weights P t, n ≤ 140737488351232
theorem fits_of {ts : List TypeId} {ds : List (DataW H)} (hsz : (DataW.weightsEach P ts ds).all (· ≤ reachBytes) = true) {j : Nat} {t : TypeId} {d : DataW H} (ht : ts[j]? = some t) (hd : ds[j]? = some d) : Fits P t d := by
  intro n hn
  exact of_decide_eq_true (List.all_eq_true.1 hsz _ (DataW.weights_mem_each ht hd n hn))
theorem fits_each {ts : List TypeId} {ds : List (DataW H)} (h : ∀ n ∈ DataW.weightsEach P ts ds, n ≤ 140737488351232) {j : Nat} {t : TypeId} {d : DataW H} (ht : ts[j]? = some t) (hd : ds[j]? = some d) : Fits P t d :=
  fun n hn => h n (DataW.weights_mem_each ht hd n hn)
theorem fits_agg {t : TypeId} {fs : Array Field} {parts : List (DataW H)} (hs : P.underlying t = some (.struct fs)) (h : Fits P t (.agg parts)) : ∀ n ∈ DataW.weightsEach P (fs.toList.map (·.type)) parts, n ≤ 140737488351232 := by
  intro n hn
  exact h n (by simpa [DataW.weights, hs] using hn)
theorem weights_all {e : TypeId} {l : List (DataW H)} {d : DataW H} (hd : d ∈ l) : ∀ n ∈ d.weights P e, n ∈ DataW.weightsAll P e l := by
  induction l with
  | nil => cases hd
  | cons x r ih =>
    intro n hn
    rw [DataW.weightsAll, List.mem_append]
    rcases List.mem_cons.1 hd with rfl | hd
    · exact .inl hn
    · exact .inr (ih hd n hn)
theorem fits_elem {t e : TypeId} (ht : P.underlying t = some (.slice e)) {l r : List (DataW H)} (h : Fits P t (.slice l r)) {d : DataW H} (hd : d ∈ l) : Fits P e d := by
  intro n hn
  refine h n ?_
  simp only [DataW.weights, ht, List.mem_cons, List.mem_append]
  exact .inr (.inl (weights_all hd n hn))
theorem fits_len {t e : TypeId} (ht : P.underlying t = some (.slice e)) {l r : List (DataW H)} (h : Fits P t (.slice l r)) : l.length * P.bytesOf e ≤ 140737488351232 := by
  have := h ((l.length + r.length) * P.bytesOf e) (by simp [DataW.weights, ht])
  exact Nat.le_trans (Nat.mul_le_mul_right _ (Nat.le_add_right _ _)) this
theorem fits_str {t : TypeId} {l : List UInt8} (h : Fits P t (.lit (.string l) : DataW H)) : l.length ≤ 140737488351232 := h _ (by simp [DataW.weights])

/-- A string, in one cell. -/
theorem opn_str {t : TypeId} (ht : P.underlying t = some .string) {fuel : Nat} {v : Value} {y : DataW H × List MemPlace} (h : DataW.trod enc P w base spare held fuel t [v] = some y) (hf : Fits P t y.1) :
    ∃ s : ByteArray, v = .string s ∧ s.size ≤ 140737488351232 := by
  obtain ⟨s, e0, rfl, hs⟩ := DataW.trod_string ht h
  simp at e0
  exact ⟨s, e0, by simpa using fits_str hf⟩
/-- A whole number, in one cell. -/
theorem opn_int {t : TypeId} {k : IntKind} (ht : P.underlying t = some (.int k)) {fuel : Nat} {v : Value} {y : DataW H × List MemPlace} (h : DataW.trod enc P w base spare held fuel t [v] = some y) :
    ∃ a : Int, v = .int k a ∧ (Lit.int k a).wf = true := by
  obtain ⟨a, e0, rfl, wa⟩ := DataW.trod_int ht h
  simp at e0
  exact ⟨a, e0, wa⟩
/-- A slice of strings: nil, empty and others alike. -/
theorem opn_strs {t e : TypeId} (ht : P.underlying t = some (.slice e)) (he : P.underlying e = some .string) (hc : P.cellsOf e = 1) (hB : P.bytesOf e = 16) {fuel : Nat} {v : Value} {y : DataW H × List MemPlace}
    (h : DataW.trod enc P w base spare held fuel t [v] = some y) (hf : Fits P t y.1) :
    ∃ (A : Option Addr) (c : Nat) (ss : List ByteArray), v = .slice A ss.length c ∧ Kd.C Kd.string w A ss.length ss ∧ ss.length ≤ c ∧ ss.length * 16 ≤ 140737488351232 ∧ ∀ s ∈ ss, s.size ≤ 140737488351232 := by
  rcases open_strings ht he hc h with ⟨hcs, _⟩ | ⟨a, len, cap, ss, hcs, _, hl, hm, hz, rfl, hcell, _⟩
  · simp at hcs
    exact ⟨none, 0, [], by simpa using hcs, ⟨rfl, by simp, fun h => by simp at h⟩, by simp, by simp, by simp⟩
  · simp at hcs
    have hle : len ≤ ss.length := by rw [hz]; split <;> omega
    have hlen : (ss.take len).length = len := by simp; omega
    refine ⟨some a, cap, ss.take len, by rw [hlen]; exact hcs, ⟨rfl, ?_, fun _ => ⟨a, rfl, ?_⟩⟩, by omega, ?_, ?_⟩
    · rw [hlen]
      have : cap ≤ 9223372036854775807 := by simpa [maxLen] using hm
      omega
    · intro j p hp
      have hj : j < len := by
        have := (List.getElem?_eq_some_iff.1 hp).1
        omega
      refine ⟨[.string p], rfl, rfl, ?_⟩
      intro i u hu
      match i, hu with
      | 0, hu =>
        simp at hu
        subst hu
        have hx := hcell j (by omega)
        have hp' : ss[j]? = some p := by rw [List.getElem?_take_of_lt hj] at hp; exact hp
        rw [List.getD, hp'] at hx
        simpa [Kd.string, Kd.scalar] using hx
    · have := fits_len ht hf
      rw [hB] at this
      simpa [strs] using this
    · intro s hs
      have := fits_elem ht hf (d := .lit (.string s.data.toList)) (by simp only [strs, List.mem_map]; exact ⟨s, hs, rfl⟩)
      simpa using fits_str this

/-- The steps of a law, in memory: records of three whole numbers and a string. -/
def Steps4 (w : World) (A : Option Addr) (l : List (Int × Int × Int × ByteArray)) : Prop :=
  l.length ≤ 9223372036854775807 ∧ (0 < l.length → ∃ ad, A = some ad ∧ ∀ (i : Nat) (x : Int × Int × Int × ByteArray), l[i]? = some x →
    w.cell? (ad.add (i * 4)) = some (.int .i64 x.1) ∧ w.cell? (ad.add (i * 4 + 1)) = some (.int .i64 x.2.1) ∧ w.cell? (ad.add (i * 4 + 2)) = some (.int .i64 x.2.2.1) ∧ w.cell? (ad.add (i * 4 + 3)) = some (.string x.2.2.2))
def StepOk (x : Int × Int × Int × ByteArray) : Prop := (Lit.int .i64 x.1).wf = true ∧ (Lit.int .i64 x.2.1).wf = true ∧ (Lit.int .i64 x.2.2.1).wf = true ∧ x.2.2.2.size ≤ 140737488351232
theorem Steps4.below {w w1 : World} {A : Option Addr} {l : List (Int × Int × Int × ByteArray)} (h : Steps4 w A l) (hb : Below w.heap.size w w1) : Steps4 w1 A l :=
  ⟨h.1, fun h0 => by
    obtain ⟨ad, e, hc⟩ := h.2 h0
    refine ⟨ad, e, fun i x hx => ?_⟩
    obtain ⟨c0, c1, c2, c3⟩ := hc i x hx
    exact ⟨pw_cell_below hb c0, pw_cell_below hb c1, pw_cell_below hb c2, pw_cell_below hb c3⟩⟩
theorem opn_steps {t e : TypeId} {f0 f1 f2 f3 : Field} (ht : P.underlying t = some (.slice e)) (he : P.underlying e = some (.struct #[f0, f1, f2, f3])) (hone : oneCellFields P #[f0, f1, f2, f3] = true) (hc : P.cellsOf e = 4) (hB : 1 ≤ P.bytesOf e)
    (t0 : P.underlying f0.type = some (.int .i64)) (t1 : P.underlying f1.type = some (.int .i64)) (t2 : P.underlying f2.type = some (.int .i64)) (t3 : P.underlying f3.type = some .string)
    {fuel : Nat} {v : Value} {y : DataW H × List MemPlace} (h : DataW.trod enc P w base spare held fuel t [v] = some y) (hf : Fits P t y.1) :
    ∃ (A : Option Addr) (c : Nat) (l : List (Int × Int × Int × ByteArray)), v = .slice A l.length c ∧ Steps4 w A l ∧ l.length ≤ c ∧ l.length ≤ 140737488351232 ∧ ∀ x ∈ l, StepOk x := by
  rcases Go.Deep.open_slice ht h with ⟨hcs, _⟩ | ⟨a, len, cap, m, n, D, Pl, hcs, _, hl, hm, hmm, rfl, hx⟩
  · simp at hcs
    exact ⟨none, 0, [], by simpa using hcs, ⟨by simp, fun h => by simp at h⟩, by simp, by simp, by simp⟩
  · simp at hcs
    have hlm : len ≤ m := by rw [hmm]; split <;> omega
    have hlen : len * P.bytesOf e ≤ 140737488351232 := by
      have := fits_len ht hf
      simpa using this
    have hlen' : len ≤ 140737488351232 := by
      have := Nat.mul_le_mul_left len hB
      omega
    have each : ∀ i, i < len → ∃ x : Int × Int × Int × ByteArray, (w.cell? (a.add (i * 4)) = some (.int .i64 x.1) ∧ w.cell? (a.add (i * 4 + 1)) = some (.int .i64 x.2.1) ∧ w.cell? (a.add (i * 4 + 2)) = some (.int .i64 x.2.2.1) ∧ w.cell? (a.add (i * 4 + 3)) = some (.string x.2.2.2)) ∧ StepOk x := by
      intro i hi
      obtain ⟨cs', h1, h2⟩ := hx i (by omega)
      rw [hc] at h1
      obtain ⟨_, hl4, hcell⟩ := World.cells?_some h1
      match cs', hl4 with
      | [v0, v1, v2, v3], _ =>
        obtain ⟨y0, y1, y2, y3, n', hD, _, g0, g1, g2, g3⟩ := trod_struct4 he h2
        obtain ⟨o0, k0⟩ := hone_of hone 0 f0 rfl
        obtain ⟨o1, k1⟩ := hone_of hone 1 f1 rfl
        obtain ⟨o2, k2⟩ := hone_of hone 2 f2 rfl
        obtain ⟨o3, k3⟩ := hone_of hone 3 f3 rfl
        rw [o0, k0] at g0
        rw [o1, k1] at g1
        rw [o2, k2] at g2
        rw [o3, k3] at g3
        have fD : Fits P e (D i) := fits_elem ht hf (d := D i) (by simp only [List.mem_map, List.mem_range]; exact ⟨i, hi, rfl⟩)
        simp only [Prod.mk.injEq] at hD
        rw [hD.1] at fD
        have fa := fits_agg he fD
        obtain ⟨a0, rfl, w0⟩ := opn_int t0 (v := v0) g0
        obtain ⟨a1, rfl, w1⟩ := opn_int t1 (v := v1) g1
        obtain ⟨a2, rfl, w2⟩ := opn_int t2 (v := v2) g2
        obtain ⟨a3, rfl, w3⟩ := opn_str t3 (v := v3) g3 (fits_each fa (j := 3) rfl rfl)
        have q : ∀ j, (a.add (i * 4)).add j = a.add (i * 4 + j) := fun j => Go.Deep.add_add a _ _
        refine ⟨(a0, a1, a2, a3), ⟨?_, ?_, ?_, ?_⟩, w0, w1, w2, w3⟩
        · have := hcell 0 (by omega); rw [q] at this; simpa using this
        · have := hcell 1 (by omega); rw [q] at this; simpa using this
        · have := hcell 2 (by omega); rw [q] at this; simpa using this
        · have := hcell 3 (by omega); rw [q] at this; simpa using this
    obtain ⟨f, hf'⟩ := Go.Deep.choose_lt (α := Int × Int × Int × ByteArray) each
    have hll : ((List.range len).map f).length = len := by simp
    refine ⟨some a, cap, (List.range len).map f, by rw [hll]; exact hcs, ⟨by rw [hll]; omega, fun _ => ⟨a, rfl, ?_⟩⟩, by rw [hll]; exact hl, by rw [hll]; exact hlen', ?_⟩
    · intro i x hx
      have hi : i < len := by
        have := (List.getElem?_eq_some_iff.1 hx).1
        omega
      rw [List.getElem?_map, List.getElem?_range hi] at hx
      simp at hx
      subst hx
      exact (hf' i hi).1
    · intro x hx
      simp only [List.mem_map, List.mem_range] at hx
      obtain ⟨i, hi, rfl⟩ := hx
      exact (hf' i hi).2
end
end Go.Proofs.YtkmbpakhbicnaaaDoor
