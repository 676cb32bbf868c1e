/- How the arguments of this seat's laws are read: strings, slices of strings, and how large they may be. -/
import Derived.Test.YtampdabniahncaaWWords
import Derived.Test.YtampdabniahncaaWSized
import Derived.ProofKit
import Derived.SizedLaws
import Derived.Lib.SmallJoins
import Derived.Deep.Slices
namespace Go.Proofs.Ytampdabniahncaa
open Go.ChangeShapes Go.WideShapes Go.RowKit Go.Joins Go.Proofs.YtampdabniahncaaW.PrintWords
section
variable {H : Type} {enc : TypeId × Value → H} {P : Program} {w : World} {base : Nat} {spare : Nat → Bool} {held : Bool}

/-- What the form's reach says of one argument, or of a part of it. -/
def Fits (P : Program) (t : TypeId) (d : DataW H) : Prop := ∀ n ∈ d.weights P t, n ≤ 140737488351232
theorem fits_of {ts : List TypeId} {ds : List (DataW H)} (hsz : (DataW.weightsEach P ts ds).all (· ≤ reachBytes) = true) {j : Nat} {t : TypeId} {d : DataW H} (ht : ts[j]? = some t) (hd : ds[j]? = some d) : Fits P t d := by
  intro n hn
  exact of_decide_eq_true (List.all_eq_true.1 hsz _ (DataW.weights_mem_each ht hd n hn))
theorem fits_each {ts : List TypeId} {ds : List (DataW H)} (h : ∀ n ∈ DataW.weightsEach P ts ds, n ≤ 140737488351232) {j : Nat} {t : TypeId} {d : DataW H} (ht : ts[j]? = some t) (hd : ds[j]? = some d) : Fits P t d :=
  fun n hn => h n (DataW.weights_mem_each ht hd n hn)
theorem fits_agg {t : TypeId} {fs : Array Field} {parts : List (DataW H)} (hs : P.underlying t = some (.struct fs)) (h : Fits P t (.agg parts)) : ∀ n ∈ DataW.weightsEach P (fs.toList.map (·.type)) parts, n ≤ 140737488351232 := by
  intro n hn
  exact h n (by simpa [DataW.weights, hs] using hn)
theorem weights_all {e : TypeId} {l : List (DataW H)} {d : DataW H} (hd : d ∈ l) : ∀ n ∈ d.weights P e, n ∈ DataW.weightsAll P e l := by
  induction l with
  | nil => cases hd
  | cons x r ih =>
    intro n hn
    rw [DataW.weightsAll, List.mem_append]
    rcases List.mem_cons.1 hd with rfl | hd
    · exact .inl hn
    · exact .inr (ih hd n hn)
theorem fits_elem {t e : TypeId} (ht : P.underlying t = some (.slice e)) {l r : List (DataW H)} (h : Fits P t (.slice l r)) {d : DataW H} (hd : d ∈ l) : Fits P e d := by
  intro n hn
  refine h n ?_
  simp only [DataW.weights, ht, List.mem_cons, List.mem_append]
  exact .inr (.inl (weights_all hd n hn))
theorem fits_len {t e : TypeId} (ht : P.underlying t = some (.slice e)) {l r : List (DataW H)} (h : Fits P t (.slice l r)) : l.length * P.bytesOf e ≤ 140737488351232 := by
  have := h ((l.length + r.length) * P.bytesOf e) (by simp [DataW.weights, ht])
  exact Nat.le_trans (Nat.mul_le_mul_right _ (Nat.le_add_right _ _)) this
theorem fits_str {t : TypeId} {l : List UInt8} (h : Fits P t (.lit (.string l) : DataW H)) : l.length ≤ 140737488351232 := h _ (by simp [DataW.weights])

/-- A string, in one cell. -/
theorem opn_str {t : TypeId} (ht : P.underlying t = some .string) {fuel : Nat} {v : Value} {y : DataW H × List MemPlace} (h : DataW.trod enc P w base spare held fuel t [v] = some y) (hf : Fits P t y.1) :
    ∃ s : ByteArray, v = .string s ∧ s.size ≤ 140737488351232 := by
  obtain ⟨s, e0, rfl, hs⟩ := DataW.trod_string ht h
  simp at e0
  exact ⟨s, e0, by simpa using fits_str hf⟩
/-- A whole number, in one cell. -/
theorem opn_int {t : TypeId} {k : IntKind} (ht : P.underlying t = some (.int k)) {fuel : Nat} {v : Value} {y : DataW H × List MemPlace} (h : DataW.trod enc P w base spare held fuel t [v] = some y) :
    ∃ a : Int, v = .int k a ∧ (Lit.int k a).wf = true := by
  obtain ⟨a, e0, rfl, wa⟩ := DataW.trod_int ht h
  simp at e0
  exact ⟨a, e0, wa⟩
/-- A slice of strings: nil, empty and others alike. -/
theorem opn_strs {t e : TypeId} (ht : P.underlying t = some (.slice e)) (he : P.underlying e = some .string) (hc : P.cellsOf e = 1) (hB : P.bytesOf e = 16) {fuel : Nat} {v : Value} {y : DataW H × List MemPlace}
    (h : DataW.trod enc P w base spare held fuel t [v] = some y) (hf : Fits P t y.1) :
    ∃ (A : Option Addr) (c : Nat) (ss : List ByteArray), v = .slice A ss.length c ∧ Kd.C Kd.string w A ss.length ss ∧ ss.length ≤ c ∧ ss.length * 16 ≤ 140737488351232 ∧ ∀ s ∈ ss, s.size ≤ 140737488351232 := by
  rcases open_strings ht he hc h with ⟨hcs, _⟩ | ⟨a, len, cap, ss, hcs, _, hl, hm, hz, rfl, hcell, _⟩
  · simp at hcs
    exact ⟨none, 0, [], by simpa using hcs, ⟨rfl, by simp, fun h => by simp at h⟩, by simp, by simp, by simp⟩
  · simp at hcs
    have hle : len ≤ ss.length := by rw [hz]; split <;> omega
    have hlen : (ss.take len).length = len := by simp; omega
    refine ⟨some a, cap, ss.take len, by rw [hlen]; exact hcs, ⟨rfl, ?_, fun _ => ⟨a, rfl, ?_⟩⟩, by omega, ?_, ?_⟩
    · rw [hlen]
      have : cap ≤ 9223372036854775807 := by simpa [maxLen] using hm
      omega
    · intro j p hp
      have hj : j < len := by
        have := (List.getElem?_eq_some_iff.1 hp).1
        omega
      refine ⟨[.string p], rfl, rfl, ?_⟩
      intro i u hu
      match i, hu with
      | 0, hu =>
        simp at hu
        subst hu
        have hx := hcell j (by omega)
        have hp' : ss[j]? = some p := by rw [List.getElem?_take_of_lt hj] at hp; exact hp
        rw [List.getD, hp'] at hx
        simpa [Kd.string, Kd.scalar] using hx
    · have := fits_len ht hf
      rw [hB] at this
      simpa [strs] using this
    · intro s hs
      have := fits_elem ht hf (d := .lit (.string s.data.toList)) (by simp only [strs, List.mem_map]; exact ⟨s, hs, rfl⟩)
      simpa using fits_str this

end
end Go.Proofs.Ytampdabniahncaa
