/- How the arguments of this seat's laws are read, with their bulk. -/
import Derived.Test.YtkmbpakhbicnaaaDoorOpen
import Derived.Test.YtkmbpakhbicnaaaDoorRows
import Derived.Test.YtkmbpakhbicnaaaDoorDPlain
namespace Go.Proofs.YtkmbpakhbicnaaaDoor
open Go.Deep Go.ChangeShapes Go.WideShapes Go.RowKit Go.Joins Go.Proofs.YtkmbpakhbicnaaaDoorW.PrintWords
section
variable {H : Type} {enc : TypeId × Value → H} {P : Program} {w : World} {base : Nat} {spare : Nat → Bool} {held : Bool}

theorem opn_strU {t : TypeId} (ht : P.underlying t = some .string) {fuel : Nat} {v : Value} {y : DataW H × List MemPlace} (h : DataW.trod enc P w base spare held fuel t [v] = some y) :
    ∃ s : ByteArray, v = .string s ∧ s.size + 1 ≤ Rows.uptoBulk y.1 := by
  obtain ⟨s, e0, rfl, hs⟩ := DataW.trod_string ht h
  simp at e0
  exact ⟨s, e0, by simp [Rows.uptoBulk]⟩
theorem bulk_strs : ∀ l : List ByteArray, Rows.uptoBulkAll (strs l : List (DataW H)) = l.length + total l
  | [] => rfl
  | s :: r => by
    have := bulk_strs r
    unfold strs at this ⊢
    rw [List.map_cons, Rows.uptoBulkAll, this, Rows.uptoBulk, total, List.length_cons, sizeL]
    omega
theorem opn_strsU {t e : TypeId} (ht : P.underlying t = some (.slice e)) (he : P.underlying e = some .string) (hc : P.cellsOf e = 1) {fuel : Nat} {v : Value} {y : DataW H × List MemPlace}
    (h : DataW.trod enc P w base spare held fuel t [v] = some y) :
    ∃ (A : Option Addr) (c : Nat) (ss : List ByteArray), v = .slice A ss.length c ∧ Kd.C Kd.string w A ss.length ss ∧ ss.length ≤ c ∧ ss.length + total ss + 1 ≤ Rows.uptoBulk y.1 := by
  rcases open_strings ht he hc h with ⟨hcs, rfl⟩ | ⟨a, len, cap, ss, hcs, _, hl, hm, hz, rfl, hcell, _⟩
  · simp at hcs
    exact ⟨none, 0, [], by simpa using hcs, ⟨rfl, by simp, fun h => by simp at h⟩, by simp, by simp [Rows.uptoBulk, total]⟩
  · simp at hcs
    have hle : len ≤ ss.length := by rw [hz]; split <;> omega
    have hlen : (ss.take len).length = len := by simp; omega
    refine ⟨some a, cap, ss.take len, by rw [hlen]; exact hcs, ⟨rfl, ?_, fun _ => ⟨a, rfl, ?_⟩⟩, by omega, ?_⟩
    · rw [hlen]
      have : cap ≤ 9223372036854775807 := by simpa [maxLen] using hm
      omega
    · intro j p hp
      have hj : j < len := by
        have := (List.getElem?_eq_some_iff.1 hp).1
        omega
      refine ⟨[.string p], rfl, rfl, ?_⟩
      intro i u hu
      match i, hu with
      | 0, hu =>
        simp at hu
        subst hu
        have hx := hcell j (by omega)
        have hp' : ss[j]? = some p := by rw [List.getElem?_take_of_lt hj] at hp; exact hp
        rw [List.getD, hp'] at hx
        simpa [Kd.string, Kd.scalar] using hx
    · rw [Rows.uptoBulk, bulk_strs]
      omega
end
end Go.Proofs.YtkmbpakhbicnaaaDoor
