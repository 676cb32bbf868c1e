/- The strings of a slice, by their cells. -/
import Derived.Test.YtkmbpakhbicnaaaDoorWWords
import Derived.Test.YtkmbpakhbicnaaaDoorWMore
namespace Go.Proofs.YtkmbpakhbicnaaaDoor
open Go.RowKit Go.Proofs.YtkmbpakhbicnaaaDoorW.PrintWords Go.Proofs.YtkmbpakhbicnaaaDoorW.PrintMore Go.Lib

/-- The strings of a slice. -/
def Strs (w : World) (A : Option Addr) (l : List ByteArray) : Prop := ∀ (i : Nat) (s : ByteArray), l[i]? = some s → ∃ ad, A = some ad ∧ w.cell? (ad.add i) = some (.string s)
theorem strs_of {w : World} {A : Option Addr} {n : Nat} {l : List ByteArray} (h : Kd.C Kd.string w A n l) (hn : n = l.length) : Strs w A l := by
  intro i s hs
  have hi := (List.getElem?_eq_some_iff.1 hs).1
  obtain ⟨_, _, h3⟩ := h
  obtain ⟨ad, rfl, h4⟩ := h3 (by omega)
  obtain ⟨cs, _, h5, h7⟩ := h4 i s hs
  refine ⟨ad, rfl, ?_⟩
  have := h7 0 (.string s) (by rw [h5]; rfl)
  simpa [Kd.string, Kd.scalar] using this
theorem Strs.below {w w' : World} {A : Option Addr} {l : List ByteArray} (h : Strs w A l) (hb : Below w.heap.size w w') : Strs w' A l := fun i s hs => by
  obtain ⟨ad, e, hc⟩ := h i s hs
  exact ⟨ad, e, pw_cell_below hb hc⟩
end Go.Proofs.YtkmbpakhbicnaaaDoor
