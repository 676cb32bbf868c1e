/- Small words that the texts of this seat share. -/
namespace Go.Proofs.YtkmbpakhbicnaaaDoor
/-- How the walk spells 's != ""'. -/
theorem px_ie (l : List UInt8) : (l.isEmpty = !(l != [])) = True := by cases l <;> simp
end Go.Proofs.YtkmbpakhbicnaaaDoor
