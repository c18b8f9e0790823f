/- What AreaOfNet answers, as a plain function. -/
import Derived.Test.YtbmahankleijkaaVolD
namespace Go.Fl
/-- the program's share of a triangle -/
def areaG (a b c : Sp) : Nat := fdiv (triLong a b c) 1073741824
theorem areaG_eq : areaG = triA := by funext a b c; exact triA_half a b c
end Go.Fl
namespace Go.Proofs.Ytbmahankleijkaa
open Go.RowKit Go.Fl
noncomputable def areaV (ps : List Sp) (fs : List (List Int)) : Nat := if okN ps fs then ifFin (triF areaG ps fs fs.length) else 0
noncomputable def areaO (ps : List Sp) (fs : List (List Int)) : Bool := okN ps fs && fin (triF areaG ps fs fs.length)
theorem RetA.no {ps : List Sp} {fs : List (List Int)} {w w' : World} (h : okN ps fs = false) (hb : Below w.heap.size w w') : RetF (areaV ps fs) (areaO ps fs) w (.returned (.tuple #[.float .f32 0, .bool false])) w' := by
  have h1 : areaV ps fs = 0 := by simp [areaV, h]
  have h2 : areaO ps fs = false := by simp [areaO, h]
  rw [h1, h2]
  exact ⟨⟨0, rfl, F32.zero⟩, hb⟩
end Go.Proofs.Ytbmahankleijkaa
