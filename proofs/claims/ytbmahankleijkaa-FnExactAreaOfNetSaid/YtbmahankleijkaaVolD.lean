/- What VolumeOfNet answers, as a plain function. -/
import Derived.Test.YtbmahankleijkaaCrs
import Derived.Test.YtbmahankleijkaaPrB
namespace Go.Fl
/-- the call from w answers with the number v and with ok -/
def RetF (v : Nat) (ok : Bool) (w : World) (e : Ending) (w' : World) : Prop :=
  (∃ r, e = .returned (.tuple #[.float .f32 r, .bool ok]) ∧ F32 r v) ∧ RowKit.Below w.heap.size w w'
def volG (a b c : Sp) : Nat := spDot a (spCross b c)
def volT (_ b c : Sp) : Bool := finSp (spCross b c)
end Go.Fl
namespace Go.Proofs.Ytbmahankleijkaa
open Go.RowKit Go.Fl
noncomputable def volC (ps : List Sp) (fs : List (List Int)) : Bool := okN ps fs && decide ((prL true fs).length = 0) && allF volT ps fs fs.length
noncomputable def volV (ps : List Sp) (fs : List (List Int)) : Nat := if volC ps fs then ifFin (fdiv (triF volG ps fs fs.length) 1086324736) else 0
noncomputable def volO (ps : List Sp) (fs : List (List Int)) : Bool := volC ps fs && fin (fdiv (triF volG ps fs fs.length) 1086324736)
theorem RetF.no {ps : List Sp} {fs : List (List Int)} {w w' : World} (h : volC ps fs = false) (hb : Below w.heap.size w w') : RetF (volV ps fs) (volO ps fs) w (.returned (.tuple #[.float .f32 0, .bool false])) w' := by
  have h1 : volV ps fs = 0 := by simp [volV, h]
  have h2 : volO ps fs = false := by simp [volO, h]
  rw [h1, h2]
  exact ⟨⟨0, rfl, F32.zero⟩, hb⟩
theorem cornFin {ps : List Sp} {f : List Int} (h : ps.all finSp = true) (hin : InN ps.length f) {k : Nat} (hk : k < f.length) : finSp (cornP ps f k) = true := by
  obtain ⟨i0, i1⟩ := hin k hk
  unfold cornP
  have : (iAt f k).toNat < ps.length := by omega
  have hm : pAt ps (iAt f k).toNat ∈ ps := by
    unfold pAt; rw [List.getD_eq_getElem?_getD, List.getElem?_eq_getElem this]; exact List.getElem_mem this
  exact List.all_eq_true.1 h _ hm

end Go.Proofs.Ytbmahankleijkaa
