/- Dashes: the small functions of points, at numbers. -/
import Derived.Test.YtkbikfifnaihlaaRgP
import Derived.Test.YtkbikfifnaihlaaRs
import Derived.Test.YtkbikfifnaihlaaOVi
import Derived.Test.YtkbikfifnaihlaaQApp
import Derived.Test.YtkbikfifnaihlaaGBase
import Derived.Test.YtkbikfifnaihlaaBAt
namespace Go.Fl
open Ieee Go.RowKit
theorem run_fopN {op : BinOp} {K : FloatKind} {x y : Nat} (hn : isN K (fop op K x y) = true) : (∀ w, mop op K x y w = fop op K x y) ∧ mdr op K x y = 0 := by
  unfold fop at hn ⊢
  cases hb : floatBits op K x y with
  | some r => exact ⟨fun w => by unfold mop; rw [hb]; rfl, by unfold mdr; rw [hb]; rfl⟩
  | none =>
    rw [hb] at hn
    exfalso
    revert hn
    cases K <;> decide +kernel
theorem isN.canN {K : FloatKind} {x : Nat} (h : isN K x = true) : Go.Fl.can K x = x := can_of_not (by
  obtain ⟨s, m, i, hr, _⟩ := isN_read h
  unfold nanB; rw [hr]; rfl)
theorem isN.nan {K : FloatKind} {x : Nat} (h : isN K x = true) : nanB K x = false := by
  obtain ⟨s, m, i, hr, _⟩ := isN_read h
  unfold nanB; rw [hr]; rfl
/-- both parts are numbers -/
def nN (z : Cx) : Prop := isN .f32 z.1 = true ∧ isN .f32 z.2 = true
end Go.Fl
namespace Go.Proofs.Ytkbikfifnaihlaa
open Go.RowKit Go.Fl

theorem plusN {a b : Cx} (h : nN (plusF a b)) (w : World) :
    Calls Try.prog 23 #[cV a, cV b] w fun x w' => x = .returned (cV (plusF a b)) ∧ w' = w := by
  obtain ⟨m1, d1⟩ := run_fopN h.1
  obtain ⟨m2, d2⟩ := run_fopN h.2
  have dz : ∀ w : World, w.drewN 0 = w := World.drewN_zero
  obtain ⟨a1, a2⟩ := a
  obtain ⟨b1, b2⟩ := b
  clear h
  unfold cV
  go_enter Try.func23, Try.ntmps23
  go_wp2_with fail
  go_ret
  exact ⟨rfl, rfl⟩
theorem minusN {a b : Cx} (h : nN (minusF a b)) (w : World) :
    Calls Try.prog 20 #[cV a, cV b] w fun x w' => x = .returned (cV (minusF a b)) ∧ w' = w := by
  obtain ⟨m1, d1⟩ := run_fopN h.1
  obtain ⟨m2, d2⟩ := run_fopN h.2
  have dz : ∀ w : World, w.drewN 0 = w := World.drewN_zero
  obtain ⟨a1, a2⟩ := a
  obtain ⟨b1, b2⟩ := b
  clear h
  unfold cV
  go_enter Try.func20, Try.ntmps20
  go_wp2_with fail
  go_ret
  exact ⟨rfl, rfl⟩
theorem scaleN {a : Cx} {s : Nat} (h : nN (scaleF a s)) (w : World) :
    Calls Try.prog 32 #[cV a, .float .f32 s] w fun x w' => x = .returned (cV (scaleF a s)) ∧ w' = w := by
  obtain ⟨m1, d1⟩ := run_fopN h.1
  obtain ⟨m2, d2⟩ := run_fopN h.2
  have dz : ∀ w : World, w.drewN 0 = w := World.drewN_zero
  obtain ⟨a1, a2⟩ := a
  clear h
  unfold cV
  go_enter Try.func32, Try.ntmps32
  go_wp2_with fail
  go_ret
  exact ⟨rfl, rfl⟩
end Go.Proofs.Ytkbikfifnaihlaa
