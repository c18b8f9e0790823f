/- Sums of floats that are exact: the model draws nothing. -/
import Derived.Test.YtgghhnglnklmbaaGAt
namespace Go.Fl
open Op Ieee
theorem Q.add_run {K : FloatKind} {x y : Nat} {k l : Int} {e : Nat} (hx : Q K x k e) (hy : Q K y l e) (hk : (k + l).natAbs < 2 ^ (FB K + 1)) : ∃ z, Q K z (k + l) e ∧ (∀ w, mop .add K x y w = z) ∧ mdr .add K x y = 0 := by
  obtain ⟨t, n, j, hr, hj, hv⟩ := isN_read hy.num
  obtain ⟨r, h1, h2⟩ := Q.sum hx ⟨t, n, j, rfl, hj, by rw [← hv, hy.val]⟩ hk
  have hb : floatBits .add K x y = some r := by
    show ((K.format.read x).sum (K.format.read y) |>.map K.format.write) = some r
    rw [hr, h1]
  exact ⟨r, h2, fun w => by unfold mop; rw [hb], by unfold mdr; rw [hb]; rfl⟩
end Go.Fl
