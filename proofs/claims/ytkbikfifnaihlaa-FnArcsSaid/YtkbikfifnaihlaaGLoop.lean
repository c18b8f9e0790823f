/- spec.l07DrawLoop: a loop of quarters. (Written by mkgdraw.py.) -/
import Derived.Test.YtkbikfifnaihlaaGSrc
import Derived.Test.YtkbikfifnaihlaaGPl
namespace Go.Fl
open Go.RowKit
/-- the numbers that are drawn -/
def dX (r : Nat) : Nat := fdiv (can .f32 (floatOfInt .f32 ((r : Int) - 8))) 1082130432
def dOk (r : Nat) : Bool := fin (dX r) && decide (dX r < 4294967296)
theorem dOk_all : (List.range 33).all dOk = true := by decide +kernel
theorem dOk_at {r : Nat} (h : r < 33) : fin (dX r) = true ∧ dX r < 4294967296 := by
  have := List.all_eq_true.1 dOk_all r (List.mem_range.2 h)
  unfold dOk at this
  simpa [Bool.and_eq_true] using this
/-- a number that is drawn is good -/
theorem draw_ok {b r : Nat} (h : F32 b (dX r)) (hr : r < 33) : fin (can .f32 b) = true ∧ b < 4294967296 := by
  obtain ⟨h1, h2⟩ := dOk_at hr
  unfold F32 at h
  rw [h]
  refine ⟨h1, ?_⟩
  rw [← h] at h1 h2
  rwa [can_of_not (fin_nan h1)] at h2
/-- both parts are drawn quarters -/
def ptD (z : Cx) : Prop := ∃ r s : Nat, r < 33 ∧ s < 33 ∧ F32 z.1 (dX r) ∧ F32 z.2 (dX s)
def ptOk (z : Cx) : Prop := okPt z = true ∧ (z.1 < 4294967296 ∧ z.2 < 4294967296) ∧ ptD z
theorem dX_q {r : Nat} (h : r < 33) : Q .f32 (dX r) ((r : Int) - 8) 2 := by
  have hq : Q .f32 (floatOfInt .f32 ((r : Int) - 8)) ((r : Int) - 8) 0 := Q.ofInt .f32 _ (lt24 (by omega))
  have hc : can .f32 (floatOfInt .f32 ((r : Int) - 8)) = floatOfInt .f32 ((r : Int) - 8) := can_of_not (by
    obtain ⟨s, m, i, e, _⟩ := isN_read hq.num
    unfold nanB; rw [e]; rfl)
  unfold dX fdiv
  rw [hc]
  have := Q.half (d := 2) hq (y := 1082130432) (by decide) (lt24 (by omega)) (by decide)
  simpa using this
theorem Kept.grew {lo hi b : Nat} {a w w' : World} (h : Kept lo hi a w) (g : Grew b w w') (hb : a.heap.size ≤ b) : Kept lo hi a w' :=
  have hs := h.size
  ⟨g.os.trans h.os, g.tape.trans h.tape, g.output.trans h.output, Nat.le_trans h.size g.size, fun c hc hn => (g.block c (by omega) (by omega)).trans (h.block c hc hn), fun c n hc hr => Room.same (g.block c (by omega) (by omega)) (h.room c n hc hr)⟩
end Go.Fl
namespace Go.Proofs.Ytkbikfifnaihlaa
open Go.RowKit Go.Fl

end Go.Proofs.Ytkbikfifnaihlaa
