/- Complex numbers: their conversions; the law's own sameFloat and sameComplex. -/
import Derived.Test.YtkbikfifnaihlaaOVal
import Derived.Laws.ComplexArith
import Derived.Laws.Cover2
namespace Go.Fl
open Go.RowKit
theorem run_f2f {P : Program} {w : World} (s k : FloatKind) (b : Nat) (hne : s ≠ k) : (Conv.floatToFloat s b k).run P w = .ok (.float k (mcv s k b w)) (w.drewN (mcd s k b)) := by
  unfold Conv.floatToFloat
  rw [if_neg hne]
  have hdec : FloatKind.decode s b = s.format.read b := rfl
  cases he : s.decode b with
  | nan g f =>
    have hn : nanB s b = true := by unfold nanB; rw [← hdec, he]; rfl
    simp [mcv, mcd, hn, Question.forced, World.drew_is_drewN]
  | infinity g =>
    have hn : nanB s b = false := by unfold nanB; rw [← hdec, he]; rfl
    simp [mcv, mcd, hn, fits, he, World.drewN_zero]
  | number g m e =>
    have hn : nanB s b = false := by unfold nanB; rw [← hdec, he]; rfl
    simp only [mcv, mcd, hn, fits, he]
    cases hf : (k.decode (k.encode (.number g m e))).isInfinity
    · simp [World.drewN_zero]
    · simp [Question.forced, World.drew_is_drewN]
/-- a conversion of a number of which the model knows the outcome -/
theorem run_f2f_fit {P : Program} {w : World} (s k : FloatKind) (b : Nat) (hne : s ≠ k) (hn : nanB s b = false) (hf : fits s k b = true) : (Conv.floatToFloat s b k).run P w = .ok (.float k (k.encode (s.decode b))) w := by
  rw [run_f2f s k b hne]
  simp [mcv, mcd, hn, hf, World.drewN_zero]
theorem run_c2c_fit {P : Program} {w : World} {src dst : TypeId} (s k : FloatKind) (a b : Nat) (hne : s ≠ k) (h1 : nanB s a = false) (h2 : fits s k a = true) (h3 : nanB s b = false) (h4 : fits s k b = true) (hs : (P.underlying src).isSome = true) (hd : P.underlying dst = some (.complex k)) :
    (convert src dst (.complex s a b)).run P w = .ok (.complex k (k.encode (s.decode a)) (k.encode (s.decode b))) w := by
  obtain ⟨u, hs'⟩ := Option.isSome_iff_exists.1 hs
  cases u <;> simp [convert, run_underlying hs', run_underlying hd, Conv.complexToComplex, run_f2f_fit s k a hne h1 h2, run_f2f_fit s k b hne h3 h4]
def wid (a : Nat) : Nat := FloatKind.f64.encode (FloatKind.f32.decode a)
@[go_sem] theorem run_cwid {P : Program} {w : World} {src dst : TypeId} (a b : Nat) (h1 : nanB .f32 a = false) (h2 : nanB .f32 b = false) (hs : (P.underlying src).isSome = true) (hd : P.underlying dst = some (.complex .f64)) :
    (convert src dst (.complex .f32 a b)).run P w = .ok (.complex .f64 (wid a) (wid b)) w := run_c2c_fit .f32 .f64 a b (by decide) h1 (fits_widen a) h2 (fits_widen b) hs hd
theorem fin_nan {x : Nat} (h : fin (can .f32 x) = true) : nanB .f32 x = false := by
  cases hn : nanB .f32 x
  · rfl
  · rw [can_of_nan hn] at h
    exact absurd h (by decide +kernel)
theorem okPt_nan {z : Cx} (h : okPt z = true) : nanB .f32 z.1 = false ∧ nanB .f32 z.2 = false := by
  unfold okPt at h
  rw [Bool.and_eq_true] at h
  exact ⟨fin_nan h.1, fin_nan h.2⟩
theorem okAt {l : List Cx} (h : l.all okPt = true) {i : Nat} (hi : i < l.length) : ∃ x y, cAt l i = (x, y) ∧ nanB .f32 x = false ∧ nanB .f32 y = false := by
  have := List.all_eq_true.1 h _ (List.getElem_mem hi)
  refine ⟨(cAt l i).1, (cAt l i).2, rfl, ?_⟩
  have e : cAt l i = l[i] := by simp [cAt, hi]
  rw [e]
  exact okPt_nan this
/-- the number that the law marks with -/
def m64 (k : Nat) : Nat := FloatKind.f64.nearest (k : Int)
def mX (k : Nat) : Nat := FloatKind.f32.encode (FloatKind.f64.decode (m64 k))
def mOk (k : Nat) : Bool := !nanB .f64 (m64 k) && fits .f64 .f32 (m64 k) && !nanB .f32 (mX k)
theorem mOk_all : (List.range 2100).all mOk = true := by decide +kernel
theorem mOk_at {k : Nat} (h : k < 2100) : nanB .f64 (m64 k) = false ∧ fits .f64 .f32 (m64 k) = true ∧ nanB .f32 (mX k) = false := by
  have := List.all_eq_true.1 mOk_all k (List.mem_range.2 h)
  unfold mOk at this
  simpa [Bool.and_eq_true, and_assoc] using this
def one32 : Nat := 1065353216
theorem one_nan : nanB .f64 4607182418800017408 = false := by decide +kernel
theorem one_fits : fits .f64 .f32 4607182418800017408 = true := by decide +kernel
theorem one_enc : FloatKind.f32.encode (FloatKind.f64.decode 4607182418800017408) = one32 := by decide +kernel
theorem one32_nan : nanB .f32 one32 = false := by decide +kernel
@[go_sem] theorem run_cmark {P : Program} {w : World} {src dst : TypeId} (k : Nat) (h1 : nanB .f64 (m64 k) = false) (h2 : fits .f64 .f32 (m64 k) = true) (hs : (P.underlying src).isSome = true) (hd : P.underlying dst = some (.complex .f32)) :
    (convert src dst (.complex .f64 (floatOfInt .f64 (k : Int)) 4607182418800017408)).run P w = .ok (.complex .f32 (mX k) one32) w := by
  rw [show floatOfInt .f64 (k : Int) = m64 k from rfl, run_c2c_fit .f64 .f32 (m64 k) _ (by decide) h1 h2 one_nan one_fits hs hd, one_enc]
  rfl
end Go.Fl
namespace Go.Proofs.Ytkbikfifnaihlaa
open Go.RowKit Go.Fl

end Go.Proofs.Ytkbikfifnaihlaa
