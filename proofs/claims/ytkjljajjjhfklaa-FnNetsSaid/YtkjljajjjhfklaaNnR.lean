/- Nets, the law: boxes and tiles, their numbers. -/
import Derived.Test.YtkjljajjjhfklaaNnQ
import Derived.Test.YtkjljajjjhfklaaNnH
namespace Go.Proofs.Ytkjljajjjhfklaa
open Go.RowKit Go.Fl Ieee
/-- the round spots, in a form that runs -/
def rdC' (fs : List (List Int)) (i : Nat) : Nat := cntF (faC fs i fs.length).length
def rdP' (ps : List Sp) (fs : List (List Int)) (i : Nat) : Sp :=
  if (othBd fs i).length = 0 then spDiv (spAdd (spAdd (meanQ (qsOf (midsTo ps fs fs.length) (faC fs i fs.length))) (spMul (meanQ (rdQ2 ps fs i)) (can .f32 1073741824))) (spMul (pAt ps i) (fsub (rdC' fs i) (can .f32 1077936128)))) (rdC' fs i)
  else if (othBd fs i).length = 2 then spAdd (spMul (pAt ps i) (can .f32 1061158912)) (spMul (spAdd (pAt ps (iAt (othBd fs i) 0).toNat) (pAt ps (iAt (othBd fs i) 1).toNat)) (can .f32 1040187392))
  else pAt ps i
def rnP' (ps : List Sp) (fs : List (List Int)) : List Sp := (List.range ps.length).map (rdP' ps fs) ++ midsTo ps fs fs.length ++ rn3 ps fs (fsts fs).length
theorem rnP_C (ps : List Sp) (fs : List (List Int)) : rnP ps fs = rnP' ps fs := by
  have h : rdP ps fs = rdP' ps fs := by
    funext i
    unfold rdP rdP' rdC rdC' rdQ1
    rw [faI_C]
  unfold rnP rn2 rn1 rnP'
  rw [h]
/-- the box's wide, and what is told of it -/
def wdF (k : Nat) : Nat := fdiv (floatOfInt .f32 ((k + 1 : Nat) : Int)) 1073741824
def bxP (k : Nat) : List Sp := boxP (wdF k) 1073741824 1077936128 8
def szF (k : Nat) : Nat := fdiv (triF volG (bxP k) boxF 6) 1086324736
def skF (k : Nat) : Nat := triF areaG (bxP k) boxF 6
def opF (k : Nat) : Nat := fdiv (triF volG (bxP k) (boxF.map List.reverse) 6) 1086324736
def lsF (k : Nat) : Nat := fdiv (triF volG (rnP' (bxP k) boxF) (rnF boxF 8) 24) 1086324736
def w64 (x : Nat) : Nat := fcv .f32 .f64 x
def six64 (k : Nat) : Nat := fop .mul .f64 4618441417868443648 (w64 (wdF k))
def two64 (k : Nat) : Nat := fop .mul .f64 4611686018427387904 (w64 (wdF k))
def thr64 (k : Nat) : Nat := fop .mul .f64 4613937818241073152 (w64 (wdF k))
def sum64 (k : Nat) : Nat := fop .add .f64 (two64 k) (thr64 k)
def sum65 (k : Nat) : Nat := fop .add .f64 (sum64 k) 4618441417868443648
def skin64 (k : Nat) : Nat := fop .mul .f64 4611686018427387904 (sum65 k)
def neg64 (k : Nat) : Nat := Op.negFloat .f64 (w64 (szF k))
/-- the gap of two is told and small -/
def gapB (a b : Nat) : Bool := isN .f64 (fop .sub .f64 a b) && isN .f64 (fop .sub .f64 b a) && (FloatKind.f64.format.order (gapM a b) 4576918229304087675 == some .lt)
/-- what the law asks of a box -/
def boxT (k : Nat) : Bool :=
  isN .f32 (wdF k) && fin (can .f32 (wdF k)) && (bxP k).all finSp && allF volT (bxP k) boxF 6 && fin (szF k) && fin (skF k) &&
  allF volT (bxP k) (boxF.map List.reverse) 6 && fin (opF k) && (rnP' (bxP k) boxF).all finSp && allF volT (rnP' (bxP k) boxF) (rnF boxF 8) 24 && fin (lsF k) &&
  isN .f64 (six64 k) && isN .f64 (two64 k) && isN .f64 (thr64 k) && isN .f64 (sum64 k) && isN .f64 (sum65 k) && isN .f64 (skin64 k) &&
  gapB (w64 (opF k)) (neg64 k) && gapB (w64 (szF k)) (six64 k) && gapB (w64 (skF k)) (skin64 k) &&
  (FloatKind.f32.format.order (lsF k) 0 == some .gt) && (FloatKind.f32.format.order (lsF k) (szF k) == some .lt)
theorem box_all : (List.range 8).all boxT = true := by decide +kernel
def flF (m n : Nat) : Nat := triF areaG (gridP m ((n + 1) * (m + 1))) (gridF m n) (m * n)
/-- what the law asks of tiles -/
def gridT (m n : Nat) : Bool := fin (flF m n) && gapB (w64 (flF m n)) (floatOfInt .f64 ((m * n : Nat) : Int))
theorem grid_all : (List.range 4).all (fun m => (List.range 4).all fun n => gridT (m + 1) (n + 1)) = true := by decide +kernel
theorem prL_box : (prL true boxF).length = 0 ∧ (prL true (boxF.map List.reverse)).length = 0 ∧ (prL true (rnF boxF 8)).length = 0 := by decide +kernel
end Go.Proofs.Ytkjljajjjhfklaa
