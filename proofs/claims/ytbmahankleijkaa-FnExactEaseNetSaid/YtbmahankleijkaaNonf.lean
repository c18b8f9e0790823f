/- Numbers that are not finite stay so. -/
import Derived.Test.YtbmahankleijkaaSp
import Derived.Test.YtbmahankleijkaaHalf
namespace Go.Fl
open Ieee
/-- is it a number? -/
def isNum (x : Nat) : Bool := match FloatKind.f32.format.read x with | .number _ _ _ => true | _ => false
theorem fin_isNum (x : Nat) : fin x = isNum x := by
  unfold fin isNum fsub fop floatBits Format.sub
  cases h : FloatKind.f32.format.read x with
  | nan s f =>
    simp only [Datum.sum, Option.map_none, Option.getD_none]
    decide +kernel
  | infinity s =>
    simp only [Datum.opposite, Datum.sum]
    cases s <;> decide +kernel
  | number s m p =>
    have ht : signed s m (p - min p p).toNat + signed (!s) m (p - min p p).toNat = 0 := by
      cases s <;> simp [signed] <;> omega
    simp only [Datum.opposite, Datum.sum, ht, if_true, Option.map_some, Option.getD_some]
    have hw : FloatKind.f32.format.write (.number (s && !s) (Int.natAbs 0) (min p p)) = 0 := by
      show FloatKind.f32.format.nearest (s && !s) (Int.natAbs 0) (min p p) = 0
      unfold Format.nearest
      rw [if_pos (show Int.natAbs 0 = 0 from rfl)]
      cases s <;> decide
    rw [hw]
    decide +kernel
theorem isNum_q : isNum (qnan .f32) = false := by decide +kernel
theorem isNum_inf (s : Bool) : isNum (FloatKind.f32.format.write (.infinity s)) = false := by cases s <;> decide +kernel
theorem nf_op_left {op : BinOp} (hop : op = .add ∨ op = .sub ∨ op = .mul) {x : Nat} (y : Nat) (h : isNum x = false) : isNum (fop op .f32 x y) = false := by
  unfold fop
  rcases hop with rfl | rfl | rfl
  all_goals
    simp only [floatBits, Format.add, Format.sub, Format.mul]
    unfold isNum at h
    cases hx : FloatKind.f32.format.read x with
    | number s m p => rw [hx] at h; simp at h
    | nan s f => simp only [Datum.sum, Datum.product, Option.map_none, Option.getD_none]; exact isNum_q
    | infinity s =>
      cases hy : FloatKind.f32.format.read y with
      | nan s f => simp only [Datum.sum, Datum.product, Datum.opposite, Option.map_none, Option.getD_none]; exact isNum_q
      | infinity t =>
        simp only [Datum.sum, Datum.product, Datum.opposite]
        first
          | (split
             · exact isNum_inf _
             · exact isNum_q)
          | exact isNum_inf _
      | number t n j =>
        simp only [Datum.sum, Datum.product, Datum.opposite]
        first
          | exact isNum_inf _
          | (split
             · exact isNum_q
             · exact isNum_inf _)
theorem nf_op_right {op : BinOp} (hop : op = .add ∨ op = .sub ∨ op = .mul) (x : Nat) {y : Nat} (h : isNum y = false) : isNum (fop op .f32 x y) = false := by
  unfold fop
  rcases hop with rfl | rfl | rfl
  all_goals
    simp only [floatBits, Format.add, Format.sub, Format.mul]
    unfold isNum at h
    cases hy : FloatKind.f32.format.read y with
    | number s m p => rw [hy] at h; simp at h
    | nan s f =>
      have : (FloatKind.f32.format.read x).sum (.nan s f) = none ∧ (FloatKind.f32.format.read x).product (.nan s f) = none ∧ (FloatKind.f32.format.read x).sum (Datum.opposite (.nan s f)) = none := by
        cases FloatKind.f32.format.read x <;> simp [Datum.sum, Datum.product, Datum.opposite]
      simp only [this, Option.map_none, Option.getD_none]; exact isNum_q
    | infinity t =>
      cases hx : FloatKind.f32.format.read x with
      | nan s f => simp only [Datum.sum, Datum.product, Datum.opposite, Option.map_none, Option.getD_none]; exact isNum_q
      | infinity s =>
        simp only [Datum.sum, Datum.product, Datum.opposite]
        first
          | (split
             · exact isNum_inf _
             · exact isNum_q)
          | exact isNum_inf _
      | number s n j =>
        simp only [Datum.sum, Datum.product, Datum.opposite]
        first
          | exact isNum_inf _
          | (split
             · exact isNum_q
             · exact isNum_inf _)
theorem nf_add_l {x : Nat} (y : Nat) (h : fin x = false) : fin (fadd x y) = false := by rw [fin_isNum] at *; exact nf_op_left (by simp) y h
theorem nf_add_r (x : Nat) {y : Nat} (h : fin y = false) : fin (fadd x y) = false := by rw [fin_isNum] at *; exact nf_op_right (by simp) x h
theorem nf_sub_l {x : Nat} (y : Nat) (h : fin x = false) : fin (fsub x y) = false := by rw [fin_isNum] at *; exact nf_op_left (by simp) y h
theorem nf_sub_r (x : Nat) {y : Nat} (h : fin y = false) : fin (fsub x y) = false := by rw [fin_isNum] at *; exact nf_op_right (by simp) x h
theorem nf_mul_l {x : Nat} (y : Nat) (h : fin x = false) : fin (fmul x y) = false := by rw [fin_isNum] at *; exact nf_op_left (by simp) y h
theorem nf_mul_r (x : Nat) {y : Nat} (h : fin y = false) : fin (fmul x y) = false := by rw [fin_isNum] at *; exact nf_op_right (by simp) x h
theorem nf_sqrt {x : Nat} (h : fin x = false) : fin (fsqrt x) = false := by
  rw [fin_isNum] at *
  unfold isNum at h
  unfold fsqrt
  cases hx : FloatKind.f32.format.read x with
  | number s m p => rw [hx] at h; simp at h
  | nan s f =>
    have hn : nanB .f32 x = true := by unfold nanB; rw [hx]; rfl
    have : fcv .f32 .f64 x = qnan .f64 := by unfold fcv; rw [if_pos hn]
    rw [this]; decide +kernel
  | infinity s =>
    have hn : nanB .f32 x = false := by unfold nanB; rw [hx]; rfl
    have : fcv .f32 .f64 x = FloatKind.f64.encode (.infinity s) := by
      unfold fcv
      rw [if_neg (by rw [hn]; decide)]
      show FloatKind.f64.encode (FloatKind.f32.format.read x) = _
      rw [hx]
    rw [this]
    cases s <;> decide +kernel
theorem finSp_no {p : Sp} (h : finSp p = false) : fin p.1 = false ∨ fin p.2.1 = false ∨ fin p.2.2 = false := by
  unfold finSp at h
  cases h1 : fin p.1
  · exact .inl rfl
  · cases h2 : fin p.2.1
    · exact .inr (.inl rfl)
    · rw [h1, h2] at h; exact .inr (.inr (by simpa using h))
theorem finSp_of {p : Sp} (h : fin p.1 = false ∨ fin p.2.1 = false ∨ fin p.2.2 = false) : finSp p = false := by
  unfold finSp
  rcases h with h | h | h <;> simp [h]
theorem cross_nf_l {p : Sp} (q : Sp) (h : finSp p = false) : finSp (spCross p q) = false := by
  apply finSp_of
  unfold spCross
  rcases finSp_no h with h | h | h
  · exact .inr (.inl (nf_sub_r _ (nf_mul_l _ h)))
  · exact .inl (nf_sub_l _ (nf_mul_l _ h))
  · exact .inl (nf_sub_r _ (nf_mul_l _ h))
theorem cross_nf_r (p : Sp) {q : Sp} (h : finSp q = false) : finSp (spCross p q) = false := by
  apply finSp_of
  unfold spCross
  rcases finSp_no h with h | h | h
  · exact .inr (.inl (nf_sub_l _ (nf_mul_r _ h)))
  · exact .inl (nf_sub_r _ (nf_mul_r _ h))
  · exact .inl (nf_sub_l _ (nf_mul_r _ h))
theorem dot_nf {p : Sp} (q : Sp) (h : finSp p = false) : fin (spDot p q) = false := by
  unfold spDot
  rcases finSp_no h with h | h | h
  · exact nf_add_l _ (nf_add_l _ (nf_mul_l _ h))
  · exact nf_add_l _ (nf_add_r _ (nf_mul_l _ h))
  · exact nf_add_r _ (nf_mul_l _ h)

/-- the long of the cross of two sides of a triangle -/
def triC (a b c : Sp) : Sp := spCross (spSub b a) (spSub c a)
def triLong (a b c : Sp) : Nat := fsqrt (spDot (triC a b c) (triC a b c))
/-- half of it -/
def triA (a b c : Sp) : Nat := fmul 1056964608 (triLong a b c)
/-- is each step finite? -/
def triOk (a b c : Sp) : Bool := finSp (spSub b a) && finSp (spSub c a) && finSp (triC a b c) && fin (triLong a b c)
theorem triA_half (a b c : Sp) : fdiv (triLong a b c) 1073741824 = triA a b c := half_eq _
theorem triA_nf {a b c : Sp} (h : triOk a b c = false) : fin (triA a b c) = false := by
  unfold triA
  apply nf_mul_r
  unfold triOk at h
  cases h1 : finSp (triC a b c)
  · exact nf_sqrt (dot_nf _ h1)
  · cases h2 : fin (triLong a b c)
    · rfl
    · rw [h1, h2] at h
      simp only [Bool.and_true] at h
      cases h3 : finSp (spSub b a)
      · have := cross_nf_l (spSub c a) h3
        unfold triC at h1; rw [this] at h1; cases h1
      · rw [h3] at h
        have := cross_nf_r (spSub b a) (q := spSub c a) (by simpa using h)
        unfold triC at h1; rw [this] at h1; cases h1
end Go.Fl
