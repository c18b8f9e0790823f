/- Floats as rational numbers: every operation gives the rational result, rounded. Plain Lean. -/
import Derived.Test.YtkbikfifnaihlaaRq
namespace Go.Fl
open Ieee
/-- units of the last place in one -/
def uR (K : FloatKind) : Rat := ((2 ^ LP K : Nat) : Int)
theorem cast_pos {n : Nat} (h : 0 < n) : (0 : Rat) < ((n : Int) : Rat) := Rat.intCast_pos.2 (Int.natCast_pos.2 h)
theorem uR_pos (K : FloatKind) : 0 < uR K := cast_pos (Nat.two_pow_pos _)
/-- the value of a float -/
def R (K : FloatKind) (x : Nat) : Rat := (V K x : Rat) / uR K
theorem R_mul (K : FloatKind) (x : Nat) : R K x * uR K = (V K x : Rat) := Rat.div_mul_cancel (Rat.ne_of_gt (uR_pos K))
theorem le_mulR {a b c : Rat} (h : 0 < c) : a * c ≤ b * c ↔ a ≤ b := ⟨fun k => Rat.le_of_mul_le_mul_right k h, fun k => Rat.mul_le_mul_of_nonneg_right k (Rat.le_of_lt h)⟩
theorem R_le {K : FloatKind} {x y : Nat} : R K x ≤ R K y ↔ V K x ≤ V K y := by rw [← le_mulR (uR_pos K), R_mul, R_mul, Rat.intCast_le_intCast]
theorem R_lt {K : FloatKind} {x y : Nat} : R K x < R K y ↔ V K x < V K y := by rw [← Rat.not_le, R_le, Int.not_le]
theorem R_eq {K : FloatKind} {x y : Nat} : R K x = R K y ↔ V K x = V K y := ⟨fun h => Int.le_antisymm (R_le.1 (h ▸ Rat.le_refl)) (R_le.1 (h ▸ Rat.le_refl)), fun h => by unfold R; rw [h]⟩
/-- r is q, rounded -/
structure Rnd (K : FloatKind) (r : Nat) (q : Rat) : Prop where
  num : isN K r = true
  le : ∀ y, isN K y = true → q ≤ R K y → R K r ≤ R K y
  ge : ∀ y, isN K y = true → R K y ≤ q → R K y ≤ R K r
  err : ∀ j : Nat, -(((2 ^ (FB K + j) : Nat) : Int) : Rat) ≤ q * uR K → q * uR K ≤ (((2 ^ (FB K + j) : Nat) : Int) : Rat) → -(((2 ^ j : Nat) : Int) : Rat) ≤ (R K r - q) * uR K ∧ (R K r - q) * uR K ≤ (((2 ^ j : Nat) : Int) : Rat)
theorem isN_form {K : FloatKind} {x : Nat} (h : isN K x = true) : ∃ (k : Int) (a : Nat), k.natAbs < 2 ^ (FB K + 1) ∧ V K x = k * 2 ^ a := by
  obtain ⟨s, m, i, hr, hi, hv⟩ := isN_read h
  have hm : m < 2 ^ (FB K + 1) := by have := (read_number K x hr).1; cases K <;> exact this
  refine ⟨if s then -(m : Int) else m, (i + LP K).toNat, ?_, ?_⟩
  · split
    · rw [Int.natAbs_neg]; exact hm
    · exact hm
  · rw [hv, signed_mul, Int.natCast_mul, pow_i]
    cases s
    · simp
    · simp [Int.neg_mul]
theorem Near.rnd {K : FloatKind} {r : Nat} {X : Int} {D : Nat} {q : Rat} (h : Near K r X D) (hD : 0 < D) (hq : q * uR K * ((D : Int) : Rat) = (X : Rat)) : Rnd K r q := by
  have hDp := cast_pos hD
  have hu := uR_pos K
  refine ⟨h.num, fun y hy hle => ?_, fun y hy hle => ?_, fun j h1 h2 => ?_⟩
  · obtain ⟨k, a, hk, hv⟩ := isN_form hy
    rw [R_le, hv]
    refine h.le k a hk ?_
    rw [← hv, ← Rat.intCast_le_intCast, Rat.intCast_mul, ← hq, ← R_mul, le_mulR hDp, le_mulR hu]
    exact hle
  · obtain ⟨k, a, hk, hv⟩ := isN_form hy
    rw [R_le, hv]
    refine h.ge k a hk ?_
    rw [← hv, ← Rat.intCast_le_intCast, Rat.intCast_mul, ← hq, ← R_mul, le_mulR hDp, le_mulR hu]
    exact hle
  · have hX : X.natAbs ≤ 2 ^ (FB K + j) * D := by
      have a1 : ((X : Int) : Rat) ≤ (((2 ^ (FB K + j) * D : Nat) : Int) : Rat) := by
        rw [← hq, Int.natCast_mul, Rat.intCast_mul, le_mulR hDp]; exact h2
      have a2 : -(((2 ^ (FB K + j) * D : Nat) : Int) : Rat) ≤ ((X : Int) : Rat) := by
        rw [← hq, Int.natCast_mul, Rat.intCast_mul, ← Rat.neg_mul, le_mulR hDp]; exact h1
      rw [← Rat.intCast_neg, Rat.intCast_le_intCast] at a2
      rw [Rat.intCast_le_intCast] at a1
      omega
    have he := h.err hD j hX
    have e1 : ((V K r * D - X : Int) : Rat) = (R K r - q) * uR K * ((D : Int) : Rat) := by
      rw [Rat.intCast_sub, Rat.intCast_mul, ← hq, ← R_mul]; grind
    have b1 : (V K r * D - X : Int) ≤ ((2 ^ j * D : Nat) : Int) := by omega
    have b2 : -((2 ^ j * D : Nat) : Int) ≤ (V K r * D - X : Int) := by omega
    rw [← Rat.intCast_le_intCast, e1, Int.natCast_mul, Rat.intCast_mul, le_mulR hDp] at b1
    rw [← Rat.intCast_le_intCast, e1, Int.natCast_mul, Rat.intCast_neg, Rat.intCast_mul, ← Rat.neg_mul, le_mulR hDp] at b2
    exact ⟨b2, b1⟩
theorem million (K : FloatKind) {q : Rat} (h1 : -1000000 ≤ q) (h2 : q ≤ 1000000) {X : Int} {D : Nat} (hD : 0 < D) (hq : q * uR K * ((D : Int) : Rat) = (X : Rat)) : X.natAbs ≤ 2 ^ (100 + LP K) * D := by
  have hDp := cast_pos hD
  have hu := uR_pos K
  have e : (((2 ^ (100 + LP K) * D : Nat) : Int) : Rat) = (((2 ^ 100 : Nat) : Int) : Rat) * uR K * ((D : Int) : Rat) := by
    rw [Nat.pow_add, Int.natCast_mul, Int.natCast_mul, Rat.intCast_mul, Rat.intCast_mul]; rfl
  have c : (1000000 : Rat) ≤ (((2 ^ 100 : Nat) : Int) : Rat) := by
    have : ((1000000 : Int) : Rat) ≤ (((2 ^ 100 : Nat) : Int) : Rat) := Rat.intCast_le_intCast.2 (by decide)
    exact this
  have a1 : ((X : Int) : Rat) ≤ (((2 ^ (100 + LP K) * D : Nat) : Int) : Rat) := by
    rw [← hq, e, le_mulR hDp, le_mulR hu]; exact Rat.le_trans h2 c
  have a2 : -(((2 ^ (100 + LP K) * D : Nat) : Int) : Rat) ≤ ((X : Int) : Rat) := by
    rw [← hq, e, ← Rat.neg_mul, ← Rat.neg_mul, le_mulR hDp, le_mulR hu]; exact Rat.le_trans (Rat.neg_le_neg c) h1
  rw [← Rat.intCast_neg, Rat.intCast_le_intCast] at a2
  rw [Rat.intCast_le_intCast] at a1
  omega
theorem rnd_add {K : FloatKind} {x y : Nat} (hx : isN K x = true) (hy : isN K y = true) (h1 : -1000000 ≤ R K x + R K y) (h2 : R K x + R K y ≤ 1000000) : Rnd K (fop .add K x y) (R K x + R K y) := by
  have hq : (R K x + R K y) * uR K * (((1 : Nat) : Int) : Rat) = ((V K x + V K y : Int) : Rat) := by
    rw [show (((1 : Nat) : Int) : Rat) = 1 from rfl, Rat.mul_one, Rat.add_mul, R_mul, R_mul, Rat.intCast_add]
  exact (near_add hx hy (by have := million K h1 h2 (Nat.one_pos) hq; rwa [Nat.mul_one] at this)).rnd Nat.one_pos hq
theorem rnd_sub {K : FloatKind} {x y : Nat} (hx : isN K x = true) (hy : isN K y = true) (h1 : -1000000 ≤ R K x - R K y) (h2 : R K x - R K y ≤ 1000000) : Rnd K (fop .sub K x y) (R K x - R K y) := by
  have hq : (R K x - R K y) * uR K * (((1 : Nat) : Int) : Rat) = ((V K x - V K y : Int) : Rat) := by
    rw [show (((1 : Nat) : Int) : Rat) = 1 from rfl, Rat.mul_one, Rat.intCast_sub, ← R_mul, ← R_mul]; grind
  exact (near_sub hx hy (by have := million K h1 h2 (Nat.one_pos) hq; rwa [Nat.mul_one] at this)).rnd Nat.one_pos hq
theorem rnd_mul {K : FloatKind} {x y : Nat} (hx : isN K x = true) (hy : isN K y = true) (h1 : -1000000 ≤ R K x * R K y) (h2 : R K x * R K y ≤ 1000000) : Rnd K (fop .mul K x y) (R K x * R K y) := by
  have hq : (R K x * R K y) * uR K * (((2 ^ LP K : Nat) : Int) : Rat) = ((V K x * V K y : Int) : Rat) := by
    show (R K x * R K y) * uR K * uR K = _
    rw [Rat.intCast_mul, ← R_mul, ← R_mul]
    grind
  exact (near_mul hx hy (by have := million K h1 h2 (Nat.two_pow_pos (LP K)) hq; rwa [← Nat.pow_add, Nat.add_assoc] at this)).rnd (Nat.two_pow_pos _) hq
theorem cast_abs (a : Int) : ((a.natAbs : Int) : Rat) = if a < 0 then -(a : Rat) else (a : Rat) := by
  split
  · rw [show (a.natAbs : Int) = -a by omega, Rat.intCast_neg]
  · rw [show (a.natAbs : Int) = a by omega]
theorem R_neg_iff {K : FloatKind} {x : Nat} : R K x < 0 ↔ V K x < 0 := by
  rw [← Rat.not_le, ← Int.not_le, not_congr]
  rw [← le_mulR (uR_pos K), R_mul, Rat.zero_mul]
  exact Rat.intCast_nonneg
theorem R_zero_iff {K : FloatKind} {x : Nat} : R K x = 0 ↔ V K x = 0 := by
  constructor
  · intro h
    have := R_mul K x
    rw [h, Rat.zero_mul] at this
    exact Rat.intCast_inj.1 this.symm
  · intro h; unfold R; rw [h, Rat.div_def]; exact Rat.zero_mul _
/-- a quotient that is no greater than a million -/
theorem rnd_div {K : FloatKind} {x y : Nat} {q : Rat} (hx : isN K x = true) (hy : isN K y = true) (hy0 : R K y ≠ 0) (hq : q * R K y = R K x) (h1 : -1000000 ≤ q) (h2 : q ≤ 1000000) : Rnd K (fop .quo K x y) q := by
  have v0 : V K y ≠ 0 := fun h => hy0 (R_zero_iff.2 h)
  have hD : 0 < (V K y).natAbs := by omega
  have hu := uR_pos K
  have hDp := cast_pos hD
  have e1 : q * (V K y : Rat) = (V K x : Rat) := by rw [← R_mul, ← R_mul, ← hq]; grind
  have hb : (V K x).natAbs ≤ 2 ^ 98 * (V K y).natAbs := by
    have c : (1000000 : Rat) ≤ (((2 ^ 98 : Nat) : Int) : Rat) := by
      have : ((1000000 : Int) : Rat) ≤ (((2 ^ 98 : Nat) : Int) : Rat) := Rat.intCast_le_intCast.2 (by decide)
      exact this
    have a1 : ((V K x : Int) : Rat) ≤ (((2 ^ 98 * (V K y).natAbs : Nat) : Int) : Rat) ∧ -(((2 ^ 98 * (V K y).natAbs : Nat) : Int) : Rat) ≤ ((V K x : Int) : Rat) := by
      rw [Int.natCast_mul, Rat.intCast_mul, ← e1]
      have hq1 := (le_mulR hDp).2 (Rat.le_trans h2 c)
      have hq2 := (le_mulR hDp).2 (Rat.le_trans (Rat.neg_le_neg c) h1)
      rw [cast_abs] at hq1 hq2 ⊢
      split at hq1 <;> rename_i hs
      · rw [if_pos hs] at hq2
        rw [if_pos hs]
        constructor <;> grind
      · rw [if_neg hs] at hq2
        rw [if_neg hs]
        constructor <;> grind
    obtain ⟨a1, a2⟩ := a1
    rw [← Rat.intCast_neg, Rat.intCast_le_intCast] at a2
    rw [Rat.intCast_le_intCast] at a1
    omega
  refine (near_div hx hy v0 hb).rnd hD ?_
  have e2 : ∀ a : Int, ((a * ((2 ^ LP K : Nat) : Int) : Int) : Rat) = (a : Rat) * uR K := fun a => by rw [Rat.intCast_mul]; rfl
  rw [cast_abs]
  by_cases s1 : V K x < 0 <;> by_cases s2 : V K y < 0
  · rw [if_pos s2, if_neg (by simp [s1, s2]), Int.natCast_mul, e2, cast_abs, if_pos s1, ← e1]; grind
  · rw [if_neg s2, if_pos (by simp [s1, s2]), Int.natCast_mul, Rat.intCast_neg, e2, cast_abs, if_pos s1, ← e1]; grind
  · rw [if_pos s2, if_pos (by simp [s1, s2]), Int.natCast_mul, Rat.intCast_neg, e2, cast_abs, if_neg s1, ← e1]; grind
  · rw [if_neg s2, if_neg (by simp [s1, s2]), Int.natCast_mul, e2, cast_abs, if_neg s1, ← e1]; grind
theorem uR_wide : uR .f64 = uR .f32 * (((2 ^ nar : Nat) : Int) : Rat) := by
  unfold uR
  rw [show LP .f64 = LP .f32 + nar from rfl, Nat.pow_add, Int.natCast_mul, Rat.intCast_mul]
theorem wide {x : Nat} (hx : isN .f32 x = true) (h1 : -1000000 ≤ R .f32 x) (h2 : R .f32 x ≤ 1000000) : isN .f64 (fcv .f32 .f64 x) = true ∧ R .f64 (fcv .f32 .f64 x) = R .f32 x := by
  have hb := million .f32 h1 h2 Nat.one_pos (X := V .f32 x) (by rw [show (((1 : Nat) : Int) : Rat) = 1 from rfl, Rat.mul_one, R_mul])
  rw [Nat.mul_one] at hb
  obtain ⟨a1, a2⟩ := widen_val hx hb
  refine ⟨a1, ?_⟩
  unfold R
  rw [a2, uR_wide, Rat.intCast_mul]
  have hp : (0 : Rat) < (((2 ^ nar : Nat) : Int) : Rat) := cast_pos (Nat.two_pow_pos _)
  have hu := uR_pos .f32
  have e : (((2 : Int) ^ nar : Int) : Rat) = (((2 ^ nar : Nat) : Int) : Rat) := by rw [pow_i]
  rw [e]
  grind
theorem narrow {x : Nat} (hx : isN .f64 x = true) (h1 : -1000000 ≤ R .f64 x) (h2 : R .f64 x ≤ 1000000) : Rnd .f32 (fcv .f64 .f32 x) (R .f64 x) := by
  have hb := million .f64 h1 h2 Nat.one_pos (X := V .f64 x) (by rw [show (((1 : Nat) : Int) : Rat) = 1 from rfl, Rat.mul_one, R_mul])
  rw [Nat.mul_one] at hb
  refine (near_narrow hx hb).rnd (Nat.two_pow_pos _) ?_
  rw [Rat.mul_assoc, ← uR_wide, R_mul]
theorem Q.R {K : FloatKind} {x : Nat} {k : Int} {e : Nat} (h : Q K x k e) : Go.Fl.R K x = (k : Rat) / (((2 ^ e : Nat) : Int) : Rat) := by
  have hp : (0 : Rat) < (((2 ^ e : Nat) : Int) : Rat) := cast_pos (Nat.two_pow_pos _)
  have hu := uR_pos K
  have e1 : uR K = (((2 ^ e : Nat) : Int) : Rat) * (((2 ^ (LP K - e) : Nat) : Int) : Rat) := by
    unfold uR
    rw [← Rat.intCast_mul, ← Int.natCast_mul, ← Nat.pow_add, Nat.add_sub_cancel' h.le]
  have hp2 : (0 : Rat) < (((2 ^ (LP K - e) : Nat) : Int) : Rat) := cast_pos (Nat.two_pow_pos _)
  unfold Go.Fl.R
  rw [h.val, e1, Rat.intCast_mul, show (((2 : Int) ^ (LP K - e) : Int) : Rat) = (((2 ^ (LP K - e) : Nat) : Int) : Rat) by rw [pow_i]]
  grind
/-- the error, for what lies in a bound -/
theorem Rnd.near {K : FloatKind} {r : Nat} {q : Rat} (h : Rnd K r q) (m : Nat) {B e : Rat} (hm : m ≤ 60) (hB : B = (((2 ^ m : Nat) : Int) : Rat)) (he : e * (((2 ^ FB K : Nat) : Int) : Rat) = B) (h1 : -B ≤ q) (h2 : q ≤ B) : q - e ≤ R K r ∧ R K r ≤ q + e := by
  have hu := uR_pos K
  have fp : (0 : Rat) < (((2 ^ FB K : Nat) : Int) : Rat) := cast_pos (Nat.two_pow_pos _)
  have hL : FB K ≤ m + LP K := by cases K <;> simp [FB, LP] <;> omega
  obtain ⟨j, hj⟩ : ∃ j, FB K + j = m + LP K := ⟨m + LP K - FB K, by omega⟩
  have e1 : (((2 ^ (FB K + j) : Nat) : Int) : Rat) = B * uR K := by rw [hj, Nat.pow_add, Int.natCast_mul, Rat.intCast_mul, hB]; rfl
  have e2 : (((2 ^ j : Nat) : Int) : Rat) = e * uR K := by
    have a : (((2 ^ (FB K + j) : Nat) : Int) : Rat) = (((2 ^ FB K : Nat) : Int) : Rat) * (((2 ^ j : Nat) : Int) : Rat) := by rw [Nat.pow_add, Int.natCast_mul, Rat.intCast_mul]
    rw [e1, ← he] at a
    have b : (((2 ^ FB K : Nat) : Int) : Rat) * (((2 ^ j : Nat) : Int) : Rat) = (((2 ^ FB K : Nat) : Int) : Rat) * (e * uR K) := by rw [← a]; grind
    have c := congrArg (fun z => z / (((2 ^ FB K : Nat) : Int) : Rat)) b
    have hne := Rat.ne_of_gt fp
    grind
  have := h.err j (by rw [e1, ← Rat.neg_mul, le_mulR hu]; exact h1) (by rw [e1, le_mulR hu]; exact h2)
  rw [e2, ← Rat.neg_mul, le_mulR hu, le_mulR hu] at this
  constructor <;> grind
end Go.Fl
