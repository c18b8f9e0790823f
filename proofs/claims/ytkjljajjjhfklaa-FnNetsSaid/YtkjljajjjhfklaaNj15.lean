/- Square roots of floats as rational numbers; errors relative to what is rounded. Plain Lean. Nets, the law: gaps; the mean of a facet; the Euler number. Nets, the law: FacetPoint, EulerOf, at nets that are valid. -/
import Derived.Test.YtkjljajjjhfklaaNj14
import Derived.Test.YtkjljajjjhfklaaNj13
namespace Go.Fl
open Ieee
theorem Rnd.n32 {r : Nat} {q : Rat} (h : Rnd .f32 r q) (m : Nat) (hm : m ≤ 60) {B : Rat} (hB : B = (((2 ^ m : Nat) : Int) : Rat)) (h1 : -B ≤ q) (h2 : q ≤ B) : q - B / 8388608 ≤ R .f32 r ∧ R .f32 r ≤ q + B / 8388608 :=
  h.near m hm hB (by show B / 8388608 * 8388608 = B; grind) h1 h2
theorem Rnd.n64 {r : Nat} {q : Rat} (h : Rnd .f64 r q) (m : Nat) (hm : m ≤ 60) {B : Rat} (hB : B = (((2 ^ m : Nat) : Int) : Rat)) (h1 : -B ≤ q) (h2 : q ≤ B) : q - B / 4503599627370496 ≤ R .f64 r ∧ R .f64 r ≤ q + B / 4503599627370496 :=
  h.near m hm hB (by show B / 4503599627370496 * 4503599627370496 = B; grind) h1 h2
theorem mul_bd {x y B C : Rat} (h1 : -B ≤ x) (h2 : x ≤ B) (k1 : -C ≤ y) (k2 : y ≤ C) : -(B * C) ≤ x * y ∧ x * y ≤ B * C := by
  have a1 := Rat.mul_nonneg (a := B - x) (b := C - y) (by grind) (by grind)
  have a2 := Rat.mul_nonneg (a := B + x) (b := C + y) (by grind) (by grind)
  have a3 := Rat.mul_nonneg (a := B - x) (b := C + y) (by grind) (by grind)
  have a4 := Rat.mul_nonneg (a := B + x) (b := C - y) (by grind) (by grind)
  constructor <;> grind
/-- products of what is not below zero -/
theorem mul_up {x y B C : Rat} (h1 : 0 ≤ x) (h2 : x ≤ B) (k1 : 0 ≤ y) (k2 : y ≤ C) : 0 ≤ x * y ∧ x * y ≤ B * C := by
  have a1 := Rat.mul_nonneg h1 k1
  have a2 := Rat.mul_nonneg (a := B - x) (b := y) (by grind) k1
  have a3 := Rat.mul_nonneg (a := B) (b := C - y) (by grind) (by grind)
  constructor <;> grind
theorem nat_root (n : Nat) : ∃ s, s * s ≤ n ∧ n < (s + 1) * (s + 1) := by
  induction n with
  | zero => exact ⟨0, by decide, by decide⟩
  | succ n ih =>
    obtain ⟨s, h1, h2⟩ := ih
    by_cases h : (s + 1) * (s + 1) ≤ n + 1
    · refine ⟨s + 1, h, ?_⟩
      have : (s + 1 + 1) * (s + 1 + 1) = (s + 1) * (s + 1) + 2 * (s + 1) + 1 := by rw [Nat.add_mul, Nat.mul_add]; omega
      omega
    · exact ⟨s, by omega, by omega⟩
theorem isN_of_fix (s : Nat) (hs : s < 9007199254740992) : ∃ y, isN .f64 y = true ∧ R .f64 y * 1099511627776 = ((s : Int) : Rat) := by
  have q0 := Q.ofInt .f64 (s : Int) (by show (s : Int).natAbs < 2 ^ 53; omega)
  have h1 : FloatKind.f64.format.read 4787326403894837248 = .number false (2 ^ FB .f64) (((40 : Nat) : Int) - FB .f64) := by decide
  have q1 := Q.half (e := 0) (d := 40) q0 h1 (by show (s : Int).natAbs < 2 ^ 53; omega) (by decide)
  refine ⟨_, q1.num, ?_⟩
  rw [q1.R]
  have : (((2 ^ (0 + 40) : Nat) : Int) : Rat) = 1099511627776 := rfl
  rw [this]
  grind
/-- the root of a number of 64 bits, between two rational numbers -/
theorem root64 {x : Nat} (hx : isN .f64 x = true) (h0 : 0 < R .f64 x) (h1 : R .f64 x ≤ 10000) : ∃ r, FloatKind.f64.format.sqrt x = some r ∧ isN .f64 r = true ∧ ∃ s : Rat, 0 ≤ s ∧ s * s ≤ R .f64 x ∧ R .f64 x ≤ (s + 1 / 1099511627776) * (s + 1 / 1099511627776) ∧ s ≤ R .f64 r ∧ R .f64 r ≤ s + 1 / 1099511627776 := by
  have hv : 0 < V .f64 x := by
    have h9 : R .f64 0 = 0 := R_zero_iff.2 (by decide +kernel)
    have h8 : V .f64 0 = 0 := by decide +kernel
    rw [← h9, R_lt, h8] at h0
    exact h0
  obtain ⟨X, hX⟩ : ∃ X : Nat, V .f64 x = (X : Int) := ⟨(V .f64 x).toNat, by omega⟩
  have hu := uR_pos .f64
  have hbig : X ≤ 2 ^ (100 + LP .f64) := by
    have := million .f64 (q := R .f64 x) (by grind) (by grind) Nat.one_pos (X := V .f64 x) (by rw [show (((1 : Nat) : Int) : Rat) = 1 from rfl, Rat.mul_one, R_mul])
    rw [hX, Nat.mul_one] at this
    simpa using this
  obtain ⟨r, hr, hn, hp, hle, hge⟩ := near_root hx hX hbig (fun h => by omega)
  refine ⟨r, hr, hn, ?_⟩
  -- n = X * 2 ^ 80 / 2 ^ 1074, cut; s its root
  obtain ⟨n, hnn⟩ : ∃ n, n = X * 2 ^ 80 / 2 ^ LP .f64 := ⟨_, rfl⟩
  obtain ⟨s, s1, s2⟩ := nat_root n
  have hD : (0 : Nat) < 2 ^ LP .f64 := Nat.two_pow_pos _
  have n1 : n * 2 ^ LP .f64 ≤ X * 2 ^ 80 := by rw [hnn]; exact Nat.div_mul_le_self _ _
  have n2 : X * 2 ^ 80 < (n + 1) * 2 ^ LP .f64 := by rw [hnn]; exact Nat.lt_mul_of_div_lt (Nat.lt_succ_self _) hD
  have eX : R .f64 x * uR .f64 = ((X : Int) : Rat) := by rw [R_mul, hX]
  have c1 : (((s * s : Nat) : Int) : Rat) ≤ R .f64 x * (((2 ^ 80 : Nat) : Int) : Rat) := by
    rw [← le_mulR hu]
    have e : R .f64 x * (((2 ^ 80 : Nat) : Int) : Rat) * uR .f64 = ((((X * 2 ^ 80 : Nat) : Int)) : Rat) := by
      rw [Int.natCast_mul, Rat.intCast_mul, ← eX]; grind
    have e2 : (((s * s : Nat) : Int) : Rat) * uR .f64 = (((s * s * 2 ^ LP .f64 : Nat) : Int) : Rat) := by
      rw [Int.natCast_mul (s * s), Rat.intCast_mul]; rfl
    rw [e, e2, Rat.intCast_le_intCast]
    exact Int.ofNat_le.2 (Nat.le_trans (Nat.mul_le_mul_right _ s1) n1)
  have c2 : R .f64 x * (((2 ^ 80 : Nat) : Int) : Rat) ≤ ((((s + 1) * (s + 1) : Nat) : Int) : Rat) := by
    rw [← le_mulR hu]
    have e : R .f64 x * (((2 ^ 80 : Nat) : Int) : Rat) * uR .f64 = ((((X * 2 ^ 80 : Nat) : Int)) : Rat) := by
      rw [Int.natCast_mul, Rat.intCast_mul, ← eX]; grind
    have e2 : ((((s + 1) * (s + 1) : Nat) : Int) : Rat) * uR .f64 = ((((s + 1) * (s + 1) * 2 ^ LP .f64 : Nat) : Int) : Rat) := by
      rw [Int.natCast_mul ((s + 1) * (s + 1)), Rat.intCast_mul]; rfl
    rw [e, e2, Rat.intCast_le_intCast]
    exact Int.ofNat_le.2 (Nat.le_trans (Nat.le_of_lt n2) (Nat.mul_le_mul_right _ (by omega)))
  have p80 : (((2 ^ 80 : Nat) : Int) : Rat) = 1099511627776 * 1099511627776 := by
    rw [show (2 ^ 80 : Nat) = 1099511627776 * 1099511627776 from rfl, Int.natCast_mul, Rat.intCast_mul]; rfl
  rw [p80] at c1 c2
  rw [Int.natCast_mul, Rat.intCast_mul] at c1 c2
  have es : (((s + 1 : Nat) : Int) : Rat) = ((s : Int) : Rat) + 1 := by rw [Int.natCast_add, Rat.intCast_add]; rfl
  rw [es] at c2
  obtain ⟨S, hS⟩ : ∃ S, S = ((s : Int) : Rat) := ⟨_, rfl⟩
  rw [← hS] at c1 c2 es
  have S0 : 0 ≤ S := by rw [hS]; exact Rat.intCast_nonneg.2 (Int.natCast_nonneg _)
  -- s is small
  have hs9 : s < 9007199254740990 := by
    rcases Nat.lt_or_ge s 9007199254740990 with h | h
    · exact h
    · exfalso
      have h2 : (9007199254740990 : Rat) ≤ S := by
        rw [hS]
        have : ((9007199254740990 : Int) : Rat) ≤ ((s : Int) : Rat) := Rat.intCast_le_intCast.2 (by omega)
        exact this
      have := Rat.mul_nonneg (a := S - 9007199254740990) (b := S + 9007199254740990) (by grind) (by grind)
      grind
  obtain ⟨y1, m1, e1⟩ := isN_of_fix s (by omega)
  obtain ⟨y2, m2, e2⟩ := isN_of_fix (s + 1) (by omega)
  rw [← hS] at e1
  rw [es] at e2
  -- the root's bounds
  have key : ∀ y, isN .f64 y = true → 0 ≤ R .f64 y → (R .f64 y * R .f64 y ≤ R .f64 x → R .f64 y ≤ R .f64 r) ∧ (R .f64 x ≤ R .f64 y * R .f64 y → R .f64 r ≤ R .f64 y) := fun y hy hy0 => by
    obtain ⟨k, a, hk, hvy⟩ := isN_form hy
    have hy9 : 0 ≤ V .f64 y := by
      have h9 : R .f64 0 = 0 := R_zero_iff.2 (by decide +kernel)
      have h8 : V .f64 0 = 0 := by decide +kernel
      rw [← h9, R_le, h8] at hy0
      exact hy0
    have hk0 : 0 ≤ k := by
      rcases Int.lt_or_le k 0 with h | h
      · have := Int.mul_neg_of_neg_of_pos h (pow_pos_i a); omega
      · exact h
    have hvn : V .f64 y = ((k.natAbs * 2 ^ a : Nat) : Int) := by rw [hvy, Int.natCast_mul, pow_i, show ((k.natAbs : Nat) : Int) = k by omega]
    have sq : ∀ Y : Nat, V .f64 y = (Y : Int) → R .f64 y * R .f64 y * uR .f64 * uR .f64 = (((Y * Y : Nat) : Int) : Rat) := fun Y hY => by
      have : R .f64 y * uR .f64 = ((Y : Int) : Rat) := by rw [R_mul, hY]
      rw [Int.natCast_mul, Rat.intCast_mul, ← this]; grind
    have sqx : R .f64 x * uR .f64 * uR .f64 = (((X * 2 ^ LP .f64 : Nat) : Int) : Rat) := by
      rw [Int.natCast_mul, Rat.intCast_mul, ← eX]; rfl
    refine ⟨fun h => ?_, fun h => ?_⟩
    · rw [R_le, hvn]
      refine hge k.natAbs a hk ?_
      rw [← le_mulR hu, ← le_mulR hu, sq _ hvn, sqx, Rat.intCast_le_intCast] at h
      exact Int.ofNat_le.1 h
    · rw [R_le, hvn]
      refine hle k.natAbs a hk ?_
      rw [← le_mulR hu, ← le_mulR hu, sq _ hvn, sqx, Rat.intCast_le_intCast] at h
      exact Int.ofNat_le.1 h
  have z1 : R .f64 y1 = S / 1099511627776 := by grind
  have z2 : R .f64 y2 = S / 1099511627776 + 1 / 1099511627776 := by grind
  obtain ⟨k1, _⟩ := key y1 m1 (by rw [z1]; grind)
  obtain ⟨_, k2⟩ := key y2 m2 (by rw [z2]; grind)
  refine ⟨S / 1099511627776, by grind, by grind, by grind, ?_, ?_⟩
  · rw [← z1]; exact k1 (by rw [z1]; grind)
  · rw [← z2]; exact k2 (by rw [z2]; grind)
end Go.Fl

namespace Go.Fl
open Ieee Go.RowKit
theorem run_fopN {op : BinOp} {K : FloatKind} {x y : Nat} (hn : isN K (fop op K x y) = true) : (∀ w, mop op K x y w = fop op K x y) ∧ mdr op K x y = 0 := by
  unfold fop at hn ⊢
  cases hb : floatBits op K x y with
  | some r => exact ⟨fun w => by unfold mop; rw [hb]; rfl, by unfold mdr; rw [hb]; rfl⟩
  | none =>
    rw [hb] at hn
    exfalso
    revert hn
    cases K <;> decide +kernel
theorem isN.canN {K : FloatKind} {x : Nat} (h : isN K x = true) : Go.Fl.can K x = x := can_of_not (by
  obtain ⟨s, m, i, hr, _⟩ := isN_read h
  unfold nanB; rw [hr]; rfl)
theorem Q.self {K : FloatKind} {x : Nat} (h : isN K x = true) : Q K x (V K x) (LP K) := ⟨h, by rw [Nat.sub_self]; simp, Nat.le_refl _⟩
theorem ord_V {K : FloatKind} {x y : Nat} (hx : isN K x = true) (hy : isN K y = true) : K.format.order x y = some (compare (V K x) (V K y)) := (Q.self hx).order (Q.self hy)
theorem ord_R64 {x y : Nat} (hx : isN .f64 x = true) (hy : isN .f64 y = true) : (FloatKind.f64.format.order x y == some .lt) = decide (R .f64 x < R .f64 y) := by
  rw [ord_V hx hy]
  cases h : compare (V .f64 x) (V .f64 y)
  · rw [Int.compare_eq_lt] at h; simp [R_lt, h]
  · rw [Int.compare_eq_eq] at h; simp [R_lt, h]
  · rw [Int.compare_eq_gt] at h; simp [R_lt]; omega
theorem ord_G64 {x y : Nat} (hx : isN .f64 x = true) (hy : isN .f64 y = true) : (FloatKind.f64.format.order x y == some .gt) = decide (R .f64 y < R .f64 x) := by
  rw [ord_V hx hy]
  cases h : compare (V .f64 x) (V .f64 y)
  · rw [Int.compare_eq_lt] at h; simp [R_lt]; omega
  · rw [Int.compare_eq_eq] at h; simp [R_lt, h]
  · rw [Int.compare_eq_gt] at h; simp [R_lt, h]
/-- the greater of two numbers, as the program takes it -/
def maxF (K : FloatKind) (x y : Nat) : Nat := match K.format.order x y with
  | none => 0
  | some .lt => y
  | some .gt => x
  | some .eq => if (K.decode x).neg then y else x
theorem maxF_facts {K : FloatKind} {x y : Nat} (hx : isN K x = true) (hy : isN K y = true) : isN K (maxF K x y) = true ∧ V K x ≤ V K (maxF K x y) ∧ V K y ≤ V K (maxF K x y) ∧ (V K (maxF K x y) = V K x ∨ V K (maxF K x y) = V K y) := by
  have h := ord_V hx hy
  unfold maxF
  rw [h]
  cases hc : compare (V K x) (V K y)
  · have h1 : V K x < V K y := Int.compare_eq_lt.1 hc
    exact ⟨hy, by show V K x ≤ V K y; omega, Int.le_refl _, .inr rfl⟩
  · have h1 : V K x = V K y := Int.compare_eq_eq.1 hc
    simp only
    split
    · exact ⟨hy, by omega, Int.le_refl _, .inr rfl⟩
    · exact ⟨hx, Int.le_refl _, by omega, .inl rfl⟩
  · have h1 : V K y < V K x := Int.compare_eq_gt.1 hc
    exact ⟨hx, Int.le_refl _, by show V K y ≤ V K x; omega, .inl rfl⟩
theorem run_maxF {P : Program} {K : FloatKind} {x y : Nat} (hx : isN K x = true) (hy : isN K y = true) (ts : Array TypeId) (t : TypeId) (w : World) : (Builtin.max_ ts t #[.float K x, .float K y]).run P w = .ok (.float K (maxF K x y)) w := by
  have h := ord_V hx hy
  unfold maxF
  rw [h]
  cases hc : compare (V K x) (V K y) <;> simp [Builtin.max_, Builtin.max2, h, hc]
theorem isN.nan {K : FloatKind} {x : Nat} (h : isN K x = true) : nanB K x = false := by
  obtain ⟨s, m, i, hr, _⟩ := isN_read h
  unfold nanB
  rw [hr]
  rfl
/-- the program's gap: the greater of both differences -/
def gapM (a b : Nat) : Nat := maxF .f64 (fop .sub .f64 a b) (fop .sub .f64 b a)
theorem gapM_near {a b : Nat} {d e : Rat} (ha : isN .f64 a = true) (hb : isN .f64 b = true) (a1 : -10000 ≤ R .f64 a) (a2 : R .f64 a ≤ 10000) (b1 : -10000 ≤ R .f64 b) (b2 : R .f64 b ≤ 10000) (h1 : -d ≤ R .f64 a - R .f64 b) (h2 : R .f64 a - R .f64 b ≤ d) (he : d + 1 / 1000000 ≤ e) :
    isN .f64 (fop .sub .f64 a b) = true ∧ isN .f64 (fop .sub .f64 b a) = true ∧ isN .f64 (gapM a b) = true ∧ -e ≤ R .f64 (gapM a b) ∧ R .f64 (gapM a b) ≤ e := by
  have r1 := rnd_sub ha hb (by grind) (by grind)
  have r2 := rnd_sub hb ha (by grind) (by grind)
  have f1 := r1.n64 15 (by decide) (B := 32768) rfl (by grind) (by grind)
  have f2 := r2.n64 15 (by decide) (B := 32768) rfl (by grind) (by grind)
  obtain ⟨m, _, _, c⟩ := maxF_facts r1.num r2.num
  have c' : R .f64 (gapM a b) = R .f64 (fop .sub .f64 a b) ∨ R .f64 (gapM a b) = R .f64 (fop .sub .f64 b a) := c.imp R_eq.2 R_eq.2
  refine ⟨r1.num, r2.num, m, ?_, ?_⟩
  · rcases c' with c | c <;> rw [c] <;> grind
  · rcases c' with c | c <;> rw [c] <;> grind
theorem run_max3 {P : Program} {K : FloatKind} {x y z : Nat} (hx : isN K x = true) (hy : isN K y = true) (hz : isN K z = true) (ts : Array TypeId) (t : TypeId) (w : World) : (Builtin.max_ ts t #[.float K x, .float K y, .float K z]).run P w = .ok (.float K (maxF K (maxF K x y) z)) w := by
  have h := ord_V hx hy
  have hm := (maxF_facts hx hy).1
  have h2 := ord_V hm hz
  have e : maxF K x y = match FloatKind.format K |>.order x y with
    | none => 0
    | some .lt => y
    | some .gt => x
    | some .eq => if (K.decode x).neg then y else x := rfl
  obtain ⟨M, hM⟩ : ∃ M, M = maxF K x y := ⟨_, rfl⟩
  rw [← hM] at h2 ⊢
  unfold maxF
  rw [h2]
  rw [e] at hM
  rw [h] at hM
  cases hc : compare (V K x) (V K y) <;> rw [hc] at hM <;> subst hM <;> cases hc2 : compare _ (V K z) <;> simp [Builtin.max_, Builtin.max2, h, h2, hc, hc2]
theorem R_geN {K : FloatKind} {x a b : Nat} (hb : 0 < b) (h : (a : Int) * ((2 ^ LP K : Nat) : Int) ≤ V K x * (b : Int)) : ((a : Int) : Rat) / ((b : Int) : Rat) ≤ R K x := by
  have hb' : (0 : Rat) < ((b : Int) : Rat) := cast_pos hb
  rw [← le_mulR (Rat.mul_pos hb' (uR_pos K))]
  have e1 : ((a : Int) : Rat) / ((b : Int) : Rat) * (((b : Int) : Rat) * uR K) = ((a : Int) : Rat) * uR K := by
    rw [← Rat.mul_assoc, Rat.div_mul_cancel (Rat.ne_of_gt hb')]
  have e2 : R K x * (((b : Int) : Rat) * uR K) = (V K x : Rat) * ((b : Int) : Rat) := by
    rw [Rat.mul_comm ((b : Int) : Rat), ← Rat.mul_assoc, R_mul]
  rw [e1, e2]
  have := Rat.intCast_le_intCast.2 h
  rw [Rat.intCast_mul, Rat.intCast_mul] at this
  exact this
theorem quiet_of3 {P : Program} {f : FuncId} {args : Array Value} {w : World} {q n : Nat} {v : Value} (h : ∀ w, Calls P f args w fun e w' => e = .returned v ∧ w' = w) :
    Calls P f args (w.drewN (q + n)) fun e w'' => e = .returned v ∧ ∃ m, w'' = w.drewN (q + m) := (h _).mono fun _ _ ⟨he, hw⟩ => ⟨he, n, hw⟩
theorem quiet_of0 {P : Program} {f : FuncId} {args : Array Value} {w : World} {n : Nat} {v : Value} (h : ∀ w, Calls P f args w fun e w' => e = .returned v ∧ w' = w) :
    Calls P f args (w.drewN n) fun e w'' => e = .returned v ∧ ∃ m, w'' = w.drewN m := (h _).mono fun _ _ ⟨he, hw⟩ => ⟨he, n, hw⟩
end Go.Fl
namespace Go.Proofs.Ytkjljajjjhfklaa
open Go.RowKit Go.Fl
theorem r8GapN {a b : Nat} (ha : isN .f64 (fop .sub .f64 a b) = true) (hb : isN .f64 (fop .sub .f64 b a) = true) (w : World) : Calls Try.prog 23 #[.float .f64 a, .float .f64 b] w fun x w' => x = .returned (.float .f64 (gapM a b)) ∧ w' = w := by
  obtain ⟨m1, d1⟩ := run_fopN ha
  obtain ⟨m2, d2⟩ := run_fopN hb
  have dz : ∀ w : World, w.drewN 0 = w := World.drewN_zero
  have hrm := fun (ts : Array TypeId) (t : TypeId) (w : World) => run_maxF (P := Try.prog) ha hb ts t w
  have e : maxF .f64 (fop .sub .f64 a b) (fop .sub .f64 b a) = gapM a b := rfl
  rw [e] at hrm
  clear ha hb e
  go_enter Try.func23, Try.ntmps23
  go_wp2_with fail
  go_ret
  exact ⟨rfl, rfl⟩
/-- two spots without a gap -/
structure NoGap (x y z x' y' z' : Nat) : Prop where
  x : isN .f32 x = true ∧ isN .f32 x' = true ∧ R .f32 x = R .f32 x' ∧ -1000 ≤ R .f32 x ∧ R .f32 x ≤ 1000
  y : isN .f32 y = true ∧ isN .f32 y' = true ∧ R .f32 y = R .f32 y' ∧ -1000 ≤ R .f32 y ∧ R .f32 y ≤ 1000
  z : isN .f32 z = true ∧ isN .f32 z' = true ∧ R .f32 z = R .f32 z' ∧ -1000 ≤ R .f32 z ∧ R .f32 z ≤ 1000
structure GapF (x x' : Nat) : Prop where
  n : nanB .f32 x = false
  n' : nanB .f32 x' = false
  s : isN .f64 (fop .sub .f64 (fcv .f32 .f64 x) (fcv .f32 .f64 x')) = true
  s' : isN .f64 (fop .sub .f64 (fcv .f32 .f64 x') (fcv .f32 .f64 x)) = true
  g : isN .f64 (gapM (fcv .f32 .f64 x) (fcv .f32 .f64 x')) = true
  lo : -(1 / 100000) ≤ R .f64 (gapM (fcv .f32 .f64 x) (fcv .f32 .f64 x'))
  hi : R .f64 (gapM (fcv .f32 .f64 x) (fcv .f32 .f64 x')) ≤ 1 / 100000
theorem gapF_of {x x' : Nat} (h : isN .f32 x = true ∧ isN .f32 x' = true ∧ R .f32 x = R .f32 x' ∧ -1000 ≤ R .f32 x ∧ R .f32 x ≤ 1000) : GapF x x' := by
  obtain ⟨h1, h2, h3, h4, h5⟩ := h
  obtain ⟨w1, e1⟩ := wide h1 (by grind) (by grind)
  obtain ⟨w2, e2⟩ := wide h2 (by grind) (by grind)
  obtain ⟨a, b, c, d, e⟩ := gapM_near (d := 0) (e := 1 / 100000) w1 w2 (by grind) (by grind) (by grind) (by grind) (by grind) (by grind) (by grind)
  exact ⟨isN.nan h1, isN.nan h2, a, b, c, d, e⟩
def apartF (x y z x' y' z' : Nat) : Nat := maxF .f64 (maxF .f64 (gapM (fcv .f32 .f64 x) (fcv .f32 .f64 x')) (gapM (fcv .f32 .f64 y) (fcv .f32 .f64 y'))) (gapM (fcv .f32 .f64 z) (fcv .f32 .f64 z'))
theorem apart_no {x y z x' y' z' : Nat} (h : NoGap x y z x' y' z') : (FloatKind.f64.format.order (apartF x y z x' y' z') 4562254508917369340 == some .gt) = false := by
  have g1 := gapF_of h.x
  have g2 := gapF_of h.y
  have g3 := gapF_of h.z
  obtain ⟨m, _, _, c⟩ := maxF_facts g1.g g2.g
  obtain ⟨m2, _, _, c2⟩ := maxF_facts m g3.g
  have q : isN .f64 4562254508917369340 = true := by decide +kernel
  have q2 : 9 / 10000 ≤ R .f64 4562254508917369340 := by
    have := R_geN (a := 9) (b := 10000) (x := 4562254508917369340) (K := .f64) (by decide) (by decide +kernel)
    exact this
  have m2 : isN .f64 (apartF x y z x' y' z') = true := m2
  rw [ord_G64 m2 q]
  refine decide_eq_false ?_
  have k1 := g1.hi
  have k2 := g2.hi
  have k3 := g3.hi
  have c' := c.imp R_eq.2 R_eq.2
  have c2' := c2.imp R_eq.2 R_eq.2
  have e : R .f64 (apartF x y z x' y' z') ≤ 1 / 100000 := by
    unfold apartF
    rcases c2' with c2 | c2
    · rw [c2]; rcases c' with c | c <;> rw [c] <;> assumption
    · rw [c2]; exact k3
  grind
set_option maxHeartbeats 2000000 in
set_option maxRecDepth 100000 in
theorem r8ApartN {x y z x' y' z' : Nat} (h : NoGap x y z x' y' z') (w : World) : Calls Try.prog 20 #[spV x y z, spV x' y' z'] w fun e w' => e = .returned (.float .f64 (apartF x y z x' y' z')) ∧ Below w.heap.size w w' := by
  have g1 := gapF_of h.x
  have g2 := gapF_of h.y
  have g3 := gapF_of h.z
  have H1 := Lib.hid (fun W => r8GapN g1.s g1.s' W)
  have H2 := Lib.hid (fun W => r8GapN g2.s g2.s' W)
  have H3 := Lib.hid (fun W => r8GapN g3.s g3.s' W)
  obtain ⟨m1, d1⟩ := run_wid64 g1.n
  obtain ⟨m2, d2⟩ := run_wid64 g1.n'
  obtain ⟨m3, d3⟩ := run_wid64 g2.n
  obtain ⟨m4, d4⟩ := run_wid64 g2.n'
  obtain ⟨m5, d5⟩ := run_wid64 g3.n
  obtain ⟨m6, d6⟩ := run_wid64 g3.n'
  have hrm := fun (ts : Array TypeId) (t : TypeId) (w : World) => run_max3 (P := Try.prog) g1.g g2.g g3.g ts t w
  have dz : ∀ w : World, w.drewN 0 = w := World.drewN_zero
  have e : apartF x y z x' y' z' = maxF .f64 (maxF .f64 (gapM (fcv .f32 .f64 x) (fcv .f32 .f64 x')) (gapM (fcv .f32 .f64 y) (fcv .f32 .f64 y'))) (gapM (fcv .f32 .f64 z) (fcv .f32 .f64 z')) := rfl
  rw [← e] at hrm
  obtain ⟨AP, hAP⟩ : ∃ t, t = apartF x y z x' y' z' := ⟨_, rfl⟩
  rw [← hAP] at hrm ⊢
  obtain ⟨X1, hX1⟩ : ∃ t, t = fcv .f32 .f64 x := ⟨_, rfl⟩
  obtain ⟨X2, hX2⟩ : ∃ t, t = fcv .f32 .f64 x' := ⟨_, rfl⟩
  obtain ⟨Y1, hY1⟩ : ∃ t, t = fcv .f32 .f64 y := ⟨_, rfl⟩
  obtain ⟨Y2, hY2⟩ : ∃ t, t = fcv .f32 .f64 y' := ⟨_, rfl⟩
  obtain ⟨Z1, hZ1⟩ : ∃ t, t = fcv .f32 .f64 z := ⟨_, rfl⟩
  obtain ⟨Z2, hZ2⟩ : ∃ t, t = fcv .f32 .f64 z' := ⟨_, rfl⟩
  rw [← hX1, ← hX2] at H1 hrm
  rw [← hY1, ← hY2] at H2 hrm
  rw [← hZ1, ← hZ2] at H3 hrm
  rw [← hX1] at m1
  rw [← hX2] at m2
  rw [← hY1] at m3
  rw [← hY2] at m4
  rw [← hZ1] at m5
  rw [← hZ2] at m6
  obtain ⟨G1, hG1⟩ : ∃ t, t = gapM X1 X2 := ⟨_, rfl⟩
  obtain ⟨G2, hG2⟩ : ∃ t, t = gapM Y1 Y2 := ⟨_, rfl⟩
  obtain ⟨G3, hG3⟩ : ∃ t, t = gapM Z1 Z2 := ⟨_, rfl⟩
  rw [← hG1] at H1 hrm
  rw [← hG2] at H2 hrm
  rw [← hG3] at H3 hrm
  clear g1 g2 g3 h e hAP hX1 hX2 hY1 hY2 hZ1 hZ2 hG1 hG2 hG3
  unfold spV
  go_enter Try.func20, Try.ntmps20
  go_wp2_with fail
  go_quiet ((go_at_call 23; first | (with_reducible refine quiet_of3 H1.out) | (with_reducible refine quiet_of3 H2.out) | (with_reducible refine quiet_of3 H3.out) | (with_reducible refine quiet_of0 H1.out) | (with_reducible refine quiet_of0 H2.out) | (with_reducible refine quiet_of0 H3.out)))
  go_wp2_with fail
  go_ret
  exact ⟨rfl, by (repeat (first | exact Below.refl _ _ | assumption | refine below_dr ?_ _ | refine Below.alloc ?_ (by first | omega | (simp; done) | (simp; omega)) _ | refine Below.setCell ?_ (by first | omega | (simp; done) | (simp; omega)) _ | refine Below.trans ?_ (Below.mono (by assumption) (by first | omega | (simp; done) | (simp; omega)))))⟩
end Go.Proofs.Ytkjljajjjhfklaa

namespace Go.Proofs.Ytkjljajjjhfklaa
open Go.RowKit Go.Fl
set_option maxHeartbeats 1000000 in
theorem ifSpotN {x y z : Nat} (hf : finSp (can .f32 x, can .f32 y, can .f32 z) = true) (w : World) : Calls Try.prog 53 #[spV x y z] w fun e w' => e = .returned (.tuple #[spV x y z, .bool true]) ∧ Below w.heap.size w w' := by
  have HI : Hid (∀ w, Calls Try.prog 48 #[.agg #[.float .f32 x, .float .f32 y, .float .f32 z]] w fun e w' => e = .returned (.bool true) ∧ Below w.heap.size w w') := Lib.hid fun w => by rw [← hf]; exact isSpot x y z w
  clear hf
  unfold spV
  go_enter Try.func53, Try.ntmps53
  go_wp2_with fail
  refine (HI.out _).mono ?_
  rintro e w1 ⟨rfl, hb⟩
  have z1 := hb.size
  simp at z1
  have ho : OwnC w1 w.heap.size #[.float .f32 x, .float .f32 y, .float .f32 z] 46 := OwnC.below ((OwnC.new rfl).alloc _) hb (by simp; omega)
  have hx : OwnC w1 (w.heap.size + 1) #[.float .f32 0, .float .f32 0, .float .f32 0] 46 := OwnC.below (OwnC.new (by simp)) hb (by simp)
  have a0 := ho.cell 0
  have a1 := ho.cell 1
  have a2 := ho.cell 2
  have b0 := hx.cell 0
  have b1 := hx.cell 1
  have b2 := hx.cell 2
  have f0 := hx.free 0
  have f1 := hx.free 1
  have f2 := hx.free 2
  have HB := Lib.hid (show Below w.heap.size w w1 from Below.trans (by (repeat (first | exact Below.refl _ _ | assumption | refine below_dr ?_ _ | refine Below.alloc ?_ (by first | omega | (simp; done) | (simp; omega)) _ | refine Below.setCell ?_ (by first | omega | (simp; done) | (simp; omega)) _ | refine Below.trans ?_ (Below.mono (by assumption) (by first | omega | (simp; done) | (simp; omega)))))) (hb.mono (by simp; omega)))
  clear hb ho hx
  go_wp2_with fail
  refine bodyPost_ret (v := .tuple #[.agg #[.float .f32 x, .float .f32 y, .float .f32 z], .bool true]) (by simp [results, Try.results53, go_sem, *]) rfl ?_
  exact ⟨rfl, ((HB.out.setCell (by simp) _).setCell (by simp) _).setCell (by simp) _⟩
set_option maxHeartbeats 2000000 in
set_option maxRecDepth 100000 in
theorem facetPointN (lo hi : Nat) (sa fa : Option Addr) (sc fc j : Nat) (ps : List Sp) (fs : List (List Int)) (hp : ps.length ≤ 1048576) (hn : fs.length ≤ 1048576) (hsh : ∀ i, i < fs.length → (fAt fs i).length ≤ 1048576) (hj : j < fs.length) (hv : okN ps fs = true) (hfin : finSp (mid ps (fAt fs j)) = true) (w : World)
    (hs : NetAt w lo hi sa fa ps fs) (hca : SlC w lo hi fa fs) (hh : hi ≤ w.heap.size) :
    Calls Try.prog 16 #[netV sa fa ps.length sc fs.length fc, .int .i64 (j : Nat)] w fun e w' => e = .returned (.tuple #[spV (mid ps (fAt fs j)).1 (mid ps (fAt fs j)).2.1 (mid ps (fAt fs j)).2.2, .bool true]) ∧ Below w.heap.size w w' := by
  have hV : ∀ W, NetAt W lo hi sa fa ps fs → SlC W lo hi fa fs → hi ≤ W.heap.size → Calls Try.prog 26 #[.agg #[.slice sa ps.length sc, .slice fa fs.length fc]] W fun e w' => e = .returned (.bool true) ∧ Below W.heap.size W w' := fun W h1 h2 h3 => by
    have := validNet lo hi sa fa sc fc ps fs hp hn hsh W h1 h2 h3
    have e : dec (OkNet ps fs (colA fs) (colB fs)) = true := hv
    rw [e] at this
    exact this
  have HV := Lib.hid hV
  have hin := (okN_net hv).facets j hj
  have HFP := Lib.hid (fun W h1 h2 => facetPoint lo hi sa fa sc fc j ps fs hp hj hn (hsh j hj) hin.inN W h1 h2)
  have HM := Lib.hid (fun x y z (h : IsSp x y z (mid ps (fAt fs j))) => fin_sp h hfin)
  have HIF := Lib.hid (fun x y z (h : IsSp x y z (mid ps (fAt fs j))) W => ifSpotN (show finSp (can .f32 x, can .f32 y, can .f32 z) = true by rw [show (_, _, _) = _ from h]; exact hfin) W)
  have HS := Lib.hid hs
  have HCA := Lib.hid hca
  obtain ⟨M, hM⟩ : ∃ M, M = mid ps (fAt fs j) := ⟨_, rfl⟩
  rw [← hM] at HM HIF HFP ⊢
  clear hM
  obtain ⟨A0, B0, C0⟩ := M
  have j0 : (0 : Int) ≤ (j : Int) := by omega
  have j1 : (j : Int) ≤ (fs.length : Int) - 1 := by omega
  have hwi : inB (j : Int) 0 ((fs.length : Int) - 1) = true := by simp [inB, j0, j1]
  have HW : Hid (∀ W, Calls Try.prog 52 #[.int .i64 (j : Nat), .int .i64 0, .int .i64 ((fs.length : Int) - 1)] W fun e w' => e = .returned (.bool true) ∧ w' = W) := Lib.hid fun W => by rw [← hwi]; exact within _ _ _ W
  clear hV hin hs hca hfin hv hsh hwi
  unfold netV spV
  unfold spV at HIF
  go_enter Try.func16, Try.ntmps16
  go_wp2_with fail
  refine Calls.mono (HV.out _ ?g1 ?g2 ?g3) ?_
  case g1 => exact HS.out.far (((Far.refl _ _ _).alloc _ hh).alloc _ (by simp; omega))
  case g2 => exact HCA.out.far (((Far.refl _ _ _).alloc _ hh).alloc _ (by simp; omega))
  case g3 => simp; omega
  rintro e w1 ⟨rfl, hb⟩
  have z1 := hb.size
  simp at z1
  have ho : OwnC w1 w.heap.size #[.slice sa ps.length sc, .slice fa fs.length fc] 27 := OwnC.below ((OwnC.new rfl).alloc _) hb (by simp; omega)
  have HX := Lib.hid (show OwnC w1 (w.heap.size + 1) #[.float .f32 0, .float .f32 0, .float .f32 0] 46 from OwnC.below (OwnC.new (by simp)) hb (by simp))
  have a0 := ho.cell 0
  have a1 := ho.cell 1
  have HB := Lib.hid (show Below w.heap.size w w1 from Below.trans (by (repeat (first | exact Below.refl _ _ | assumption | refine below_dr ?_ _ | refine Below.alloc ?_ (by first | omega | (simp; done) | (simp; omega)) _ | refine Below.setCell ?_ (by first | omega | (simp; done) | (simp; omega)) _ | refine Below.trans ?_ (Below.mono (by assumption) (by first | omega | (simp; done) | (simp; omega)))))) (hb.mono (by simp; omega)))
  clear hb ho
  go_wp2_with fail
  refine (HW.out _).mono ?_
  rintro e w2 ⟨rfl, rfl⟩
  go_wp2_with fail
  refine Calls.mono (HFP.out _ ?g1 ?g2) ?_
  case g1 => exact HS.out.far (Far.below HB.out hh)
  case g2 => omega
  rintro e w3 ⟨⟨a, b, c, rfl, hM⟩, hb3⟩
  have hx := HX.out.below hb3 (by omega)
  have z3 := hb3.size
  have HB3 := Lib.hid (HB.out.trans (hb3.mono HB.out.size))
  obtain ⟨⟨e1, e2, e3⟩, _⟩ := HM.out a b c hM
  have hif := HIF.out a b c hM
  have e1 : a = A0 := e1
  have e2 : b = B0 := e2
  have e3 : c = C0 := e3
  subst e1 e2 e3
  have HI := Lib.hid hif
  clear hb3 hM hif HX
  have HX := Lib.hid hx
  clear hx
  go_wp2_with fail
  refine (HI.out _).mono ?_
  rintro e w4 ⟨rfl, hb4⟩
  have hx := HX.out.below hb4 (by omega)
  have z4 := hb4.size
  have b0 := hx.cell 0
  have b1 := hx.cell 1
  have b2 := hx.cell 2
  have f0 := hx.free 0
  have f1 := hx.free 1
  have f2 := hx.free 2
  have HB4 := Lib.hid (HB3.out.trans (hb4.mono HB3.out.size))
  clear hb4 hx
  go_wp2_with fail
  refine bodyPost_ret (v := .tuple #[.agg #[.float .f32 a, .float .f32 b, .float .f32 c], .bool true]) (by simp [results, Try.results16, go_sem, *]) rfl ?_
  exact ⟨rfl, ((HB4.out.setCell (by simp) _).setCell (by simp) _).setCell (by simp) _⟩
set_option maxHeartbeats 2000000 in
set_option maxRecDepth 100000 in
theorem eulerN (lo hi : Nat) (sa fa : Option Addr) (sc fc : Nat) (ps : List Sp) (fs : List (List Int)) (hp : ps.length ≤ 1048576) (hn : fs.length ≤ 1048576) (hsh : ∀ i, i < fs.length → (fAt fs i).length ≤ 1048576) (hv : okN ps fs = true) (w : World)
    (hs : NetAt w lo hi sa fa ps fs) (hca : SlC w lo hi fa fs) (hh : hi ≤ w.heap.size) :
    Calls Try.prog 8 #[netV sa fa ps.length sc fs.length fc] w fun e w' => e = .returned (.tuple #[.int .i64 ((ps.length : Int) - ((firsts (colA fs) (colB fs) (sumTo fs fs.length)).length : Int) + (fs.length : Int)), .bool true]) ∧ Below w.heap.size w w' := by
  have hV : ∀ W, NetAt W lo hi sa fa ps fs → SlC W lo hi fa fs → hi ≤ W.heap.size → Calls Try.prog 26 #[.agg #[.slice sa ps.length sc, .slice fa fs.length fc]] W fun e w' => e = .returned (.bool true) ∧ Below W.heap.size W w' := fun W h1 h2 h3 => by
    have := validNet lo hi sa fa sc fc ps fs hp hn hsh W h1 h2 h3
    have e : dec (OkNet ps fs (colA fs) (colB fs)) = true := hv
    rw [e] at this
    exact this
  have HV := Lib.hid hV
  have hok := OkNet.sideOk (okN_net hv)
  have HE := Lib.hid (fun W h1 h2 => edgesI lo hi sa fa ps.length sc fc fs hn hsh hok W h1 h2)
  have hfew := hok.few
  have hfl := firsts_lenA fs
  have HS := Lib.hid hs
  have HCA := Lib.hid hca
  obtain ⟨L, hL⟩ : ∃ L, L = (firsts (colA fs) (colB fs) (sumTo fs fs.length)).length := ⟨_, rfl⟩
  rw [← hL] at HE hfl ⊢
  have hL1 : (L : Int) ≤ 268435456 := by omega
  clear hV hok hs hca hv hsh hL hfew hfl
  unfold netV at *
  go_enter Try.func8, Try.ntmps8
  go_wp2_with fail
  refine Calls.mono (HV.out _ ?g1 ?g2 ?g3) ?_
  case g1 => exact HS.out.far ((Far.refl _ _ _).alloc _ hh)
  case g2 => exact HCA.out.far ((Far.refl _ _ _).alloc _ hh)
  case g3 => simp; omega
  rintro e w1 ⟨rfl, hb⟩
  have z1 := hb.size
  simp at z1
  have HO := Lib.hid (show OwnC w1 w.heap.size #[.slice sa ps.length sc, .slice fa fs.length fc] 27 from OwnC.below (OwnC.new rfl) hb (by simp))
  have a0 := HO.out.cell 0
  have a1 := HO.out.cell 1
  have HB := Lib.hid (show Below w.heap.size w w1 from Below.trans (by (repeat (first | exact Below.refl _ _ | assumption | refine below_dr ?_ _ | refine Below.alloc ?_ (by first | omega | (simp; done) | (simp; omega)) _ | refine Below.setCell ?_ (by first | omega | (simp; done) | (simp; omega)) _ | refine Below.trans ?_ (Below.mono (by assumption) (by first | omega | (simp; done) | (simp; omega)))))) (hb.mono (by simp)))
  clear hb
  go_wp2_with fail
  go_region_held3 (fun w' => w'.cell? ⟨w.heap.size, 0, none⟩ = some (.slice sa ps.length sc) ∧ w'.cell? ⟨w.heap.size, 1, none⟩ = some (.slice fa fs.length fc)) (first | go_keep | exact ⟨keep_cell hb9 a0, keep_cell hb9 a1⟩) ((go_at_call 27; refine Calls.mono (HE.out _ (HS.out.facets.far (Far.below (below_dr HB.out 1) hh)) (by show hi ≤ w1.heap.size; omega)) ?_; rintro e w9 ⟨eb, ec, rfl, hE, zE, hb8⟩; have hb9 : Below w1.heap.size w1 w9 := (below_dr (Below.refl w1.heap.size w1) 1).trans hb8; have HB9 := Lib.hid (HB.out.trans (hb9.mono HB.out.size))))
  go_wp2_with fail
  go_ret2
  have e1 : IntKind.i64.wrap ((ps.length : Int) - (L : Int)) = (ps.length : Int) - (L : Int) := IntWalk.i64_in _ (by omega)
  have e2 : IntKind.i64.wrap ((ps.length : Int) - (L : Int) + (fs.length : Int)) = (ps.length : Int) - (L : Int) + (fs.length : Int) := IntWalk.i64_in _ (by omega)
  refine ⟨?_, HB9.out⟩
  show Ending.returned (.tuple #[.int .i64 (IntKind.i64.wrap (IntKind.i64.wrap ((ps.length : Int) - (L : Int)) + (fs.length : Int))), .bool true]) = _
  rw [e1, e2]
end Go.Proofs.Ytkjljajjjhfklaa
