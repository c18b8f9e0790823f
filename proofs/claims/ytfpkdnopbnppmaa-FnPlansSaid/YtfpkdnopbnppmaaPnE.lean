/- One phase of a plan, with its errors. Plain Lean. -/
import Derived.Test.YtfpkdnopbnppmaaPnD
namespace Go.Fl
open Ieee
/-- x is y within d -/
def Er (x y d : Rat) : Prop := y - d ≤ x ∧ x ≤ y + d
theorem Er.self (x : Rat) {d : Rat} (h : 0 ≤ d) : Er x x d := ⟨by grind, by grind⟩
theorem Er.up {x y d e : Rat} (h : Er x y d) (k : d ≤ e) : Er x y e := ⟨by have := h.1; grind, by have := h.2; grind⟩
/-- a rounding's part -/
def ee : Rat := 1 / 2097152
theorem ee_eq : ee = 1 / 2097152 := rfl
theorem half_N : isN .f32 1056964608 = true ∧ R .f32 1056964608 = 1 / 2 := by
  have q : Q .f32 1056964608 1 1 := ⟨by decide +kernel, by decide +kernel, by decide⟩
  exact ⟨q.num, by rw [q.R]; decide +kernel⟩
theorem six_N : isN .f32 1086324736 = true ∧ R .f32 1086324736 = 6 := by
  have q : Q .f32 1086324736 6 0 := ⟨by decide +kernel, by decide +kernel, by decide⟩
  exact ⟨q.num, by rw [q.R]; decide +kernel⟩
theorem fmul_er {x s : Nat} {y n A B : Rat} (hx : isN .f32 x = true) (hs : isN .f32 s = true) (h : Er (R .f32 x) y (n * A)) (n0 : 0 ≤ n) (n1 : n ≤ 1) (y1 : -A ≤ y) (y2 : y ≤ A)
    (s0 : 0 ≤ R .f32 s) (hA : A * R .f32 s ≤ B) (b0 : 1 / 1000000 ≤ B) (b1 : B ≤ 1000) :
    isN .f32 (fmul x s) = true ∧ Er (R .f32 (fmul x s)) (y * R .f32 s) ((n + ee) * B) ∧ -B ≤ y * R .f32 s ∧ y * R .f32 s ≤ B := by
  obtain ⟨S, hS⟩ : ∃ S, S = R .f32 s := ⟨_, rfl⟩
  rw [← hS] at s0 hA ⊢
  have p := tms h n0 s0 hA
  have q := tms (x := y) (y := 0) (d := 1) (A := A) ⟨by grind, by grind⟩ (by grind) s0 hA
  have nB := Rat.mul_nonneg (a := 1 - n) (b := B) (by grind) (by grind)
  have hr := rnd_mul hx hs (by rw [← hS]; grind) (by rw [← hS]; grind)
  have f := hr.sc (c := 2 * B) (by grind) (by grind) (by rw [← hS]; grind) (by rw [← hS]; grind)
  rw [← hS] at f
  refine ⟨hr.num, ⟨?_, ?_⟩, by grind, by grind⟩
  · show y * S - (n + ee) * B ≤ R .f32 (fop .mul .f32 x s)
    rw [ee_eq]; grind
  · show R .f32 (fop .mul .f32 x s) ≤ y * S + (n + ee) * B
    rw [ee_eq]; grind
theorem half_er {x : Nat} {y n A : Rat} (hx : isN .f32 x = true) (h : Er (R .f32 x) y (n * A)) (n0 : 0 ≤ n) (n1 : n ≤ 1) (y1 : -A ≤ y) (y2 : y ≤ A) (a0 : 1 / 1000000 ≤ A) (a1 : A ≤ 1000) :
    isN .f32 (fmul 1056964608 x) = true ∧ Er (R .f32 (fmul 1056964608 x)) (y / 2) ((n + ee) * A) := by
  have nB := Rat.mul_nonneg (a := 1 - n) (b := A) (by grind) (by grind)
  have nC := Rat.mul_nonneg (a := n) (b := A) (by grind) (by grind)
  obtain ⟨h1, h2⟩ := h
  have hr := rnd_mul half_N.1 hx (by rw [half_N.2]; grind) (by rw [half_N.2]; grind)
  rw [half_N.2] at hr
  have f := hr.sc (c := A) (by grind) (by grind) (by grind) (by grind)
  refine ⟨hr.num, ?_, ?_⟩
  · show y / 2 - (n + ee) * A ≤ R .f32 (fop .mul .f32 1056964608 x)
    rw [ee_eq]; grind
  · show R .f32 (fop .mul .f32 1056964608 x) ≤ y / 2 + (n + ee) * A
    rw [ee_eq]; grind
theorem sixth_er {x : Nat} {y n A : Rat} (hx : isN .f32 x = true) (h : Er (R .f32 x) y (n * A)) (n0 : 0 ≤ n) (n1 : n ≤ 1) (y1 : -A ≤ y) (y2 : y ≤ A) (a0 : 1 / 1000000 ≤ A) (a1 : A ≤ 1000) :
    isN .f32 (fdiv x 1086324736) = true ∧ Er (R .f32 (fdiv x 1086324736)) (y / 6) ((n + ee) * A) := by
  have nB := Rat.mul_nonneg (a := 1 - n) (b := A) (by grind) (by grind)
  have nC := Rat.mul_nonneg (a := n) (b := A) (by grind) (by grind)
  obtain ⟨h1, h2⟩ := h
  have hr := rnd_div (q := R .f32 x / 6) hx six_N.1 (by rw [six_N.2]; grind) (by rw [six_N.2]; grind) (by grind) (by grind)
  have f := hr.sc (c := A) (by grind) (by grind) (by grind) (by grind)
  refine ⟨hr.num, ?_, ?_⟩
  · show y / 6 - (n + ee) * A ≤ R .f32 (fop .quo .f32 x 1086324736)
    rw [ee_eq]; grind
  · show R .f32 (fop .quo .f32 x 1086324736) ≤ y / 6 + (n + ee) * A
    rw [ee_eq]; grind
theorem fadd_er {x z : Nat} {y w n m B : Rat} (hx : isN .f32 x = true) (hz : isN .f32 z = true) (h : Er (R .f32 x) y (n * B)) (k : Er (R .f32 z) w (m * B)) (n0 : 0 ≤ n) (n1 : n ≤ 1 / 2) (m0 : 0 ≤ m) (m1 : m ≤ 1 / 2)
    (y1 : -(5 * B) ≤ y + w) (y2 : y + w ≤ 5 * B) (b0 : 1 / 1000000 ≤ B) (b1 : B ≤ 1000) :
    isN .f32 (fadd x z) = true ∧ Er (R .f32 (fadd x z)) (y + w) ((n + m + 4 * ee) * B) := by
  have nB := Rat.mul_nonneg (a := 1 / 2 - n) (b := B) (by grind) (by grind)
  have mB := Rat.mul_nonneg (a := 1 / 2 - m) (b := B) (by grind) (by grind)
  have nC := Rat.mul_nonneg (a := n) (b := B) (by grind) (by grind)
  have mC := Rat.mul_nonneg (a := m) (b := B) (by grind) (by grind)
  obtain ⟨h1, h2⟩ := h
  obtain ⟨k1, k2⟩ := k
  have hr := rnd_add hx hz (by grind) (by grind)
  have f := hr.sc (c := 8 * B) (by grind) (by grind) (by grind) (by grind)
  refine ⟨hr.num, ?_, ?_⟩
  · show y + w - (n + m + 4 * ee) * B ≤ R .f32 (fop .add .f32 x z)
    rw [ee_eq]; grind
  · show R .f32 (fop .add .f32 x z) ≤ y + w + (n + m + 4 * ee) * B
    rw [ee_eq]; grind
theorem zmul {x z : Nat} (hx : isN .f32 x = true) (hz : isN .f32 z = true) (h : R .f32 x = 0 ∨ R .f32 z = 0) : isN .f32 (fmul x z) = true ∧ R .f32 (fmul x z) = 0 := by
  have e : R .f32 x * R .f32 z = 0 := by rcases h with h | h <;> rw [h] <;> grind
  have hr := rnd_mul hx hz (by rw [e]; grind) (by rw [e]; grind)
  exact ⟨hr.num, hr.zero e⟩
theorem zdiv {x : Nat} (hx : isN .f32 x = true) (h : R .f32 x = 0) : isN .f32 (fdiv x 1086324736) = true ∧ R .f32 (fdiv x 1086324736) = 0 := by
  have hr := rnd_div (q := 0) hx six_N.1 (by rw [six_N.2]; grind) (by rw [h]; grind) (by grind) (by grind)
  exact ⟨hr.num, hr.zero rfl⟩
theorem zadd {x z : Nat} (hx : isN .f32 x = true) (hz : isN .f32 z = true) (b1 : -100000 ≤ R .f32 x) (b2 : R .f32 x ≤ 100000) (h : R .f32 z = 0) : isN .f32 (fadd x z) = true ∧ R .f32 (fadd x z) = R .f32 x := by
  have e : R .f32 x + R .f32 z = R .f32 x := by rw [h]; grind
  have hr := rnd_add hx hz (by rw [e]; grind) (by rw [e]; grind)
  exact ⟨hr.num, (hr.exact hx e.symm).trans e⟩
theorem add0 {x z : Nat} (hx : isN .f32 x = true) (hz : isN .f32 z = true) (b1 : -100000 ≤ R .f32 z) (b2 : R .f32 z ≤ 100000) (h : R .f32 x = 0) : isN .f32 (fadd x z) = true ∧ R .f32 (fadd x z) = R .f32 z := by
  have e : R .f32 x + R .f32 z = R .f32 z := by rw [h]; grind
  have hr := rnd_add hx hz (by rw [e]; grind) (by rw [e]; grind)
  exact ⟨hr.num, (hr.exact hz e.symm).trans e⟩
def pX (x v a j s : Nat) : Nat := fadd x (fadd (fadd (fmul v s) (fmul (fmul (fmul 1056964608 a) s) s)) (fdiv (fmul (fmul (fmul j s) s) s) 1086324736))
def pV (v a j s : Nat) : Nat := fadd v (fadd (fmul a s) (fmul (fmul (fmul 1056964608 j) s) s))
def pA (a j s : Nat) : Nat := fadd a (fmul j s)
/-- one phase, its errors -/
theorem phase_er {x v a j s : Nat} {Xk Vk Ak jk α β γ J A V X : Rat} (hx : isN .f32 x = true) (hv : isN .f32 v = true) (ha : isN .f32 a = true) (hj : isN .f32 j = true) (hs : isN .f32 s = true)
    (ex : Er (R .f32 x) Xk (γ * X)) (ev : Er (R .f32 v) Vk (β * V)) (ea : Er (R .f32 a) Ak (α * A)) (ej : R .f32 j = jk)
    (α0 : 0 ≤ α) (α1 : α ≤ 1 / 10) (β0 : 0 ≤ β) (β1 : β ≤ 1 / 10) (γ0 : 0 ≤ γ) (γ1 : γ ≤ 1 / 10)
    (x1 : -X ≤ Xk) (x2 : Xk ≤ X) (v1 : -V ≤ Vk) (v2 : Vk ≤ V) (a1 : -A ≤ Ak) (a2 : Ak ≤ A) (j1 : -J ≤ jk) (j2 : jk ≤ J)
    (s0 : 0 ≤ R .f32 s) (sJ : J * R .f32 s ≤ A) (sA : A * R .f32 s ≤ V) (sV : V * R .f32 s ≤ X)
    (J0 : 1 / 1000000 ≤ J) (J9 : J ≤ 1000) (A0 : 1 / 1000000 ≤ A) (A9 : A ≤ 1000) (V0 : 1 / 1000000 ≤ V) (V9 : V ≤ 1000) (X0 : 1 / 1000000 ≤ X) (X9 : X ≤ 1000) :
    (isN .f32 (pX x v a j s) = true ∧ Er (R .f32 (pX x v a j s)) (Xk + (Vk * R .f32 s + Ak / 2 * R .f32 s * R .f32 s + jk * R .f32 s * R .f32 s * R .f32 s / 6)) ((γ + β + α + 20 * ee) * X)) ∧
    (isN .f32 (pV v a j s) = true ∧ Er (R .f32 (pV v a j s)) (Vk + (Ak * R .f32 s + jk / 2 * R .f32 s * R .f32 s)) ((β + α + 12 * ee) * V)) ∧
    (isN .f32 (pA a j s) = true ∧ Er (R .f32 (pA a j s)) (Ak + jk * R .f32 s) ((α + 5 * ee) * A)) ∧
    (-(6 * V) ≤ R .f32 (pV v a j s) ∧ R .f32 (pV v a j s) ≤ 6 * V) ∧ -(6 * A) ≤ R .f32 (pA a j s) ∧ R .f32 (pA a j s) ≤ 6 * A := by
  have he : (0 : Rat) ≤ ee ∧ ee ≤ 1 / 1000 := by rw [ee_eq]; constructor <;> grind
  obtain ⟨e0, e1⟩ := he
  have ej' : Er (R .f32 j) jk (0 * J) := by rw [ej]; exact Er.self _ (by grind)
  obtain ⟨n1, m1, b1, c1⟩ := fmul_er hv hs ev β0 (by grind) v1 v2 s0 sV X0 X9
  obtain ⟨n2, m2⟩ := half_er ha ea α0 (by grind) a1 a2 A0 A9
  obtain ⟨n3, m3, b3, c3⟩ := fmul_er n2 hs m2 (by grind) (by grind) (by grind) (by grind) s0 sA V0 V9
  obtain ⟨n4, m4, b4, c4⟩ := fmul_er n3 hs m3 (by grind) (by grind) b3 c3 s0 sV X0 X9
  obtain ⟨n5, m5, b5, c5⟩ := fmul_er hj hs ej' (by grind) (by grind) j1 j2 s0 sJ A0 A9
  obtain ⟨n6, m6, b6, c6⟩ := fmul_er n5 hs m5 (by grind) (by grind) b5 c5 s0 sA V0 V9
  obtain ⟨n7, m7, b7, c7⟩ := fmul_er n6 hs m6 (by grind) (by grind) b6 c6 s0 sV X0 X9
  obtain ⟨n8, m8⟩ := sixth_er n7 m7 (by grind) (by grind) b7 c7 X0 X9
  generalize Vk * R .f32 s = p1 at *
  generalize Ak / 2 * R .f32 s * R .f32 s = p2 at *
  generalize jk * R .f32 s * R .f32 s * R .f32 s = p3 at *
  obtain ⟨n9, m9⟩ := fadd_er n1 n4 m1 m4 (by grind) (by grind) (by grind) (by grind) (by grind) (by grind) X0 X9
  obtain ⟨na, ma⟩ := fadd_er n9 n8 m9 m8 (by grind) (by grind) (by grind) (by grind) (by grind) (by grind) X0 X9
  obtain ⟨nb, mb⟩ := fadd_er hx na ex ma (by grind) (by grind) (by grind) (by grind) (by grind) (by grind) X0 X9
  obtain ⟨k1, l1, d1, f1⟩ := fmul_er ha hs ea α0 (by grind) a1 a2 s0 sA V0 V9
  obtain ⟨k2, l2⟩ := half_er hj ej' (by grind) (by grind) j1 j2 J0 J9
  obtain ⟨k3, l3, d3, f3⟩ := fmul_er k2 hs l2 (by grind) (by grind) (by grind) (by grind) s0 sJ A0 A9
  obtain ⟨k4, l4, d4, f4⟩ := fmul_er k3 hs l3 (by grind) (by grind) d3 f3 s0 sA V0 V9
  generalize Ak * R .f32 s = p4 at *
  generalize jk / 2 * R .f32 s * R .f32 s = p5 at *
  generalize jk * R .f32 s = p6 at *
  obtain ⟨k5, l5⟩ := fadd_er k1 k4 l1 l4 (by grind) (by grind) (by grind) (by grind) (by grind) (by grind) V0 V9
  obtain ⟨k6, l6⟩ := fadd_er hv k5 ev l5 (by grind) (by grind) (by grind) (by grind) (by grind) (by grind) V0 V9
  obtain ⟨k7, l7⟩ := fadd_er ha n5 ea m5 (by grind) (by grind) (by grind) (by grind) (by grind) (by grind) A0 A9
  have up : ∀ {a b B : Rat}, a ≤ b → 0 ≤ B → a * B ≤ b * B := fun h k => Rat.mul_le_mul_of_nonneg_right h k
  have r6 : Er (R .f32 (pV v a j s)) (Vk + (p4 + p5)) ((β + α + 12 * ee) * V) := l6.up (up (by grind) (by grind))
  have r7 : Er (R .f32 (pA a j s)) (Ak + p6) ((α + 5 * ee) * A) := l7.up (up (by grind) (by grind))
  have bV := Rat.mul_nonneg (a := 1 - (β + α + 12 * ee)) (b := V) (by grind) (by grind)
  have bA := Rat.mul_nonneg (a := 1 - (α + 5 * ee)) (b := A) (by grind) (by grind)
  obtain ⟨g1, g2⟩ := r6
  obtain ⟨g3, g4⟩ := r7
  exact ⟨⟨nb, mb.up (up (by grind) (by grind))⟩, ⟨k6, g1, g2⟩, ⟨k7, g3, g4⟩, ⟨by grind, by grind⟩, by grind, by grind⟩
/-- the phase without a change of speed -/
theorem cruise_er {x v a j s : Nat} {Xk Vk β γ V X : Rat} (hx : isN .f32 x = true) (hv : isN .f32 v = true) (ha : isN .f32 a = true) (hj : isN .f32 j = true) (hs : isN .f32 s = true)
    (ex : Er (R .f32 x) Xk (γ * X)) (ev : Er (R .f32 v) Vk (β * V)) (ea : R .f32 a = 0) (ej : R .f32 j = 0)
    (β0 : 0 ≤ β) (β1 : β ≤ 1 / 10) (γ0 : 0 ≤ γ) (γ1 : γ ≤ 1 / 10)
    (x1 : -X ≤ Xk) (x2 : Xk ≤ X) (v1 : -V ≤ Vk) (v2 : Vk ≤ V)
    (s0 : 0 ≤ R .f32 s) (sV : V * R .f32 s ≤ X) (V0 : 1 / 1000000 ≤ V) (V9 : V ≤ 1000) (X0 : 1 / 1000000 ≤ X) (X9 : X ≤ 1000) :
    (isN .f32 (pX x v a j s) = true ∧ Er (R .f32 (pX x v a j s)) (Xk + Vk * R .f32 s) ((γ + β + 20 * ee) * X)) ∧
    (isN .f32 (pV v a j s) = true ∧ R .f32 (pV v a j s) = R .f32 v) ∧ (isN .f32 (pA a j s) = true ∧ R .f32 (pA a j s) = 0) := by
  have he : (0 : Rat) ≤ ee ∧ ee ≤ 1 / 1000 := by rw [ee_eq]; constructor <;> grind
  obtain ⟨e0, e1⟩ := he
  obtain ⟨n1, m1, b1, c1⟩ := fmul_er hv hs ev β0 (by grind) v1 v2 s0 sV X0 X9
  have bX := Rat.mul_nonneg (a := 1 - (β + ee)) (b := X) (by grind) (by grind)
  have bV := Rat.mul_nonneg (a := 1 - β) (b := V) (by grind) (by grind)
  obtain ⟨n2, m2⟩ := zmul half_N.1 ha (.inr ea)
  obtain ⟨n3, m3⟩ := zmul n2 hs (.inl m2)
  obtain ⟨n4, m4⟩ := zmul n3 hs (.inl m3)
  obtain ⟨n5, m5⟩ := zmul hj hs (.inl ej)
  obtain ⟨n6, m6⟩ := zmul n5 hs (.inl m5)
  obtain ⟨n7, m7⟩ := zmul n6 hs (.inl m6)
  obtain ⟨n8, m8⟩ := zdiv n7 m7
  have q1 := m1.1
  have q2 := m1.2
  have q3 := ev.1
  have q4 := ev.2
  obtain ⟨n9, m9⟩ := zadd n1 n4 (by grind) (by grind) m4
  obtain ⟨na, ma⟩ := zadd n9 n8 (by rw [m9]; grind) (by rw [m9]; grind) m8
  obtain ⟨nb, mb⟩ := fadd_er hx na ex (show Er (R .f32 (fadd (fadd (fmul v s) (fmul (fmul (fmul 1056964608 a) s) s)) (fdiv (fmul (fmul (fmul j s) s) s) 1086324736))) (Vk * R .f32 s) ((β + ee) * X) by rw [ma, m9]; exact m1) (by grind) (by grind) (by grind) (by grind) (by grind) (by grind) X0 X9
  obtain ⟨k1, l1⟩ := zmul ha hs (.inl ea)
  obtain ⟨k2, l2⟩ := zmul half_N.1 hj (.inr ej)
  obtain ⟨k3, l3⟩ := zmul k2 hs (.inl l2)
  obtain ⟨k4, l4⟩ := zmul k3 hs (.inl l3)
  obtain ⟨k5, l5⟩ := zadd k1 k4 (by rw [l1]; grind) (by rw [l1]; grind) l4
  obtain ⟨k6, l6⟩ := zadd hv k5 (by grind) (by grind) (by rw [l5, l1])
  obtain ⟨k7, l7⟩ := zadd ha n5 (by rw [ea]; grind) (by rw [ea]; grind) m5
  have up : ∀ {a b B : Rat}, a ≤ b → 0 ≤ B → a * B ≤ b * B := fun h k => Rat.mul_le_mul_of_nonneg_right h k
  exact ⟨⟨nb, mb.up (up (by grind) (by grind))⟩, ⟨k6, l6⟩, ⟨k7, by rw [show pA a j s = fadd a (fmul j s) from rfl, l7, ea]⟩⟩
/-- no time left: nothing moves -/
theorem still_er {x v a j s : Nat} (hx : isN .f32 x = true) (hv : isN .f32 v = true) (ha : isN .f32 a = true) (hj : isN .f32 j = true) (hs : isN .f32 s = true) (s0 : R .f32 s = 0)
    (x1 : -1000 ≤ R .f32 x) (x2 : R .f32 x ≤ 1000) (v1 : -1000 ≤ R .f32 v) (v2 : R .f32 v ≤ 1000) (a1 : -1000 ≤ R .f32 a) (a2 : R .f32 a ≤ 1000) (j1 : -1000 ≤ R .f32 j) (j2 : R .f32 j ≤ 1000) :
    (isN .f32 (pX x v a j s) = true ∧ R .f32 (pX x v a j s) = R .f32 x) ∧ (isN .f32 (pV v a j s) = true ∧ R .f32 (pV v a j s) = R .f32 v) ∧ (isN .f32 (pA a j s) = true ∧ R .f32 (pA a j s) = R .f32 a) := by
  obtain ⟨n1, m1⟩ := zmul hv hs (.inr s0)
  have nh : isN .f32 (fmul 1056964608 a) = true := (rnd_mul half_N.1 ha (by rw [half_N.2]; grind) (by rw [half_N.2]; grind)).num
  obtain ⟨n3, m3⟩ := zmul nh hs (.inr s0)
  obtain ⟨n4, m4⟩ := zmul n3 hs (.inr s0)
  obtain ⟨n5, m5⟩ := zmul hj hs (.inr s0)
  obtain ⟨n6, m6⟩ := zmul n5 hs (.inr s0)
  obtain ⟨n7, m7⟩ := zmul n6 hs (.inr s0)
  obtain ⟨n8, m8⟩ := zdiv n7 m7
  obtain ⟨n9, m9⟩ := zadd n1 n4 (by rw [m1]; grind) (by rw [m1]; grind) m4
  obtain ⟨na, ma⟩ := zadd n9 n8 (by rw [m9, m1]; grind) (by rw [m9, m1]; grind) m8
  obtain ⟨nb, mb⟩ := zadd hx na (by grind) (by grind) (by rw [ma, m9, m1])
  obtain ⟨k1, l1⟩ := zmul ha hs (.inr s0)
  have nj : isN .f32 (fmul 1056964608 j) = true := (rnd_mul half_N.1 hj (by rw [half_N.2]; grind) (by rw [half_N.2]; grind)).num
  obtain ⟨k3, l3⟩ := zmul nj hs (.inr s0)
  obtain ⟨k4, l4⟩ := zmul k3 hs (.inr s0)
  obtain ⟨k5, l5⟩ := zadd k1 k4 (by rw [l1]; grind) (by rw [l1]; grind) l4
  obtain ⟨k6, l6⟩ := zadd hv k5 (by grind) (by grind) (by rw [l5, l1])
  obtain ⟨k7, l7⟩ := zadd ha n5 (by grind) (by grind) m5
  exact ⟨⟨nb, mb⟩, ⟨k6, l6⟩, ⟨k7, l7⟩⟩
end Go.Fl
