/- Areas by the numbers of the corners; areas of lists that differ little. Rational numbers; plain Lean. -/
import Derived.Test.YtkpjhoiaegioeaaHuA
namespace Go.Fl
def rA (l : List Rp) (i : Nat) : Rp := l.getD i (0, 0)
def cyc (f : Rp → Rp → Rat) (P : Nat → Rp) (n : Nat) : Rat := sumTo (fun i => f (P i) (P ((i + 1) % n))) n
theorem sumTo_head (F : Nat → Rat) : ∀ k, sumTo F (k + 1) = F 0 + sumTo (fun i => F (i + 1)) k
  | 0 => by rw [sumTo_one]; show F 0 = F 0 + 0; grind
  | k + 1 => by
    show sumTo F (k + 1) + F (k + 1) = F 0 + (sumTo (fun i => F (i + 1)) k + F (k + 1))
    rw [sumTo_head F k]; grind
theorem sumTo_rot (F : Nat → Rat) (n : Nat) : sumTo (fun i => F ((i + 1) % n)) n = sumTo F n := by
  cases n with
  | zero => rfl
  | succ m =>
    show sumTo (fun i => F ((i + 1) % (m + 1))) m + F ((m + 1) % (m + 1)) = _
    rw [Nat.mod_self, sumTo_head, sumTo_congr m (G := fun i => F (i + 1)) (fun i hi => by rw [Nat.mod_eq_of_lt (by omega)])]
    grind
theorem sumTo_sub (F G : Nat → Rat) : ∀ k, sumTo (fun i => F i - G i) k = sumTo F k - sumTo G k
  | 0 => by show (0 : Rat) = 0 - 0; grind
  | k + 1 => by show sumTo _ k + (F k - G k) = sumTo F k + F k - (sumTo G k + G k); rw [sumTo_sub F G k]; grind
theorem cyc_back (f : Rp → Rp → Rat) (P : Nat → Rp) (n : Nat) : sumTo (fun i => f (P ((i + n - 1) % n)) (P i)) n = cyc f P n := by
  cases n with
  | zero => rfl
  | succ m =>
    unfold cyc
    rw [sumTo_head]
    show _ = sumTo (fun i => f (P i) (P ((i + 1) % (m + 1)))) m + f (P m) (P ((m + 1) % (m + 1)))
    rw [Nat.mod_self, Nat.zero_add, Nat.add_sub_cancel, Nat.mod_eq_of_lt (Nat.lt_succ_self m), Rat.add_comm]
    congr 1
    apply sumTo_congr
    intro i hi
    rw [show i + 1 + (m + 1) - 1 = i + (m + 1) by omega, Nat.add_mod_right, Nat.mod_eq_of_lt (by omega), Nat.mod_eq_of_lt (by omega)]
/-- an area hangs on no point from which it is seen -/
theorem cyc_move (a : Rp) (P : Nat → Rp) (n : Nat) : cyc (fR a) P n = cyc (fR (0, 0)) P n := by
  unfold cyc
  have e : ∀ i, fR a (P i) (P ((i + 1) % n)) - fR (0, 0) (P i) (P ((i + 1) % n)) = (fun j => a.1 * (P j).2 - a.2 * (P j).1) i - (fun j => a.1 * (P j).2 - a.2 * (P j).1) ((i + 1) % n) := fun i => by unfold fR; grind
  have h1 := sumTo_sub (fun i => fR a (P i) (P ((i + 1) % n))) (fun i => fR (0, 0) (P i) (P ((i + 1) % n))) n
  rw [sumTo_congr n (fun i _ => e i), sumTo_sub, sumTo_rot (fun j => a.1 * (P j).2 - a.2 * (P j).1)] at h1
  grind
theorem rA_app {l : List Rp} {m : List Rp} {i : Nat} (h : i < l.length) : rA (l ++ m) i = rA l i := by
  unfold rA; rw [List.getD_eq_getElem?_getD, List.getD_eq_getElem?_getD, List.getElem?_append_left h]
theorem chainR_sum (f : Rp → Rp → Rat) : ∀ (l : List Rp), chainR f l = sumTo (fun i => f (rA l i) (rA l (i + 1))) (l.length - 1)
  | [] => rfl
  | [_] => rfl
  | p :: q :: r => by
    show f p q + chainR f (q :: r) = sumTo _ ((q :: r).length)
    rw [chainR_sum f (q :: r)]
    obtain ⟨m, hm⟩ : ∃ m, (q :: r).length = m + 1 := ⟨r.length, rfl⟩
    rw [hm, sumTo_head, Nat.add_sub_cancel]
    rfl
theorem cycR_sum (f : Rp → Rp → Rat) (l : List Rp) : cycR f l = cyc f (rA l) l.length := by
  match l with
  | [] => rfl
  | p :: r =>
    show chainR f (p :: r ++ [p]) = _
    rw [chainR_sum]
    have hl : (p :: r ++ [p]).length - 1 = (p :: r).length := by simp
    rw [hl]
    apply sumTo_congr
    intro i hi
    rw [rA_app hi]
    by_cases h : i + 1 < (p :: r).length
    · rw [rA_app h, Nat.mod_eq_of_lt h]
    · have e : i + 1 = (p :: r).length := by omega
      have e2 : rA (p :: r ++ [p]) (p :: r).length = p := by
        unfold rA
        rw [List.getD_eq_getElem?_getD, List.getElem?_append_right (Nat.le_refl _), Nat.sub_self]; rfl
      rw [e, Nat.mod_self, e2]
      rfl
theorem mul_bd {x y B C : Rat} (h1 : -B ≤ x) (h2 : x ≤ B) (k1 : -C ≤ y) (k2 : y ≤ C) : -(B * C) ≤ x * y ∧ x * y ≤ B * C := by
  have a1 := Rat.mul_nonneg (a := B - x) (b := C - y) (by grind) (by grind)
  have a2 := Rat.mul_nonneg (a := B + x) (b := C + y) (by grind) (by grind)
  have a3 := Rat.mul_nonneg (a := B - x) (b := C + y) (by grind) (by grind)
  have a4 := Rat.mul_nonneg (a := B + x) (b := C - y) (by grind) (by grind)
  constructor <;> grind
/-- within B -/
def within (p : Rp) (B : Rat) : Prop := -B ≤ p.1 ∧ p.1 ≤ B ∧ -B ≤ p.2 ∧ p.2 ≤ B
/-- nearer than η -/
def nearR (p q : Rp) (η : Rat) : Prop := -η ≤ p.1 - q.1 ∧ p.1 - q.1 ≤ η ∧ -η ≤ p.2 - q.2 ∧ p.2 - q.2 ≤ η
theorem fR_near {p q p' q' : Rp} {η : Rat} (h1 : within p 8) (h2 : within q' 8) (hp : nearR p p' η) (hq : nearR q q' η) : -(32 * η) ≤ fR (0, 0) p q - fR (0, 0) p' q' ∧ fR (0, 0) p q - fR (0, 0) p' q' ≤ 32 * η := by
  obtain ⟨a1, a2, a3, a4⟩ := h1
  obtain ⟨b1, b2, b3, b4⟩ := h2
  obtain ⟨c1, c2, c3, c4⟩ := hp
  obtain ⟨d1, d2, d3, d4⟩ := hq
  have m1 := mul_bd a1 a2 d3 d4
  have m2 := mul_bd c1 c2 b3 b4
  have m3 := mul_bd a3 a4 d1 d2
  have m4 := mul_bd c3 c4 b1 b2
  have e : fR (0, 0) p q - fR (0, 0) p' q' = p.1 * (q.2 - q'.2) + (p.1 - p'.1) * q'.2 - (p.2 * (q.1 - q'.1) + (p.2 - p'.2) * q'.1) := by unfold fR; grind
  rw [e]
  constructor <;> grind
theorem sumTo_near {F G : Nat → Rat} {ε : Rat} : ∀ k, (∀ i, i < k → -ε ≤ F i - G i ∧ F i - G i ≤ ε) → -(((k : Nat) : Int) : Rat) * ε ≤ sumTo F k - sumTo G k ∧ sumTo F k - sumTo G k ≤ (((k : Nat) : Int) : Rat) * ε
  | 0, _ => by
    have : (((0 : Nat) : Int) : Rat) = 0 := rfl
    show -(((0 : Nat) : Int) : Rat) * ε ≤ 0 - 0 ∧ (0 : Rat) - 0 ≤ (((0 : Nat) : Int) : Rat) * ε
    rw [this]; constructor <;> grind
  | k + 1, h => by
    have ih := sumTo_near (F := F) (G := G) k (fun i hi => h i (by omega))
    have hk := h k (Nat.lt_succ_self k)
    have e : (((k + 1 : Nat) : Int) : Rat) = (((k : Nat) : Int) : Rat) + 1 := by rw [Int.natCast_add, Rat.intCast_add]; rfl
    show -(((k + 1 : Nat) : Int) : Rat) * ε ≤ sumTo F k + F k - (sumTo G k + G k) ∧ sumTo F k + F k - (sumTo G k + G k) ≤ (((k + 1 : Nat) : Int) : Rat) * ε
    rw [e]; constructor <;> grind
/-- areas of lists that differ little -/
theorem cyc_near {P Q : Nat → Rp} {η : Rat} {n : Nat} (h1 : ∀ i, i < n → within (P i) 8) (h2 : ∀ i, i < n → within (Q i) 8) (h : ∀ i, i < n → nearR (P i) (Q i) η) :
    -(((n : Nat) : Int) : Rat) * (32 * η) ≤ cyc (fR (0, 0)) P n - cyc (fR (0, 0)) Q n ∧ cyc (fR (0, 0)) P n - cyc (fR (0, 0)) Q n ≤ (((n : Nat) : Int) : Rat) * (32 * η) := by
  apply sumTo_near
  intro i hi
  have hm : (i + 1) % n < n := Nat.mod_lt _ (by omega)
  exact fR_near (h1 i hi) (h2 _ hm) (h i hi) (h _ hm)
theorem Rnd.n32 {r : Nat} {q : Rat} (h : Rnd .f32 r q) (m : Nat) (hm : m ≤ 60) {B : Rat} (hB : B = (((2 ^ m : Nat) : Int) : Rat)) (h1 : -B ≤ q) (h2 : q ≤ B) : q - B / 8388608 ≤ R .f32 r ∧ R .f32 r ≤ q + B / 8388608 :=
  h.near m hm hB (by show B / 8388608 * 8388608 = B; grind) h1 h2
theorem Rnd.n64 {r : Nat} {q : Rat} (h : Rnd .f64 r q) (m : Nat) (hm : m ≤ 60) {B : Rat} (hB : B = (((2 ^ m : Nat) : Int) : Rat)) (h1 : -B ≤ q) (h2 : q ≤ B) : q - B / 4503599627370496 ≤ R .f64 r ∧ R .f64 r ≤ q + B / 4503599627370496 :=
  h.near m hm hB (by show B / 4503599627370496 * 4503599627370496 = B; grind) h1 h2
end Go.Fl
