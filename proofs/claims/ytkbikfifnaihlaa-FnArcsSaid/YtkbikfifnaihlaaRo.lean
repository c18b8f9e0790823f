/- The operations on floats keep order against every number of the format: sum, product, quotient, root, narrowing. Plain Lean. -/
import Derived.Test.YtkbikfifnaihlaaRn
namespace Go.Fl
open Ieee
/-- r is the rounded X / D (in units of the last place of all) -/
structure Near (K : FloatKind) (r : Nat) (X : Int) (D : Nat) : Prop where
  num : isN K r = true
  le : ∀ (k : Int) (a : Nat), k.natAbs < 2 ^ (FB K + 1) → X ≤ k * 2 ^ a * D → V K r ≤ k * 2 ^ a
  ge : ∀ (k : Int) (a : Nat), k.natAbs < 2 ^ (FB K + 1) → k * 2 ^ a * D ≤ X → k * 2 ^ a ≤ V K r
theorem nat_le_i {a b : Nat} (h : a ≤ b) : (a : Int) ≤ (b : Int) := Int.ofNat_le.2 h
theorem i_le_nat {a b : Nat} (h : (a : Int) ≤ (b : Int)) : a ≤ b := Int.ofNat_le.1 h
theorem cast_mul_pow (n a : Nat) : ((n * 2 ^ a : Nat) : Int) = (n : Int) * 2 ^ a := by rw [Int.natCast_mul, pow_i]
/-- a sign put ahead of bounds on magnitudes -/
theorem Near.of_abs {K : FloatKind} {r : Nat} {s : Bool} {v M D : Nat} (hn : isN K r = true) (hv : V K r = if s then -(v : Int) else v)
    (h : ∀ k a : Nat, k < 2 ^ (FB K + 1) → (M ≤ k * 2 ^ a * D → v ≤ k * 2 ^ a) ∧ (k * 2 ^ a * D ≤ M → k * 2 ^ a ≤ v)) : Near K r (if s then -(M : Int) else M) D := by
  have key : ∀ (k : Int) (a : Nat), ∃ n : Nat, n = k.natAbs ∧ (k * 2 ^ a = ((n * 2 ^ a : Nat) : Int) ∨ k * 2 ^ a = -((n * 2 ^ a : Nat) : Int)) := fun k a => by
    refine ⟨k.natAbs, rfl, ?_⟩
    rcases Int.natAbs_eq k with h | h
    · left; rw [cast_mul_pow, ← h]
    · right; rw [cast_mul_pow, ← Int.neg_mul, ← h]
  refine ⟨hn, fun k a hk hX => ?_, fun k a hk hX => ?_⟩
  · obtain ⟨n, hn, e⟩ := key k a
    have h1 := h n a (by rw [hn]; exact hk)
    have h0 := (h 0 a (Nat.two_pow_pos _)).1
    rw [hv]
    have cD : ((n * 2 ^ a * D : Nat) : Int) = ((n * 2 ^ a : Nat) : Int) * (D : Int) := Int.natCast_mul _ _
    obtain ⟨c, hc⟩ : ∃ c, c = n * 2 ^ a := ⟨_, rfl⟩
    obtain ⟨cd, hcd⟩ : ∃ x, x = c * D := ⟨_, rfl⟩
    rw [← hc, ← hcd] at h1
    rw [← hc, ← hcd] at cD
    rw [← hc] at e
    rw [Nat.zero_mul, Nat.zero_mul] at h0
    rcases e with e | e
    · rw [e] at hX ⊢
      rw [← cD] at hX
      cases s
      · simp only [Bool.false_eq_true, if_false] at hX ⊢
        exact nat_le_i (h1.1 (i_le_nat hX))
      · simp only [if_true] at hX ⊢
        omega
    · rw [e] at hX ⊢
      rw [Int.neg_mul, ← cD] at hX
      cases s
      · simp only [Bool.false_eq_true, if_false] at hX ⊢
        have h2 := h1.2 (by omega)
        have h3 := h0 (by omega)
        omega
      · simp only [if_true] at hX ⊢
        have h2 := h1.2 (by omega)
        omega
  · obtain ⟨n, hn, e⟩ := key k a
    have h1 := h n a (by rw [hn]; exact hk)
    have h0 := (h 0 a (Nat.two_pow_pos _)).1
    rw [hv]
    have cD : ((n * 2 ^ a * D : Nat) : Int) = ((n * 2 ^ a : Nat) : Int) * (D : Int) := Int.natCast_mul _ _
    obtain ⟨c, hc⟩ : ∃ c, c = n * 2 ^ a := ⟨_, rfl⟩
    obtain ⟨cd, hcd⟩ : ∃ x, x = c * D := ⟨_, rfl⟩
    rw [← hc, ← hcd] at h1
    rw [← hc, ← hcd] at cD
    rw [← hc] at e
    rw [Nat.zero_mul, Nat.zero_mul] at h0
    rcases e with e | e
    · rw [e] at hX ⊢
      rw [← cD] at hX
      cases s
      · simp only [Bool.false_eq_true, if_false] at hX ⊢
        exact nat_le_i (h1.2 (i_le_nat hX))
      · simp only [if_true] at hX ⊢
        have h2 := h1.2 (by omega)
        have h3 := h0 (by omega)
        omega
    · rw [e] at hX ⊢
      rw [Int.neg_mul, ← cD] at hX
      cases s
      · simp only [Bool.false_eq_true, if_false] at hX ⊢
        omega
      · simp only [if_true] at hX ⊢
        have h2 := h1.1 (by omega)
        omega
/-- the nearest word, by its exact number in units of 2 ^ -b -/
theorem near_signed (K : FloatKind) (s : Bool) (m : Nat) (p : Int) (b : Nat) (hb : LP K ≤ b) (hp : -(b : Int) ≤ p) (hbig : m * 2 ^ (p + b).toNat ≤ 2 ^ (100 + b)) :
    Near K (K.format.nearest s m p) (signed s m (p + b).toNat) (2 ^ (b - LP K)) := by
  obtain ⟨hn, v, hv, h⟩ := near_mono K s m p b hb hp hbig
  have e : signed s m (p + b).toNat = if s then -((m * 2 ^ (p + b).toNat : Nat) : Int) else ((m * 2 ^ (p + b).toNat : Nat) : Int) := by unfold signed; rw [Nat.shiftLeft_eq]
  rw [e]
  refine Near.of_abs hn hv fun k a hk => ?_
  have := h k a hk
  rw [Nat.pow_add, ← Nat.mul_assoc] at this
  exact this
theorem signed_prod (s t : Bool) (m n u v : Nat) : signed (s ^^ t) (m * n) (u + v) = signed s m u * signed t n v := by
  have e : ((m * n * 2 ^ (u + v) : Nat) : Int) = ((m * 2 ^ u : Nat) : Int) * ((n * 2 ^ v : Nat) : Int) := by
    rw [← Int.natCast_mul]; congr 1; rw [Nat.pow_add]; ac_rfl
  unfold signed
  rw [Nat.shiftLeft_eq, Nat.shiftLeft_eq, Nat.shiftLeft_eq, e]
  cases s <;> cases t <;> simp [Int.neg_mul, Int.mul_neg, Int.neg_neg]
theorem near_mul {K : FloatKind} {x y : Nat} (hx : isN K x = true) (hy : isN K y = true) (hb : (V K x * V K y).natAbs ≤ 2 ^ (100 + (LP K + LP K))) : Near K (fop .mul K x y) (V K x * V K y) (2 ^ LP K) := by
  obtain ⟨s, m, i, hr, hi, hv⟩ := isN_read hx
  obtain ⟨t, n, j, hq, hj, hw⟩ := isN_read hy
  have hop : fop .mul K x y = K.format.nearest (s ^^ t) (m * n) (i + j) := by
    show ((K.format.read x).product (K.format.read y) |>.map K.format.write).getD _ = _
    rw [hr, hq]; rfl
  have e1 : (i + j + ((LP K + LP K : Nat) : Int)).toNat = (i + LP K).toNat + (j + LP K).toNat := by omega
  have e2 : signed (s ^^ t) (m * n) (i + j + ((LP K + LP K : Nat) : Int)).toNat = V K x * V K y := by rw [e1, signed_prod, hv, hw]
  have := near_signed K (s ^^ t) (m * n) (i + j) (LP K + LP K) (by omega) (by omega) (by rw [← signed_natAbs (s ^^ t), e2]; exact hb)
  rw [e2, Nat.add_sub_cancel] at this
  rw [hop]; exact this
theorem near_sum {K : FloatKind} {x : Nat} {d : Datum} {Y : Int} (hx : isN K x = true) (hd : ∃ t n j, d = .number t n j ∧ -(LP K : Int) ≤ j ∧ signed t n (j + LP K).toNat = Y) (hb : (V K x + Y).natAbs ≤ 2 ^ (100 + LP K)) :
    ∃ r, ((K.format.read x).sum d |>.map K.format.write) = some r ∧ Near K r (V K x + Y) 1 := by
  obtain ⟨s, m, i, hr, hi, hv⟩ := isN_read hx
  obtain ⟨t, n, j, rfl, hj, hw⟩ := hd
  obtain ⟨c, hc⟩ : ∃ c, c = min i j := ⟨_, rfl⟩
  obtain ⟨tot, ht⟩ : ∃ x, x = signed s m (i - c).toNat + signed t n (j - c).toNat := ⟨_, rfl⟩
  have e : V K x + Y = tot * 2 ^ (c + LP K).toNat := by
    rw [ht, Int.add_mul, ← signed_up, ← signed_up, hv, ← hw]
    congr 2 <;> omega
  refine ⟨_, by rw [hr]; rfl, ?_⟩
  show Near K (K.format.nearest (if signed s m (i - min i j).toNat + signed t n (j - min i j).toNat = 0 then s && t else signed s m (i - min i j).toNat + signed t n (j - min i j).toNat < 0) (signed s m (i - min i j).toNat + signed t n (j - min i j).toNat).natAbs (min i j)) _ _
  rw [← hc, ← ht]
  have e2 : ∀ g : Bool, (tot ≠ 0 → g = decide (tot < 0)) → signed g tot.natAbs (c + LP K).toNat = tot * 2 ^ (c + LP K).toNat := fun g hg => signed_abs _ hg
  have e3 : (tot ≠ 0 → (if tot = 0 then s && t else decide (tot < 0)) = decide (tot < 0)) := fun h => by rw [if_neg h]
  have := near_signed K (if tot = 0 then s && t else decide (tot < 0)) tot.natAbs c (LP K) (Nat.le_refl _) (by omega) (by
    rw [← natAbs_pow, ← e]; exact hb)
  rw [e2 _ e3, Nat.sub_self, ← e] at this
  exact this
theorem near_add {K : FloatKind} {x y : Nat} (hx : isN K x = true) (hy : isN K y = true) (hb : (V K x + V K y).natAbs ≤ 2 ^ (100 + LP K)) : Near K (fop .add K x y) (V K x + V K y) 1 := by
  obtain ⟨t, n, j, hr, hj, hv⟩ := isN_read hy
  obtain ⟨r, h1, h2⟩ := near_sum hx ⟨t, n, j, rfl, hj, hv.symm⟩ hb
  have : fop .add K x y = r := by
    show ((K.format.read x).sum (K.format.read y) |>.map K.format.write).getD _ = r
    rw [hr, h1]; rfl
  rw [this]; exact h2
theorem near_sub {K : FloatKind} {x y : Nat} (hx : isN K x = true) (hy : isN K y = true) (hb : (V K x - V K y).natAbs ≤ 2 ^ (100 + LP K)) : Near K (fop .sub K x y) (V K x - V K y) 1 := by
  obtain ⟨t, n, j, hr, hj, hv⟩ := isN_read hy
  rw [Int.sub_eq_add_neg] at hb ⊢
  obtain ⟨r, h1, h2⟩ := near_sum (Y := -V K y) hx ⟨!t, n, j, rfl, hj, by
    rw [hv]; unfold signed; cases t <;> simp⟩ hb
  have : fop .sub K x y = r := by
    show ((K.format.read x).sum (K.format.read y).opposite |>.map K.format.write).getD _ = r
    rw [hr]
    show Option.getD (((K.format.read x).sum (.number (!t) n j)).map K.format.write) _ = r
    rw [h1]; rfl
  rw [this]; exact h2
/-- the abs of an error: the numbers of the format below 2 ^ (FB + j) lie 2 ^ j apart or closer -/
theorem Near.err {K : FloatKind} {r : Nat} {X : Int} {D : Nat} (h : Near K r X D) (hD : 0 < D) (j : Nat) (hX : X.natAbs ≤ 2 ^ (FB K + j) * D) : (V K r * D - X).natAbs ≤ 2 ^ j * D := by
  have hg := Nat.two_pow_pos j
  obtain ⟨g, hgg⟩ : ∃ g, g = 2 ^ j := ⟨_, rfl⟩
  have hP : 2 ^ (FB K + j) = 2 ^ FB K * g := by rw [Nat.pow_add, hgg]
  have hF : 2 ^ (FB K + 1) = 2 * 2 ^ FB K := by rw [Nat.pow_succ]; omega
  have hF0 := Nat.two_pow_pos (FB K)
  obtain ⟨F, hFF⟩ : ∃ F, F = 2 ^ FB K := ⟨_, rfl⟩
  have gi : (2 : Int) ^ j = (g : Int) := by rw [hgg, pow_i]
  rw [hP, ← hFF] at hX
  rw [← hFF] at hF hF0
  rw [← hgg] at hg ⊢
  obtain ⟨G, hG⟩ : ∃ G, G = g * D := ⟨_, rfl⟩
  have hG0 : 0 < G := by rw [hG]; exact Nat.mul_pos hg hD
  have hXG : X.natAbs ≤ F * G := by rw [hG, ← Nat.mul_assoc]; exact hX
  have q1 := Int.mul_ediv_add_emod X G
  have q2 := Int.emod_nonneg X (show (G : Int) ≠ 0 by omega)
  have q3 := Int.emod_lt_of_pos X (show (0 : Int) < G by omega)
  obtain ⟨f, hf⟩ : ∃ f, f = X / (G : Int) := ⟨_, rfl⟩
  obtain ⟨c, hc⟩ : ∃ c, c = X % (G : Int) := ⟨_, rfl⟩
  rw [← hf, ← hc] at q1
  rw [← hc] at q2 q3
  have hf1 : -(F : Int) ≤ f := by
    apply Int.le_of_lt_add_one
    have h1 : -((F : Int) * G) ≤ X := by have : ((F * G : Nat) : Int) = (F : Int) * G := Int.natCast_mul _ _
                                         omega
    have h2 : -((F : Int) * G) < G * (f + 1) := by rw [Int.mul_add, Int.mul_one]; omega
    rw [← Int.neg_mul, Int.mul_comm (G : Int)] at h2
    exact Int.lt_of_mul_lt_mul_right h2 (by omega)
  have hf2 : f ≤ (F : Int) := by
    have h1 : X ≤ (F : Int) * G := by have : ((F * G : Nat) : Int) = (F : Int) * G := Int.natCast_mul _ _
                                      omega
    have h2 : G * f ≤ (F : Int) * G := by omega
    rw [Int.mul_comm (G : Int)] at h2
    exact Int.le_of_mul_le_mul_right h2 (by omega)
  have l1 := h.ge f j (by omega) (by rw [gi, Int.mul_assoc, ← Int.natCast_mul, ← hG, Int.mul_comm]; omega)
  rw [gi] at l1
  have GD : (G : Int) = (g : Int) * D := by rw [hG, Int.natCast_mul]
  have m1 : f * G ≤ V K r * D := by
    rw [GD, ← Int.mul_assoc]
    exact Int.mul_le_mul_of_nonneg_right l1 (by omega)
  have m2 : V K r * D ≤ f * G + (if c = 0 then 0 else (G : Int)) := by
    by_cases hc0 : c = 0
    · rw [if_pos hc0, Int.add_zero]
      have l2 := h.le f j (by omega) (by rw [gi, Int.mul_assoc, ← Int.natCast_mul, ← hG, Int.mul_comm]; omega)
      rw [gi] at l2
      rw [GD, ← Int.mul_assoc]
      exact Int.mul_le_mul_of_nonneg_right l2 (by omega)
    · rw [if_neg hc0]
      have hfc : f + 1 ≤ (F : Int) := by
        rcases Int.lt_or_eq_of_le hf2 with h | h
        · omega
        · exfalso
          have h1 : X ≤ (F : Int) * G := by have : ((F * G : Nat) : Int) = (F : Int) * G := Int.natCast_mul _ _
                                            omega
          rw [h, Int.mul_comm] at q1
          omega
      have l2 := h.le (f + 1) j (by omega) (by rw [gi, Int.mul_assoc, ← Int.natCast_mul, ← hG, Int.add_mul, Int.mul_comm, Int.one_mul]; omega)
      rw [gi] at l2
      have := Int.mul_le_mul_of_nonneg_right l2 (show (0 : Int) ≤ D by omega)
      rw [Int.mul_assoc, ← GD, Int.add_mul, Int.one_mul] at this
      exact this
  rw [Int.mul_comm (G : Int)] at q1
  have e9 : 2 ^ j = g := hgg.symm
  show _ ≤ g * D
  rw [← hG]
  split at m2 <;> omega
end Go.Fl
