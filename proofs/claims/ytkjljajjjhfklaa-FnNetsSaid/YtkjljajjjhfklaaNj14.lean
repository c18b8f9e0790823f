/- The operations on floats keep order against every number of the format: sum, product, quotient, root, narrowing. Plain Lean. Quotients, roots and conversions of floats keep order against every number of the format. Plain Lean. Floats as rational numbers: every operation gives the rational result, rounded. Plain Lean. -/
import Derived.Test.YtkjljajjjhfklaaNj13
namespace Go.Fl
open Ieee
/-- r is the rounded X / D (in units of the last place of all) -/
structure Near (K : FloatKind) (r : Nat) (X : Int) (D : Nat) : Prop where
  num : isN K r = true
  le : ∀ (k : Int) (a : Nat), k.natAbs < 2 ^ (FB K + 1) → X ≤ k * 2 ^ a * D → V K r ≤ k * 2 ^ a
  ge : ∀ (k : Int) (a : Nat), k.natAbs < 2 ^ (FB K + 1) → k * 2 ^ a * D ≤ X → k * 2 ^ a ≤ V K r
theorem nat_le_i {a b : Nat} (h : a ≤ b) : (a : Int) ≤ (b : Int) := Int.ofNat_le.2 h
theorem i_le_nat {a b : Nat} (h : (a : Int) ≤ (b : Int)) : a ≤ b := Int.ofNat_le.1 h
theorem cast_mul_pow (n a : Nat) : ((n * 2 ^ a : Nat) : Int) = (n : Int) * 2 ^ a := by rw [Int.natCast_mul, pow_i]
/-- a sign put ahead of bounds on magnitudes -/
theorem Near.of_abs {K : FloatKind} {r : Nat} {s : Bool} {v M D : Nat} (hn : isN K r = true) (hv : V K r = if s then -(v : Int) else v)
    (h : ∀ k a : Nat, k < 2 ^ (FB K + 1) → (M ≤ k * 2 ^ a * D → v ≤ k * 2 ^ a) ∧ (k * 2 ^ a * D ≤ M → k * 2 ^ a ≤ v)) : Near K r (if s then -(M : Int) else M) D := by
  have key : ∀ (k : Int) (a : Nat), ∃ n : Nat, n = k.natAbs ∧ (k * 2 ^ a = ((n * 2 ^ a : Nat) : Int) ∨ k * 2 ^ a = -((n * 2 ^ a : Nat) : Int)) := fun k a => by
    refine ⟨k.natAbs, rfl, ?_⟩
    rcases Int.natAbs_eq k with h | h
    · left; rw [cast_mul_pow, ← h]
    · right; rw [cast_mul_pow, ← Int.neg_mul, ← h]
  refine ⟨hn, fun k a hk hX => ?_, fun k a hk hX => ?_⟩
  · obtain ⟨n, hn, e⟩ := key k a
    have h1 := h n a (by rw [hn]; exact hk)
    have h0 := (h 0 a (Nat.two_pow_pos _)).1
    rw [hv]
    have cD : ((n * 2 ^ a * D : Nat) : Int) = ((n * 2 ^ a : Nat) : Int) * (D : Int) := Int.natCast_mul _ _
    obtain ⟨c, hc⟩ : ∃ c, c = n * 2 ^ a := ⟨_, rfl⟩
    obtain ⟨cd, hcd⟩ : ∃ x, x = c * D := ⟨_, rfl⟩
    rw [← hc, ← hcd] at h1
    rw [← hc, ← hcd] at cD
    rw [← hc] at e
    rw [Nat.zero_mul, Nat.zero_mul] at h0
    rcases e with e | e
    · rw [e] at hX ⊢
      rw [← cD] at hX
      cases s
      · simp only [Bool.false_eq_true, if_false] at hX ⊢
        exact nat_le_i (h1.1 (i_le_nat hX))
      · simp only [if_true] at hX ⊢
        omega
    · rw [e] at hX ⊢
      rw [Int.neg_mul, ← cD] at hX
      cases s
      · simp only [Bool.false_eq_true, if_false] at hX ⊢
        have h2 := h1.2 (by omega)
        have h3 := h0 (by omega)
        omega
      · simp only [if_true] at hX ⊢
        have h2 := h1.2 (by omega)
        omega
  · obtain ⟨n, hn, e⟩ := key k a
    have h1 := h n a (by rw [hn]; exact hk)
    have h0 := (h 0 a (Nat.two_pow_pos _)).1
    rw [hv]
    have cD : ((n * 2 ^ a * D : Nat) : Int) = ((n * 2 ^ a : Nat) : Int) * (D : Int) := Int.natCast_mul _ _
    obtain ⟨c, hc⟩ : ∃ c, c = n * 2 ^ a := ⟨_, rfl⟩
    obtain ⟨cd, hcd⟩ : ∃ x, x = c * D := ⟨_, rfl⟩
    rw [← hc, ← hcd] at h1
    rw [← hc, ← hcd] at cD
    rw [← hc] at e
    rw [Nat.zero_mul, Nat.zero_mul] at h0
    rcases e with e | e
    · rw [e] at hX ⊢
      rw [← cD] at hX
      cases s
      · simp only [Bool.false_eq_true, if_false] at hX ⊢
        exact nat_le_i (h1.2 (i_le_nat hX))
      · simp only [if_true] at hX ⊢
        have h2 := h1.2 (by omega)
        have h3 := h0 (by omega)
        omega
    · rw [e] at hX ⊢
      rw [Int.neg_mul, ← cD] at hX
      cases s
      · simp only [Bool.false_eq_true, if_false] at hX ⊢
        omega
      · simp only [if_true] at hX ⊢
        have h2 := h1.1 (by omega)
        omega
/-- the nearest word, by its exact number in units of 2 ^ -b -/
theorem near_signed (K : FloatKind) (s : Bool) (m : Nat) (p : Int) (b : Nat) (hb : LP K ≤ b) (hp : -(b : Int) ≤ p) (hbig : m * 2 ^ (p + b).toNat ≤ 2 ^ (100 + b)) :
    Near K (K.format.nearest s m p) (signed s m (p + b).toNat) (2 ^ (b - LP K)) := by
  obtain ⟨hn, v, hv, h⟩ := near_mono K s m p b hb hp hbig
  have e : signed s m (p + b).toNat = if s then -((m * 2 ^ (p + b).toNat : Nat) : Int) else ((m * 2 ^ (p + b).toNat : Nat) : Int) := by unfold signed; rw [Nat.shiftLeft_eq]
  rw [e]
  refine Near.of_abs hn hv fun k a hk => ?_
  have := h k a hk
  rw [Nat.pow_add, ← Nat.mul_assoc] at this
  exact this
theorem signed_prod (s t : Bool) (m n u v : Nat) : signed (s ^^ t) (m * n) (u + v) = signed s m u * signed t n v := by
  have e : ((m * n * 2 ^ (u + v) : Nat) : Int) = ((m * 2 ^ u : Nat) : Int) * ((n * 2 ^ v : Nat) : Int) := by
    rw [← Int.natCast_mul]; congr 1; rw [Nat.pow_add]; ac_rfl
  unfold signed
  rw [Nat.shiftLeft_eq, Nat.shiftLeft_eq, Nat.shiftLeft_eq, e]
  cases s <;> cases t <;> simp [Int.neg_mul, Int.mul_neg, Int.neg_neg]
theorem near_mul {K : FloatKind} {x y : Nat} (hx : isN K x = true) (hy : isN K y = true) (hb : (V K x * V K y).natAbs ≤ 2 ^ (100 + (LP K + LP K))) : Near K (fop .mul K x y) (V K x * V K y) (2 ^ LP K) := by
  obtain ⟨s, m, i, hr, hi, hv⟩ := isN_read hx
  obtain ⟨t, n, j, hq, hj, hw⟩ := isN_read hy
  have hop : fop .mul K x y = K.format.nearest (s ^^ t) (m * n) (i + j) := by
    show ((K.format.read x).product (K.format.read y) |>.map K.format.write).getD _ = _
    rw [hr, hq]; rfl
  have e1 : (i + j + ((LP K + LP K : Nat) : Int)).toNat = (i + LP K).toNat + (j + LP K).toNat := by omega
  have e2 : signed (s ^^ t) (m * n) (i + j + ((LP K + LP K : Nat) : Int)).toNat = V K x * V K y := by rw [e1, signed_prod, hv, hw]
  have := near_signed K (s ^^ t) (m * n) (i + j) (LP K + LP K) (by omega) (by omega) (by rw [← signed_natAbs (s ^^ t), e2]; exact hb)
  rw [e2, Nat.add_sub_cancel] at this
  rw [hop]; exact this
theorem near_sum {K : FloatKind} {x : Nat} {d : Datum} {Y : Int} (hx : isN K x = true) (hd : ∃ t n j, d = .number t n j ∧ -(LP K : Int) ≤ j ∧ signed t n (j + LP K).toNat = Y) (hb : (V K x + Y).natAbs ≤ 2 ^ (100 + LP K)) :
    ∃ r, ((K.format.read x).sum d |>.map K.format.write) = some r ∧ Near K r (V K x + Y) 1 := by
  obtain ⟨s, m, i, hr, hi, hv⟩ := isN_read hx
  obtain ⟨t, n, j, rfl, hj, hw⟩ := hd
  obtain ⟨c, hc⟩ : ∃ c, c = min i j := ⟨_, rfl⟩
  obtain ⟨tot, ht⟩ : ∃ x, x = signed s m (i - c).toNat + signed t n (j - c).toNat := ⟨_, rfl⟩
  have e : V K x + Y = tot * 2 ^ (c + LP K).toNat := by
    rw [ht, Int.add_mul, ← signed_up, ← signed_up, hv, ← hw]
    congr 2 <;> omega
  refine ⟨_, by rw [hr]; rfl, ?_⟩
  show Near K (K.format.nearest (if signed s m (i - min i j).toNat + signed t n (j - min i j).toNat = 0 then s && t else signed s m (i - min i j).toNat + signed t n (j - min i j).toNat < 0) (signed s m (i - min i j).toNat + signed t n (j - min i j).toNat).natAbs (min i j)) _ _
  rw [← hc, ← ht]
  have e2 : ∀ g : Bool, (tot ≠ 0 → g = decide (tot < 0)) → signed g tot.natAbs (c + LP K).toNat = tot * 2 ^ (c + LP K).toNat := fun g hg => signed_abs _ hg
  have e3 : (tot ≠ 0 → (if tot = 0 then s && t else decide (tot < 0)) = decide (tot < 0)) := fun h => by rw [if_neg h]
  have := near_signed K (if tot = 0 then s && t else decide (tot < 0)) tot.natAbs c (LP K) (Nat.le_refl _) (by omega) (by
    rw [← natAbs_pow, ← e]; exact hb)
  rw [e2 _ e3, Nat.sub_self, ← e] at this
  exact this
theorem near_add {K : FloatKind} {x y : Nat} (hx : isN K x = true) (hy : isN K y = true) (hb : (V K x + V K y).natAbs ≤ 2 ^ (100 + LP K)) : Near K (fop .add K x y) (V K x + V K y) 1 := by
  obtain ⟨t, n, j, hr, hj, hv⟩ := isN_read hy
  obtain ⟨r, h1, h2⟩ := near_sum hx ⟨t, n, j, rfl, hj, hv.symm⟩ hb
  have : fop .add K x y = r := by
    show ((K.format.read x).sum (K.format.read y) |>.map K.format.write).getD _ = r
    rw [hr, h1]; rfl
  rw [this]; exact h2
theorem near_sub {K : FloatKind} {x y : Nat} (hx : isN K x = true) (hy : isN K y = true) (hb : (V K x - V K y).natAbs ≤ 2 ^ (100 + LP K)) : Near K (fop .sub K x y) (V K x - V K y) 1 := by
  obtain ⟨t, n, j, hr, hj, hv⟩ := isN_read hy
  rw [Int.sub_eq_add_neg] at hb ⊢
  obtain ⟨r, h1, h2⟩ := near_sum (Y := -V K y) hx ⟨!t, n, j, rfl, hj, by
    rw [hv]; unfold signed; cases t <;> simp⟩ hb
  have : fop .sub K x y = r := by
    show ((K.format.read x).sum (K.format.read y).opposite |>.map K.format.write).getD _ = r
    rw [hr]
    show Option.getD (((K.format.read x).sum (.number (!t) n j)).map K.format.write) _ = r
    rw [h1]; rfl
  rw [this]; exact h2
/-- the abs of an error: the numbers of the format below 2 ^ (FB + j) lie 2 ^ j apart or closer -/
theorem Near.err {K : FloatKind} {r : Nat} {X : Int} {D : Nat} (h : Near K r X D) (hD : 0 < D) (j : Nat) (hX : X.natAbs ≤ 2 ^ (FB K + j) * D) : (V K r * D - X).natAbs ≤ 2 ^ j * D := by
  have hg := Nat.two_pow_pos j
  obtain ⟨g, hgg⟩ : ∃ g, g = 2 ^ j := ⟨_, rfl⟩
  have hP : 2 ^ (FB K + j) = 2 ^ FB K * g := by rw [Nat.pow_add, hgg]
  have hF : 2 ^ (FB K + 1) = 2 * 2 ^ FB K := by rw [Nat.pow_succ]; omega
  have hF0 := Nat.two_pow_pos (FB K)
  obtain ⟨F, hFF⟩ : ∃ F, F = 2 ^ FB K := ⟨_, rfl⟩
  have gi : (2 : Int) ^ j = (g : Int) := by rw [hgg, pow_i]
  rw [hP, ← hFF] at hX
  rw [← hFF] at hF hF0
  rw [← hgg] at hg ⊢
  obtain ⟨G, hG⟩ : ∃ G, G = g * D := ⟨_, rfl⟩
  have hG0 : 0 < G := by rw [hG]; exact Nat.mul_pos hg hD
  have hXG : X.natAbs ≤ F * G := by rw [hG, ← Nat.mul_assoc]; exact hX
  have q1 := Int.mul_ediv_add_emod X G
  have q2 := Int.emod_nonneg X (show (G : Int) ≠ 0 by omega)
  have q3 := Int.emod_lt_of_pos X (show (0 : Int) < G by omega)
  obtain ⟨f, hf⟩ : ∃ f, f = X / (G : Int) := ⟨_, rfl⟩
  obtain ⟨c, hc⟩ : ∃ c, c = X % (G : Int) := ⟨_, rfl⟩
  rw [← hf, ← hc] at q1
  rw [← hc] at q2 q3
  have hf1 : -(F : Int) ≤ f := by
    apply Int.le_of_lt_add_one
    have h1 : -((F : Int) * G) ≤ X := by have : ((F * G : Nat) : Int) = (F : Int) * G := Int.natCast_mul _ _
                                         omega
    have h2 : -((F : Int) * G) < G * (f + 1) := by rw [Int.mul_add, Int.mul_one]; omega
    rw [← Int.neg_mul, Int.mul_comm (G : Int)] at h2
    exact Int.lt_of_mul_lt_mul_right h2 (by omega)
  have hf2 : f ≤ (F : Int) := by
    have h1 : X ≤ (F : Int) * G := by have : ((F * G : Nat) : Int) = (F : Int) * G := Int.natCast_mul _ _
                                      omega
    have h2 : G * f ≤ (F : Int) * G := by omega
    rw [Int.mul_comm (G : Int)] at h2
    exact Int.le_of_mul_le_mul_right h2 (by omega)
  have l1 := h.ge f j (by omega) (by rw [gi, Int.mul_assoc, ← Int.natCast_mul, ← hG, Int.mul_comm]; omega)
  rw [gi] at l1
  have GD : (G : Int) = (g : Int) * D := by rw [hG, Int.natCast_mul]
  have m1 : f * G ≤ V K r * D := by
    rw [GD, ← Int.mul_assoc]
    exact Int.mul_le_mul_of_nonneg_right l1 (by omega)
  have m2 : V K r * D ≤ f * G + (if c = 0 then 0 else (G : Int)) := by
    by_cases hc0 : c = 0
    · rw [if_pos hc0, Int.add_zero]
      have l2 := h.le f j (by omega) (by rw [gi, Int.mul_assoc, ← Int.natCast_mul, ← hG, Int.mul_comm]; omega)
      rw [gi] at l2
      rw [GD, ← Int.mul_assoc]
      exact Int.mul_le_mul_of_nonneg_right l2 (by omega)
    · rw [if_neg hc0]
      have hfc : f + 1 ≤ (F : Int) := by
        rcases Int.lt_or_eq_of_le hf2 with h | h
        · omega
        · exfalso
          have h1 : X ≤ (F : Int) * G := by have : ((F * G : Nat) : Int) = (F : Int) * G := Int.natCast_mul _ _
                                            omega
          rw [h, Int.mul_comm] at q1
          omega
      have l2 := h.le (f + 1) j (by omega) (by rw [gi, Int.mul_assoc, ← Int.natCast_mul, ← hG, Int.add_mul, Int.mul_comm, Int.one_mul]; omega)
      rw [gi] at l2
      have := Int.mul_le_mul_of_nonneg_right l2 (show (0 : Int) ≤ D by omega)
      rw [Int.mul_assoc, ← GD, Int.add_mul, Int.one_mul] at this
      exact this
  rw [Int.mul_comm (G : Int)] at q1
  have e9 : 2 ^ j = g := hgg.symm
  show _ ≤ g * D
  rw [← hG]
  split at m2 <;> omega
end Go.Fl

namespace Go.Fl
open Ieee
/-- places between the last ones of the two kinds -/
def nar : Nat := 925
theorem nar_eq : nar = 925 := rfl
theorem rootFrom_spec (n : Nat) : ∀ (t r : Nat), r * r ≤ n → n < (r + 2 ^ t) * (r + 2 ^ t) → Datum.rootFrom n t r * Datum.rootFrom n t r ≤ n ∧ n < (Datum.rootFrom n t r + 1) * (Datum.rootFrom n t r + 1)
  | 0, r, h1, h2 => ⟨h1, by show n < (r + 1) * (r + 1); simpa using h2⟩
  | t + 1, r, h1, h2 => by
    unfold Datum.rootFrom
    simp only [Nat.one_shiftLeft]
    split
    · rename_i h
      refine rootFrom_spec n t _ h ?_
      rw [Nat.pow_succ] at h2
      have : r + 2 ^ t + 2 ^ t = r + 2 ^ t * 2 := by omega
      rw [this]; exact h2
    · rename_i h
      exact rootFrom_spec n t _ h1 (by omega)
theorem square_le {a b : Nat} (h : a * a ≤ b * b) : a ≤ b := Nat.mul_self_le_mul_self_iff.1 h
theorem square_lt {a b : Nat} (h : a * a < b * b) : a < b := Nat.mul_self_lt_mul_self_iff.1 h
/-- r is the rounded square root of X (X in units of the last place of all) -/
structure NearRoot (K : FloatKind) (r : Nat) (X : Nat) : Prop where
  num : isN K r = true
  pos : 0 ≤ V K r
  le : ∀ k a : Nat, k < 2 ^ (FB K + 1) → X * 2 ^ LP K ≤ (k * 2 ^ a) * (k * 2 ^ a) → V K r ≤ ((k * 2 ^ a : Nat) : Int)
  ge : ∀ k a : Nat, k < 2 ^ (FB K + 1) → (k * 2 ^ a) * (k * 2 ^ a) ≤ X * 2 ^ LP K → ((k * 2 ^ a : Nat) : Int) ≤ V K r
theorem near_root {K : FloatKind} {x X : Nat} (hx : isN K x = true) (hv : V K x = (X : Int)) (hbig : X ≤ 2 ^ (100 + LP K)) (hz : X = 0 → K.format.read x = .number false 0 (-(LP K : Int))) : ∃ r, K.format.sqrt x = some r ∧ NearRoot K r X := by
  obtain ⟨s, m, i, hr, hi, hv2⟩ := isN_read hx
  have fb : K.format.fractionBits = FB K := by cases K <;> rfl
  have lpb : FB K + FB K + 8 ≤ LP K := by cases K <;> decide
  rcases Nat.eq_zero_or_pos m with hm0 | hm
  · subst hm0
    have hX0 : X = 0 := by
      have : V K x = 0 := by rw [hv2]; unfold signed; cases s <;> simp
      omega
    refine ⟨K.format.write (.number false 0 (-(LP K : Int))), ?_, ?_⟩
    · show ((K.format.read x).root _).map _ = _
      rw [hz hX0]; rfl
    · have h1 := near_mono K false 0 (-(LP K : Int)) (LP K) (Nat.le_refl _) (Int.le_refl _) (by rw [Nat.zero_mul]; exact Nat.zero_le _)
      obtain ⟨hn, v, hv3, h⟩ := h1
      have hv0 : v = 0 := by
        have := (h 0 0 (Nat.two_pow_pos _)).1 (by rw [Nat.zero_mul]; exact Nat.zero_le _)
        omega
      refine ⟨hn, ?_, fun k a hk _ => ?_, fun k a hk h => ?_⟩
      · show 0 ≤ V K (K.format.nearest false 0 _); rw [hv3, hv0]; decide
      · show V K (K.format.nearest false 0 _) ≤ _; rw [hv3, hv0]; exact nat_le_i (Nat.zero_le _)
      · show _ ≤ V K (K.format.nearest false 0 _); rw [hv3, hv0]
        rw [hX0, Nat.zero_mul] at h
        have h9 := Nat.mul_self_le_mul_self_iff.1 (show (k * 2 ^ a) * (k * 2 ^ a) ≤ 0 * 0 from h)
        have : k * 2 ^ a = 0 := by omega
        rw [this]; decide
  · have hs : s = false := by
      cases s
      · rfl
      · exfalso
        rw [hv] at hv2
        unfold signed at hv2
        simp only [if_true] at hv2
        rw [Nat.shiftLeft_eq] at hv2
        have := Nat.mul_pos hm (Nat.two_pow_pos (i + LP K).toNat)
        omega
    subst hs
    have hXm : X = m * 2 ^ (i + LP K).toNat := by
      rw [hv] at hv2
      unfold signed at hv2
      simp only [Bool.false_eq_true, if_false] at hv2
      rw [Nat.shiftLeft_eq] at hv2
      omega
    obtain ⟨mo, hmo⟩ : ∃ c : Nat, c = 2 * (FB K + 2) - m.log2 := ⟨_, rfl⟩
    obtain ⟨more, hmore⟩ : ∃ c : Nat, c = mo + ((i - mo) % 2).toNat := ⟨_, rfl⟩
    have hmore1 : mo ≤ more ∧ more ≤ mo + 1 := by omega
    have heven : (i - more) % 2 = 0 := by omega
    obtain ⟨h2, hh⟩ : ∃ h : Int, i - more = 2 * h := ⟨(i - more) / 2, by omega⟩
    have hhd : (i - (more : Int)) / 2 = h2 := by omega
    obtain ⟨n, hn⟩ : ∃ c, c = m * 2 ^ more := ⟨_, rfl⟩
    obtain ⟨W, hW⟩ : ∃ c, c = Datum.rootFrom n (n.log2 / 2 + 1) 0 := ⟨_, rfl⟩
    have hspec := rootFrom_spec n (n.log2 / 2 + 1) 0 (Nat.zero_le _) (by
      rw [Nat.zero_add, ← Nat.pow_add]
      exact Nat.lt_of_lt_of_le (Nat.lt_log2_self) (Nat.pow_le_pow_right (by decide) (by omega)))
    rw [← hW] at hspec
    obtain ⟨hw1, hw2⟩ := hspec
    have hnbig : 2 ^ (FB K + 2) * 2 ^ (FB K + 2) ≤ n := by
      have h1 : 2 ^ m.log2 ≤ m := Nat.log2_self_le (by omega)
      rw [hn, ← Nat.pow_add]
      refine Nat.le_trans ?_ (Nat.mul_le_mul_right _ h1)
      rw [← Nat.pow_add]
      exact Nat.pow_le_pow_right (by decide) (by omega)
    have hWbig : 2 ^ (FB K + 2) ≤ W := by
      have := square_lt (Nat.lt_of_le_of_lt hnbig hw2)
      omega
    obtain ⟨E, hE⟩ : ∃ c, c = 2 * W + (W * W != n).toNat := ⟨_, rfl⟩
    have hop : K.format.sqrt x = some (K.format.nearest false E (h2 - 1)) := by
      show ((K.format.read x).root (K.format.fractionBits + 2)).map K.format.write = _
      rw [hr, fb]
      show Option.map K.format.write (if m = 0 then _ else _) = _
      rw [if_neg (by omega)]
      simp only [Bool.false_eq_true, if_false, ← hmo, ← hmore, Nat.shiftLeft_eq, ← hn, ← hW, ← hE, hhd]
      rfl
    obtain ⟨H, hH⟩ : ∃ c : Nat, (c : Int) = h2 + LP K := ⟨(h2 + LP K).toNat, by omega⟩
    have hX2 : X * 2 ^ LP K = n * (2 ^ H * 2 ^ H) := by
      rw [hXm, hn, Nat.mul_assoc, Nat.mul_assoc, ← Nat.pow_add, ← Nat.pow_add, ← Nat.pow_add]
      congr 2
      omega
    have eW : (W * W != n) = true → W * W < n := fun h => by
      have : W * W ≠ n := by simpa using h
      omega
    have hE1 : ∀ c, n ≤ c * c → E ≤ 2 * c := fun c hc => by
      have h1 := square_le (Nat.le_trans hw1 hc)
      rw [hE]
      by_cases hq : (W * W != n) = true
      · have h3 := square_lt (Nat.lt_of_lt_of_le (eW hq) hc)
        have := Bool.toNat_le (W * W != n)
        omega
      · have hf : (W * W != n) = false := by simpa using hq
        rw [hf]
        show 2 * W + 0 ≤ _
        omega
    have hE2 : ∀ c, c * c ≤ n → 2 * c ≤ E := fun c hc => by
      have h1 := square_lt (Nat.lt_of_le_of_lt hc hw2)
      omega
    have hpow : ∀ a, H ≤ a → (2 : Nat) ^ a = 2 ^ (a - H) * 2 ^ H := fun a h => by rw [← Nat.pow_add]; congr 1; omega
    have hFB2 : (2 : Nat) ^ (FB K + 2) = 2 * 2 ^ (FB K + 1) := by rw [Nat.pow_succ]; omega
    -- a number of the format against the exact root
    have keyle : ∀ k a : Nat, k < 2 ^ (FB K + 1) → X * 2 ^ LP K ≤ (k * 2 ^ a) * (k * 2 ^ a) → E * 2 ^ H ≤ k * 2 ^ a * 2 := fun k a hk h => by
      rw [hX2] at h
      by_cases ha : H ≤ a
      · obtain ⟨c, hc⟩ : ∃ c, c = k * 2 ^ (a - H) := ⟨_, rfl⟩
        have e1 : k * 2 ^ a = c * 2 ^ H := by rw [hpow a ha, ← Nat.mul_assoc, hc]
        rw [e1] at h ⊢
        have e2 : c * 2 ^ H * (c * 2 ^ H) = (c * c) * (2 ^ H * 2 ^ H) := by ac_rfl
        rw [e2] at h
        have h3 := hE1 c (Nat.le_of_mul_le_mul_right h (Nat.mul_pos (Nat.two_pow_pos _) (Nat.two_pow_pos _)))
        have e3 : c * 2 ^ H * 2 = 2 * c * 2 ^ H := by ac_rfl
        rw [e3]
        exact Nat.mul_le_mul_right _ h3
      · exfalso
        have h1 : n * (2 ^ H * 2 ^ H) ≤ (k * k) * (2 ^ H * 2 ^ H) := by
          refine Nat.le_trans h ?_
          have e2 : k * 2 ^ a * (k * 2 ^ a) = (k * k) * (2 ^ a * 2 ^ a) := by ac_rfl
          rw [e2]
          have : (2 : Nat) ^ a ≤ 2 ^ H := Nat.pow_le_pow_right (by decide) (by omega)
          exact Nat.mul_le_mul_left _ (Nat.mul_le_mul this this)
        have h2 := Nat.le_of_mul_le_mul_right h1 (Nat.mul_pos (Nat.two_pow_pos _) (Nat.two_pow_pos _))
        have h3 := square_le (Nat.le_trans hnbig h2)
        omega
    have keyge : ∀ k a : Nat, k < 2 ^ (FB K + 1) → (k * 2 ^ a) * (k * 2 ^ a) ≤ X * 2 ^ LP K → k * 2 ^ a * 2 ≤ E * 2 ^ H := fun k a hk h => by
      rw [hX2] at h
      by_cases ha : H ≤ a
      · obtain ⟨c, hc⟩ : ∃ c, c = k * 2 ^ (a - H) := ⟨_, rfl⟩
        have e1 : k * 2 ^ a = c * 2 ^ H := by rw [hpow a ha, ← Nat.mul_assoc, hc]
        rw [e1] at h ⊢
        have e2 : c * 2 ^ H * (c * 2 ^ H) = (c * c) * (2 ^ H * 2 ^ H) := by ac_rfl
        rw [e2] at h
        have h3 := hE2 c (Nat.le_of_mul_le_mul_right h (Nat.mul_pos (Nat.two_pow_pos _) (Nat.two_pow_pos _)))
        have e3 : c * 2 ^ H * 2 = 2 * c * 2 ^ H := by ac_rfl
        rw [e3]
        exact Nat.mul_le_mul_right _ h3
      · have h1 : k * 2 ≤ E := by omega
        have h2 : (2 : Nat) ^ a ≤ 2 ^ H := Nat.pow_le_pow_right (by decide) (by omega)
        calc k * 2 ^ a * 2 = (k * 2) * 2 ^ a := by ac_rfl
          _ ≤ E * 2 ^ H := Nat.mul_le_mul h1 h2
    have hEbig : E * 2 ^ H ≤ 2 ^ (101 + LP K) := by
      have h1 : E ≤ 3 * W := by
        have := Bool.toNat_le (W * W != n)
        have := Nat.two_pow_pos (FB K + 2)
        omega
      have h2 : W * 2 ^ H ≤ 2 ^ (50 + LP K) := by
        refine square_le ?_
        have e2 : W * 2 ^ H * (W * 2 ^ H) = (W * W) * (2 ^ H * 2 ^ H) := by ac_rfl
        have e3 : (2 : Nat) ^ (50 + LP K) * 2 ^ (50 + LP K) = 2 ^ (100 + LP K) * 2 ^ LP K := by rw [← Nat.pow_add, ← Nat.pow_add]; congr 1; omega
        rw [e2, e3]
        refine Nat.le_trans (Nat.mul_le_mul_right _ hw1) ?_
        rw [← hX2]
        exact Nat.mul_le_mul_right _ hbig
      have h3 : E * 2 ^ H ≤ 3 * (W * 2 ^ H) := by rw [← Nat.mul_assoc]; exact Nat.mul_le_mul_right _ h1
      have h4 : 2 ^ (101 + LP K) = 2 ^ 51 * 2 ^ (50 + LP K) := by rw [← Nat.pow_add]; congr 1; omega
      have h5 : (3 : Nat) ≤ 2 ^ 51 := by decide
      rw [h4]
      exact Nat.le_trans h3 (Nat.mul_le_mul h5 h2)
    refine ⟨_, hop, ?_⟩
    obtain ⟨hn1, v, hv3, h⟩ := near_mono K false E (h2 - 1) (LP K + more + 1) (by omega) (by omega) (by
      have e1 : (h2 - 1 + ((LP K + more + 1 : Nat) : Int)).toNat = H + more := by omega
      rw [e1, Nat.pow_add, ← Nat.mul_assoc]
      have e2 : 100 + (LP K + more + 1) = 101 + LP K + more := by omega
      rw [e2, Nat.pow_add 2 (101 + LP K)]
      exact Nat.mul_le_mul_right _ hEbig)
    have hv4 : V K (K.format.nearest false E (h2 - 1)) = (v : Int) := by simpa using hv3
    have e1 : (h2 - 1 + ((LP K + more + 1 : Nat) : Int)).toNat = H + more := by omega
    have e5 : ∀ a, a + (LP K + more + 1 - LP K) = (a + 1) + more := fun a => by omega
    refine ⟨hn1, by omega, fun k a hk hX => ?_, fun k a hk hX => ?_⟩
    · rw [hv4]
      refine nat_le_i ((h k a hk).1 ?_)
      have h6 := keyle k a hk hX
      rw [e1, e5, Nat.pow_add 2 H more, Nat.pow_add 2 (a + 1) more, ← Nat.mul_assoc, ← Nat.mul_assoc, Nat.pow_succ, ← Nat.mul_assoc]
      exact Nat.mul_le_mul_right _ h6
    · rw [hv4]
      refine nat_le_i ((h k a hk).2 ?_)
      have h6 := keyge k a hk hX
      rw [e1, e5, Nat.pow_add 2 H more, Nat.pow_add 2 (a + 1) more, ← Nat.mul_assoc, ← Nat.mul_assoc, Nat.pow_succ, ← Nat.mul_assoc]
      exact Nat.mul_le_mul_right _ h6
/-- a quotient, by the magnitudes of its operands (in units of the last place of all) -/
theorem near_div {K : FloatKind} {x y : Nat} (hx : isN K x = true) (hy : isN K y = true) (hy0 : V K y ≠ 0) (hb : (V K x).natAbs ≤ 2 ^ 98 * (V K y).natAbs) :
    Near K (fop .quo K x y) (if decide (V K x < 0) ^^ decide (V K y < 0) then -(((V K x).natAbs * 2 ^ LP K : Nat) : Int) else (((V K x).natAbs * 2 ^ LP K : Nat) : Int)) (V K y).natAbs := by
  obtain ⟨s, m, i, hr, hi, hv⟩ := isN_read hx
  obtain ⟨t, n, j, hq, hj, hw⟩ := isN_read hy
  have fb : K.format.fractionBits = FB K := by cases K <;> rfl
  have hxa : (V K x).natAbs = m * 2 ^ (i + LP K).toNat := by rw [hv, signed_natAbs]
  have hya : (V K y).natAbs = n * 2 ^ (j + LP K).toNat := by rw [hw, signed_natAbs]
  have hn0 : 0 < n := by
    rcases Nat.eq_zero_or_pos n with h | h
    · exfalso; apply hy0; rw [hw, h]; unfold signed; cases t <;> simp
    · exact h
  have hmL : m.log2 ≤ FB K := log2_lt (by have := (read_number K x hr).1; rw [fb] at this; exact this)
  obtain ⟨more, hmore⟩ : ∃ c, c = FB K + 2 + n.log2 - m.log2 := ⟨_, rfl⟩
  obtain ⟨dv, hdv⟩ : ∃ c, c = m * 2 ^ more := ⟨_, rfl⟩
  obtain ⟨d, hd⟩ : ∃ c, c = dv / n := ⟨_, rfl⟩
  obtain ⟨rm, hrm⟩ : ∃ c, c = dv % n := ⟨_, rfl⟩
  have hdm : n * d + rm = dv := by rw [hd, hrm]; exact Nat.div_add_mod _ _
  have hrl : rm < n := by rw [hrm]; exact Nat.mod_lt _ hn0
  obtain ⟨E, hE⟩ : ∃ c, c = 2 * d + (rm != 0).toNat := ⟨_, rfl⟩
  have hop : fop .quo K x y = K.format.nearest (s ^^ t) E (i - j - more - 1) := by
    show ((K.format.read x).quotient (K.format.fractionBits + 2) (K.format.read y) |>.map K.format.write).getD _ = _
    rw [hr, hq, fb]
    show Option.getD (Option.map K.format.write (if n = 0 then _ else _)) _ = _
    rw [if_neg (by omega)]
    simp only [← hmore, Nat.shiftLeft_eq, ← hdv, ← hd, ← hrm, ← hE]
    rfl
  -- the sign
  have hsg : m ≠ 0 → (s ^^ t) = (decide (V K x < 0) ^^ decide (V K y < 0)) := fun hm => by
    rw [hv, hw, ← signed_neg_iff hm, ← signed_neg_iff (by omega)]
  obtain ⟨u, hu⟩ : ∃ c, c = (i + LP K).toNat := ⟨_, rfl⟩
  obtain ⟨v, hv9⟩ : ∃ c, c = (j + LP K).toNat := ⟨_, rfl⟩
  rw [← hu] at hxa
  rw [← hv9] at hya
  obtain ⟨b, hb9⟩ : ∃ c, c = LP K + v + more + 1 := ⟨_, rfl⟩
  have e1 : (i - j - more - 1 + (b : Int)).toNat = u + LP K := by omega
  have hE0 : ∀ c, dv ≤ c * n → E ≤ 2 * c := fun c hc => by
    rw [← hdm] at hc
    have h1 : d ≤ c := by
      apply Nat.le_of_lt_succ
      have h2 : n * d < n * (c + 1) := by
        rw [Nat.mul_add, Nat.mul_one, Nat.mul_comm n c]; omega
      exact Nat.lt_of_mul_lt_mul_left h2
    rw [hE]
    by_cases hr0 : rm = 0
    · rw [hr0]; show 2 * d + 0 ≤ _; omega
    · have h3 : d < c := by
        have h2 : n * d < n * c := by rw [Nat.mul_comm n c]; omega
        exact Nat.lt_of_mul_lt_mul_left h2
      have := Bool.toNat_le (rm != 0)
      omega
  have hE1 : ∀ c, c * n ≤ dv → 2 * c ≤ E := fun c hc => by
    have h1 : c ≤ d := by rw [hd]; exact (Nat.le_div_iff_mul_le hn0).2 hc
    omega
  have hFB2 : (2 : Nat) ^ (FB K + 2) = 2 * 2 ^ (FB K + 1) := by rw [Nat.pow_succ]; omega
  have hbig : m ≠ 0 → 2 ^ (FB K + 1) * n ≤ dv := fun hm => by
    have h1 : 2 ^ m.log2 ≤ m := Nat.log2_self_le hm
    have h2 : n < 2 ^ (n.log2 + 1) := Nat.lt_log2_self
    rw [hdv]
    refine Nat.le_trans ?_ (Nat.mul_le_mul_right _ h1)
    refine Nat.le_trans (Nat.mul_le_mul_left _ (Nat.le_of_lt h2)) ?_
    rw [← Nat.pow_add, ← Nat.pow_add]
    exact Nat.pow_le_pow_right (by decide) (by omega)
  have hmdv : ∀ a, m * a * 2 ^ more = dv * a := fun a => by rw [hdv]; ac_rfl
  have keyle : ∀ k a : Nat, k < 2 ^ (FB K + 1) → m * 2 ^ u * 2 ^ LP K ≤ k * 2 ^ a * (n * 2 ^ v) → E * 2 ^ (u + LP K) ≤ k * 2 ^ (a + v + more + 1) := fun k a hk h => by
    have h1 : dv * 2 ^ (u + LP K) ≤ k * n * 2 ^ (a + v + more) := by
      rw [← hmdv, Nat.pow_add 2 u, ← Nat.mul_assoc, Nat.pow_add 2 (a + v), ← Nat.mul_assoc]
      refine Nat.mul_le_mul_right _ (Nat.le_trans h ?_)
      rw [Nat.pow_add]
      exact Nat.le_of_eq (by ac_rfl)
    by_cases hc : u + LP K ≤ a + v + more
    · obtain ⟨g, hg⟩ : ∃ g, a + v + more = g + (u + LP K) := ⟨a + v + more - (u + LP K), by omega⟩
      rw [hg, Nat.pow_add 2 g, ← Nat.mul_assoc] at h1
      have h2 := Nat.le_of_mul_le_mul_right h1 (Nat.two_pow_pos _)
      have h3 := hE0 (k * 2 ^ g) (by rw [Nat.mul_right_comm]; exact h2)
      rw [show a + v + more + 1 = g + 1 + (u + LP K) by omega, Nat.pow_add 2 (g + 1), ← Nat.mul_assoc, Nat.pow_succ]
      refine Nat.mul_le_mul_right _ (Nat.le_trans h3 (Nat.le_of_eq (by ac_rfl)))
    · rcases Nat.eq_zero_or_pos m with hm | hm
      · have hd0 : dv = 0 := by rw [hdv, hm, Nat.zero_mul]
        have h3 := hE0 0 (by rw [hd0]; exact Nat.zero_le _)
        have : E = 0 := by omega
        rw [this, Nat.zero_mul]; exact Nat.zero_le _
      · exfalso
        obtain ⟨g, hg⟩ : ∃ g, u + LP K = g + 1 + (a + v + more) := ⟨u + LP K - (a + v + more) - 1, by omega⟩
        rw [hg, Nat.pow_add 2 (g + 1), ← Nat.mul_assoc] at h1
        have h2 := Nat.le_of_mul_le_mul_right h1 (Nat.two_pow_pos _)
        have h3 := hbig (by omega)
        have h4 : dv ≤ dv * 2 ^ (g + 1) := Nat.le_mul_of_pos_right _ (Nat.two_pow_pos _)
        have h5 : k * n < 2 ^ (FB K + 1) * n := Nat.mul_lt_mul_of_pos_right hk hn0
        omega
  have keyge : ∀ k a : Nat, k < 2 ^ (FB K + 1) → k * 2 ^ a * (n * 2 ^ v) ≤ m * 2 ^ u * 2 ^ LP K → k * 2 ^ (a + v + more + 1) ≤ E * 2 ^ (u + LP K) := fun k a hk h => by
    have h1 : k * n * 2 ^ (a + v + more) ≤ dv * 2 ^ (u + LP K) := by
      rw [← hmdv, Nat.pow_add 2 u, ← Nat.mul_assoc, Nat.pow_add 2 (a + v), ← Nat.mul_assoc]
      refine Nat.mul_le_mul_right _ (Nat.le_trans ?_ h)
      rw [Nat.pow_add]
      exact Nat.le_of_eq (by ac_rfl)
    rcases Nat.eq_zero_or_pos k with hk0 | hk0
    · rw [hk0, Nat.zero_mul]; exact Nat.zero_le _
    · by_cases hc : u + LP K ≤ a + v + more
      · obtain ⟨g, hg⟩ : ∃ g, a + v + more = g + (u + LP K) := ⟨a + v + more - (u + LP K), by omega⟩
        rw [hg, Nat.pow_add 2 g, ← Nat.mul_assoc] at h1
        have h2 := Nat.le_of_mul_le_mul_right h1 (Nat.two_pow_pos _)
        have h3 := hE1 (k * 2 ^ g) (by rw [Nat.mul_right_comm]; exact h2)
        rw [show a + v + more + 1 = g + 1 + (u + LP K) by omega, Nat.pow_add 2 (g + 1), ← Nat.mul_assoc, Nat.pow_succ]
        exact Nat.mul_le_mul_right _ (Nat.le_trans (Nat.le_of_eq (by ac_rfl)) h3)
      · have hm : m ≠ 0 := fun h0 => by
          have : dv = 0 := by rw [hdv, h0, Nat.zero_mul]
          rw [this, Nat.zero_mul] at h1
          have := Nat.mul_pos (Nat.mul_pos hk0 hn0) (Nat.two_pow_pos (a + v + more))
          omega
        have h3 := hE1 (2 ^ (FB K + 1)) (hbig hm)
        have h4 : k * 2 ≤ E := by omega
        rw [Nat.pow_succ, Nat.mul_comm _ 2, ← Nat.mul_assoc]
        exact Nat.mul_le_mul h4 (Nat.pow_le_pow_right (by decide) (by omega))
  have e2 : ∀ a, a + (b - LP K) = a + v + more + 1 := fun a => by omega
  obtain ⟨hn1, w, hw3, h⟩ := near_mono K (s ^^ t) E (i - j - more - 1) b (by omega) (by omega) (by
    rw [e1, hb9]
    rcases Nat.eq_zero_or_pos m with hm | hm
    · have hd0 : dv = 0 := by rw [hdv, hm, Nat.zero_mul]
      have h3 := hE0 0 (by rw [hd0]; exact Nat.zero_le _)
      have : E = 0 := by omega
      rw [this, Nat.zero_mul]; exact Nat.zero_le _
    · rw [hxa, hya] at hb
      have h3 : E ≤ 3 * d := by
        have h4 := hbig (by omega)
        have h5 : 2 ^ (FB K + 1) ≤ d := by rw [hd]; exact (Nat.le_div_iff_mul_le hn0).2 h4
        have := Bool.toNat_le (rm != 0)
        have := Nat.two_pow_pos (FB K + 1)
        omega
      have h6 : d * 2 ^ u ≤ 2 ^ 98 * 2 ^ (v + more) := by
        have h7 : n * (d * 2 ^ u) ≤ n * (2 ^ 98 * 2 ^ (v + more)) := by
          rw [← Nat.mul_assoc]
          have h8 : n * d ≤ dv := by omega
          refine Nat.le_trans (Nat.mul_le_mul_right _ h8) ?_
          rw [hdv, Nat.mul_right_comm, Nat.pow_add]
          refine Nat.le_trans (Nat.mul_le_mul_right _ hb) (Nat.le_of_eq (by ac_rfl))
        exact Nat.le_of_mul_le_mul_left h7 hn0
      have h9 : 100 + (LP K + v + more + 1) = 3 + LP K + (98 + (v + more)) := by omega
      rw [h9, Nat.pow_add 2 (3 + LP K), Nat.pow_add 2 98, Nat.pow_add 2 u, Nat.pow_add 2 3]
      have h10 : E * 2 ^ u ≤ 3 * (2 ^ 98 * 2 ^ (v + more)) := Nat.le_trans (Nat.mul_le_mul_right _ h3) (by rw [Nat.mul_assoc]; exact Nat.mul_le_mul_left _ h6)
      have h12 : 3 * (2 ^ 98 * 2 ^ (v + more)) ≤ 2 ^ 3 * (2 ^ 98 * 2 ^ (v + more)) := Nat.mul_le_mul_right _ (by decide)
      calc E * (2 ^ u * 2 ^ LP K) = E * 2 ^ u * 2 ^ LP K := by ac_rfl
        _ ≤ 2 ^ 3 * (2 ^ 98 * 2 ^ (v + more)) * 2 ^ LP K := Nat.mul_le_mul_right _ (Nat.le_trans h10 h12)
        _ = _ := by ac_rfl)
  rw [hop, hxa, hya]
  have hfin : ∀ k a : Nat, k < 2 ^ (FB K + 1) → (m * 2 ^ u * 2 ^ LP K ≤ k * 2 ^ a * (n * 2 ^ v) → w ≤ k * 2 ^ a) ∧ (k * 2 ^ a * (n * 2 ^ v) ≤ m * 2 ^ u * 2 ^ LP K → k * 2 ^ a ≤ w) := fun k a hk => by
    have h1 := h k a hk
    rw [e1, e2] at h1
    exact ⟨fun hX => h1.1 (keyle k a hk hX), fun hX => h1.2 (keyge k a hk hX)⟩
  rcases Nat.eq_zero_or_pos m with hm | hm
  · have h0 : m * 2 ^ u * 2 ^ LP K = 0 := by rw [hm, Nat.zero_mul, Nat.zero_mul]
    have hw0 : w = 0 := by
      have := (hfin 0 0 (Nat.two_pow_pos _)).1 (by rw [h0]; exact Nat.zero_le _)
      omega
    have := Near.of_abs (s := (decide (V K x < 0) ^^ decide (V K y < 0))) hn1 (v := w) (by rw [hw3, hw0]; simp) hfin
    exact this
  · rw [← hsg (by omega)]
    exact Near.of_abs hn1 hw3 hfin
/-- a number of 32 bits made one of 64: the same number -/
theorem widen_val {x : Nat} (hx : isN .f32 x = true) (hb : (V .f32 x).natAbs ≤ 2 ^ (100 + 149)) : isN .f64 (fcv .f32 .f64 x) = true ∧ V .f64 (fcv .f32 .f64 x) = V .f32 x * 2 ^ nar := by
  obtain ⟨s, m, i, hr, hi, hv⟩ := isN_read hx
  have hn : nanB .f32 x = false := by unfold nanB; rw [hr]; rfl
  have hop : fcv .f32 .f64 x = FloatKind.f64.format.nearest s m i := by
    unfold fcv
    rw [hn]
    show FloatKind.f64.encode (FloatKind.f32.format.read x) = _
    rw [hr]; rfl
  have h1 : LP .f32 = 149 := rfl
  have h2 : LP .f64 = 1074 := rfl
  have hm24 : m < 2 ^ 24 := (read_number .f32 x hr).1
  rw [h1] at hi hv
  have e1 : (i + ((1074 : Nat) : Int)).toNat = (i + ((149 : Nat) : Int)).toNat + nar := by rw [nar_eq]; omega
  obtain ⟨u, hu⟩ : ∃ c, c = (i + ((149 : Nat) : Int)).toNat := ⟨_, rfl⟩
  rw [← hu] at e1 hv
  rw [hv, signed_natAbs] at hb
  have e9 : ∀ N : Nat, 100 + 149 + N = 249 + N := fun N => by omega
  obtain ⟨N, hN⟩ : ∃ N, N = nar := ⟨_, rfl⟩
  obtain ⟨M, hM⟩ : ∃ M, M = 1074 := ⟨_, rfl⟩
  have hMN : M = 149 + N := by rw [hN, hM, nar_eq]
  rw [← hN] at e1 ⊢
  rw [← hM] at e1
  obtain ⟨hn1, v, hv3, h⟩ := near_mono .f64 s m i M (by rw [h2]; omega) (by omega) (by
    rw [e1, Nat.pow_add, ← Nat.mul_assoc, hMN, ← Nat.add_assoc, Nat.pow_add 2 (100 + 149)]
    exact Nat.mul_le_mul_right _ hb)
  have h3 := h m (u + N) (Nat.lt_trans hm24 (by decide))
  have e0 : M - LP .f64 = 0 := by rw [h2]; omega
  rw [e1, e0, Nat.add_zero] at h3
  have e3 : v = m * 2 ^ (u + N) := Nat.le_antisymm (h3.1 (Nat.le_refl _)) (h3.2 (Nat.le_refl _))
  rw [hop]
  refine ⟨hn1, ?_⟩
  rw [hv3, e3, hv, ← signed_up]
  unfold signed
  rw [Nat.shiftLeft_eq]
/-- a number of 64 bits made one of 32 -/
theorem near_narrow {x : Nat} (hx : isN .f64 x = true) (hb : (V .f64 x).natAbs ≤ 2 ^ (100 + LP .f64)) : Near .f32 (fcv .f64 .f32 x) (V .f64 x) (2 ^ nar) := by
  obtain ⟨s, m, i, hr, hi, hv⟩ := isN_read hx
  have hn : nanB .f64 x = false := by unfold nanB; rw [hr]; rfl
  have hop : fcv .f64 .f32 x = FloatKind.f32.format.nearest s m i := by
    unfold fcv
    rw [hn]
    show FloatKind.f32.encode (FloatKind.f64.format.read x) = _
    rw [hr]; rfl
  have h1 : LP .f32 = 149 := rfl
  have h2 : LP .f64 = 1074 := rfl
  have := near_signed .f32 s m i (LP .f64) (by rw [h1, h2]; decide) hi (by rw [← signed_natAbs s, ← hv]; exact hb)
  rw [← hv] at this
  rw [hop]
  have e : LP .f64 - LP .f32 = nar := by rw [h1, h2]; rfl
  rw [e] at this
  exact this
end Go.Fl

namespace Go.Fl
open Ieee
/-- units of the last place in one -/
def uR (K : FloatKind) : Rat := ((2 ^ LP K : Nat) : Int)
theorem cast_pos {n : Nat} (h : 0 < n) : (0 : Rat) < ((n : Int) : Rat) := Rat.intCast_pos.2 (Int.natCast_pos.2 h)
theorem uR_pos (K : FloatKind) : 0 < uR K := cast_pos (Nat.two_pow_pos _)
/-- the value of a float -/
def R (K : FloatKind) (x : Nat) : Rat := (V K x : Rat) / uR K
theorem R_mul (K : FloatKind) (x : Nat) : R K x * uR K = (V K x : Rat) := Rat.div_mul_cancel (Rat.ne_of_gt (uR_pos K))
theorem le_mulR {a b c : Rat} (h : 0 < c) : a * c ≤ b * c ↔ a ≤ b := ⟨fun k => Rat.le_of_mul_le_mul_right k h, fun k => Rat.mul_le_mul_of_nonneg_right k (Rat.le_of_lt h)⟩
theorem R_le {K : FloatKind} {x y : Nat} : R K x ≤ R K y ↔ V K x ≤ V K y := by rw [← le_mulR (uR_pos K), R_mul, R_mul, Rat.intCast_le_intCast]
theorem R_lt {K : FloatKind} {x y : Nat} : R K x < R K y ↔ V K x < V K y := by rw [← Rat.not_le, R_le, Int.not_le]
theorem R_eq {K : FloatKind} {x y : Nat} : R K x = R K y ↔ V K x = V K y := ⟨fun h => Int.le_antisymm (R_le.1 (h ▸ Rat.le_refl)) (R_le.1 (h ▸ Rat.le_refl)), fun h => by unfold R; rw [h]⟩
/-- r is q, rounded -/
structure Rnd (K : FloatKind) (r : Nat) (q : Rat) : Prop where
  num : isN K r = true
  le : ∀ y, isN K y = true → q ≤ R K y → R K r ≤ R K y
  ge : ∀ y, isN K y = true → R K y ≤ q → R K y ≤ R K r
  err : ∀ j : Nat, -(((2 ^ (FB K + j) : Nat) : Int) : Rat) ≤ q * uR K → q * uR K ≤ (((2 ^ (FB K + j) : Nat) : Int) : Rat) → -(((2 ^ j : Nat) : Int) : Rat) ≤ (R K r - q) * uR K ∧ (R K r - q) * uR K ≤ (((2 ^ j : Nat) : Int) : Rat)
theorem isN_form {K : FloatKind} {x : Nat} (h : isN K x = true) : ∃ (k : Int) (a : Nat), k.natAbs < 2 ^ (FB K + 1) ∧ V K x = k * 2 ^ a := by
  obtain ⟨s, m, i, hr, hi, hv⟩ := isN_read h
  have hm : m < 2 ^ (FB K + 1) := by have := (read_number K x hr).1; cases K <;> exact this
  refine ⟨if s then -(m : Int) else m, (i + LP K).toNat, ?_, ?_⟩
  · split
    · rw [Int.natAbs_neg]; exact hm
    · exact hm
  · rw [hv, signed_mul, Int.natCast_mul, pow_i]
    cases s
    · simp
    · simp [Int.neg_mul]
theorem Near.rnd {K : FloatKind} {r : Nat} {X : Int} {D : Nat} {q : Rat} (h : Near K r X D) (hD : 0 < D) (hq : q * uR K * ((D : Int) : Rat) = (X : Rat)) : Rnd K r q := by
  have hDp := cast_pos hD
  have hu := uR_pos K
  refine ⟨h.num, fun y hy hle => ?_, fun y hy hle => ?_, fun j h1 h2 => ?_⟩
  · obtain ⟨k, a, hk, hv⟩ := isN_form hy
    rw [R_le, hv]
    refine h.le k a hk ?_
    rw [← hv, ← Rat.intCast_le_intCast, Rat.intCast_mul, ← hq, ← R_mul, le_mulR hDp, le_mulR hu]
    exact hle
  · obtain ⟨k, a, hk, hv⟩ := isN_form hy
    rw [R_le, hv]
    refine h.ge k a hk ?_
    rw [← hv, ← Rat.intCast_le_intCast, Rat.intCast_mul, ← hq, ← R_mul, le_mulR hDp, le_mulR hu]
    exact hle
  · have hX : X.natAbs ≤ 2 ^ (FB K + j) * D := by
      have a1 : ((X : Int) : Rat) ≤ (((2 ^ (FB K + j) * D : Nat) : Int) : Rat) := by
        rw [← hq, Int.natCast_mul, Rat.intCast_mul, le_mulR hDp]; exact h2
      have a2 : -(((2 ^ (FB K + j) * D : Nat) : Int) : Rat) ≤ ((X : Int) : Rat) := by
        rw [← hq, Int.natCast_mul, Rat.intCast_mul, ← Rat.neg_mul, le_mulR hDp]; exact h1
      rw [← Rat.intCast_neg, Rat.intCast_le_intCast] at a2
      rw [Rat.intCast_le_intCast] at a1
      omega
    have he := h.err hD j hX
    have e1 : ((V K r * D - X : Int) : Rat) = (R K r - q) * uR K * ((D : Int) : Rat) := by
      rw [Rat.intCast_sub, Rat.intCast_mul, ← hq, ← R_mul]; grind
    have b1 : (V K r * D - X : Int) ≤ ((2 ^ j * D : Nat) : Int) := by omega
    have b2 : -((2 ^ j * D : Nat) : Int) ≤ (V K r * D - X : Int) := by omega
    rw [← Rat.intCast_le_intCast, e1, Int.natCast_mul, Rat.intCast_mul, le_mulR hDp] at b1
    rw [← Rat.intCast_le_intCast, e1, Int.natCast_mul, Rat.intCast_neg, Rat.intCast_mul, ← Rat.neg_mul, le_mulR hDp] at b2
    exact ⟨b2, b1⟩
theorem million (K : FloatKind) {q : Rat} (h1 : -1000000 ≤ q) (h2 : q ≤ 1000000) {X : Int} {D : Nat} (hD : 0 < D) (hq : q * uR K * ((D : Int) : Rat) = (X : Rat)) : X.natAbs ≤ 2 ^ (100 + LP K) * D := by
  have hDp := cast_pos hD
  have hu := uR_pos K
  have e : (((2 ^ (100 + LP K) * D : Nat) : Int) : Rat) = (((2 ^ 100 : Nat) : Int) : Rat) * uR K * ((D : Int) : Rat) := by
    rw [Nat.pow_add, Int.natCast_mul, Int.natCast_mul, Rat.intCast_mul, Rat.intCast_mul]; rfl
  have c : (1000000 : Rat) ≤ (((2 ^ 100 : Nat) : Int) : Rat) := by
    have : ((1000000 : Int) : Rat) ≤ (((2 ^ 100 : Nat) : Int) : Rat) := Rat.intCast_le_intCast.2 (by decide)
    exact this
  have a1 : ((X : Int) : Rat) ≤ (((2 ^ (100 + LP K) * D : Nat) : Int) : Rat) := by
    rw [← hq, e, le_mulR hDp, le_mulR hu]; exact Rat.le_trans h2 c
  have a2 : -(((2 ^ (100 + LP K) * D : Nat) : Int) : Rat) ≤ ((X : Int) : Rat) := by
    rw [← hq, e, ← Rat.neg_mul, ← Rat.neg_mul, le_mulR hDp, le_mulR hu]; exact Rat.le_trans (Rat.neg_le_neg c) h1
  rw [← Rat.intCast_neg, Rat.intCast_le_intCast] at a2
  rw [Rat.intCast_le_intCast] at a1
  omega
theorem rnd_add {K : FloatKind} {x y : Nat} (hx : isN K x = true) (hy : isN K y = true) (h1 : -1000000 ≤ R K x + R K y) (h2 : R K x + R K y ≤ 1000000) : Rnd K (fop .add K x y) (R K x + R K y) := by
  have hq : (R K x + R K y) * uR K * (((1 : Nat) : Int) : Rat) = ((V K x + V K y : Int) : Rat) := by
    rw [show (((1 : Nat) : Int) : Rat) = 1 from rfl, Rat.mul_one, Rat.add_mul, R_mul, R_mul, Rat.intCast_add]
  exact (near_add hx hy (by have := million K h1 h2 (Nat.one_pos) hq; rwa [Nat.mul_one] at this)).rnd Nat.one_pos hq
theorem rnd_sub {K : FloatKind} {x y : Nat} (hx : isN K x = true) (hy : isN K y = true) (h1 : -1000000 ≤ R K x - R K y) (h2 : R K x - R K y ≤ 1000000) : Rnd K (fop .sub K x y) (R K x - R K y) := by
  have hq : (R K x - R K y) * uR K * (((1 : Nat) : Int) : Rat) = ((V K x - V K y : Int) : Rat) := by
    rw [show (((1 : Nat) : Int) : Rat) = 1 from rfl, Rat.mul_one, Rat.intCast_sub, ← R_mul, ← R_mul]; grind
  exact (near_sub hx hy (by have := million K h1 h2 (Nat.one_pos) hq; rwa [Nat.mul_one] at this)).rnd Nat.one_pos hq
theorem rnd_mul {K : FloatKind} {x y : Nat} (hx : isN K x = true) (hy : isN K y = true) (h1 : -1000000 ≤ R K x * R K y) (h2 : R K x * R K y ≤ 1000000) : Rnd K (fop .mul K x y) (R K x * R K y) := by
  have hq : (R K x * R K y) * uR K * (((2 ^ LP K : Nat) : Int) : Rat) = ((V K x * V K y : Int) : Rat) := by
    show (R K x * R K y) * uR K * uR K = _
    rw [Rat.intCast_mul, ← R_mul, ← R_mul]
    grind
  exact (near_mul hx hy (by have := million K h1 h2 (Nat.two_pow_pos (LP K)) hq; rwa [← Nat.pow_add, Nat.add_assoc] at this)).rnd (Nat.two_pow_pos _) hq
theorem cast_abs (a : Int) : ((a.natAbs : Int) : Rat) = if a < 0 then -(a : Rat) else (a : Rat) := by
  split
  · rw [show (a.natAbs : Int) = -a by omega, Rat.intCast_neg]
  · rw [show (a.natAbs : Int) = a by omega]
theorem R_neg_iff {K : FloatKind} {x : Nat} : R K x < 0 ↔ V K x < 0 := by
  rw [← Rat.not_le, ← Int.not_le, not_congr]
  rw [← le_mulR (uR_pos K), R_mul, Rat.zero_mul]
  exact Rat.intCast_nonneg
theorem R_zero_iff {K : FloatKind} {x : Nat} : R K x = 0 ↔ V K x = 0 := by
  constructor
  · intro h
    have := R_mul K x
    rw [h, Rat.zero_mul] at this
    exact Rat.intCast_inj.1 this.symm
  · intro h; unfold R; rw [h, Rat.div_def]; exact Rat.zero_mul _
/-- a quotient that is no greater than a million -/
theorem rnd_div {K : FloatKind} {x y : Nat} {q : Rat} (hx : isN K x = true) (hy : isN K y = true) (hy0 : R K y ≠ 0) (hq : q * R K y = R K x) (h1 : -1000000 ≤ q) (h2 : q ≤ 1000000) : Rnd K (fop .quo K x y) q := by
  have v0 : V K y ≠ 0 := fun h => hy0 (R_zero_iff.2 h)
  have hD : 0 < (V K y).natAbs := by omega
  have hu := uR_pos K
  have hDp := cast_pos hD
  have e1 : q * (V K y : Rat) = (V K x : Rat) := by rw [← R_mul, ← R_mul, ← hq]; grind
  have hb : (V K x).natAbs ≤ 2 ^ 98 * (V K y).natAbs := by
    have c : (1000000 : Rat) ≤ (((2 ^ 98 : Nat) : Int) : Rat) := by
      have : ((1000000 : Int) : Rat) ≤ (((2 ^ 98 : Nat) : Int) : Rat) := Rat.intCast_le_intCast.2 (by decide)
      exact this
    have a1 : ((V K x : Int) : Rat) ≤ (((2 ^ 98 * (V K y).natAbs : Nat) : Int) : Rat) ∧ -(((2 ^ 98 * (V K y).natAbs : Nat) : Int) : Rat) ≤ ((V K x : Int) : Rat) := by
      rw [Int.natCast_mul, Rat.intCast_mul, ← e1]
      have hq1 := (le_mulR hDp).2 (Rat.le_trans h2 c)
      have hq2 := (le_mulR hDp).2 (Rat.le_trans (Rat.neg_le_neg c) h1)
      rw [cast_abs] at hq1 hq2 ⊢
      split at hq1 <;> rename_i hs
      · rw [if_pos hs] at hq2
        rw [if_pos hs]
        constructor <;> grind
      · rw [if_neg hs] at hq2
        rw [if_neg hs]
        constructor <;> grind
    obtain ⟨a1, a2⟩ := a1
    rw [← Rat.intCast_neg, Rat.intCast_le_intCast] at a2
    rw [Rat.intCast_le_intCast] at a1
    omega
  refine (near_div hx hy v0 hb).rnd hD ?_
  have e2 : ∀ a : Int, ((a * ((2 ^ LP K : Nat) : Int) : Int) : Rat) = (a : Rat) * uR K := fun a => by rw [Rat.intCast_mul]; rfl
  rw [cast_abs]
  by_cases s1 : V K x < 0 <;> by_cases s2 : V K y < 0
  · rw [if_pos s2, if_neg (by simp [s1, s2]), Int.natCast_mul, e2, cast_abs, if_pos s1, ← e1]; grind
  · rw [if_neg s2, if_pos (by simp [s1, s2]), Int.natCast_mul, Rat.intCast_neg, e2, cast_abs, if_pos s1, ← e1]; grind
  · rw [if_pos s2, if_pos (by simp [s1, s2]), Int.natCast_mul, Rat.intCast_neg, e2, cast_abs, if_neg s1, ← e1]; grind
  · rw [if_neg s2, if_neg (by simp [s1, s2]), Int.natCast_mul, e2, cast_abs, if_neg s1, ← e1]; grind
theorem uR_wide : uR .f64 = uR .f32 * (((2 ^ nar : Nat) : Int) : Rat) := by
  unfold uR
  rw [show LP .f64 = LP .f32 + nar from rfl, Nat.pow_add, Int.natCast_mul, Rat.intCast_mul]
theorem wide {x : Nat} (hx : isN .f32 x = true) (h1 : -1000000 ≤ R .f32 x) (h2 : R .f32 x ≤ 1000000) : isN .f64 (fcv .f32 .f64 x) = true ∧ R .f64 (fcv .f32 .f64 x) = R .f32 x := by
  have hb := million .f32 h1 h2 Nat.one_pos (X := V .f32 x) (by rw [show (((1 : Nat) : Int) : Rat) = 1 from rfl, Rat.mul_one, R_mul])
  rw [Nat.mul_one] at hb
  obtain ⟨a1, a2⟩ := widen_val hx hb
  refine ⟨a1, ?_⟩
  unfold R
  rw [a2, uR_wide, Rat.intCast_mul]
  have hp : (0 : Rat) < (((2 ^ nar : Nat) : Int) : Rat) := cast_pos (Nat.two_pow_pos _)
  have hu := uR_pos .f32
  have e : (((2 : Int) ^ nar : Int) : Rat) = (((2 ^ nar : Nat) : Int) : Rat) := by rw [pow_i]
  rw [e]
  grind
theorem narrow {x : Nat} (hx : isN .f64 x = true) (h1 : -1000000 ≤ R .f64 x) (h2 : R .f64 x ≤ 1000000) : Rnd .f32 (fcv .f64 .f32 x) (R .f64 x) := by
  have hb := million .f64 h1 h2 Nat.one_pos (X := V .f64 x) (by rw [show (((1 : Nat) : Int) : Rat) = 1 from rfl, Rat.mul_one, R_mul])
  rw [Nat.mul_one] at hb
  refine (near_narrow hx hb).rnd (Nat.two_pow_pos _) ?_
  rw [Rat.mul_assoc, ← uR_wide, R_mul]
theorem Q.R {K : FloatKind} {x : Nat} {k : Int} {e : Nat} (h : Q K x k e) : Go.Fl.R K x = (k : Rat) / (((2 ^ e : Nat) : Int) : Rat) := by
  have hp : (0 : Rat) < (((2 ^ e : Nat) : Int) : Rat) := cast_pos (Nat.two_pow_pos _)
  have hu := uR_pos K
  have e1 : uR K = (((2 ^ e : Nat) : Int) : Rat) * (((2 ^ (LP K - e) : Nat) : Int) : Rat) := by
    unfold uR
    rw [← Rat.intCast_mul, ← Int.natCast_mul, ← Nat.pow_add, Nat.add_sub_cancel' h.le]
  have hp2 : (0 : Rat) < (((2 ^ (LP K - e) : Nat) : Int) : Rat) := cast_pos (Nat.two_pow_pos _)
  unfold Go.Fl.R
  rw [h.val, e1, Rat.intCast_mul, show (((2 : Int) ^ (LP K - e) : Int) : Rat) = (((2 ^ (LP K - e) : Nat) : Int) : Rat) by rw [pow_i]]
  grind
/-- the error, for what lies in a bound -/
theorem Rnd.near {K : FloatKind} {r : Nat} {q : Rat} (h : Rnd K r q) (m : Nat) {B e : Rat} (hm : m ≤ 60) (hB : B = (((2 ^ m : Nat) : Int) : Rat)) (he : e * (((2 ^ FB K : Nat) : Int) : Rat) = B) (h1 : -B ≤ q) (h2 : q ≤ B) : q - e ≤ R K r ∧ R K r ≤ q + e := by
  have hu := uR_pos K
  have fp : (0 : Rat) < (((2 ^ FB K : Nat) : Int) : Rat) := cast_pos (Nat.two_pow_pos _)
  have hL : FB K ≤ m + LP K := by cases K <;> simp [FB, LP] <;> omega
  obtain ⟨j, hj⟩ : ∃ j, FB K + j = m + LP K := ⟨m + LP K - FB K, by omega⟩
  have e1 : (((2 ^ (FB K + j) : Nat) : Int) : Rat) = B * uR K := by rw [hj, Nat.pow_add, Int.natCast_mul, Rat.intCast_mul, hB]; rfl
  have e2 : (((2 ^ j : Nat) : Int) : Rat) = e * uR K := by
    have a : (((2 ^ (FB K + j) : Nat) : Int) : Rat) = (((2 ^ FB K : Nat) : Int) : Rat) * (((2 ^ j : Nat) : Int) : Rat) := by rw [Nat.pow_add, Int.natCast_mul, Rat.intCast_mul]
    rw [e1, ← he] at a
    have b : (((2 ^ FB K : Nat) : Int) : Rat) * (((2 ^ j : Nat) : Int) : Rat) = (((2 ^ FB K : Nat) : Int) : Rat) * (e * uR K) := by rw [← a]; grind
    have c := congrArg (fun z => z / (((2 ^ FB K : Nat) : Int) : Rat)) b
    have hne := Rat.ne_of_gt fp
    grind
  have := h.err j (by rw [e1, ← Rat.neg_mul, le_mulR hu]; exact h1) (by rw [e1, le_mulR hu]; exact h2)
  rw [e2, ← Rat.neg_mul, le_mulR hu, le_mulR hu] at this
  constructor <;> grind
end Go.Fl
