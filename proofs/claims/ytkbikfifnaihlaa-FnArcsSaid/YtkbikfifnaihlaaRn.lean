/- Rounding to the nearest keeps order against every number of the format: bounds on floats that are not exact. Plain Lean. -/
import Derived.Test.YtkbikfifnaihlaaEx
namespace Go.Fl
open Ieee
theorem rn_le {s : Bool} {N d c : Nat} (hN : N ≠ 0) (h : N ≤ c * 2 ^ d) : Toward.even.cut s N d ≤ c := by
  unfold Toward.cut
  simp only [Nat.one_shiftLeft]
  by_cases hd : d ≤ N.log2 + 2
  · rw [Nat.min_eq_left hd]
    have hg := Nat.two_pow_pos d
    obtain ⟨g, hgg⟩ : ∃ g, g = 2 ^ d := ⟨_, rfl⟩
    rw [← hgg] at h hg ⊢
    have h1 := Nat.div_add_mod N g
    have h2 : N / g ≤ c := Nat.div_le_of_le_mul (by rw [Nat.mul_comm]; exact h)
    by_cases hr : N % g = 0
    · rw [hr]
      have : (decide (g < 2 * 0) || (g == 2 * 0 && N / g % 2 == 1)) = false := by
        have : ¬ g = 0 := by omega
        simp [this]
      rw [this]
      exact h2
    · have h3 : N / g < c := by
        rcases Nat.lt_or_eq_of_le h2 with h | h3
        · exact h
        · rw [h3, Nat.mul_comm] at h1
          omega
      have := Bool.toNat_le (decide (g < 2 * (N % g)) || (g == 2 * (N % g) && N / g % 2 == 1))
      omega
  · rw [Nat.min_eq_right (by omega)]
    have h1 : N < 2 ^ (N.log2 + 1) := Nat.lt_log2_self
    have h2 : 2 ^ (N.log2 + 2) = 2 * 2 ^ (N.log2 + 1) := by rw [Nat.pow_succ _ (N.log2 + 1)]; omega
    obtain ⟨g, hgg⟩ : ∃ g, g = 2 ^ (N.log2 + 2) := ⟨_, rfl⟩
    rw [← hgg] at h2 ⊢
    have h3 : N / g = 0 := Nat.div_eq_of_lt (by omega)
    have h4 : N % g = N := Nat.mod_eq_of_lt (by omega)
    rw [h3, h4]
    have h5 : (decide (g < 2 * N) || (g == 2 * N && 0 % 2 == 1)) = false := by
      have : ¬ g < 2 * N := by omega
      simp [this]
    rw [h5]
    exact Nat.zero_le _
theorem rn_ge {s : Bool} {N d c : Nat} (h : c * 2 ^ d ≤ N) : c ≤ Toward.even.cut s N d := by
  rcases Nat.eq_zero_or_pos c with rfl | hc
  · exact Nat.zero_le _
  · have hN : N ≠ 0 := by
      have := Nat.mul_pos hc (Nat.two_pow_pos d)
      omega
    have hd : d ≤ N.log2 + 2 := by
      have h1 : 2 ^ d ≤ N := Nat.le_trans (Nat.le_mul_of_pos_left _ hc) h
      have h2 := (Nat.pow_lt_pow_iff_right (by decide)).1 (Nat.lt_of_le_of_lt h1 (Nat.lt_log2_self (n := N)))
      omega
    unfold Toward.cut
    simp only [Nat.one_shiftLeft]
    rw [Nat.min_eq_left hd]
    exact Nat.le_trans ((Nat.le_div_iff_mul_le (Nat.two_pow_pos d)).2 h) (Nat.le_add_right _ _)
/-- what the nearest word of a number stands for, and that it keeps order against every number of the format -/
theorem near_mono (K : FloatKind) (s : Bool) (m : Nat) (p : Int) (b : Nat) (hb : LP K ≤ b) (hp : -(b : Int) ≤ p) (hbig : m * 2 ^ (p + b).toNat ≤ 2 ^ (100 + b)) :
    isN K (K.format.nearest s m p) = true ∧ ∃ v : Nat, V K (K.format.nearest s m p) = (if s then -(v : Int) else v) ∧
      ∀ k a : Nat, k < 2 ^ (FB K + 1) → (m * 2 ^ (p + b).toNat ≤ k * 2 ^ (a + (b - LP K)) → v ≤ k * 2 ^ a) ∧ (k * 2 ^ (a + (b - LP K)) ≤ m * 2 ^ (p + b).toNat → k * 2 ^ a ≤ v) := by
  have lp : K.format.leastPlace = -(LP K : Int) := by cases K <;> decide
  have fb : K.format.fractionBits = FB K := by cases K <;> rfl
  have bn : K.format.binade = 2 ^ FB K := by cases K <;> rfl
  have ir : (LP K + 101) * 2 ^ FB K + 3 * 2 ^ FB K ≤ K.format.infRung := by cases K <;> decide
  have hB := Nat.two_pow_pos (FB K)
  have hB2 : 2 ^ (FB K + 1) = 2 * 2 ^ FB K := by rw [Nat.pow_succ]; omega
  obtain ⟨B, hBB⟩ : ∃ B, B = 2 ^ FB K := ⟨_, rfl⟩
  rw [← hBB] at bn ir hB hB2
  rcases Nat.eq_zero_or_pos m with rfl | hm
  · have hr : K.format.read (K.format.nearest s 0 p) = .number s 0 (-(LP K : Int)) := by
      have : K.format.nearest s 0 p = K.format.word s 0 := by unfold Format.nearest; rw [if_pos rfl]
      rw [this, read_word K s 0 (by omega), if_pos (by omega), lp]
    unfold isN V
    rw [hr]
    refine ⟨rfl, 0, by simp [signed], fun k a hk => ⟨fun _ => Nat.zero_le _, fun h => ?_⟩⟩
    rw [Nat.zero_mul] at h
    rcases Nat.mul_eq_zero.1 (Nat.le_zero.1 h) with h | h
    · rw [h, Nat.zero_mul]; exact Nat.le_refl _
    · exact absurd h (Nat.ne_of_gt (Nat.two_pow_pos _))
  · obtain ⟨L, hL⟩ : ∃ L, L = m.log2 := ⟨_, rfl⟩
    have hm1 : 2 ^ L ≤ m := by rw [hL]; exact Nat.log2_self_le (by omega)
    have hm2 : m < 2 ^ (L + 1) := by rw [hL]; exact Nat.lt_log2_self
    obtain ⟨q, hq⟩ : ∃ q, q = (p + b).toNat := ⟨_, rfl⟩
    rw [← hq] at hbig ⊢
    have hLq : L + q ≤ 100 + b := by
      have h1 : 2 ^ (L + q) ≤ m * 2 ^ q := by rw [Nat.pow_add]; exact Nat.mul_le_mul_right _ hm1
      exact (Nat.pow_le_pow_iff_right (by decide)).1 (Nat.le_trans h1 hbig)
    obtain ⟨last, hlast⟩ : ∃ t : Int, t = max (p + L - FB K) (-(LP K : Int)) := ⟨_, rfl⟩
    have hl2 : -(LP K : Int) ≤ last := by omega
    have hl3 : p + L - FB K ≤ last := by omega
    obtain ⟨N, hN⟩ : ∃ N, N = m <<< (p - last).toNat := ⟨_, rfl⟩
    obtain ⟨d, hd⟩ : ∃ d, d = (last - p).toNat := ⟨_, rfl⟩
    obtain ⟨kept, hkept⟩ : ∃ c, c = Toward.even.cut s N d := ⟨_, rfl⟩
    obtain ⟨T, hT⟩ : ∃ T, T = (last + LP K).toNat := ⟨_, rfl⟩
    have hN0 : N ≠ 0 := by
      rw [hN, Nat.shiftLeft_eq]
      exact Nat.ne_of_gt (Nat.mul_pos hm (Nat.two_pow_pos _))
    -- the exact number in units of 2 ^ -b: N * 2 ^ z, and 2 ^ d of N are one of the last place
    have hu : ∀ c : Nat, (N ≤ c * 2 ^ d ↔ m * 2 ^ q ≤ c * 2 ^ (T + (b - LP K))) ∧ (c * 2 ^ d ≤ N ↔ c * 2 ^ (T + (b - LP K)) ≤ m * 2 ^ q) := fun c => by
      by_cases hc : last ≤ p
      · have h0 : d = 0 := by omega
        have h1 : q = (p - last).toNat + (T + (b - LP K)) := by omega
        have h2 : N = m * 2 ^ (p - last).toNat := by rw [hN, Nat.shiftLeft_eq]
        rw [h0, Nat.pow_zero, Nat.mul_one, h1, Nat.pow_add, ← Nat.mul_assoc, ← h2]
        have := Nat.two_pow_pos (T + (b - LP K))
        exact ⟨(Nat.mul_le_mul_right_iff this).symm, (Nat.mul_le_mul_right_iff this).symm⟩
      · have h1 : T + (b - LP K) = d + q := by omega
        have h2 : N = m := by rw [hN]; have : (p - last).toNat = 0 := by omega
                              rw [this, Nat.shiftLeft_zero]
        rw [h1, Nat.pow_add, ← Nat.mul_assoc, h2]
        have := Nat.two_pow_pos q
        exact ⟨(Nat.mul_le_mul_right_iff this).symm, (Nat.mul_le_mul_right_iff this).symm⟩
    have hle : ∀ c, m * 2 ^ q ≤ c * 2 ^ (T + (b - LP K)) → kept ≤ c := fun c h => by rw [hkept]; exact rn_le hN0 ((hu c).1.2 h)
    have hge : ∀ c, c * 2 ^ (T + (b - LP K)) ≤ m * 2 ^ q → c ≤ kept := fun c h => by rw [hkept]; exact rn_ge ((hu c).2.2 h)
    -- kept has at most FB + 1 digits, or is the next power of two
    have hk2 : kept ≤ 2 * B := hle _ (by
      have h1 : m * 2 ^ q ≤ 2 ^ (L + 1 + q) := by rw [Nat.pow_add]; exact Nat.mul_le_mul_right _ (Nat.le_of_lt hm2)
      refine Nat.le_trans h1 ?_
      rw [← hB2, ← Nat.pow_add]
      exact Nat.pow_le_pow_right (by decide) (by omega))
    have h23 : T ≠ 0 → B ≤ kept := fun hT0 => hge _ (by
      have h1 : 2 ^ (L + q) ≤ m * 2 ^ q := by rw [Nat.pow_add]; exact Nat.mul_le_mul_right _ hm1
      refine Nat.le_trans ?_ h1
      rw [hBB, ← Nat.pow_add]
      exact Nat.pow_le_pow_right (by decide) (by omega))
    have hTB : T * B ≤ (LP K + 100) * B := Nat.mul_le_mul_right _ (by omega)
    have hTB2 : (LP K + 101) * B = (LP K + 100) * B + B := by rw [← Nat.succ_mul]
    have hr : T * B + kept < K.format.infRung := by omega
    have hnear : K.format.nearest s m p = K.format.word s (T * B + kept) := by
      unfold Format.nearest
      rw [if_neg (by omega)]
      simp only [lp, fb, bn, ← hL]
      have e1 : max (p + (L : Int) - (FB K : Nat)) (-(LP K : Int)) = last := hlast.symm
      rw [e1, ← hN, ← hd, ← hkept]
      have e2 : (last - -(LP K : Int)).toNat = T := by omega
      rw [e2, Nat.min_eq_left (Nat.le_of_lt hr)]
    have hread := read_word K s _ hr
    rw [bn, lp] at hread
    have hval : ∃ m' e', K.format.read (K.format.nearest s m p) = .number s m' e' ∧ m' * 2 ^ (e' + LP K).toNat = kept * 2 ^ T := by
      rw [hnear, hread]
      by_cases hlt : T * B + kept < B
      · have h0 : T = 0 := by
          rcases Nat.eq_zero_or_pos T with h | h
          · exact h
          · have := h23 (by omega); omega
        rw [h0] at hlt ⊢
        rw [Nat.zero_mul, Nat.zero_add] at hlt ⊢
        rw [if_pos hlt]
        refine ⟨_, _, rfl, ?_⟩
        have : (-(LP K : Int) + LP K).toNat = 0 := by omega
        rw [this]
      · rw [if_neg hlt]
        refine ⟨_, _, rfl, ?_⟩
        have hkB : B ≤ kept := by
          rcases Nat.eq_zero_or_pos T with h | h
          · rw [h, Nat.zero_mul] at hlt; omega
          · exact h23 (by omega)
        rcases Nat.lt_or_eq_of_le hk2 with h2 | h2
        · have e1 : (T * B + kept) % B = kept - B := by
            rw [Nat.add_comm, Nat.add_mul_mod_self_right, Nat.mod_eq_sub_mod (by omega), Nat.mod_eq_of_lt (by omega)]
          have e2 : (T * B + kept) / B = T + 1 := by
            rw [Nat.add_comm, Nat.add_mul_div_right _ _ hB, Nat.div_eq_sub_div hB (by omega), Nat.div_eq_of_lt (by omega)]; omega
          rw [e1, e2]
          have e3 : B + (kept - B) = kept := by omega
          have e4 : (-(LP K : Int) + ((T + 1 - 1 : Nat) : Int) + LP K).toNat = T := by omega
          rw [e3, e4]
        · have e0 : T * B + kept = (T + 2) * B := by rw [h2, Nat.add_mul]
          rw [e0, Nat.mul_mod_left, Nat.mul_div_cancel _ hB, Nat.add_zero, h2]
          have e4 : (-(LP K : Int) + ((T + 2 - 1 : Nat) : Int) + LP K).toNat = T + 1 := by omega
          rw [e4, Nat.pow_succ, ← Nat.mul_assoc, Nat.mul_right_comm, Nat.mul_comm B 2]
    obtain ⟨m', e', h1, h2⟩ := hval
    unfold isN V
    rw [h1]
    refine ⟨rfl, kept * 2 ^ T, ?_, fun k a hk => ⟨fun h => ?_, fun h => ?_⟩⟩
    · show signed s m' (e' + LP K).toNat = _
      rw [← h2]
      unfold signed
      rw [Nat.shiftLeft_eq]
    · by_cases ha : T ≤ a
      · have e1 : a = (a - T) + T := by omega
        rw [e1, Nat.pow_add, ← Nat.mul_assoc]
        refine Nat.mul_le_mul_right _ (hle _ ?_)
        rw [Nat.mul_assoc, ← Nat.pow_add]
        have e2 : a - T + (T + (b - LP K)) = a + (b - LP K) := by omega
        rw [e2]; exact h
      · exfalso
        have h3 : 2 ^ (L + q) ≤ m * 2 ^ q := by rw [Nat.pow_add]; exact Nat.mul_le_mul_right _ hm1
        have h4 : k * 2 ^ (a + (b - LP K)) < 2 ^ (FB K + 1 + (a + (b - LP K))) := by
          rw [Nat.pow_add (n := a + (b - LP K))]
          exact Nat.mul_lt_mul_of_pos_right hk (Nat.two_pow_pos _)
        have h5 := (Nat.pow_lt_pow_iff_right (by decide)).1 (Nat.lt_of_le_of_lt (Nat.le_trans h3 h) h4)
        omega
    · by_cases ha : T ≤ a
      · have e1 : a = (a - T) + T := by omega
        rw [e1, Nat.pow_add, ← Nat.mul_assoc]
        refine Nat.mul_le_mul_right _ (hge _ ?_)
        rw [Nat.mul_assoc, ← Nat.pow_add]
        have e2 : a - T + (T + (b - LP K)) = a + (b - LP K) := by omega
        rw [e2]; exact h
      · have hkB := h23 (by omega)
        have h4 : k * 2 ^ a ≤ 2 ^ (FB K + 1 + a) := by
          rw [Nat.pow_add]
          exact Nat.mul_le_mul_right _ (Nat.le_of_lt hk)
        refine Nat.le_trans h4 ?_
        have h5 : 2 ^ (FB K + T) ≤ kept * 2 ^ T := by rw [Nat.pow_add, ← hBB]; exact Nat.mul_le_mul_right _ hkB
        exact Nat.le_trans (Nat.pow_le_pow_right (by decide) (by omega)) h5
end Go.Fl
