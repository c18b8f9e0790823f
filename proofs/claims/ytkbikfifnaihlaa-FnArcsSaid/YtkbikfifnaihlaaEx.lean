/- Exact arithmetic on float32: numbers k / 2 ^ e of fewer than 25 binary digits. Plain Lean. -/
import Derived.Test.YtkbikfifnaihlaaPl
namespace Go.Fl
open Ieee
theorem signed_mul (s : Bool) (m u : Nat) : signed s m u = (if s then -1 else 1) * ((m * 2 ^ u : Nat) : Int) := by
  unfold signed; rw [Nat.shiftLeft_eq]; cases s <;> simp
/-- the least place of a kind, and the bits of its fraction -/
def LP : FloatKind → Nat | .f32 => 149 | .f64 => 1074
def FB : FloatKind → Nat | .f32 => 23 | .f64 => 52
/-- a float is a number -/
def isN (K : FloatKind) (x : Nat) : Bool := match K.format.read x with | .number .. => true | _ => false
/-- its value in units of the least place -/
def V (K : FloatKind) (x : Nat) : Int := match K.format.read x with | .number s m e => signed s m (e + LP K).toNat | _ => 0
theorem near_exact (K : FloatKind) (s : Bool) (m : Nat) (p : Int) (k e b : Nat) (hk : k < 2 ^ (FB K + 1)) (he : e ≤ LP K) (hb : LP K ≤ b) (hp : -(b : Int) ≤ p) (h : m * 2 ^ (p + b).toNat = k * 2 ^ (b - e)) :
    isN K (K.format.nearest s m p) = true ∧ V K (K.format.nearest s m p) = signed s k (LP K - e) := by
  have lp : K.format.leastPlace = -(LP K : Int) := by cases K <;> decide
  have fb : K.format.fractionBits = FB K := by cases K <;> rfl
  have bn : K.format.binade = 2 ^ FB K := by cases K <;> rfl
  have ir : LP K * 2 ^ FB K + 2 * 2 ^ FB K ≤ K.format.infRung := by cases K <;> decide
  have hB := Nat.two_pow_pos (FB K)
  have hB2 : 2 ^ (FB K + 1) = 2 * 2 ^ FB K := by rw [Nat.pow_succ]; omega
  obtain ⟨B, hBB⟩ : ∃ B, B = 2 ^ FB K := ⟨_, rfl⟩
  rw [← hBB] at bn ir hB hB2
  rcases Nat.eq_zero_or_pos m with rfl | hm
  · have hk0 : k = 0 := by
      rw [Nat.zero_mul] at h
      rcases Nat.mul_eq_zero.1 h.symm with h | h
      · exact h
      · exact absurd h (Nat.ne_of_gt (Nat.two_pow_pos _))
    subst hk0
    have hr : K.format.read (K.format.nearest s 0 p) = .number s 0 (-(LP K : Int)) := by
      have : K.format.nearest s 0 p = K.format.word s 0 := by unfold Format.nearest; rw [if_pos rfl]
      rw [this, read_word K s 0 (by omega), if_pos (by omega), lp]
    unfold isN V
    rw [hr]
    exact ⟨rfl, by simp [signed_mul]⟩
  · obtain ⟨L, hL⟩ : ∃ L, L = m.log2 := ⟨_, rfl⟩
    have hm1 : 2 ^ L ≤ m := by rw [hL]; exact Nat.log2_self_le (by omega)
    have hm2 : m < 2 ^ (L + 1) := by rw [hL]; exact Nat.lt_log2_self
    obtain ⟨q, hq⟩ : ∃ q, q = (p + b).toNat := ⟨_, rfl⟩
    rw [← hq] at h
    have hLk : L + q < (FB K + 1) + (b - e) := by
      have h1 : 2 ^ (L + q) ≤ m * 2 ^ q := by rw [Nat.pow_add]; exact Nat.mul_le_mul_right _ hm1
      have h2 : k * 2 ^ (b - e) < 2 ^ ((FB K + 1) + (b - e)) := by rw [Nat.pow_add]; exact Nat.mul_lt_mul_of_pos_right hk (Nat.two_pow_pos _)
      rw [h] at h1
      exact (Nat.pow_lt_pow_iff_right (by decide)).1 (Nat.lt_of_le_of_lt h1 h2)
    obtain ⟨last, hlast⟩ : ∃ t : Int, t = max (p + L - FB K) (-(LP K : Int)) := ⟨_, rfl⟩
    have hl1 : last ≤ -(e : Int) := by omega
    have hl2 : -(LP K : Int) ≤ last := by omega
    have hl3 : p + L - FB K ≤ last := by omega
    obtain ⟨kept, hkept⟩ : ∃ c, c = Toward.even.cut s (m <<< (p - last).toNat) (last - p).toNat := ⟨_, rfl⟩
    have hkv : kept * 2 ^ (last + b).toNat = m * 2 ^ q := by
      by_cases hc : last ≤ p
      · have h0 : (last - p).toNat = 0 := by omega
        have hcut : kept = m * 2 ^ (p - last).toNat := by
          rw [hkept, h0, Nat.shiftLeft_eq]
          unfold Toward.cut
          simp only [Nat.zero_le, Nat.min_eq_left, Nat.shiftLeft_zero, Nat.div_one, Nat.mod_one]
          rfl
        rw [hcut, Nat.mul_assoc, ← Nat.pow_add]
        congr 2
        omega
      · obtain ⟨d, hd⟩ : ∃ d, d = (last - p).toNat := ⟨_, rfl⟩
        have h0 : (p - last).toNat = 0 := by omega
        have hmk : m = k * 2 ^ (b - e - q) := by
          have hx : b - e = (b - e - q) + q := by omega
          rw [hx, Nat.pow_add, ← Nat.mul_assoc] at h
          exact Nat.eq_of_mul_eq_mul_right (Nat.two_pow_pos q) h
        have hdv : m = (k * 2 ^ (b - e - q - d)) * 2 ^ d := by
          rw [Nat.mul_assoc, ← Nat.pow_add]
          have : b - e - q - d + d = b - e - q := by omega
          rw [this]; exact hmk
        obtain ⟨c, hc2⟩ : ∃ c, c = k * 2 ^ (b - e - q - d) := ⟨_, rfl⟩
        rw [← hc2] at hdv
        have hdL : d ≤ L := by
          have hc0 : 0 < c := by
            rcases Nat.eq_zero_or_pos c with h | h
            · rw [h, Nat.zero_mul] at hdv; omega
            · exact h
          have h1 : 2 ^ d ≤ m := by rw [hdv]; exact Nat.le_mul_of_pos_left _ hc0
          have := (Nat.pow_lt_pow_iff_right (by decide)).1 (Nat.lt_of_le_of_lt h1 hm2)
          omega
        have hcut : kept = c := by
          rw [hkept, h0, Nat.shiftLeft_zero, ← hd]
          unfold Toward.cut
          have hmin : min d (m.log2 + 2) = d := by rw [← hL]; omega
          simp only [hmin, Nat.one_shiftLeft]
          have h3 : m / 2 ^ d = c := by rw [hdv]; exact Nat.mul_div_cancel _ (Nat.two_pow_pos _)
          have h4 : m % 2 ^ d = 0 := by rw [hdv]; exact Nat.mul_mod_left _ _
          rw [h3, h4]
          have h5 : (decide (2 ^ d < 2 * 0) || (2 ^ d == 2 * 0 && c % 2 == 1)) = false := by
            have := Nat.two_pow_pos d
            simp
          rw [h5]; rfl
        rw [hcut, hdv, Nat.mul_assoc, ← Nat.pow_add]
        congr 2
        omega
    have hk24 : kept < 2 ^ (FB K + 1) := by
      have h1 : kept * 2 ^ (last + b).toNat < 2 ^ (L + 1 + q) := by
        rw [hkv, Nat.pow_add]; exact Nat.mul_lt_mul_of_pos_right hm2 (Nat.two_pow_pos _)
      have h2 : 2 ^ (L + 1 + q) ≤ 2 ^ (FB K + 1) * 2 ^ (last + b).toNat := by
        rw [← Nat.pow_add]; exact Nat.pow_le_pow_right (by decide) (by omega)
      exact Nat.lt_of_mul_lt_mul_right (Nat.lt_of_lt_of_le h1 h2)
    have hkv2 : kept * 2 ^ (last + LP K).toNat = k * 2 ^ (LP K - e) := by
      have hx : (last + b).toNat = (last + LP K).toNat + (b - LP K) := by omega
      have hy : b - e = (LP K - e) + (b - LP K) := by omega
      rw [h, hx, hy, Nat.pow_add, Nat.pow_add, ← Nat.mul_assoc, ← Nat.mul_assoc] at hkv
      exact Nat.eq_of_mul_eq_mul_right (Nat.two_pow_pos _) hkv
    obtain ⟨T, hT⟩ : ∃ T, T = (last + LP K).toNat := ⟨_, rfl⟩
    rw [← hT] at hkv2
    have hTB : T * B ≤ LP K * B := Nat.mul_le_mul_right _ (by omega)
    have hr : T * B + kept < K.format.infRung := by omega
    have hnear : K.format.nearest s m p = K.format.word s (T * B + kept) := by
      unfold Format.nearest
      rw [if_neg (by omega)]
      simp only [lp, fb, bn, ← hL]
      have e1 : max (p + (L : Int) - (FB K : Nat)) (-(LP K : Int)) = last := hlast.symm
      rw [e1, ← hkept]
      have e2 : (last - -(LP K : Int)).toNat = T := by omega
      rw [e2, Nat.min_eq_left (Nat.le_of_lt hr)]
    have hread := read_word K s _ hr
    rw [bn, lp] at hread
    have h23 : kept < B → T = 0 := fun hlt => by
      by_cases hc : T = 0
      · exact hc
      · have hl : last = p + L - FB K := by omega
        have h1 : 2 ^ (L + q) ≤ kept * 2 ^ (last + b).toNat := by rw [hkv, Nat.pow_add]; exact Nat.mul_le_mul_right _ hm1
        have h2 : kept * 2 ^ (last + b).toNat < B * 2 ^ (last + b).toNat := Nat.mul_lt_mul_of_pos_right hlt (Nat.two_pow_pos _)
        rw [hBB, ← Nat.pow_add] at h2
        have := (Nat.pow_lt_pow_iff_right (by decide)).1 (Nat.lt_of_le_of_lt h1 h2)
        omega
    have hval : ∃ m' e', K.format.read (K.format.nearest s m p) = .number s m' e' ∧ m' * 2 ^ (e' + LP K).toNat = k * 2 ^ (LP K - e) := by
      rw [hnear, hread]
      by_cases hlt : kept < B
      · have h0 := h23 hlt
        rw [h0] at hkv2 ⊢
        rw [Nat.zero_mul, Nat.zero_add, if_pos hlt]
        refine ⟨_, _, rfl, ?_⟩
        have : (-(LP K : Int) + LP K).toNat = 0 := by omega
        rw [this]
        exact hkv2
      · rw [if_neg (by omega)]
        refine ⟨_, _, rfl, ?_⟩
        have q1 : kept % B = kept - B := by rw [Nat.mod_eq_sub_mod (by omega), Nat.mod_eq_of_lt (by omega)]
        have q2 : kept / B = 1 := by rw [Nat.div_eq_sub_div hB (by omega), Nat.div_eq_of_lt (by omega)]
        have e1 : (T * B + kept) % B = kept - B := by rw [Nat.add_comm, Nat.add_mul_mod_self_right, q1]
        have e2 : (T * B + kept) / B = T + 1 := by rw [Nat.add_comm, Nat.add_mul_div_right _ _ hB, q2]; omega
        rw [e1, e2]
        have e3 : B + (kept - B) = kept := by omega
        have e4 : (-(LP K : Int) + ((T + 1 - 1 : Nat) : Int) + LP K).toNat = T := by omega
        rw [e3, e4]
        exact hkv2
    obtain ⟨m', e', h1, h2⟩ := hval
    unfold isN V
    rw [h1]
    refine ⟨rfl, ?_⟩
    show signed s m' (e' + LP K).toNat = _
    rw [signed_mul, signed_mul, h2]
/-- x is the number k / 2 ^ e -/
structure Q (K : FloatKind) (x : Nat) (k : Int) (e : Nat) : Prop where
  num : isN K x = true
  val : V K x = k * 2 ^ (LP K - e)
  le : e ≤ LP K
theorem isN_read {K : FloatKind} {x : Nat} (h : isN K x = true) : ∃ s m i, K.format.read x = .number s m i ∧ -(LP K : Int) ≤ i ∧ V K x = signed s m (i + LP K).toNat := by
  have lp : K.format.leastPlace = -(LP K : Int) := by cases K <;> decide
  unfold isN at h
  unfold V
  split at h
  · rename_i s m i e
    have := (read_number K x e).2.1
    exact ⟨s, m, i, e, by rw [← lp]; exact this, rfl⟩
  · cases h
theorem pow_i (n : Nat) : ((2 ^ n : Nat) : Int) = 2 ^ n := by simp
theorem natAbs_pow (k : Int) (n : Nat) : (k * 2 ^ n).natAbs = k.natAbs * 2 ^ n := by rw [Int.natAbs_mul, ← pow_i, Int.natAbs_natCast]
theorem signed_abs {s : Bool} {k : Int} (n : Nat) (h : k ≠ 0 → s = decide (k < 0)) : signed s k.natAbs n = k * 2 ^ n := by
  rw [signed_mul, Int.natCast_mul, pow_i, ← Int.mul_assoc]
  congr 1
  by_cases hk : k = 0
  · subst hk; simp
  · rw [h hk]
    by_cases hn : k < 0
    · simp only [hn, decide_true, if_true]; omega
    · simp only [hn, decide_false]; simp; omega
theorem signed_up (s : Bool) (m a b : Nat) : signed s m (a + b) = signed s m a * 2 ^ b := by
  rw [signed_mul, signed_mul, Nat.pow_add, ← Nat.mul_assoc, Int.natCast_mul, pow_i, Int.mul_assoc]
theorem signed_natAbs (s : Bool) (m a : Nat) : (signed s m a).natAbs = m * 2 ^ a := by
  rw [signed_mul, Int.natAbs_mul, Int.natAbs_natCast]; cases s <;> simp
theorem pow_pos_i (n : Nat) : (0 : Int) < 2 ^ n := by rw [← pow_i]; exact Int.natCast_pos.2 (Nat.two_pow_pos n)
theorem neg_of_pow {c : Int} {n : Nat} (h : c * 2 ^ n < 0) : c < 0 := by
  rcases Int.lt_or_le c 0 with h1 | h1
  · exact h1
  · have := Int.mul_nonneg h1 (Int.le_of_lt (pow_pos_i n))
    omega
/-- what is written of a number that the format has is that number -/
theorem Q.of_near {K : FloatKind} {s : Bool} {m : Nat} {p k : Int} {e b : Nat} (hk : k.natAbs < 2 ^ (FB K + 1)) (he : e ≤ LP K) (hb : LP K ≤ b) (hp : -(b : Int) ≤ p) (h : m * 2 ^ (p + b).toNat = k.natAbs * 2 ^ (b - e)) (hs : k ≠ 0 → s = decide (k < 0)) :
    Q K (K.format.nearest s m p) k e := by
  obtain ⟨h1, h2⟩ := near_exact K s m p k.natAbs e b hk he hb hp h
  exact ⟨h1, h2.trans (signed_abs _ hs), he⟩
theorem Q.shift {K : FloatKind} {x : Nat} {k : Int} {e : Nat} (h : Q K x k e) (d : Nat) (hd : e + d ≤ LP K) : Q K x (k * 2 ^ d) (e + d) := by
  refine ⟨h.num, ?_, hd⟩
  rw [h.val, Int.mul_assoc, ← Int.pow_add]
  congr 2
  omega
theorem Q.sum {K : FloatKind} {x : Nat} {k l : Int} {e : Nat} {d : Datum} (hx : Q K x k e) (hd : ∃ t n j, d = .number t n j ∧ -(LP K : Int) ≤ j ∧ signed t n (j + LP K).toNat = l * 2 ^ (LP K - e)) (hk : (k + l).natAbs < 2 ^ (FB K + 1)) :
    ∃ r, ((K.format.read x).sum d).map K.format.write = some r ∧ Q K r (k + l) e := by
  obtain ⟨s, m, i, hr, hi, hv⟩ := isN_read hx.num
  obtain ⟨t, n, j, rfl, hj, hw⟩ := hd
  obtain ⟨base, hbase⟩ : ∃ c, c = min i j := ⟨_, rfl⟩
  obtain ⟨total, htot⟩ : ∃ c, c = signed s m (i - base).toNat + signed t n (j - base).toNat := ⟨_, rfl⟩
  have hT : total * 2 ^ (base + LP K).toNat = (k + l) * 2 ^ (LP K - e) := by
    rw [htot, Int.add_mul, Int.add_mul, ← hw, ← hx.val, hv, ← signed_up, ← signed_up]
    congr 2 <;> omega
  refine ⟨_, by rw [hr]; rfl, ?_⟩
  simp only [← hbase, ← htot]
  have habs : total.natAbs * 2 ^ (base + LP K).toNat = (k + l).natAbs * 2 ^ (LP K - e) := by rw [← natAbs_pow, ← natAbs_pow, hT]
  refine Q.of_near (b := LP K) hk hx.le (Nat.le_refl _) (by omega) habs (fun hne => ?_)
  have p1 := pow_pos_i (base + LP K).toNat
  have p2 := pow_pos_i (LP K - e)
  have h0 : total ≠ 0 := fun h0 => by
    rw [h0, Int.zero_mul] at hT
    rcases Int.mul_eq_zero.1 hT.symm with h | h
    · exact hne h
    · omega
  rw [if_neg h0]
  have : total < 0 ↔ k + l < 0 := by
    constructor
    · intro h
      have h1 : total * 2 ^ (base + LP K).toNat < 0 := Int.mul_neg_of_neg_of_pos h p1
      rw [hT] at h1
      exact neg_of_pow h1
    · intro h
      have h1 : (k + l) * 2 ^ (LP K - e) < 0 := Int.mul_neg_of_neg_of_pos h p2
      rw [← hT] at h1
      exact neg_of_pow h1
  simp [this]
theorem signed_not (t : Bool) (n a : Nat) : signed (!t) n a = -signed t n a := by unfold signed; cases t <;> simp
theorem Q.add {K : FloatKind} {x y : Nat} {k l : Int} {e : Nat} (hx : Q K x k e) (hy : Q K y l e) (hk : (k + l).natAbs < 2 ^ (FB K + 1)) : Q K (fop .add K x y) (k + l) e := by
  obtain ⟨t, n, j, hr, hj, hv⟩ := isN_read hy.num
  obtain ⟨r, h1, h2⟩ := Q.sum hx ⟨t, n, j, rfl, hj, by rw [← hv, hy.val]⟩ hk
  have : fop .add K x y = r := by
    show ((K.format.read x).sum (K.format.read y) |>.map K.format.write).getD _ = r
    rw [hr, h1]; rfl
  rw [this]; exact h2
theorem Q.sub {K : FloatKind} {x y : Nat} {k l : Int} {e : Nat} (hx : Q K x k e) (hy : Q K y l e) (hk : (k - l).natAbs < 2 ^ (FB K + 1)) : Q K (fop .sub K x y) (k - l) e := by
  obtain ⟨t, n, j, hr, hj, hv⟩ := isN_read hy.num
  obtain ⟨r, h1, h2⟩ := Q.sum (l := -l) hx ⟨!t, n, j, rfl, hj, by rw [signed_not, ← hv, hy.val, Int.neg_mul]⟩ (by rw [← Int.sub_eq_add_neg]; exact hk)
  have : fop .sub K x y = r := by
    show ((K.format.read x).sum (K.format.read y).opposite |>.map K.format.write).getD _ = r
    rw [hr]
    show Option.getD (((K.format.read x).sum (.number (!t) n j)).map K.format.write) _ = r
    rw [h1]; rfl
  rw [this, Int.sub_eq_add_neg]; exact h2
theorem signed_neg_iff {s : Bool} {m a : Nat} (h : m ≠ 0) : s = decide (signed s m a < 0) := by
  have hp : 0 < m <<< a := by rw [Nat.shiftLeft_eq]; exact Nat.mul_pos (by omega) (Nat.two_pow_pos _)
  cases s
  · show false = decide (((m <<< a : Nat) : Int) < 0)
    symm; exact decide_eq_false (by omega)
  · show true = decide (-((m <<< a : Nat) : Int) < 0)
    symm; exact decide_eq_true (by omega)
theorem sign_of {s : Bool} {m a n : Nat} {k : Int} (h : signed s m a = k * 2 ^ n) (hk : k ≠ 0) : s = decide (k < 0) := by
  have hm : m ≠ 0 := fun h0 => by
    subst h0
    rw [signed_mul, Nat.zero_mul, Int.natCast_zero, Int.mul_zero] at h
    rcases Int.mul_eq_zero.1 h.symm with h | h
    · exact hk h
    · have := pow_pos_i n; omega
  refine (signed_neg_iff hm (a := a)).trans ?_
  rw [h]
  have : k * 2 ^ n < 0 ↔ k < 0 := ⟨neg_of_pow, fun h => Int.mul_neg_of_neg_of_pos h (pow_pos_i n)⟩
  simp [this]
theorem Q.mul {K : FloatKind} {x y : Nat} {k l : Int} {e f : Nat} (hx : Q K x k e) (hy : Q K y l f) (hk : (k * l).natAbs < 2 ^ (FB K + 1)) (he : e + f ≤ LP K) : Q K (fop .mul K x y) (k * l) (e + f) := by
  obtain ⟨s, m, i, hr, hi, hv⟩ := isN_read hx.num
  obtain ⟨t, n, j, hq, hj, hw⟩ := isN_read hy.num
  have hop : fop .mul K x y = K.format.nearest (s ^^ t) (m * n) (i + j) := by
    show ((K.format.read x).product (K.format.read y) |>.map K.format.write).getD _ = _
    rw [hr, hq]; rfl
  rw [hop]
  have a1 : m * 2 ^ (i + LP K).toNat = k.natAbs * 2 ^ (LP K - e) := by rw [← signed_natAbs s, ← hv, hx.val, natAbs_pow]
  have a2 : n * 2 ^ (j + LP K).toNat = l.natAbs * 2 ^ (LP K - f) := by rw [← signed_natAbs t, ← hw, hy.val, natAbs_pow]
  refine Q.of_near (b := LP K + LP K) hk he (by omega) (by omega) ?_ (fun hne => ?_)
  · have e1 : (i + j + ((LP K + LP K : Nat) : Int)).toNat = (i + LP K).toNat + (j + LP K).toNat := by omega
    have e2 : LP K + LP K - (e + f) = (LP K - e) + (LP K - f) := by have := hx.le; have := hy.le; omega
    rw [e1, e2, Nat.pow_add, Nat.pow_add, Int.natAbs_mul]
    calc m * n * (2 ^ (i + LP K).toNat * 2 ^ (j + LP K).toNat) = (m * 2 ^ (i + LP K).toNat) * (n * 2 ^ (j + LP K).toNat) := by ac_rfl
      _ = (k.natAbs * 2 ^ (LP K - e)) * (l.natAbs * 2 ^ (LP K - f)) := by rw [a1, a2]
      _ = _ := by ac_rfl
  · have hk0 : k ≠ 0 := fun h => hne (by rw [h, Int.zero_mul])
    have hl0 : l ≠ 0 := fun h => hne (by rw [h, Int.mul_zero])
    rw [sign_of (hv.symm.trans hx.val) hk0, sign_of (hw.symm.trans hy.val) hl0]
    by_cases h1 : k < 0 <;> by_cases h2 : l < 0
    · have := Int.mul_pos_of_neg_of_neg h1 h2
      have : ¬ k * l < 0 := by omega
      simp [h1, h2, this]
    · have := Int.mul_neg_of_neg_of_pos h1 (show 0 < l by omega)
      simp [h1, h2, this]
    · have := Int.mul_neg_of_pos_of_neg (show 0 < k by omega) h2
      simp [h1, h2, this]
    · have := Int.mul_pos (show 0 < k by omega) (show 0 < l by omega)
      have : ¬ k * l < 0 := by omega
      simp [h1, h2, this]
theorem compare_scale (a b : Int) (n : Nat) : compare (a * 2 ^ n) (b * 2 ^ n) = compare a b := by
  have hp := pow_pos_i n
  have h1 : a * 2 ^ n < b * 2 ^ n ↔ a < b := by
    constructor
    · intro h; exact Int.lt_of_mul_lt_mul_right h (Int.le_of_lt hp)
    · intro h; exact Int.mul_lt_mul_of_pos_right h hp
  have h2 : a * 2 ^ n = b * 2 ^ n ↔ a = b := ⟨fun h => Int.eq_of_mul_eq_mul_right (by omega) h, fun h => by rw [h]⟩
  show compareOfLessAndEq _ _ = compareOfLessAndEq _ _
  unfold compareOfLessAndEq
  simp only [h1, h2]
theorem Q.order {K : FloatKind} {x y : Nat} {k l : Int} {e : Nat} (hx : Q K x k e) (hy : Q K y l e) : K.format.order x y = some (compare k l) := by
  obtain ⟨s, m, i, hr, hi, hv⟩ := isN_read hx.num
  obtain ⟨t, n, j, hq, hj, hw⟩ := isN_read hy.num
  unfold Format.order
  rw [hr, hq]
  show some (compare (signed s m (i - min i j).toNat) (signed t n (j - min i j).toNat)) = _
  congr 1
  rw [← compare_scale _ _ (min i j + LP K).toNat, ← signed_up, ← signed_up]
  have e1 : (i - min i j).toNat + (min i j + LP K).toNat = (i + LP K).toNat := by omega
  have e2 : (j - min i j).toNat + (min i j + LP K).toNat = (j + LP K).toNat := by omega
  rw [e1, e2, ← hv, ← hw, hx.val, hy.val, compare_scale]
theorem Q.ofInt (K : FloatKind) (n : Int) (h : n.natAbs < 2 ^ (FB K + 1)) : Q K (floatOfInt K n) n 0 := by
  refine Q.of_near (b := LP K) (p := 0) h (Nat.zero_le _) (Nat.le_refl _) (by omega) ?_ (fun _ => rfl)
  simp
theorem Q.widen {x : Nat} {k : Int} {e : Nat} (h : Q .f32 x k e) (hk : k.natAbs < 2 ^ 53) : Q .f64 (fcv .f32 .f64 x) k e := by
  obtain ⟨s, m, i, hr, hi, hv⟩ := isN_read h.num
  have hn : nanB .f32 x = false := by unfold nanB; rw [hr]; rfl
  have hop : fcv .f32 .f64 x = FloatKind.f64.format.nearest s m i := by
    unfold fcv
    rw [hn]
    show FloatKind.f64.encode (FloatKind.f32.format.read x) = _
    rw [hr]; rfl
  rw [hop]
  have a1 : m * 2 ^ (i + LP .f32).toNat = k.natAbs * 2 ^ (LP .f32 - e) := by rw [← signed_natAbs s, ← hv, h.val, natAbs_pow]
  have he := h.le
  have h1 : LP .f32 = 149 := rfl
  have h2 : LP .f64 = 1074 := rfl
  refine Q.of_near (b := 1074) hk (by omega) (Nat.le_refl _) (by omega) ?_ (fun hne => sign_of (hv.symm.trans h.val) hne)
  have e1 : (i + ((1074 : Nat) : Int)).toNat = (i + LP .f32).toNat + 925 := by omega
  have e2 : 1074 - e = (LP .f32 - e) + 925 := by omega
  rw [e1, e2, Nat.pow_add, Nat.pow_add, ← Nat.mul_assoc, ← Nat.mul_assoc, a1]
theorem lt24 {k : Int} (h : k.natAbs < 16777216) : k.natAbs < 2 ^ (FB .f32 + 1) := h
/-- a quotient by a power of two -/
theorem Q.half {K : FloatKind} {x y : Nat} {k : Int} {e d : Nat} (hx : Q K x k e) (hy : K.format.read y = .number false (2 ^ FB K) ((d : Int) - FB K)) (hk : k.natAbs < 2 ^ (FB K + 1)) (hd : e + d ≤ LP K) : Q K (fop .quo K x y) k (e + d) := by
  obtain ⟨s, m, i, hr, hi, hv⟩ := isN_read hx.num
  have a1 : m * 2 ^ (i + LP K).toNat = k.natAbs * 2 ^ (LP K - e) := by rw [← signed_natAbs s, ← hv, hx.val, natAbs_pow]
  have hn0 : (2 : Nat) ^ FB K ≠ 0 := Nat.ne_of_gt (Nat.two_pow_pos _)
  have hlog : (2 ^ FB K).log2 = FB K := Nat.log2_two_pow
  have fb : K.format.fractionBits = FB K := by cases K <;> rfl
  have hmL : m.log2 ≤ FB K := log2_lt (by have := (read_number K x hr).1; rw [fb] at this; exact this)
  obtain ⟨more, hmore⟩ : ∃ c, c = FB K + 2 + FB K - m.log2 := ⟨_, rfl⟩
  have hmo : FB K + 2 ≤ more := by omega
  have hop : fop .quo K x y = K.format.nearest (s ^^ false) (2 * (m * 2 ^ (more - FB K))) (i - ((d : Int) - FB K) - more - 1) := by
    show ((K.format.read x).quotient (K.format.fractionBits + 2) (K.format.read y) |>.map K.format.write).getD _ = _
    rw [hr, hy]
    show Option.getD (Option.map K.format.write (if 2 ^ FB K = 0 then _ else _)) _ = _
    rw [if_neg hn0]
    simp only [fb, hlog, ← hmore, Nat.shiftLeft_eq]
    have hx2 : m * 2 ^ more = (m * 2 ^ (more - FB K)) * 2 ^ FB K := by rw [Nat.mul_assoc, ← Nat.pow_add]; congr 2; omega
    rw [hx2, Nat.mul_div_cancel _ (Nat.two_pow_pos _), Nat.mul_mod_left]
    rfl
  rw [hop]
  have hFB : FB K ≤ 52 := by cases K <;> decide
  have hd2 := hx.le
  refine Q.of_near (b := LP K + 200 + LP K) hk hd (by omega) (by omega) ?_ (fun hne => ?_)
  · have e1 : (i - ((d : Int) - FB K) - more - 1 + ((LP K + 200 + LP K : Nat) : Int)).toNat = (i + LP K).toNat + (200 + LP K + FB K - d - more - 1) := by omega
    have e2 : LP K + 200 + LP K - (e + d) = (LP K - e) + (200 + LP K - d) := by omega
    have e3 : 200 + LP K - d = (200 + LP K + FB K - d - more - 1) + 1 + (more - FB K) := by omega
    rw [e1, e2, e3]
    rw [Nat.pow_add 2 (i + LP K).toNat, Nat.pow_add 2 (LP K - e), Nat.pow_add 2 (_ + 1), Nat.pow_add 2 _ 1]
    calc 2 * (m * 2 ^ (more - FB K)) * (2 ^ (i + LP K).toNat * 2 ^ (200 + LP K + FB K - d - more - 1)) = (m * 2 ^ (i + LP K).toNat) * (2 ^ (200 + LP K + FB K - d - more - 1) * 2 ^ 1 * 2 ^ (more - FB K)) := by rw [Nat.pow_one]; ac_rfl
      _ = _ := by rw [a1]; ac_rfl
  · rw [Bool.xor_false]
    exact sign_of (hv.symm.trans hx.val) hne
end Go.Fl
