/- How long a point is: impl.LongOf walked; its bounds; the maximum of numbers. -/
import Derived.Test.YtkpjhoiaegioeaaRgF
namespace Go.Fl
open Ieee Go.RowKit
theorem Q.self {K : FloatKind} {x : Nat} (h : isN K x = true) : Q K x (V K x) (LP K) := ⟨h, by rw [Nat.sub_self]; simp, Nat.le_refl _⟩
theorem ord_V {K : FloatKind} {x y : Nat} (hx : isN K x = true) (hy : isN K y = true) : K.format.order x y = some (compare (V K x) (V K y)) := (Q.self hx).order (Q.self hy)
theorem isN.canN {K : FloatKind} {x : Nat} (h : isN K x = true) : Go.Fl.can K x = x := can_of_not (by
  obtain ⟨s, m, i, hr, _⟩ := isN_read h
  unfold nanB; rw [hr]; rfl)
theorem isN.nan {K : FloatKind} {x : Nat} (h : isN K x = true) : nanB K x = false := by
  obtain ⟨s, m, i, hr, _⟩ := isN_read h
  unfold nanB; rw [hr]; rfl
theorem zero_N : isN .f32 0 = true ∧ V .f32 0 = 0 := ⟨by decide +kernel, by decide +kernel⟩
theorem finN {x : Nat} (h : isN .f32 x = true) : fin (can .f32 x) = true := by
  rw [isN.canN h]
  have h1 := near_sub h h (by rw [Int.sub_self]; exact Nat.zero_le _)
  rw [Int.sub_self] at h1
  have a := h1.le 0 0 (Nat.two_pow_pos _) (by simp)
  have b := h1.ge 0 0 (Nat.two_pow_pos _) (by simp)
  have h0 : V .f32 (fop .sub .f32 x x) = 0 := by omega
  have h2 := ord_V h1.num zero_N.1
  rw [h0, zero_N.2] at h2
  unfold fin feq
  show (FloatKind.f32.format.order (fop .sub .f32 x x) 0 == some .eq) = true
  rw [h2]; rfl
/-- the root of a number of 64 bits -/
def sqrtK (y : Nat) : Nat := (FloatKind.f64.format.sqrt y).getD (qnan .f64)
def msqrt (y : Nat) (w : World) : Nat := match FloatKind.f64.format.sqrt y with | some r => r | none => (Question.nanBits .f64 y y).cut (w.tape w.drawn (.nanBits .f64 y y))
def msqd (y : Nat) : Nat := if (FloatKind.f64.format.sqrt y).isSome then 0 else 1
theorem run_wid64 {x : Nat} (h : nanB .f32 x = false) : (∀ w, mcv .f32 .f64 x w = fcv .f32 .f64 x) ∧ mcd .f32 .f64 x = 0 := by
  refine ⟨fun w => ?_, ?_⟩
  · unfold mcv fcv; rw [h, fits_widen]; rfl
  · unfold mcd; rw [h, fits_widen]; rfl
theorem run_nar32 {x : Nat} (h : nanB .f64 x = false) (hn : isN .f32 (fcv .f64 .f32 x) = true) : (∀ w, mcv .f64 .f32 x w = fcv .f64 .f32 x) ∧ mcd .f64 .f32 x = 0 := by
  have hf : fits .f64 .f32 x = true := by
    unfold fits
    cases hd : FloatKind.f64.decode x with
    | number g m e =>
      have h2 : fcv .f64 .f32 x = FloatKind.f32.encode (.number g m e) := by unfold fcv; rw [h, ← hd]; rfl
      rw [h2] at hn
      obtain ⟨s, m', i, hr, _⟩ := isN_read hn
      show (!(FloatKind.f32.decode (FloatKind.f32.encode (.number g m e))).isInfinity) = true
      have h3 : FloatKind.f32.decode (FloatKind.f32.encode (.number g m e)) = .number s m' i := hr
      rw [h3]; rfl
    | infinity g => rfl
    | nan g f => rfl
  refine ⟨fun w => ?_, ?_⟩
  · unfold mcv fcv; rw [h, hf]; rfl
  · unfold mcd; rw [h, hf]; rfl
def powF (z : Cx) : Nat := fop .add .f64 (fop .mul .f64 (fcv .f32 .f64 z.1) (fcv .f32 .f64 z.1)) (fop .mul .f64 (fcv .f32 .f64 z.2) (fcv .f32 .f64 z.2))
def longF (z : Cx) : Nat := fcv .f64 .f32 (sqrtK (powF z))
def powZ (p : Zp) : Nat := p.1.natAbs * p.1.natAbs + p.2.natAbs * p.2.natAbs
theorem sq_i (a : Int) : a * a = ((a.natAbs * a.natAbs : Nat) : Int) := by rw [Int.natCast_mul]; exact (Int.natAbs_mul_self).symm ▸ (by rw [Int.natCast_mul])
theorem mul_self_zero {K : FloatKind} {x : Nat} {e : Nat} (h : Q K x 0 e) : fop .mul K x x = 0 := by
  obtain ⟨s, m, i, hr, hi, hv⟩ := isN_read h.num
  have h0 : V K x = 0 := by rw [h.val, Int.zero_mul]
  have hm : m = 0 := by
    have h2 := signed_natAbs s m (i + LP K).toNat
    rw [← hv, h0] at h2
    rcases Nat.mul_eq_zero.1 h2.symm with h | h
    · exact h
    · exact absurd h (Nat.ne_of_gt (Nat.two_pow_pos _))
  have hop : fop .mul K x x = K.format.nearest (s ^^ s) (m * m) (i + i) := by
    show ((K.format.read x).product (K.format.read x) |>.map K.format.write).getD _ = _
    rw [hr]; rfl
  rw [hop, hm, Bool.xor_self]
  unfold Format.nearest
  rw [if_pos rfl]
  rfl
theorem pow_facts {z : Cx} {p : Zp} {e : Nat} (h : PX z p e) (hl : low p 65536) (he : e ≤ 100) :
    Q .f64 (fcv .f32 .f64 z.1) p.1 e ∧ Q .f64 (fcv .f32 .f64 z.2) p.2 e ∧ Q .f64 (fop .mul .f64 (fcv .f32 .f64 z.1) (fcv .f32 .f64 z.1)) (p.1 * p.1) (e + e) ∧ Q .f64 (fop .mul .f64 (fcv .f32 .f64 z.2) (fcv .f32 .f64 z.2)) (p.2 * p.2) (e + e) ∧
      Q .f64 (powF z) ((powZ p : Nat) : Int) (e + e) := by
  have b53 : (2 : Nat) ^ (FB .f64 + 1) = 9007199254740992 := by decide
  have h65 : ∀ a : Int, a.natAbs ≤ 65536 → a.natAbs * a.natAbs ≤ 4294967296 := fun a ha => Nat.mul_le_mul ha ha
  have w1 := h.1.widen (by have := hl.1; omega)
  have w2 := h.2.widen (by have := hl.2; omega)
  have le : e + e ≤ LP .f64 := by show e + e ≤ 1074; omega
  have m1 := w1.mul w1 (by rw [b53, Int.natAbs_mul]; have := h65 _ hl.1; omega) le
  have m2 := w2.mul w2 (by rw [b53, Int.natAbs_mul]; have := h65 _ hl.2; omega) le
  refine ⟨w1, w2, m1, m2, ?_⟩
  have e1 : ((powZ p : Nat) : Int) = p.1 * p.1 + p.2 * p.2 := by unfold powZ; rw [sq_i p.1, sq_i p.2, Int.natCast_add]
  rw [e1]
  refine m1.add m2 ?_
  rw [b53, sq_i p.1, sq_i p.2]
  have := h65 _ hl.1; have := h65 _ hl.2
  omega
theorem powF_zero {z : Cx} {p : Zp} {e : Nat} (h : PX z p e) (hl : low p 65536) (he : e ≤ 100) (h0 : powZ p = 0) : powF z = 0 := by
  obtain ⟨w1, w2, _⟩ := pow_facts h hl he
  unfold powZ at h0
  have a1 : p.1 = 0 := by
    have : p.1.natAbs * p.1.natAbs = 0 := by omega
    rcases Nat.mul_eq_zero.1 this with h | h <;> omega
  have a2 : p.2 = 0 := by
    have : p.2.natAbs * p.2.natAbs = 0 := by omega
    rcases Nat.mul_eq_zero.1 this with h | h <;> omega
  rw [a1] at w1
  rw [a2] at w2
  unfold powF
  rw [mul_self_zero w1, mul_self_zero w2]
  decide +kernel
def c298 : Nat := 298
theorem c298_eq : c298 = 298 := rfl
/-- the root of the power, and what is known of it -/
theorem long_facts {z : Cx} {p : Zp} {e : Nat} (h : PX z p e) (hl : low p 65536) (he : e ≤ 100) :
    FloatKind.f64.format.sqrt (powF z) = some (sqrtK (powF z)) ∧ nanB .f64 (sqrtK (powF z)) = false ∧ isN .f32 (longF z) = true ∧ 0 ≤ V .f32 (longF z) ∧
      (∀ k a : Nat, k < 16777216 → powZ p * 2 ^ c298 ≤ (k * 2 ^ a) * (k * 2 ^ a) * 2 ^ (e + e) → V .f32 (longF z) ≤ ((k * 2 ^ a : Nat) : Int)) ∧
      (∀ k a : Nat, k < 16777216 → (k * 2 ^ a) * (k * 2 ^ a) * 2 ^ (e + e) ≤ powZ p * 2 ^ c298 → ((k * 2 ^ a : Nat) : Int) ≤ V .f32 (longF z)) := by
  have hq := (pow_facts h hl he).2.2.2.2
  obtain ⟨L, hL⟩ : ∃ L, L = 1074 := ⟨_, rfl⟩
  have l64 : LP .f64 = L := by rw [hL]; rfl
  obtain ⟨A, hA⟩ : ∃ A, A = nar := ⟨_, rfl⟩
  obtain ⟨C, hC⟩ : ∃ C, C = c298 := ⟨_, rfl⟩
  have hA9 : A = 925 := hA
  have hC9 : C = 298 := hC
  rw [← hC]
  obtain ⟨d, hd⟩ : ∃ d, d = L - (e + e) := ⟨_, rfl⟩
  obtain ⟨X, hX⟩ : ∃ X, X = powZ p * 2 ^ d := ⟨_, rfl⟩
  have hv : V .f64 (powF z) = (X : Int) := by rw [hq.val, l64, hX, Int.natCast_mul, pow_i, hd]
  have hp : powZ p ≤ 2 ^ 33 := by
    unfold powZ
    have h1 := Nat.mul_le_mul hl.1 hl.1
    have h2 := Nat.mul_le_mul hl.2 hl.2
    have : (2 : Nat) ^ 33 = 65536 * 65536 + 65536 * 65536 := by decide
    omega
  have hXb : X ≤ 2 ^ (33 + d) := by rw [hX, Nat.pow_add]; exact Nat.mul_le_mul_right _ hp
  obtain ⟨r, hr, hn⟩ := near_root (K := .f64) hq.num hv (Nat.le_trans hXb (Nat.pow_le_pow_right (by decide) (by rw [l64]; omega))) (fun h0 => by
    have hz : powZ p = 0 := by
      rw [hX] at h0
      rcases Nat.mul_eq_zero.1 h0 with h | h
      · exact h
      · exact absurd h (Nat.ne_of_gt (Nat.two_pow_pos _))
    rw [powF_zero h hl he hz]
    decide)
  have hsk : sqrtK (powF z) = r := by unfold sqrtK; rw [hr]; rfl
  -- the root is small
  obtain ⟨U, hU⟩ : ∃ U, U = 1091 := ⟨_, rfl⟩
  have hup : V .f64 r ≤ ((1 * 2 ^ U : Nat) : Int) := hn.le 1 U (by decide) (by
    rw [Nat.one_mul, ← Nat.pow_add, l64]
    refine Nat.le_trans (Nat.mul_le_mul_right _ hXb) ?_
    rw [← Nat.pow_add]
    exact Nat.pow_le_pow_right (by decide) (by omega))
  have hnr := near_narrow hn.num (by
    have h1 : (V .f64 r).natAbs ≤ 1 * 2 ^ U := by have := hn.pos; omega
    refine Nat.le_trans h1 ?_
    rw [Nat.one_mul, l64]
    exact Nat.pow_le_pow_right (by decide) (by omega))
  rw [← hA] at hnr
  have hlf : longF z = fcv .f64 .f32 r := by unfold longF; rw [hsk]
  rw [hsk, hlf]
  have f24 : (2 : Nat) ^ (FB .f32 + 1) = 16777216 := by decide
  have cast : ∀ k a : Nat, ((k : Int) * 2 ^ a) = ((k * 2 ^ a : Nat) : Int) := fun k a => (cast_mul_pow k a).symm
  have castN : ∀ k a : Nat, ((k : Int) * 2 ^ a) * ((2 ^ A : Nat) : Int) = ((k * 2 ^ (a + A) : Nat) : Int) := fun k a => by rw [cast, ← Int.natCast_mul, Nat.pow_add, Nat.mul_assoc]
  have hmul : ∀ Y : Nat, Y * 2 ^ d * 2 ^ L * 2 ^ (e + e) = Y * 2 ^ C * 2 ^ (A + A) := fun Y => by
    rw [Nat.mul_assoc, Nat.mul_assoc, Nat.mul_assoc, ← Nat.pow_add, ← Nat.pow_add, ← Nat.pow_add]
    congr 2
    omega
  have hsq : ∀ k a : Nat, (k * 2 ^ (a + A)) * (k * 2 ^ (a + A)) = (k * 2 ^ a) * (k * 2 ^ a) * 2 ^ (A + A) := fun k a => by
    have e1 : (2 : Nat) ^ (A + A) = 2 ^ A * 2 ^ A := Nat.pow_add 2 A A
    rw [Nat.pow_add, e1]; ac_rfl
  refine ⟨hr, isN.nan hn.num, hnr.num, ?_, fun k a hk hle => ?_, fun k a hk hge => ?_⟩
  · have := hnr.ge 0 0 (Nat.two_pow_pos _) (by rw [Int.zero_mul, Int.zero_mul]; exact hn.pos)
    rw [Int.zero_mul] at this
    exact this
  · have h1 := hn.le k (a + A) (Nat.lt_trans hk (by decide)) (by
      rw [hX, l64, hsq]
      refine Nat.le_of_mul_le_mul_right (c := 2 ^ (e + e)) ?_ (Nat.two_pow_pos _)
      rw [hmul]
      exact Nat.le_trans (Nat.mul_le_mul_right (2 ^ (A + A)) hle) (Nat.le_of_eq (by ac_rfl)))
    have h2 := hnr.le (k : Int) a (by rw [Int.natAbs_natCast, f24]; exact hk) (by rw [castN]; exact h1)
    rw [cast] at h2
    exact h2
  · have h1 := hn.ge k (a + A) (Nat.lt_trans hk (by decide)) (by
      rw [hX, l64, hsq]
      refine Nat.le_of_mul_le_mul_right (c := 2 ^ (e + e)) ?_ (Nat.two_pow_pos _)
      rw [hmul]
      exact Nat.le_trans (Nat.le_of_eq (by ac_rfl)) (Nat.mul_le_mul_right (2 ^ (A + A)) hge))
    have h2 := hnr.ge (k : Int) a (by rw [Int.natAbs_natCast, f24]; exact hk) (by rw [castN]; exact h1)
    rw [cast] at h2
    exact h2
/-- half as long or less: the rounded length is no greater -/
theorem long_mono {z d : Cx} {p q : Zp} {e f : Nat} (hz : PX z p e) (hd : PX d q f) (lz : low p 65536) (ld : low q 65536) (he : e ≤ 100) (hf : f ≤ 100) (h : 4 * powZ p * 2 ^ (f + f) ≤ powZ q * 2 ^ (e + e)) : V .f32 (longF z) ≤ V .f32 (longF d) := by
  obtain ⟨_, _, _, _, hle, _⟩ := long_facts hz lz he
  obtain ⟨_, _, _, h0, _, hge⟩ := long_facts hd ld hf
  rcases Nat.eq_zero_or_pos (powZ q) with hq | hq
  · have hp : powZ p = 0 := by
      rw [hq, Nat.zero_mul] at h
      rcases Nat.mul_eq_zero.1 (Nat.le_zero.1 h) with h | h
      · omega
      · exact absurd h (Nat.ne_of_gt (Nat.two_pow_pos _))
    have h1 := hle 0 0 (by decide) (by rw [hp, Nat.zero_mul]; exact Nat.zero_le _)
    simp at h1
    omega
  · obtain ⟨g, hg⟩ : ∃ g, g = c298 - (f + f) := ⟨_, rfl⟩
    obtain ⟨Y, hY⟩ : ∃ Y, Y = powZ q * 2 ^ g := ⟨_, rfl⟩
    have hY0 : Y ≠ 0 := by rw [hY]; exact Nat.ne_of_gt (Nat.mul_pos hq (Nat.two_pow_pos _))
    obtain ⟨a, ha⟩ : ∃ a, a = Y.log2 / 2 := ⟨_, rfl⟩
    have h1 : 2 ^ (a + a) ≤ Y := Nat.le_trans (Nat.pow_le_pow_right (by decide) (by omega)) (Nat.log2_self_le hY0)
    have h2 : Y ≤ 2 ^ (a + a + 2) := Nat.le_of_lt (Nat.lt_of_lt_of_le (Nat.lt_log2_self) (Nat.pow_le_pow_right (by decide) (by omega)))
    have e298 : powZ q * 2 ^ c298 = Y * 2 ^ (f + f) := by rw [hY, Nat.mul_assoc, ← Nat.pow_add]; congr 2; rw [hg, c298_eq]; omega
    have g1 := hge 1 a (by decide) (by
      rw [Nat.one_mul, e298, ← Nat.pow_add]
      exact Nat.mul_le_mul_right _ h1)
    have g2 := hle 1 a (by decide) (by
      rw [Nat.one_mul, ← Nat.pow_add]
      refine Nat.le_of_mul_le_mul_right (c := 4 * 2 ^ (f + f)) ?_ (Nat.mul_pos (by decide) (Nat.two_pow_pos _))
      calc powZ p * 2 ^ c298 * (4 * 2 ^ (f + f)) = 4 * powZ p * 2 ^ (f + f) * 2 ^ c298 := by ac_rfl
        _ ≤ powZ q * 2 ^ (e + e) * 2 ^ c298 := Nat.mul_le_mul_right _ h
        _ = powZ q * 2 ^ c298 * 2 ^ (e + e) := by ac_rfl
        _ = Y * (2 ^ (f + f) * 2 ^ (e + e)) := by rw [e298]; ac_rfl
        _ ≤ 2 ^ (a + a + 2) * (2 ^ (f + f) * 2 ^ (e + e)) := Nat.mul_le_mul_right _ h2
        _ = 2 ^ (a + a) * 2 ^ (e + e) * (4 * 2 ^ (f + f)) := by rw [Nat.pow_add 2 (a + a)]; ac_rfl)
    omega
/-- the greater of two numbers, as the program takes it -/
def maxF (K : FloatKind) (x y : Nat) : Nat := match K.format.order x y with
  | none => 0
  | some .lt => y
  | some .gt => x
  | some .eq => if (K.decode x).neg then y else x
theorem maxF_facts {K : FloatKind} {x y : Nat} (hx : isN K x = true) (hy : isN K y = true) : isN K (maxF K x y) = true ∧ V K x ≤ V K (maxF K x y) ∧ V K y ≤ V K (maxF K x y) ∧ (V K (maxF K x y) = V K x ∨ V K (maxF K x y) = V K y) := by
  have h := ord_V hx hy
  unfold maxF
  rw [h]
  cases hc : compare (V K x) (V K y)
  · have h1 : V K x < V K y := Int.compare_eq_lt.1 hc
    exact ⟨hy, by show V K x ≤ V K y; omega, Int.le_refl _, .inr rfl⟩
  · have h1 : V K x = V K y := Int.compare_eq_eq.1 hc
    simp only
    split
    · exact ⟨hy, by omega, Int.le_refl _, .inr rfl⟩
    · exact ⟨hx, Int.le_refl _, by omega, .inl rfl⟩
  · have h1 : V K y < V K x := Int.compare_eq_gt.1 hc
    exact ⟨hx, Int.le_refl _, by show V K y ≤ V K x; omega, .inl rfl⟩
theorem run_maxF {P : Program} {K : FloatKind} {x y : Nat} (hx : isN K x = true) (hy : isN K y = true) (ts : Array TypeId) (t : TypeId) (w : World) : (Builtin.max_ ts t #[.float K x, .float K y]).run P w = .ok (.float K (maxF K x y)) w := by
  have h := ord_V hx hy
  unfold maxF
  rw [h]
  cases hc : compare (V K x) (V K y) <;> simp [Builtin.max_, Builtin.max2, h, hc]
end Go.Fl
