/- Negation and rounding; the exact course of a plan. Plain Lean. -/
import Derived.Test.YtfpkdnopbnppmaaPnE
import Derived.Test.YtfpkdnopbnppmaaHalf
namespace Go.Fl
open Ieee
theorem neg_sign (K : FloatKind) (b : Nat) : (Op.negFloat K b / K.format.signWeight % 2 == 1) = !(b / K.format.signWeight % 2 == 1) := by
  show ((b ^^^ 2 ^ (K.format.exponentBits + K.format.fractionBits)) / 2 ^ (K.format.exponentBits + K.format.fractionBits) % 2 == 1) = !(b / 2 ^ (K.format.exponentBits + K.format.fractionBits) % 2 == 1)
  have h : ∀ x i : Nat, (x / 2 ^ i % 2 == 1) = x.testBit i := fun x i => by
    rw [Nat.testBit_eq_decide_div_mod_eq]; rfl
  rw [h, h, Nat.testBit_xor, Nat.testBit_two_pow_self, Bool.xor_true]
theorem read_neg (K : FloatKind) (b : Nat) {s : Bool} {m : Nat} {e : Int} (h : K.format.read b = .number s m e) : K.format.read (Op.negFloat K b) = .number (!s) m e := by
  unfold Ieee.Format.read at h ⊢
  simp only [neg_mod, neg_sign]
  simp only at h
  split at h
  · rename_i h1
    rw [if_pos h1]
    injection h with a1 a2 a3
    rw [a1, a2, a3]
  · rename_i h1
    rw [if_neg h1]
    split at h
    · rename_i h2
      rw [if_pos h2]
      injection h with a1 a2 a3
      rw [a1, a2, a3]
    · split at h <;> cases h
theorem cut_sign (s t : Bool) (n d : Nat) : Toward.even.cut s n d = Toward.even.cut t n d := by rw [cut_even, cut_even]
theorem nearest_word (f : Format) (m : Nat) (p : Int) : ∃ w, w ≤ f.infRung ∧ ∀ s, f.nearest s m p = f.word s w := by
  unfold Format.nearest
  by_cases h : m = 0
  · exact ⟨0, Nat.zero_le _, fun s => by rw [if_pos h]⟩
  · refine ⟨min ((max (p + m.log2 - f.fractionBits) f.leastPlace - f.leastPlace).toNat * f.binade + Toward.even.cut false (m <<< (p - max (p + m.log2 - f.fractionBits) f.leastPlace).toNat) (max (p + m.log2 - f.fractionBits) f.leastPlace - p).toNat) f.infRung, Nat.min_le_right _ _, fun s => ?_⟩
    rw [if_neg h]
    simp only
    rw [cut_sign s false]
theorem word_flip (K : FloatKind) {s : Bool} {w : Nat} (hw : w ≤ K.format.infRung) (h : isN K (K.format.word s w) = true) : isN K (K.format.word (!s) w) = true ∧ V K (K.format.word (!s) w) = -V K (K.format.word s w) := by
  rcases Nat.lt_or_eq_of_le hw with h1 | rfl
  · have a := read_word K s w h1
    have b := read_word K (!s) w h1
    unfold isN V
    rw [a, b]
    by_cases c : w < K.format.binade
    · rw [if_pos c, if_pos c]
      exact ⟨rfl, signed_not _ _ _⟩
    · rw [if_neg c, if_neg c]
      exact ⟨rfl, signed_not _ _ _⟩
  · exfalso
    revert h
    cases K <;> cases s <;> decide +kernel
theorem neg_N {x : Nat} (h : isN .f32 x = true) : isN .f32 (fnegK .f32 x) = true ∧ R .f32 (fnegK .f32 x) = -R .f32 x ∧ ∀ y, isN .f32 y = true → isN .f32 (fmul x y) = true → isN .f32 (fmul (fnegK .f32 x) y) = true ∧ R .f32 (fmul (fnegK .f32 x) y) = -R .f32 (fmul x y) := by
  obtain ⟨s, m, i, h1, _, h3⟩ := isN_read h
  have hr := read_neg .f32 x h1
  have e : fnegK .f32 x = Op.negFloat .f32 x := by
    refine can_of_not ?_
    show (FloatKind.f32.format.read _).isNaN = false
    rw [hr]; rfl
  rw [e]
  refine ⟨by unfold isN; rw [hr], ?_, fun y hy hxy => ?_⟩
  · have hv : V .f32 (Op.negFloat .f32 x) = -V .f32 x := by
      unfold V
      rw [hr, h1]
      exact signed_not _ _ _
    unfold R
    rw [hv, Rat.intCast_neg]
    grind
  · obtain ⟨t, n, j, k1, _, k3⟩ := isN_read hy
    have o1 : fmul x y = FloatKind.f32.format.nearest (s ^^ t) (m * n) (i + j) := by
      show ((FloatKind.f32.format.read x).product (FloatKind.f32.format.read y) |>.map FloatKind.f32.format.write).getD _ = _
      rw [h1, k1]; rfl
    have o2 : fmul (Op.negFloat .f32 x) y = FloatKind.f32.format.nearest ((!s) ^^ t) (m * n) (i + j) := by
      show ((FloatKind.f32.format.read (Op.negFloat .f32 x)).product (FloatKind.f32.format.read y) |>.map FloatKind.f32.format.write).getD _ = _
      rw [hr, k1]; rfl
    obtain ⟨w, w1, w2⟩ := nearest_word FloatKind.f32.format (m * n) (i + j)
    rw [o1, w2] at hxy
    have f := word_flip .f32 w1 hxy
    rw [o1, o2, w2, w2]
    have eb : ((!s) ^^ t) = !(s ^^ t) := by cases s <;> cases t <;> rfl
    rw [eb]
    refine ⟨f.1, ?_⟩
    unfold R
    rw [f.2, Rat.intCast_neg]
    grind
-- the exact course
def pfP (r h c : Rat) : Nat → Rat | 0 => r | 1 => h | 2 => r | 3 => c | 4 => r | 5 => h | _ => r
def pfJ (J : Rat) : Nat → Rat | 0 => J | 1 => 0 | 2 => -J | 3 => 0 | 4 => -J | 5 => 0 | _ => J
def pfA (J r : Rat) : Nat → Rat | 0 => 0 | 1 => J * r | 2 => J * r | 3 => 0 | 4 => 0 | 5 => -(J * r) | 6 => -(J * r) | _ => 0
def pfV (J r h : Rat) : Nat → Rat | 0 => 0 | 1 => J * r * r / 2 | 2 => J * r * r / 2 + J * r * h | 3 => J * r * (r + h) | 4 => J * r * (r + h) | 5 => J * r * r / 2 + J * r * h | 6 => J * r * r / 2 | _ => 0
def pfW (J r h c : Rat) : Rat := J * r * (r + h) * (2 * r + h) + J * r * (r + h) * c
def pfX (J r h c : Rat) : Nat → Rat
  | 0 => 0 | 1 => J * r * r * r / 6 | 2 => J * r * r * r / 6 + J * r * r * h / 2 + J * r * h * h / 2
  | 3 => J * r * (r + h) * (2 * r + h) / 2 | 4 => J * r * (r + h) * (2 * r + h) / 2 + J * r * (r + h) * c
  | 5 => pfW J r h c - (J * r * r * r / 6 + J * r * r * h / 2 + J * r * h * h / 2) | 6 => pfW J r h c - J * r * r * r / 6 | _ => pfW J r h c
def pfT (r h c : Rat) : Nat → Rat | 0 => 0 | 1 => r | 2 => r + h | 3 => 2 * r + h | 4 => 2 * r + h + c | 5 => 3 * r + h + c | 6 => 3 * r + 2 * h + c | _ => 4 * r + 2 * h + c
def pfL (J r h c : Rat) (k : Nat) (s : Rat) : Rat := pfX J r h c k + (pfV J r h k * s + pfA J r k / 2 * s * s + pfJ J k * s * s * s / 6)
theorem lt7 {k : Nat} (h : k < 7) : k = 0 ∨ k = 1 ∨ k = 2 ∨ k = 3 ∨ k = 4 ∨ k = 5 ∨ k = 6 := by omega
theorem pf_next (J r h c : Rat) {k : Nat} (hk : k < 7) : pfL J r h c k (pfP r h c k) = pfX J r h c (k + 1) ∧ pfT r h c (k + 1) = pfT r h c k + pfP r h c k ∧
    pfV J r h k + (pfA J r k * pfP r h c k + pfJ J k / 2 * pfP r h c k * pfP r h c k) = pfV J r h (k + 1) ∧ pfA J r k + pfJ J k * pfP r h c k = pfA J r (k + 1) := by
  rcases lt7 hk with rfl | rfl | rfl | rfl | rfl | rfl | rfl <;> simp only [pfL, pfP, pfX, pfV, pfA, pfJ, pfT, pfW] <;> refine ⟨?_, ?_, ?_, ?_⟩ <;> grind
theorem pf_start (J r h c : Rat) (k : Nat) : pfL J r h c k 0 = pfX J r h c k := by unfold pfL; grind
structure PlIn (J r h c : Rat) : Prop where
  J0 : 1 / 2 ≤ J
  J9 : J ≤ 4
  r0 : 1 / 100 ≤ r
  r9 : r ≤ 3
  h0 : 0 ≤ h
  h9 : h ≤ 9
  c0 : 0 ≤ c
  c9 : c ≤ 20
  A9 : J * r ≤ 5
  V9 : J * r * (r + h) ≤ 5
  X0 : 1 / 5 ≤ pfW J r h c
  X9 : pfW J r h c ≤ 10
theorem sq3 {J r p q : Rat} (hJ : 0 ≤ J) (p0 : 0 ≤ p) (p1 : p ≤ r) (q0 : 0 ≤ q) (q1 : q ≤ r) : 0 ≤ J * (p * p + p * q + q * q) ∧ J * (p * p + p * q + q * q) ≤ 3 * (J * r * r) := by
  have a1 := mul_up p0 p1 p0 p1
  have a2 := mul_up p0 p1 q0 q1
  have a3 := mul_up q0 q1 q0 q1
  have b1 := Rat.mul_nonneg (a := J) (b := p * p + p * q + q * q) hJ (by grind)
  have b2 := Rat.mul_nonneg (a := J) (b := 3 * (r * r) - (p * p + p * q + q * q)) hJ (by grind)
  constructor <;> grind
end Go.Fl
