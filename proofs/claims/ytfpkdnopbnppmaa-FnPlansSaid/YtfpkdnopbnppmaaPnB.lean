/- The time of a plan is no less than the way at the greatest speed; the law's tests of speeds. Plain Lean. -/
import Derived.Test.YtfpkdnopbnppmaaPnA
namespace Go.Fl
open Ieee
def sumQ (F : Nat → Rat) : Nat → Rat
  | 0 => 0
  | k + 1 => sumQ F k + F k
/-- the least time, as the law sums it -/
def leastK (ls : List Nat) (most : Nat) : Nat → Nat
  | 0 => 0
  | k + 1 => fop .add .f64 (leastK ls most k) (fop .quo .f64 (fcv .f32 .f64 (nF ls k)) (fcv .f32 .f64 most))
theorem zero64 : isN .f64 0 = true ∧ R .f64 0 = 0 := ⟨by decide +kernel, R_zero_iff.2 (by decide +kernel)⟩
theorem least_step {ls : List Nat} {most rise n : Nat} (h : SpIn ls most rise n) {k : Nat} (hk : k < n) : isN .f64 (fop .quo .f64 (fcv .f32 .f64 (nF ls k)) (fcv .f32 .f64 most)) = true ∧ R .f64 (fop .quo .f64 (fcv .f32 .f64 (nF ls k)) (fcv .f32 .f64 most)) ≤ R .f32 (nF ls k) / R .f32 most + 1 / 1000000000 ∧ 0 ≤ R .f64 (fop .quo .f64 (fcv .f32 .f64 (nF ls k)) (fcv .f32 .f64 most)) ∧ R .f64 (fop .quo .f64 (fcv .f32 .f64 (nF ls k)) (fcv .f32 .f64 most)) ≤ 9 := by
  obtain ⟨l0, l1, l2⟩ := h.ls k hk
  have m1 := h.m1
  have m2 := h.m2
  obtain ⟨n1, e1⟩ := wide l0 (by grind) (by grind)
  obtain ⟨n2, e2⟩ := wide h.mN (by grind) (by grind)
  obtain ⟨q, hq⟩ : ∃ q, q = R .f32 (nF ls k) / R .f32 most := ⟨_, rfl⟩
  have hne : R .f32 most ≠ 0 := by grind
  have e : q * R .f32 most = R .f32 (nF ls k) := by rw [hq]; exact Rat.div_mul_cancel hne
  have q0 : 0 ≤ q := by
    rcases Rat.le_total (a := 0) (b := q) with h | h
    · exact h
    · have := Rat.mul_nonneg (a := -q) (b := R .f32 most) (by grind) (by grind); grind
  have q8 : q ≤ 8 := by
    rcases Rat.le_total (a := q) (b := 8) with h | h
    · exact h
    · have := Rat.mul_nonneg (a := q - 8) (b := R .f32 most - 1 / 2) (by grind) (by grind); grind
  have hd := rnd_div (q := q) n1 n2 (by rw [e2]; exact hne) (by rw [e1, e2]; exact e) (by grind) (by grind)
  have f := hd.n64 3 (by decide) (B := 8) rfl (by grind) (by grind)
  have g := hd.ge 0 zero64.1 (by rw [zero64.2]; exact q0)
  rw [zero64.2] at g
  rw [← hq]
  exact ⟨hd.num, by grind, g, by grind⟩
theorem least_ok {ls : List Nat} {most rise n : Nat} (h : SpIn ls most rise n) : ∀ k, k ≤ n → isN .f64 (leastK ls most k) = true ∧ 0 ≤ R .f64 (leastK ls most k) ∧ R .f64 (leastK ls most k) ≤ 10 * (((k : Nat) : Int) : Rat) ∧ R .f64 (leastK ls most k) ≤ sumQ (fun i => R .f32 (nF ls i) / R .f32 most) k + (((k : Nat) : Int) : Rat) / 1000000
  | 0, _ => by
    have e : (((0 : Nat) : Int) : Rat) = 0 := rfl
    rw [e]
    show isN .f64 0 = true ∧ 0 ≤ R .f64 0 ∧ R .f64 0 ≤ _ ∧ R .f64 0 ≤ 0 + _
    rw [zero64.2]
    exact ⟨zero64.1, by grind, by grind, by grind⟩
  | k + 1, hk => by
    obtain ⟨i1, i2, i3, i4⟩ := least_ok h k (by omega)
    obtain ⟨s1, s2, s3, s4⟩ := least_step h (show k < n by omega)
    have e : (((k + 1 : Nat) : Int) : Rat) = (((k : Nat) : Int) : Rat) + 1 := by rw [Int.natCast_add, Rat.intCast_add]; rfl
    have n7 := h.n7
    have k0 : (0 : Rat) ≤ (((k : Nat) : Int) : Rat) := Rat.intCast_nonneg.2 (Int.natCast_nonneg _)
    have k7 : (((k : Nat) : Int) : Rat) ≤ ((7 : Int) : Rat) := Rat.intCast_le_intCast.2 (by omega)
    have k7 : (((k : Nat) : Int) : Rat) ≤ 7 := k7
    obtain ⟨K, hK⟩ : ∃ K, K = (((k : Nat) : Int) : Rat) := ⟨_, rfl⟩
    rw [← hK] at e k0 k7 i3 i4
    have ha := rnd_add i1 s1 (by grind) (by grind)
    have f := ha.n64 7 (by decide) (B := 128) rfl (by grind) (by grind)
    have g := ha.ge 0 zero64.1 (by rw [zero64.2]; grind)
    rw [zero64.2] at g
    rw [e]
    show isN .f64 (fop .add .f64 _ _) = true ∧ 0 ≤ R .f64 (fop .add .f64 _ _) ∧ R .f64 (fop .add .f64 _ _) ≤ _ ∧ R .f64 (fop .add .f64 _ _) ≤ sumQ _ k + _ + _
    exact ⟨ha.num, g, by grind, by grind⟩
/-- one piece's time -/
theorem time_step {ls V : List Nat} {most rise n : Nat} (h : SpIn ls most rise n) (hv : VIn V most n) {k : Nat} (hk : k < n) :
    isN .f32 (fadd (nF V k) (nF V (k + 1))) = true ∧ 48 / 100 ≤ R .f32 (fadd (nF V k) (nF V (k + 1))) ∧ isN .f32 (fdiv (fmul 1073741824 (nF ls k)) (fadd (nF V k) (nF V (k + 1)))) = true ∧
      R .f32 (nF ls k) / R .f32 most - 1 / 30000 ≤ R .f32 (fdiv (fmul 1073741824 (nF ls k)) (fadd (nF V k) (nF V (k + 1)))) ∧ R .f32 (fdiv (fmul 1073741824 (nF ls k)) (fadd (nF V k) (nF V (k + 1)))) ≤ 18 ∧ 1 / 17 ≤ R .f32 (nF ls k) / R .f32 most := by
  obtain ⟨l0, l1, l2⟩ := h.ls k hk
  have m1 := h.m1
  have m2 := h.m2
  obtain ⟨a0, a1, a2⟩ := hv.num k (by omega)
  obtain ⟨b0, b1, b2⟩ := hv.num (k + 1) (by omega)
  have hmid : 49 / 100 ≤ R .f32 (nF V k) + R .f32 (nF V (k + 1)) := by
    have n2 := h.n2
    by_cases e : k = 0
    · have := hv.mid (k + 1) (by omega) (by omega)
      grind
    · have := hv.mid k (by omega) hk
      grind
  have hs := rnd_add a0 b0 (by grind) (by grind)
  have f1 := hs.n32 3 (by decide) (B := 8) rfl (by grind) (by grind)
  have hm := rnd_mul two_N.1 l0 (by rw [two_N.2]; grind) (by rw [two_N.2]; grind)
  rw [two_N.2] at hm
  have f2 := hm.n32 3 (by decide) (B := 8) rfl (by grind) (by grind)
  obtain ⟨S, hS⟩ : ∃ S, S = R .f32 (fop .add .f32 (nF V k) (nF V (k + 1))) := ⟨_, rfl⟩
  obtain ⟨L, hL⟩ : ∃ L, L = R .f32 (fop .mul .f32 1073741824 (nF ls k)) := ⟨_, rfl⟩
  rw [← hS] at f1
  rw [← hL] at f2
  have hne : S ≠ 0 := by grind
  obtain ⟨q, hq⟩ : ∃ q, q = L / S := ⟨_, rfl⟩
  have e : q * S = L := by rw [hq]; exact Rat.div_mul_cancel hne
  have q0 : 0 ≤ q := by
    rcases Rat.le_total (a := 0) (b := q) with h | h
    · exact h
    · have := Rat.mul_nonneg (a := -q) (b := S) (by grind) (by grind); grind
  have q17 : q ≤ 17 := by
    rcases Rat.le_total (a := q) (b := 17) with h | h
    · exact h
    · have := Rat.mul_nonneg (a := q - 17) (b := S - 48 / 100) (by grind) (by grind); grind
  have hd := rnd_div (x := fop .mul .f32 1073741824 (nF ls k)) (y := fop .add .f32 (nF V k) (nF V (k + 1))) (q := q) hm.num hs.num (by rw [← hS]; exact hne) (by rw [← hS, ← hL]; exact e) (by grind) (by grind)
  have f3 := hd.n32 5 (by decide) (B := 32) rfl (by grind) (by grind)
  obtain ⟨w, hw⟩ : ∃ w, w = R .f32 (nF ls k) / R .f32 most := ⟨_, rfl⟩
  have e2 : w * R .f32 most = R .f32 (nF ls k) := by rw [hw]; exact Rat.div_mul_cancel (by grind)
  have w1 : 1 / 17 ≤ w := by
    rcases Rat.le_total (a := 1 / 17) (b := w) with h | h
    · exact h
    · have := Rat.mul_nonneg (a := 1 / 17 - w) (b := R .f32 most) (by grind) (by grind); grind
  have w8 : w ≤ 8 := by
    rcases Rat.le_total (a := w) (b := 8) with h | h
    · exact h
    · have := Rat.mul_nonneg (a := w - 8) (b := R .f32 most - 1 / 2) (by grind) (by grind); grind
  have wq : w - 1 / 45000 ≤ q := by
    rcases Rat.le_total (a := w - 1 / 45000) (b := q) with h | h
    · exact h
    · have p1 := Rat.mul_nonneg (a := w - 1 / 45000 - q) (b := S) (by grind) (by grind)
      have p2 := Rat.mul_nonneg (a := w) (b := 2 * R .f32 most + 1 / 1000000 - S) (by grind) (by grind)
      grind
  show isN .f32 (fop .add .f32 _ _) = true ∧ 48 / 100 ≤ R .f32 (fop .add .f32 _ _) ∧ isN .f32 (fop .quo .f32 (fop .mul .f32 _ _) (fop .add .f32 _ _)) = true ∧ _ ≤ R .f32 (fop .quo .f32 (fop .mul .f32 _ _) (fop .add .f32 _ _)) ∧ R .f32 (fop .quo .f32 (fop .mul .f32 _ _) (fop .add .f32 _ _)) ≤ 18 ∧ _
  rw [← hw, ← hS]
  exact ⟨hs.num, by grind, hd.num, by grind, by grind, w1⟩
theorem time_ok {ls V : List Nat} {most rise n : Nat} (h : SpIn ls most rise n) (hv : VIn V most n) : ∀ k, k ≤ n → isN .f32 (spSum ls V k) = true ∧ R .f32 (spSum ls V k) ≤ 1801 / 100 * (((k : Nat) : Int) : Rat) ∧ sumQ (fun i => R .f32 (nF ls i) / R .f32 most) k - (((k : Nat) : Int) : Rat) / 20000 ≤ R .f32 (spSum ls V k) ∧ (((k : Nat) : Int) : Rat) / 20 ≤ R .f32 (spSum ls V k)
  | 0, _ => by
    have e : (((0 : Nat) : Int) : Rat) = 0 := rfl
    rw [e]
    show isN .f32 0 = true ∧ R .f32 0 ≤ _ ∧ 0 - _ ≤ R .f32 0 ∧ _ ≤ R .f32 0
    rw [R_zero]
    exact ⟨zero_N.1, by grind, by grind, by grind⟩
  | k + 1, hk => by
    obtain ⟨i1, i2, i3, i4⟩ := time_ok h hv k (by omega)
    obtain ⟨s1, s2, s3, s4, s5, s6⟩ := time_step h hv (show k < n by omega)
    have e : (((k + 1 : Nat) : Int) : Rat) = (((k : Nat) : Int) : Rat) + 1 := by rw [Int.natCast_add, Rat.intCast_add]; rfl
    have n7 := h.n7
    have k0 : (0 : Rat) ≤ (((k : Nat) : Int) : Rat) := Rat.intCast_nonneg.2 (Int.natCast_nonneg _)
    have k7 : (((k : Nat) : Int) : Rat) ≤ ((6 : Int) : Rat) := Rat.intCast_le_intCast.2 (by omega)
    have k7 : (((k : Nat) : Int) : Rat) ≤ 6 := k7
    obtain ⟨K, hK⟩ : ∃ K, K = (((k : Nat) : Int) : Rat) := ⟨_, rfl⟩
    rw [← hK] at e k0 k7 i2 i3 i4
    obtain ⟨T, hT⟩ : ∃ T, T = R .f32 (fdiv (fmul 1073741824 (nF ls k)) (fadd (nF V k) (nF V (k + 1)))) := ⟨_, rfl⟩
    rw [← hT] at s4 s5
    have ha := rnd_add i1 s3 (by rw [← hT]; grind) (by rw [← hT]; grind)
    rw [← hT] at ha
    have f := ha.n32 7 (by decide) (B := 128) rfl (by grind) (by grind)
    rw [e]
    show isN .f32 (fop .add .f32 _ _) = true ∧ R .f32 (fop .add .f32 _ _) ≤ _ ∧ sumQ _ k + _ - _ ≤ R .f32 (fop .add .f32 _ _) ∧ _ ≤ R .f32 (fop .add .f32 _ _)
    exact ⟨ha.num, by grind, by grind, by grind⟩
theorem above_N {x : Nat} (h : isN .f32 x = true) (h0 : 0 < R .f32 x) : above x = true := by
  unfold above
  rw [fin_N h, fgt_R h zero_N.1, R_zero, decide_eq_true h0]; rfl
theorem all_nF {V : List Nat} {p : Nat → Bool} (h : ∀ i, i < V.length → p (nF V i) = true) : V.all p = true := List.all_eq_true.2 fun x hx => by
  obtain ⟨i, hi, rfl⟩ := List.getElem_of_mem hx
  have := h i hi
  unfold nF at this
  rw [List.getD_eq_getElem?_getD, List.getElem?_eq_getElem hi] at this
  exact this
/-- the plan of speeds is made -/
theorem sp_ok {ls : List Nat} {most rise n : Nat} (h : SpIn ls most rise n) : spOk ls most rise := by
  obtain ⟨hv, _⟩ := speeds_ok h
  have n2 := h.n2
  have n7 := h.n7
  have m1 := h.m1
  have r1 := h.r1
  have hl := h.len
  refine ⟨by omega, by omega, all_nF fun i hi => ?_, above_N h.mN (by grind), above_N h.rN (by grind), fun i hi => ?_, all_nF fun i hi => fin_N (hv.num i (by have := hv.len; omega)).1, ?_⟩
  · obtain ⟨l0, l1, _⟩ := h.ls i (by omega)
    exact above_N l0 (by grind)
  · obtain ⟨s1, s2, _⟩ := time_step h hv (show i < n by omega)
    rw [fgt_R s1 zero_N.1, R_zero]
    exact decide_eq_true (by grind)
  · rw [hl]
    exact fin_N (time_ok h hv n (Nat.le_refl _)).1
def gapF (a b : Nat) : Nat := if R .f64 a < R .f64 b then fop .sub .f64 b a else fop .sub .f64 a b
theorem gap_facts {a b : Nat} (ha : isN .f64 a = true) (hb : isN .f64 b = true) (a1 : -10000 ≤ R .f64 a) (a2 : R .f64 a ≤ 10000) (b1 : -10000 ≤ R .f64 b) (b2 : R .f64 b ≤ 10000) :
    isN .f64 (gapF a b) = true ∧ (∀ c : Rat, -c ≤ R .f64 a - R .f64 b → R .f64 a - R .f64 b ≤ c → R .f64 (gapF a b) ≤ c + 1 / 1000000) ∧ isN .f64 (if R .f64 a < R .f64 b then fop .sub .f64 b a else fop .sub .f64 a b) = true := by
  unfold gapF
  split
  · have h := rnd_sub hb ha (by grind) (by grind)
    have f := h.n64 15 (by decide) (B := 32768) rfl (by grind) (by grind)
    exact ⟨h.num, fun c h1 h2 => by grind, h.num⟩
  · have h := rnd_sub ha hb (by grind) (by grind)
    have f := h.n64 15 (by decide) (B := 32768) rfl (by grind) (by grind)
    exact ⟨h.num, fun c h1 h2 => by grind, h.num⟩
end Go.Fl
