/- The exact course of a plan: it never goes back, and goes no faster than its greatest speed. Plain Lean. -/
import Derived.Test.YtfpkdnopbnppmaaPnF
namespace Go.Fl
open Ieee
theorem pf_slope {J r h c : Rat} (H : PlIn J r h c) {k : Nat} (hk : k < 7) {s t : Rat} (s0 : 0 ≤ s) (st : s ≤ t) (t1 : t ≤ pfP r h c k) :
    pfL J r h c k s ≤ pfL J r h c k t ∧ pfL J r h c k t ≤ pfL J r h c k s + J * r * (r + h) * (t - s) := by
  have J0 := H.J0
  have r0 := H.r0
  have h0 := H.h0
  have A0 : 0 ≤ J * r := Rat.mul_nonneg (by grind) (by grind)
  have jrr : 0 ≤ J * r * r := Rat.mul_nonneg A0 (by grind)
  have jrh : 0 ≤ J * r * h := Rat.mul_nonneg A0 h0
  suffices g : ∃ g, 0 ≤ g ∧ g ≤ J * r * (r + h) ∧ pfL J r h c k t - pfL J r h c k s = (t - s) * g by
    obtain ⟨g, g0, g1, e⟩ := g
    have p1 := Rat.mul_nonneg (a := t - s) (b := g) (by grind) g0
    have p2 := Rat.mul_nonneg (a := t - s) (b := J * r * (r + h) - g) (by grind) (by grind)
    constructor <;> grind
  rcases lt7 hk with rfl | rfl | rfl | rfl | rfl | rfl | rfl <;> simp only [pfL, pfP, pfX, pfV, pfA, pfJ, pfW] at t1 ⊢
  · obtain ⟨a1, a2⟩ := sq3 (J := J) (r := r) (p := s) (q := t) (by grind) s0 (by grind) (by grind) t1
    exact ⟨J * (s * s + s * t + t * t) / 6, by grind, by grind, by grind⟩
  · have b1 := Rat.mul_nonneg (a := J * r) (b := s + t) A0 (by grind)
    have b2 := Rat.mul_nonneg (a := J * r) (b := 2 * h - (s + t)) A0 (by grind)
    exact ⟨J * r * r / 2 + J * r * (s + t) / 2, by grind, by grind, by grind⟩
  · obtain ⟨a1, a2⟩ := sq3 (J := J) (r := r) (p := r - s) (q := r - t) (by grind) (by grind) (by grind) (by grind) (by grind)
    exact ⟨J * r * (r + h) - J * ((r - s) * (r - s) + (r - s) * (r - t) + (r - t) * (r - t)) / 6, by grind, by grind, by grind⟩
  · exact ⟨J * r * (r + h), by grind, by grind, by grind⟩
  · obtain ⟨a1, a2⟩ := sq3 (J := J) (r := r) (p := s) (q := t) (by grind) s0 (by grind) (by grind) t1
    exact ⟨J * r * (r + h) - J * (s * s + s * t + t * t) / 6, by grind, by grind, by grind⟩
  · have b1 := Rat.mul_nonneg (a := J * r) (b := s + t) A0 (by grind)
    have b2 := Rat.mul_nonneg (a := J * r) (b := 2 * h - (s + t)) A0 (by grind)
    exact ⟨J * r * r / 2 + J * r * h - J * r * (s + t) / 2, by grind, by grind, by grind⟩
  · obtain ⟨a1, a2⟩ := sq3 (J := J) (r := r) (p := r - s) (q := r - t) (by grind) (by grind) (by grind) (by grind) (by grind)
    exact ⟨J * ((r - s) * (r - s) + (r - s) * (r - t) + (r - t) * (r - t)) / 6, by grind, by grind, by grind⟩
theorem pfP_pos {J r h c : Rat} (H : PlIn J r h c) {k : Nat} (hk : k < 7) : 0 ≤ pfP r h c k ∧ pfP r h c k ≤ 20 := by
  have r0 := H.r0
  have r9 := H.r9
  have h0 := H.h0
  have h9 := H.h9
  have c0 := H.c0
  have c9 := H.c9
  rcases lt7 hk with rfl | rfl | rfl | rfl | rfl | rfl | rfl <;> simp only [pfP] <;> constructor <;> grind
/-- from phase to phase -/
theorem pf_chain {J r h c : Rat} (H : PlIn J r h c) {m : Nat} : ∀ n, m ≤ n → n ≤ 7 → pfX J r h c m ≤ pfX J r h c n ∧ pfX J r h c n ≤ pfX J r h c m + J * r * (r + h) * (pfT r h c n - pfT r h c m) ∧ pfT r h c m ≤ pfT r h c n
  | 0, h1, _ => by
    have : m = 0 := by omega
    subst this
    refine ⟨by grind, by grind, by grind⟩
  | n + 1, h1, h7 => by
    by_cases e : m = n + 1
    · subst e
      refine ⟨by grind, by grind, by grind⟩
    · obtain ⟨i1, i2, i3⟩ := pf_chain H (m := m) n (by omega) (by omega)
      obtain ⟨p0, _⟩ := pfP_pos H (show n < 7 by omega)
      obtain ⟨s1, s2⟩ := pf_slope H (show n < 7 by omega) (s := 0) (t := pfP r h c n) (by grind) p0 (by grind)
      obtain ⟨e1, e2, _, _⟩ := pf_next J r h c (show n < 7 by omega)
      rw [e1, pf_start] at s1 s2
      rw [e2]
      refine ⟨by grind, by grind, by grind⟩
/-- a later place is further on, and not much further -/
theorem pf_order {J r h c : Rat} (H : PlIn J r h c) {m n : Nat} (hm : m < 7) (hn : n < 7) {s t : Rat} (s0 : 0 ≤ s) (s1 : s ≤ pfP r h c m) (t0 : 0 ≤ t) (t1 : t ≤ pfP r h c n) (hlt : m < n) :
    pfL J r h c m s ≤ pfL J r h c n t ∧ pfL J r h c n t ≤ pfL J r h c m s + J * r * (r + h) * (pfT r h c n + t - (pfT r h c m + s)) ∧ pfT r h c m + s ≤ pfT r h c n + t := by
  obtain ⟨a1, a2⟩ := pf_slope H hm s0 s1 Rat.le_refl
  obtain ⟨b1, b2⟩ := pf_slope H hn (s := 0) (t := t) Rat.le_refl t0 t1
  obtain ⟨e1, e2, _, _⟩ := pf_next J r h c hm
  obtain ⟨c1, c2, c3⟩ := pf_chain H (m := m + 1) n (by omega) (by omega)
  rw [e1] at a1 a2
  rw [pf_start] at b1 b2
  rw [e2] at c2 c3
  refine ⟨by grind, by grind, by grind⟩
/-- places at nearly ordered times are nearly in order -/
theorem pf_late {J r h c : Rat} (H : PlIn J r h c) {m n : Nat} (hm : m < 7) (hn : n < 7) {s t d : Rat} (s0 : 0 ≤ s) (s1 : s ≤ pfP r h c m) (t0 : 0 ≤ t) (t1 : t ≤ pfP r h c n) (d0 : 0 ≤ d)
    (hd : pfT r h c m + s ≤ pfT r h c n + t + d) : pfL J r h c m s ≤ pfL J r h c n t + J * r * (r + h) * d := by
  have A0 : 0 ≤ J * r := Rat.mul_nonneg (by have := H.J0; grind) (by have := H.r0; grind)
  have V0 : 0 ≤ J * r * (r + h) := Rat.mul_nonneg A0 (by have := H.r0; have := H.h0; grind)
  have Vd := Rat.mul_nonneg V0 d0
  rcases Nat.lt_trichotomy m n with hlt | rfl | hlt
  · obtain ⟨a1, a2, a3⟩ := pf_order H hm hn s0 s1 t0 t1 hlt
    grind
  · rcases Rat.le_total (a := s) (b := t) with h9 | h9
    · obtain ⟨a1, a2⟩ := pf_slope H hm s0 h9 t1
      grind
    · obtain ⟨a1, a2⟩ := pf_slope H hm t0 h9 s1
      have := Rat.mul_nonneg (a := J * r * (r + h)) (b := d - (s - t)) V0 (by grind)
      grind
  · obtain ⟨a1, a2, a3⟩ := pf_order H hn hm t0 t1 s0 s1 hlt
    have := Rat.mul_nonneg (a := J * r * (r + h)) (b := d - (pfT r h c m + s - (pfT r h c n + t))) V0 (by grind)
    grind
/-- within the whole way, and the bounds of a phase -/
theorem pf_bounds {J r h c : Rat} (H : PlIn J r h c) {k : Nat} (hk : k < 7) :
    (0 ≤ pfX J r h c k ∧ pfX J r h c k ≤ pfW J r h c) ∧ (0 ≤ pfV J r h k ∧ pfV J r h k ≤ J * r * (r + h)) ∧ (-(J * r) ≤ pfA J r k ∧ pfA J r k ≤ J * r) ∧ J * r * (r + h) * pfP r h c k ≤ pfW J r h c ∧ (k ≠ 3 → J * r * pfP r h c k ≤ J * r * (r + h)) := by
  have J0 := H.J0
  have r0 := H.r0
  have h0 := H.h0
  have c0 := H.c0
  have A0 : 0 ≤ J * r := Rat.mul_nonneg (by grind) (by grind)
  have jrr : 0 ≤ J * r * r := Rat.mul_nonneg A0 (by grind)
  have jrh : 0 ≤ J * r * h := Rat.mul_nonneg A0 h0
  have V0 : 0 ≤ J * r * (r + h) := Rat.mul_nonneg A0 (by grind)
  have Vr : 0 ≤ J * r * (r + h) * r := Rat.mul_nonneg V0 (by grind)
  have Vh : 0 ≤ J * r * (r + h) * h := Rat.mul_nonneg V0 h0
  have Vc : 0 ≤ J * r * (r + h) * c := Rat.mul_nonneg V0 c0
  have ch1 := pf_chain H (m := 0) k (by omega) (by omega)
  have ch2 := pf_chain H (m := k) 7 (by omega) (by omega)
  refine ⟨⟨ch1.1, ch2.1⟩, ?_⟩
  rcases lt7 hk with rfl | rfl | rfl | rfl | rfl | rfl | rfl <;> simp only [pfP, pfV, pfA, pfW] <;> refine ⟨⟨?_, ?_⟩, ⟨?_, ?_⟩, ?_, fun hne => ?_⟩ <;> first | grind | exact absurd rfl hne
end Go.Fl
