/- The way that a plan has gone, as the float computes it: near the exact course. Plain Lean. -/
import Derived.Test.YtfpkdnopbnppmaaPnG
import Derived.Test.YtfpkdnopbnppmaaPlanWay
namespace Go.Fl
open Ieee Go.Proofs.Ytfpkdnopbnppmaa
def dT : Rat := 1 / 131072
theorem dT_eq : dT = 1 / 131072 := rfl
theorem sel {t p s : Nat} (hs : s = if flt t p then t else p) (ht : isN .f32 t = true) (hp : isN .f32 p = true) (t0 : 0 ≤ R .f32 t) (t9 : R .f32 t ≤ 64) (p0 : 0 ≤ R .f32 p) (p9 : R .f32 p ≤ 64) :
    isN .f32 s = true ∧ 0 ≤ R .f32 s ∧ R .f32 s ≤ R .f32 p ∧ R .f32 s ≤ R .f32 t ∧ ((R .f32 s = R .f32 t ∧ isN .f32 (fsub t s) = true ∧ R .f32 (fsub t s) = 0) ∨
      (s = p ∧ isN .f32 (fsub t s) = true ∧ 0 ≤ R .f32 (fsub t s) ∧ R .f32 (fsub t s) ≤ R .f32 t ∧ Er (R .f32 (fsub t s)) (R .f32 t - R .f32 p) dT)) := by
  rw [flt_R ht hp] at hs
  by_cases c : R .f32 t < R .f32 p
  · rw [if_pos (by simpa using c)] at hs
    subst hs
    have hr : Rnd .f32 (fsub s s) (R .f32 s - R .f32 s) := rnd_sub ht ht (by grind) (by grind)
    exact ⟨ht, t0, by grind, by grind, .inl ⟨rfl, hr.num, hr.zero (by grind)⟩⟩
  · rw [if_neg (by simpa using c)] at hs
    subst hs
    have hr : Rnd .f32 (fsub t s) (R .f32 t - R .f32 s) := rnd_sub ht hp (by grind) (by grind)
    have f := hr.n32 6 (by decide) (B := 64) rfl (by grind) (by grind)
    have g := hr.pos (by grind)
    have l := hr.le t ht (by grind)
    exact ⟨hp, p0, by grind, by grind, .inr ⟨rfl, hr.num, g, l, ⟨by rw [dT_eq]; grind, by rw [dT_eq]; grind⟩⟩⟩
structure PlW (jw rw hw cw : Nat) : Prop where
  nj : isN .f32 jw = true
  nr : isN .f32 rw = true
  nh : isN .f32 hw = true
  nc : isN .f32 cw = true
  pin : PlIn (R .f32 jw) (R .f32 rw) (R .f32 hw) (R .f32 cw)
theorem ph_facts {jw rw hw cw : Nat} (H : PlW jw rw hw cw) {k : Nat} (hk : k < 7) {p : Nat × Nat} (hp : (phases jw rw hw cw).getD k (0, 0) = p) :
    isN .f32 p.1 = true ∧ isN .f32 p.2 = true ∧ R .f32 p.1 = pfP (R .f32 rw) (R .f32 hw) (R .f32 cw) k ∧ R .f32 p.2 = pfJ (R .f32 jw) k ∧ (k = 0 ∨ k = 2 → p.1 = rw) ∧ (k = 0 → p.2 = jw) ∧ (k = 2 → p.2 = fnegK .f32 jw) := by
  have n := neg_N H.nj
  subst hp
  rcases lt7 hk with rfl | rfl | rfl | rfl | rfl | rfl | rfl <;> simp only [phases, List.getD_cons_zero, List.getD_cons_succ, pfP, pfJ]
  · exact ⟨H.nr, H.nj, trivial, trivial, fun _ => trivial, fun _ => trivial, by simp⟩
  · exact ⟨H.nh, zero_N.1, trivial, R_zero, by simp, by simp, by simp⟩
  · exact ⟨H.nr, n.1, trivial, n.2.1, fun _ => trivial, by simp, fun _ => trivial⟩
  · exact ⟨H.nc, zero_N.1, trivial, R_zero, by simp, by simp, by simp⟩
  · exact ⟨H.nr, n.1, trivial, n.2.1, by simp, by simp, by simp⟩
  · exact ⟨H.nh, zero_N.1, trivial, R_zero, by simp, by simp, by simp⟩
  · exact ⟨H.nr, H.nj, trivial, trivial, by simp, by simp, by simp⟩
theorem pf_Jm {J r h c : Rat} (H : PlIn J r h c) {k : Nat} (hk : k < 7) : ∃ Jm, -Jm ≤ pfJ J k ∧ pfJ J k ≤ Jm ∧ Jm * pfP r h c k ≤ J * r ∧ 1 / 1000000 ≤ Jm ∧ Jm ≤ 1000 := by
  have J0 := H.J0
  have J9 := H.J9
  have r0 := H.r0
  have h0 := H.h0
  have h9 := H.h9
  have c0 := H.c0
  have c9 := H.c9
  have A9 := H.A9
  have jr := Rat.mul_nonneg (a := J - 1 / 2) (b := r - 1 / 100) (by grind) (by grind)
  have ah := Rat.mul_nonneg (a := J * r) (b := 20 - h) (by grind) (by grind)
  have ac := Rat.mul_nonneg (a := J * r) (b := 20 - c) (by grind) (by grind)
  rcases lt7 hk with rfl | rfl | rfl | rfl | rfl | rfl | rfl <;> simp only [pfP, pfJ]
  · exact ⟨J, by grind, by grind, by grind, by grind, by grind⟩
  · exact ⟨J * r / 20, by grind, by grind, by grind, by grind, by grind⟩
  · exact ⟨J, by grind, by grind, by grind, by grind, by grind⟩
  · exact ⟨J * r / 20, by grind, by grind, by grind, by grind, by grind⟩
  · exact ⟨J, by grind, by grind, by grind, by grind, by grind⟩
  · exact ⟨J * r / 20, by grind, by grind, by grind, by grind, by grind⟩
  · exact ⟨J, by grind, by grind, by grind, by grind, by grind⟩
def erA : Nat → Rat | 0 => 0 | 1 => 5 * ee | 2 => 10 * ee | 3 => 0 | 4 => 0 | 5 => 5 * ee | 6 => 10 * ee | _ => 15 * ee
def erV : Nat → Rat | 0 => 0 | 1 => 12 * ee | 2 => 29 * ee | 3 => 51 * ee | 4 => 51 * ee | 5 => 63 * ee | 6 => 80 * ee | _ => 102 * ee
def erX : Nat → Rat | 0 => 0 | 1 => 20 * ee | 2 => 57 * ee | 3 => 116 * ee | 4 => 187 * ee | 5 => 258 * ee | 6 => 346 * ee | _ => 456 * ee
theorem er_facts {k : Nat} (hk : k < 7) : (0 ≤ erA k ∧ erA k ≤ 1 / 10) ∧ (0 ≤ erV k ∧ erV k ≤ 1 / 10) ∧ (0 ≤ erX k ∧ erX k ≤ 1 / 10) ∧ (erX k + erV k + erA k + 20 * ee ≤ erX (k + 1)) ∧ (k ≠ 3 → erV k + erA k + 12 * ee ≤ erV (k + 1)) ∧ (k ≠ 2 → k ≠ 3 → erA k + 5 * ee ≤ erA (k + 1)) ∧ erX (k + 1) ≤ 456 * ee := by
  have e0 : (0 : Rat) ≤ ee := by rw [ee_eq]; grind
  have e1 : ee ≤ 1 / 10000 := by rw [ee_eq]; grind
  rcases lt7 hk with rfl | rfl | rfl | rfl | rfl | rfl | rfl <;> simp only [erA, erV, erX] <;> refine ⟨⟨?_, ?_⟩, ⟨?_, ?_⟩, ⟨?_, ?_⟩, ?_, fun h => ?_, fun h1 h2 => ?_, ?_⟩ <;> grind
structure Run (jw rw hw cw : Nat) (T0 : Rat) (k : Nat) (st : Nat × Nat × Nat × Nat) : Prop where
  nx : isN .f32 st.1 = true
  nv : isN .f32 st.2.1 = true
  na : isN .f32 st.2.2.1 = true
  nt : isN .f32 st.2.2.2 = true
  ex : Er (R .f32 st.1) (pfX (R .f32 jw) (R .f32 rw) (R .f32 hw) (R .f32 cw) k) (erX k * pfW (R .f32 jw) (R .f32 rw) (R .f32 hw) (R .f32 cw))
  ev : Er (R .f32 st.2.1) (pfV (R .f32 jw) (R .f32 rw) (R .f32 hw) k) (erV k * (R .f32 jw * R .f32 rw * (R .f32 rw + R .f32 hw)))
  ea : Er (R .f32 st.2.2.1) (pfA (R .f32 jw) (R .f32 rw) k) (erA k * (R .f32 jw * R .f32 rw))
  t0 : 0 ≤ R .f32 st.2.2.2
  t9 : R .f32 st.2.2.2 ≤ 64
  tm : Er T0 (pfT (R .f32 rw) (R .f32 hw) (R .f32 cw) k + R .f32 st.2.2.2) (((k : Nat) : Int) * dT)
  a1 : k = 1 ∨ k = 2 → R .f32 st.2.2.1 = R .f32 (fmul jw rw)
  a3 : k = 3 ∨ k = 4 → R .f32 st.2.2.1 = 0
structure Done (jw rw hw cw : Nat) (T0 : Rat) (k : Nat) (st : Nat × Nat × Nat × Nat) : Prop where
  nx : isN .f32 st.1 = true
  nv : isN .f32 st.2.1 = true
  na : isN .f32 st.2.2.1 = true
  nt : isN .f32 st.2.2.2 = true
  z : R .f32 st.2.2.2 = 0
  v1 : -1000 ≤ R .f32 st.2.1
  v2 : R .f32 st.2.1 ≤ 1000
  c1 : -1000 ≤ R .f32 st.2.2.1
  c2 : R .f32 st.2.2.1 ≤ 1000
  place : ∃ m s, m < 7 ∧ 0 ≤ s ∧ s ≤ pfP (R .f32 rw) (R .f32 hw) (R .f32 cw) m ∧ Er (R .f32 st.1) (pfL (R .f32 jw) (R .f32 rw) (R .f32 hw) (R .f32 cw) m s) (456 * ee * pfW (R .f32 jw) (R .f32 rw) (R .f32 hw) (R .f32 cw)) ∧ Er T0 (pfT (R .f32 rw) (R .f32 hw) (R .f32 cw) m + s) (7 * dT)
theorem cast_le {m n : Nat} (h : m ≤ n) : (((m : Nat) : Int) : Rat) ≤ (((n : Nat) : Int) : Rat) := Rat.intCast_le_intCast.2 (Int.ofNat_le.2 h)
/-- one phase -/
theorem run_step {jw rw hw cw : Nat} {T0 : Rat} (H : PlW jw rw hw cw) {k : Nat} (hk : k < 7) {st : Nat × Nat × Nat × Nat} (h : Run jw rw hw cw T0 k st) {p : Nat × Nat} (hp : (phases jw rw hw cw).getD k (0, 0) = p) :
    Run jw rw hw cw T0 (k + 1) (pwStep st p) ∨ Done jw rw hw cw T0 (k + 1) (pwStep st p) := by
  obtain ⟨x, v, a, t⟩ := st
  obtain ⟨nx, nv, na, nt, ex, ev, ea, t0, t9, tm, a1, a3⟩ := h
  simp only at nx nv na nt ex ev ea t0 t9 tm a1 a3
  obtain ⟨np, nj, ep, ej, e1, e2, e3⟩ := ph_facts H hk hp
  obtain ⟨P0, P9⟩ := pfP_pos H.pin hk
  obtain ⟨s, hs⟩ : ∃ s, s = if flt t p.1 then t else p.1 := ⟨_, rfl⟩
  obtain ⟨ns, s0, s1, _, hcase⟩ := sel hs nt np t0 t9 (by rw [ep]; exact P0) (by rw [ep]; grind)
  have est : pwStep (x, v, a, t) p = (pX x v a p.2 s, pV v a p.2 s, pA a p.2 s, fsub t s) := by rw [hs]; rfl
  rw [est]
  obtain ⟨⟨b1, b2⟩, ⟨b3, b4⟩, ⟨b5, b6⟩, b7, b8⟩ := pf_bounds H.pin hk
  obtain ⟨n1, n2, n3, n4⟩ := pf_next (R .f32 jw) (R .f32 rw) (R .f32 hw) (R .f32 cw) hk
  obtain ⟨⟨f1, f2⟩, ⟨f3, f4⟩, ⟨f5, f6⟩, f7, f8, f9, fa⟩ := er_facts hk
  have hW0 := H.pin.X0
  have hW9 := H.pin.X9
  have hV9 := H.pin.V9
  have hA9 := H.pin.A9
  have hA0 : 1 / 200 ≤ R .f32 jw * R .f32 rw := by
    have := Rat.mul_nonneg (a := R .f32 jw - 1 / 2) (b := R .f32 rw - 1 / 100) (by have := H.pin.J0; grind) (by have := H.pin.r0; grind)
    have := H.pin.J0
    have := H.pin.r0
    grind
  have hV0 : 1 / 20000 ≤ R .f32 jw * R .f32 rw * (R .f32 rw + R .f32 hw) := by
    have := Rat.mul_nonneg (a := R .f32 jw * R .f32 rw - 1 / 200) (b := R .f32 rw + R .f32 hw - 1 / 100) (by grind) (by have := H.pin.r0; have := H.pin.h0; grind)
    have := H.pin.r0
    have := H.pin.h0
    grind
  have hv0 : pfX (R .f32 jw) (R .f32 rw) (R .f32 hw) (R .f32 cw) k + (pfV (R .f32 jw) (R .f32 rw) (R .f32 hw) k * R .f32 s + pfA (R .f32 jw) (R .f32 rw) k / 2 * R .f32 s * R .f32 s + pfJ (R .f32 jw) k * R .f32 s * R .f32 s * R .f32 s / 6) = pfL (R .f32 jw) (R .f32 rw) (R .f32 hw) (R .f32 cw) k (R .f32 s) := rfl
  rw [ep] at s1
  generalize hWW : pfW (R .f32 jw) (R .f32 rw) (R .f32 hw) (R .f32 cw) = W at *
  generalize hVV : R .f32 jw * R .f32 rw * (R .f32 rw + R .f32 hw) = V at *
  generalize hAA : R .f32 jw * R .f32 rw = A at *
  have hVs : V * R .f32 s ≤ W := Rat.le_trans (Rat.mul_le_mul_of_nonneg_left s1 (by grind)) b7
  have up : ∀ {a b B : Rat}, a ≤ b → 0 ≤ B → a * B ≤ b * B := fun h k => Rat.mul_le_mul_of_nonneg_right h k
  have key : (isN .f32 (pX x v a p.2 s) = true ∧ Er (R .f32 (pX x v a p.2 s)) (pfL (R .f32 jw) (R .f32 rw) (R .f32 hw) (R .f32 cw) k (R .f32 s)) (erX (k + 1) * W)) ∧
      (isN .f32 (pV v a p.2 s) = true ∧ Er (R .f32 (pV v a p.2 s)) (pfV (R .f32 jw) (R .f32 rw) (R .f32 hw) k + (pfA (R .f32 jw) (R .f32 rw) k * R .f32 s + pfJ (R .f32 jw) k / 2 * R .f32 s * R .f32 s)) (erV (k + 1) * V)) ∧
      (isN .f32 (pA a p.2 s) = true ∧ (k ≠ 2 → Er (R .f32 (pA a p.2 s)) (pfA (R .f32 jw) (R .f32 rw) k + pfJ (R .f32 jw) k * R .f32 s) (erA (k + 1) * A)) ∧ (k = 3 → R .f32 (pA a p.2 s) = 0)) ∧
      (-1000 ≤ R .f32 (pV v a p.2 s) ∧ R .f32 (pV v a p.2 s) ≤ 1000) ∧ (-1000 ≤ R .f32 (pA a p.2 s) ∧ R .f32 (pA a p.2 s) ≤ 1000) := by
    by_cases k3 : k = 3
    · subst k3
      obtain ⟨⟨g1, g2⟩, ⟨g3, g4⟩, ⟨g5, g6⟩⟩ := cruise_er nx nv na nj ns ex ev (a3 (.inl rfl)) (by rw [ej]; rfl) f3 f4 f5 f6 (by grind) b2 (by grind) b4 s0 hVs (by grind) (by grind) (by grind) (by grind)
      have z1 : pfA (R .f32 jw) (R .f32 rw) 3 = 0 := rfl
      have z2 : pfJ (R .f32 jw) 3 = 0 := rfl
      have u1 := up (B := W) (show erX 3 + erV 3 + 20 * ee ≤ erX (3 + 1) by grind) (by grind)
      have u2 : erV (3 + 1) = erV 3 := rfl
      have bV := Rat.mul_nonneg (a := 1 - erV 3) (b := V) (by grind) (by grind)
      have q1 := ev.1
      have q2 := ev.2
      rw [← hv0, z1, z2, g4, g6, u2]
      generalize pfX (R .f32 jw) (R .f32 rw) (R .f32 hw) (R .f32 cw) 3 = X at *
      generalize pfV (R .f32 jw) (R .f32 rw) (R .f32 hw) 3 = Vk at *
      obtain ⟨g7, g8⟩ := g2.up u1
      refine ⟨⟨g1, by grind, by grind⟩, ⟨g3, by grind, by grind⟩, ⟨g5, fun _ => ⟨?_, ?_⟩, fun _ => rfl⟩, ⟨by grind, by grind⟩, by grind, by grind⟩
      · show 0 + 0 * R .f32 s - 0 * A ≤ 0
        grind
      · show 0 ≤ 0 + 0 * R .f32 s + 0 * A
        grind
    · obtain ⟨Jm, j1, j2, j3, j4, j5⟩ := pf_Jm H.pin hk
      rw [hAA] at j3
      have hJs : Jm * R .f32 s ≤ A := Rat.le_trans (Rat.mul_le_mul_of_nonneg_left s1 (by grind)) j3
      have hAs : A * R .f32 s ≤ V := Rat.le_trans (Rat.mul_le_mul_of_nonneg_left s1 (by grind)) (b8 k3)
      obtain ⟨⟨g1, g2⟩, ⟨g3, g4⟩, ⟨g5, g6⟩, ⟨g7, g8⟩, g9, ga⟩ := phase_er nx nv na nj ns ex ev ea ej f1 f2 f3 f4 f5 f6 (by grind) b2 (by grind) b4 b5 b6 j1 j2 s0 hJs hAs hVs (by grind) (by grind) (by grind) (by grind) (by grind) (by grind) (by grind) (by grind)
      rw [hv0] at g2
      exact ⟨⟨g1, g2.up (up f7 (by grind))⟩, ⟨g3, g4.up (up (f8 k3) (by grind))⟩, ⟨g5, fun k2 => g6.up (up (f9 k2 k3) (by grind)), fun h9 => absurd h9 k3⟩, ⟨by grind, by grind⟩, by grind, by grind⟩
  obtain ⟨⟨x1, x2⟩, ⟨v1, v2⟩, ⟨c1, c2, c3⟩, ⟨d1, d2⟩, d3, d4⟩ := key
  have k7 := cast_le (show k ≤ 6 by omega)
  have k70 : (((6 : Nat) : Int) : Rat) = 6 := rfl
  rw [k70] at k7
  have kd : (((k : Nat) : Int) : Rat) * dT ≤ 6 * dT := up k7 (by rw [dT_eq]; grind)
  have d0 : (0 : Rat) ≤ dT := by rw [dT_eq]; grind
  obtain ⟨t1, t2⟩ := tm
  rcases hcase with ⟨h1, h2, h3⟩ | ⟨h1, h2, h3, h4, h5⟩
  · right
    refine ⟨x1, v1, c1, h2, h3, d1, d2, d3, d4, k, R .f32 s, hk, s0, s1, ?_, ?_⟩
    · rw [hWW]; exact x2.up (up fa (by grind))
    · rw [h1]; exact ⟨by grind, by grind⟩
  · left
    have eS : R .f32 s = pfP (R .f32 rw) (R .f32 hw) (R .f32 cw) k := by rw [h1, ep]
    rw [eS] at x2 v2 c2
    rw [n1] at x2
    rw [n3] at v2
    rw [n4] at c2
    have e4 : (((k + 1 : Nat) : Int) : Rat) = (((k : Nat) : Int) : Rat) + 1 := by rw [Int.natCast_add, Rat.intCast_add]; rfl
    obtain ⟨h5, h6⟩ := h5
    rw [ep] at h5 h6
    have ea' : k = 2 → R .f32 (pA a p.2 s) = 0 := fun k2 => by
      have nf : isN .f32 (fmul jw rw) = true := by
        have hAA' := hAA
        exact (rnd_mul H.nj H.nr (by rw [hAA]; grind) (by rw [hAA]; grind)).num
      obtain ⟨_, _, w3⟩ := neg_N H.nj
      obtain ⟨w4, w5⟩ := w3 rw H.nr nf
      have e5 : fmul p.2 s = fmul (fnegK .f32 jw) rw := by rw [e3 k2, h1, e1 (.inr k2)]
      have e6 := a1 (.inr k2)
      show R .f32 (fadd a (fmul p.2 s)) = 0
      rw [e5]
      have hr : Rnd .f32 (fadd a (fmul (fnegK .f32 jw) rw)) _ := rnd_add na w4 (by rw [w5, e6]; grind) (by rw [w5, e6]; grind)
      exact hr.zero (by rw [w5, e6]; grind)
    refine ⟨x1, v1, c1, h2, by rw [hWW]; exact x2, by rw [hAA, hVV]; exact v2, ?_, h3, by grind, ?_, fun h9 => ?_, fun h9 => ?_⟩
    · rw [hAA]
      by_cases k2 : k = 2
      · rw [ea' k2]
        subst k2
        show Er 0 0 (0 * A)
        exact Er.self _ (by grind)
      · exact c2 k2
    · rw [n2, e4]
      exact ⟨by grind, by grind⟩
    · have q1 := ea.1
      have q2 := ea.2
      have nf : Rnd .f32 (fmul jw rw) _ := rnd_mul H.nj H.nr (by rw [hAA]; grind) (by rw [hAA]; grind)
      show R .f32 (fadd a (fmul p.2 s)) = _
      rcases h9 with h9 | h9
      · have k0 : k = 0 := by omega
        subst k0
        have z : R .f32 a = 0 := by
          have z1 : pfA (R .f32 jw) (R .f32 rw) 0 = 0 := rfl
          have z2 : erA 0 = 0 := rfl
          rw [z1, z2] at q1 q2
          grind
        have e5 : fmul p.2 s = fmul jw rw := by rw [e2 rfl, h1, e1 (.inl rfl)]
        rw [e5]
        have f := nf.sc (c := 10) (by grind) (by grind) (by rw [hAA]; grind) (by rw [hAA]; grind)
        rw [hAA] at f
        exact (add0 na nf.num (by grind) (by grind) z).2
      · have k1 : k = 1 := by omega
        subst k1
        obtain ⟨m1, m2⟩ := zmul nj ns (.inl (by rw [ej]; rfl))
        have bA := Rat.mul_nonneg (a := 1 - erA 1) (b := A) (by grind) (by grind)
        rw [(zadd na m1 (by grind) (by grind) m2).2]
        exact a1 (.inl rfl)
    · rcases h9 with h9 | h9
      · exact ea' (by omega)
      · exact c3 (by omega)
end Go.Fl
