/- The way that a plan has gone: it never goes back, and goes all its way. Plain Lean. -/
import Derived.Test.YtfpkdnopbnppmaaPnH
namespace Go.Fl
open Ieee Go.Proofs.Ytfpkdnopbnppmaa
theorem pf_in {J r h c : Rat} (H : PlIn J r h c) {k : Nat} (hk : k < 7) {s : Rat} (s0 : 0 ≤ s) (s1 : s ≤ pfP r h c k) : 0 ≤ pfL J r h c k s ∧ pfL J r h c k s ≤ pfW J r h c := by
  obtain ⟨a1, _⟩ := pf_slope H hk (s := 0) (t := s) Rat.le_refl s0 s1
  obtain ⟨b1, _⟩ := pf_slope H hk s0 s1 Rat.le_refl
  rw [pf_start] at a1
  rw [(pf_next J r h c hk).1] at b1
  have c1 := (pf_bounds H hk).1.1
  have c2 := (pf_chain H (m := k + 1) 7 (by omega) (Nat.le_refl _)).1
  have e : pfX J r h c 7 = pfW J r h c := rfl
  rw [e] at c2
  constructor <;> grind
theorem done_step {jw rw hw cw : Nat} {T0 : Rat} (H : PlW jw rw hw cw) {k : Nat} (hk : k < 7) {st : Nat × Nat × Nat × Nat} (h : Done jw rw hw cw T0 k st) {p : Nat × Nat} (hp : (phases jw rw hw cw).getD k (0, 0) = p) :
    Done jw rw hw cw T0 (k + 1) (pwStep st p) := by
  obtain ⟨x, v, a, t⟩ := st
  obtain ⟨nx, nv, na, nt, z, v1, v2, c1, c2, m, u, hm, u0, u1, hx, ht⟩ := h
  simp only at nx nv na nt z v1 v2 c1 c2 hx
  obtain ⟨np, nj, ep, ej, _, _, _⟩ := ph_facts H hk hp
  obtain ⟨P0, P9⟩ := pfP_pos H.pin hk
  obtain ⟨s, hs⟩ : ∃ s, s = if flt t p.1 then t else p.1 := ⟨_, rfl⟩
  obtain ⟨ns, s0, s1, s2, hcase⟩ := sel hs nt np (by grind) (by grind) (by rw [ep]; exact P0) (by rw [ep]; grind)
  have est : pwStep (x, v, a, t) p = (pX x v a p.2 s, pV v a p.2 s, pA a p.2 s, fsub t s) := by rw [hs]; rfl
  rw [est]
  have sz : R .f32 s = 0 := by grind
  obtain ⟨l0, l1⟩ := pf_in H.pin hm u0 u1
  have hW9 := H.pin.X9
  have J0 := H.pin.J0
  have J9 := H.pin.J9
  have hWW := Rat.mul_nonneg (a := 1 - 456 * ee) (b := pfW (R .f32 jw) (R .f32 rw) (R .f32 hw) (R .f32 cw)) (by rw [ee_eq]; grind) (by grind)
  obtain ⟨h1, h2⟩ := hx
  have jb : -1000 ≤ R .f32 p.2 ∧ R .f32 p.2 ≤ 1000 := by
    rw [ej]
    rcases lt7 hk with rfl | rfl | rfl | rfl | rfl | rfl | rfl <;> simp only [pfJ] <;> constructor <;> grind
  obtain ⟨⟨g1, g2⟩, ⟨g3, g4⟩, ⟨g5, g6⟩⟩ := still_er nx nv na nj ns sz (by grind) (by grind) v1 v2 c1 c2 jb.1 jb.2
  have ft : isN .f32 (fsub t s) = true ∧ R .f32 (fsub t s) = 0 := by
    rcases hcase with ⟨q1, q2, q3⟩ | ⟨q1, q2, q3, q4, q5⟩
    · exact ⟨q2, q3⟩
    · exact ⟨q2, by grind⟩
  refine ⟨g1, g3, g5, ft.1, ft.2, ?_, ?_, ?_, ?_, m, u, hm, u0, u1, ?_, ht⟩
  · show _ ≤ R .f32 (pV v a p.2 s); rw [g4]; exact v1
  · show R .f32 (pV v a p.2 s) ≤ _; rw [g4]; exact v2
  · show _ ≤ R .f32 (pA a p.2 s); rw [g6]; exact c1
  · show R .f32 (pA a p.2 s) ≤ _; rw [g6]; exact c2
  · show Er (R .f32 (pX x v a p.2 s)) _ _; rw [g2]; exact ⟨h1, h2⟩
theorem run_to {jw rw hw cw tw : Nat} (H : PlW jw rw hw cw) (nt : isN .f32 tw = true) (t0 : 0 ≤ R .f32 tw) (t9 : R .f32 tw ≤ 64) : ∀ k, k ≤ 7 → Run jw rw hw cw (R .f32 tw) k (pwTo jw rw hw cw tw k) ∨ Done jw rw hw cw (R .f32 tw) k (pwTo jw rw hw cw tw k)
  | 0, _ => by
    left
    have e : pwTo jw rw hw cw tw 0 = (0, 0, 0, tw) := rfl
    rw [e]
    refine ⟨zero_N.1, zero_N.1, zero_N.1, nt, ?_, ?_, ?_, t0, t9, ?_, by simp, by simp⟩
    · show Er (R .f32 0) 0 (0 * _)
      rw [R_zero]; exact Er.self _ (by grind)
    · show Er (R .f32 0) 0 (0 * _)
      rw [R_zero]; exact Er.self _ (by grind)
    · show Er (R .f32 0) 0 (0 * _)
      rw [R_zero]; exact Er.self _ (by grind)
    · show Er (R .f32 tw) (0 + R .f32 tw) (0 * dT)
      rw [Rat.zero_add]; exact Er.self _ (by grind)
  | k + 1, hk => by
    rw [pwTo_succ _ _ _ _ _ _ (by omega)]
    rcases run_to H nt t0 t9 k (by omega) with h | h
    · exact run_step H (by omega) h rfl
    · exact .inr (done_step H (by omega) h rfl)
/-- where the plan is at a time -/
theorem way_at {jw rw hw cw tw : Nat} (H : PlW jw rw hw cw) (nt : isN .f32 tw = true) (t0 : 0 ≤ R .f32 tw) (t9 : R .f32 tw ≤ 64) : isN .f32 (pwTo jw rw hw cw tw 7).1 = true ∧ ∃ m s, m < 7 ∧ 0 ≤ s ∧ s ≤ pfP (R .f32 rw) (R .f32 hw) (R .f32 cw) m ∧
    Er (R .f32 (pwTo jw rw hw cw tw 7).1) (pfL (R .f32 jw) (R .f32 rw) (R .f32 hw) (R .f32 cw) m s) (456 * ee * pfW (R .f32 jw) (R .f32 rw) (R .f32 hw) (R .f32 cw)) ∧
    pfT (R .f32 rw) (R .f32 hw) (R .f32 cw) m + s ≤ R .f32 tw + 7 * dT ∧ (R .f32 tw ≤ pfT (R .f32 rw) (R .f32 hw) (R .f32 cw) m + s + 7 * dT ∨ (m = 6 ∧ s = pfP (R .f32 rw) (R .f32 hw) (R .f32 cw) 6)) := by
  rcases run_to H nt t0 t9 7 (Nat.le_refl _) with h | h
  · refine ⟨h.nx, 6, pfP (R .f32 rw) (R .f32 hw) (R .f32 cw) 6, by decide, (pfP_pos H.pin (by decide)).1, Rat.le_refl, ?_, ?_, .inr ⟨rfl, rfl⟩⟩
    · rw [(pf_next _ _ _ _ (by decide)).1]; exact h.ex
    · rw [← (pf_next (R .f32 jw) _ _ _ (by decide)).2.1]
      have := h.tm.1
      have := h.t0
      have e : (((7 : Nat) : Int) : Rat) = 7 := rfl
      rw [e] at *
      grind
  · obtain ⟨m, s, hm, s0, s1, hx, h1, h2⟩ := h.place
    exact ⟨h.nx, m, s, hm, s0, s1, hx, by grind, .inl (by grind)⟩
theorem way_mono {jw rw hw cw tw uw : Nat} (H : PlW jw rw hw cw) (nt : isN .f32 tw = true) (t0 : 0 ≤ R .f32 tw) (nu : isN .f32 uw = true) (htu : R .f32 tw ≤ R .f32 uw) (u9 : R .f32 uw ≤ 64) :
    R .f32 (pwTo jw rw hw cw tw 7).1 ≤ R .f32 (pwTo jw rw hw cw uw 7).1 + (70 * dT + 912 * ee * pfW (R .f32 jw) (R .f32 rw) (R .f32 hw) (R .f32 cw)) := by
  obtain ⟨_, m, s, hm, s0, s1, ⟨_, hx⟩, hs, _⟩ := way_at H nt t0 (by grind)
  obtain ⟨_, n, t, hn, t1, t2, ⟨hy, _⟩, _, ht⟩ := way_at H nu (by grind) u9
  have d0 : (0 : Rat) ≤ dT := by rw [dT_eq]; grind
  have hV9 := H.pin.V9
  have V9 := Rat.mul_nonneg (a := 5 - R .f32 jw * R .f32 rw * (R .f32 rw + R .f32 hw)) (b := 14 * dT) (by grind) (by grind)
  have hd : pfT (R .f32 rw) (R .f32 hw) (R .f32 cw) m + s ≤ pfT (R .f32 rw) (R .f32 hw) (R .f32 cw) n + t + 14 * dT := by
    rcases ht with ht | ⟨rfl, rfl⟩
    · grind
    · have c1 := (pf_chain H.pin (m := m + 1) 7 (by omega) (Nat.le_refl _)).2.2
      rw [(pf_next (R .f32 jw) (R .f32 rw) (R .f32 hw) (R .f32 cw) (show 6 < 7 by decide)).2.1, (pf_next (R .f32 jw) (R .f32 rw) (R .f32 hw) (R .f32 cw) hm).2.1] at c1
      grind
  have := pf_late H.pin hm hn s0 s1 t1 t2 (by grind) hd
  grind
theorem way_end {jw rw hw cw tw : Nat} {d : Rat} (H : PlW jw rw hw cw) (nt : isN .f32 tw = true) (t0 : 0 ≤ R .f32 tw) (t9 : R .f32 tw ≤ 64) (d0 : 0 ≤ d) (hd : pfT (R .f32 rw) (R .f32 hw) (R .f32 cw) 7 ≤ R .f32 tw + d) :
    Er (R .f32 (pwTo jw rw hw cw tw 7).1) (pfW (R .f32 jw) (R .f32 rw) (R .f32 hw) (R .f32 cw)) (5 * (7 * dT + d) + 456 * ee * pfW (R .f32 jw) (R .f32 rw) (R .f32 hw) (R .f32 cw)) := by
  obtain ⟨_, m, s, hm, s0, s1, ⟨hx1, hx2⟩, hs, ht⟩ := way_at H nt t0 t9
  have e0 : (0 : Rat) ≤ dT := by rw [dT_eq]; grind
  have hV9 := H.pin.V9
  have V9 := Rat.mul_nonneg (a := 5 - R .f32 jw * R .f32 rw * (R .f32 rw + R .f32 hw)) (b := 7 * dT + d) (by grind) (by grind)
  obtain ⟨l0, l1⟩ := pf_in H.pin hm s0 s1
  have hl : pfW (R .f32 jw) (R .f32 rw) (R .f32 hw) (R .f32 cw) ≤ pfL (R .f32 jw) (R .f32 rw) (R .f32 hw) (R .f32 cw) m s + 5 * (7 * dT + d) := by
    have e6 := pf_next (R .f32 jw) (R .f32 rw) (R .f32 hw) (R .f32 cw) (show 6 < 7 by decide)
    have e7 : pfX (R .f32 jw) (R .f32 rw) (R .f32 hw) (R .f32 cw) (6 + 1) = pfW (R .f32 jw) (R .f32 rw) (R .f32 hw) (R .f32 cw) := rfl
    rw [e7] at e6
    rcases ht with ht | ⟨rfl, rfl⟩
    · have := pf_late H.pin (show 6 < 7 by decide) hm (pfP_pos H.pin (by decide)).1 Rat.le_refl s0 s1 (d := 7 * dT + d) (by grind) (by rw [← e6.2.1]; grind)
      rw [e6.1] at this
      grind
    · rw [e6.1]; grind
  constructor <;> grind
end Go.Fl
