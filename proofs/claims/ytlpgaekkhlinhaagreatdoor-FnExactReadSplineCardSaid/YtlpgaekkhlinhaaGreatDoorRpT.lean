/- spec.l02Spline: whether a spline is valid, the reference's: the first test. (Written by mkrpt.py.) -/
import Derived.Test.YtlpgaekkhlinhaaGreatDoorRpS
namespace Go.Fl
open Go.RowKit
/-- what the two loops have seen -/
def Rose (ks : List Nat) (k : Nat) : Prop := ∀ i, 1 ≤ i → i < k → ordK (kAt ks i) (kAt ks (i - 1)) ≠ some .lt
def Inn (D N : Nat) (ks : List Nat) (k : Nat) : Prop := ∀ i, D + 1 ≤ i → i < k → ordK (kAt ks i) (kAt ks 0) ≠ some .eq ∧ ordK (kAt ks i) (kAt ks (N + D)) ≠ some .eq ∧ (i + D < N → ordK (kAt ks i) (kAt ks (i + D)) ≠ some .eq)
theorem Rose.succ {ks : List Nat} {k : Nat} (h : Rose ks k) (hk : (FloatKind.f32.format.order (kAt ks k) (kAt ks (k - 1)) == some .lt) = false) : Rose ks (k + 1) := fun i h1 h2 => by
  by_cases e : i = k
  · subst e
    simpa [ordK] using hk
  · exact h i h1 (by omega)
theorem Inn.succ {D N : Nat} {ks : List Nat} {k : Nat} (h : Inn D N ks k) (h1 : (FloatKind.f32.format.order (kAt ks k) (kAt ks 0) == some .eq) = false) (h2 : (FloatKind.f32.format.order (kAt ks k) (kAt ks (N + D)) == some .eq) = false)
    (h3 : k + D < N → (FloatKind.f32.format.order (kAt ks k) (kAt ks (k + D)) == some .eq) = false) : Inn D N ks (k + 1) := fun i g1 g2 => by
  by_cases e : i = k
  · subst e
    exact ⟨by simpa [ordK] using h1, by simpa [ordK] using h2, fun g => by simpa [ordK] using h3 g⟩
  · exact h i g1 (by omega)
/-- the first test of a spline holds -/
structure SplB (d : Int) (D : Nat) (ks : List Nat) (ps : List Cx) : Prop where
  e : d = (D : Int)
  d1 : 1 ≤ D
  d5 : D ≤ 5
  n1 : D + 1 ≤ ps.length
  n24 : ps.length ≤ 24
  kl : ks.length = ps.length + D + 1
  fk : (ks.all fun x => fin (can .f32 x)) = true
  fp : ps.all okPt = true
/-- the ends are as they should be -/
def SplE (D : Nat) (ks : List Nat) (N : Nat) : Prop := ordK (kAt ks 0) (kAt ks (N + D)) = some .lt ∧ ordK (kAt ks 0) (kAt ks D) = some .eq ∧ ordK (kAt ks (N + D)) (kAt ks N) = some .eq
end Go.Fl
namespace Go.Proofs.YtlpgaekkhlinhaaGreatDoor
open Go.RowKit Go.Fl

set_option maxHeartbeats 40000000 in
set_option maxRecDepth 100000 in
theorem l02SplT (b b1 b2 c1 c2 : Nat) (d : Int) (ks : List Nat) (ps : List Cx) (hk : ks.length ≤ 1048576) (hp : ps.length ≤ 1048576) (w : World)
    (e0 : w.cell? ⟨b, 0, none⟩ = some (.int .i64 d)) (e1 : w.cell? ⟨b, 1, none⟩ = some (.slice (some ⟨b1, 0, none⟩) ks.length c1)) (e2 : w.cell? ⟨b, 2, none⟩ = some (.slice (some ⟨b2, 0, none⟩) ps.length c2)) (h1 : RdK w b1 ks) (h2 : RdZ w b2 ps) (hbad : ∀ D, ¬ SplB d D ks ps) :
    Calls Tryz.prog 86 #[.pointer (some ⟨b, 0, none⟩)] w fun e w' => e = .returned (.bool (okSpl d ks ps)) ∧ ∃ n, w' = w.drewN n := by
  have H1 := Lib.hid h1
  have H2 := Lib.hid h2
  have HF := Lib.hid (fun q => l02Finite b1 c1 ks hk (w.drewN q) h1)
  have HC := Lib.hid (fun q => l02CFin1 b2 c2 ps hp (w.drewN q) h2)
  have HI := Lib.hid (in5 d)
  clear h1 h2
  by_cases hA : 1 ≤ d ∧ d ≤ 5
  rotate_left
  · rw [decide_eq_false hA] at HI
    have HNO := Lib.hid (okSpl_false (d := d) (ks := ks) (ps := ps) fun ⟨D, e, h⟩ => hA (by have := h.d1; have := h.d5; omega))
    clear hA
    go_enter Tryz.func86, Tryz.ntmps86
    go_wp2_with fail
    go_quiet (first | (go_at_call 84; refine Calls.quiet_of_same (HI.out _)))
    go_wp2_with fail
    go_ret
    exact ⟨ret_bool HNO.out.symm, _, rfl⟩
  rw [decide_eq_true hA] at HI
  obtain ⟨D, rfl⟩ := Int.eq_ofNat_of_zero_le (show 0 ≤ d by omega)
  obtain ⟨hD1, hD5⟩ : 1 ≤ D ∧ D ≤ 5 := by omega
  have hD5' : (D : Int) ≤ 5 := by omega
  have hD1' : (1 : Int) ≤ (D : Int) := by omega
  clear hA
  by_cases hB : ps.length < D + 1
  · have HNO := Lib.hid (okSpl_false (d := D) (ks := ks) (ps := ps) fun h => by have := h.ok.n1; omega)
    have g : (ps.length : Int) < (D : Int) + 1 := by omega
    go_enter Tryz.func86, Tryz.ntmps86
    go_wp2_with fail
    go_quiet (first | (go_at_call 84; refine Calls.quiet_of_same (HI.out _)))
    go_wp2_with fail
    go_ret
    exact ⟨ret_bool HNO.out.symm, _, rfl⟩
  have gB : decide ((ps.length : Int) < (D : Int) + 1) = false := decide_eq_false (by omega)
  by_cases hC : 24 < ps.length
  · have HNO := Lib.hid (okSpl_false (d := D) (ks := ks) (ps := ps) fun h => by have := h.ok.n24; omega)
    have g : (24 : Int) < (ps.length : Int) := by omega
    go_enter Tryz.func86, Tryz.ntmps86
    go_wp2_with fail
    go_quiet (first | (go_at_call 84; refine Calls.quiet_of_same (HI.out _)))
    go_wp2_with fail
    go_ret
    exact ⟨ret_bool HNO.out.symm, _, rfl⟩
  have gC : decide ((24 : Int) < (ps.length : Int)) = false := decide_eq_false (by omega)
  by_cases hL : ks.length = ps.length + D + 1
  rotate_left
  · have HNO := Lib.hid (okSpl_false (d := D) (ks := ks) (ps := ps) fun h => hL h.ok.kl)
    have g : ((ks.length : Int) != (ps.length : Int) + (D : Int) + 1) = true := by simp; omega
    clear hL
    go_enter Tryz.func86, Tryz.ntmps86
    go_wp2_with fail
    go_quiet (first | (go_at_call 84; refine Calls.quiet_of_same (HI.out _)))
    go_wp2_with fail
    go_ret
    exact ⟨ret_bool HNO.out.symm, _, rfl⟩
  have gD : ((ks.length : Int) != (ps.length : Int) + (D : Int) + 1) = false := by simp; omega
  cases hfk : ks.all fun x => fin (can .f32 x)
  · have HNO := Lib.hid (okSpl_false (d := D) (ks := ks) (ps := ps) fun h => by have := h.ok.fk; rw [hfk] at this; cases this)
    rw [hfk] at HF
    clear hL
    go_enter Tryz.func86, Tryz.ntmps86
    go_wp2_with fail
    go_quiet (first | (go_at_call 84; refine Calls.quiet_of_same (HI.out _)) | (go_at_call 117; refine Calls.quiet_of (HF.out _)) | (go_at_call 118; refine Calls.quiet_of (HC.out _)))
    go_wp2_with fail
    go_ret
    exact ⟨ret_bool HNO.out.symm, _, rfl⟩
  rw [hfk] at HF
  cases hpk : ps.all okPt
  · have HNO := Lib.hid (okSpl_false (d := D) (ks := ks) (ps := ps) fun h => by have := h.ok.fp; rw [hpk] at this; cases this)
    rw [hpk] at HC
    clear hL
    go_enter Tryz.func86, Tryz.ntmps86
    go_wp2_with fail
    go_quiet (first | (go_at_call 84; refine Calls.quiet_of_same (HI.out _)) | (go_at_call 117; refine Calls.quiet_of (HF.out _)) | (go_at_call 118; refine Calls.quiet_of (HC.out _)))
    go_wp2_with fail
    go_ret
    exact ⟨ret_bool HNO.out.symm, _, rfl⟩
  rw [hpk] at HC
  exact absurd ⟨rfl, hD1, hD5, by omega, by omega, hL, hfk, hpk⟩ (hbad D)
end Go.Proofs.YtlpgaekkhlinhaaGreatDoor
