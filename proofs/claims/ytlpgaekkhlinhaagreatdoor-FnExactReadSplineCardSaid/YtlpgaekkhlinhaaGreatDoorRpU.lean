/- spec.l02Spline: whether a spline is valid, the reference's: the ends. (Written by mkrpt.py.) -/
import Derived.Test.YtlpgaekkhlinhaaGreatDoorRpT
namespace Go.Proofs.YtlpgaekkhlinhaaGreatDoor
open Go.RowKit Go.Fl

set_option maxHeartbeats 40000000 in
set_option maxRecDepth 100000 in
theorem l02SplU (b b1 b2 c1 c2 : Nat) (d : Int) (ks : List Nat) (ps : List Cx) (hk : ks.length ≤ 1048576) (hp : ps.length ≤ 1048576) (w : World)
    (e0 : w.cell? ⟨b, 0, none⟩ = some (.int .i64 d)) (e1 : w.cell? ⟨b, 1, none⟩ = some (.slice (some ⟨b1, 0, none⟩) ks.length c1)) (e2 : w.cell? ⟨b, 2, none⟩ = some (.slice (some ⟨b2, 0, none⟩) ps.length c2)) (h1 : RdK w b1 ks) (h2 : RdZ w b2 ps) (D : Nat) (hB : SplB d D ks ps) (hbad : ¬ SplE D ks ps.length) :
    Calls Tryz.prog 86 #[.pointer (some ⟨b, 0, none⟩)] w fun e w' => e = .returned (.bool (okSpl d ks ps)) ∧ ∃ n, w' = w.drewN n := by
  obtain ⟨rfl, hD1, hD5, hn1, hn24, hL, hfk, hpk⟩ := hB
  have H1 := Lib.hid h1
  have HF := Lib.hid (fun q => l02Finite b1 c1 ks hk (w.drewN q) h1)
  have HC := Lib.hid (fun q => l02CFin1 b2 c2 ps hp (w.drewN q) h2)
  have HI := Lib.hid (in5 (D : Int))
  rw [decide_eq_true (by omega)] at HI
  have H2 := Lib.hid h2
  clear h1 h2
  have hD5' : (D : Int) ≤ 5 := by omega
  have hD1' : (1 : Int) ≤ (D : Int) := by omega
  have gB : decide ((ps.length : Int) < (D : Int) + 1) = false := decide_eq_false (by omega)
  have gC : decide ((24 : Int) < (ps.length : Int)) = false := decide_eq_false (by omega)
  have gD : ((ks.length : Int) != (ps.length : Int) + (D : Int) + 1) = false := by simp; omega
  rw [hfk] at HF
  rw [hpk] at HC
  have f0 := H1.out 0 (by omega)
  have fD := H1.out D (by omega)
  have fN := H1.out ps.length (by omega)
  have fL := H1.out (ps.length + D) (by omega)
  have HQ : Hid (∀ i, i < ps.length + D + 1 → w.cell? ⟨b1, i, none⟩ = some (.float .f32 (kAt ks i))) := Lib.hid fun i hi => H1.out i (by omega)
  have HY : Hid (ordK (kAt ks 0) (kAt ks (ps.length + D)) = some .lt → ordK (kAt ks 0) (kAt ks D) = some .eq → ordK (kAt ks (ps.length + D)) (kAt ks ps.length) = some .eq → Rose ks (ps.length + D + 1) → Inn D ps.length ks ps.length → okSpl D ks ps = true) := Lib.hid fun a1 a2 a3 a4 a5 => okSpl_true ⟨D, rfl, ⟨hD1, hD5, by omega, by omega, hL, hfk, hpk, a1, a2, a3, fun i g1 g2 => a4 i g1 (by omega), a5⟩⟩
  have HZ : Hid (SplY D ks ps → ordK (kAt ks 0) (kAt ks (ps.length + D)) = some .lt ∧ ordK (kAt ks 0) (kAt ks D) = some .eq ∧ ordK (kAt ks (ps.length + D)) (kAt ks ps.length) = some .eq ∧ Rose ks (ps.length + D + 1) ∧ Inn D ps.length ks ps.length) := Lib.hid fun h => ⟨h.ok.lo, h.ok.a, h.ok.b, fun i g1 g2 => h.ok.rise i g1 (by have := h.ok.kl; omega), h.ok.inn⟩
  rw [hL] at e1 HF gD
  clear hL hfk hpk H1 H2 hk
  generalize ps.length = N at *
  have hT : ((N : Int) + (D : Int)).toNat = N + D := by omega
  have hNb : (N : Int) ≤ 24 := by omega
  -- the ends
  have bad : ∀ (q : Bool) (P : Prop), (P → q = true) → q = false → ¬ P := fun q P h g k => by rw [h k] at g; cases g
  cases q1 : (FloatKind.f32.format.order (kAt ks 0) (kAt ks (N + D)) == some .lt)
  · have HNO := Lib.hid (okSpl_false (d := D) (ks := ks) (ps := ps) fun h => by have := (HZ.out h).1; rw [ordK] at this; rw [this] at q1; cases q1)
    go_enter Tryz.func86, Tryz.ntmps86
    go_wp2_with fail
    go_quiet (first | (go_at_call 84; refine Calls.quiet_of_same (HI.out _)) | (go_at_call 117; refine Calls.quiet_of (HF.out _)) | (go_at_call 118; refine Calls.quiet_of (HC.out _)))
    go_wp2_with fail
    go_quiet (fail)
    go_wp2_with fail
    go_ret
    exact ⟨ret_bool HNO.out.symm, (by (try simp only [World.drewN_drewN]); exact ⟨_, rfl⟩)⟩
  cases q2 : (FloatKind.f32.format.order (kAt ks 0) (kAt ks D) == some .eq)
  · have HNO := Lib.hid (okSpl_false (d := D) (ks := ks) (ps := ps) fun h => by have := (HZ.out h).2.1; rw [ordK] at this; rw [this] at q2; cases q2)
    have q2' : (FloatKind.f32.format.order (kAt ks 0) (kAt ks D) != some .eq) = true := by simp [bne, q2]
    go_enter Tryz.func86, Tryz.ntmps86
    go_wp2_with fail
    go_quiet (first | (go_at_call 84; refine Calls.quiet_of_same (HI.out _)) | (go_at_call 117; refine Calls.quiet_of (HF.out _)) | (go_at_call 118; refine Calls.quiet_of (HC.out _)))
    go_wp2_with fail
    go_quiet (fail)
    go_wp2_with fail
    go_ret
    exact ⟨ret_bool HNO.out.symm, (by (try simp only [World.drewN_drewN]); exact ⟨_, rfl⟩)⟩
  have q2' : (FloatKind.f32.format.order (kAt ks 0) (kAt ks D) != some .eq) = false := by simp [bne, q2]
  cases q3 : (FloatKind.f32.format.order (kAt ks (N + D)) (kAt ks N) == some .eq)
  · have HNO := Lib.hid (okSpl_false (d := D) (ks := ks) (ps := ps) fun h => by have := (HZ.out h).2.2.1; rw [ordK] at this; rw [this] at q3; cases q3)
    have q3' : (FloatKind.f32.format.order (kAt ks (N + D)) (kAt ks N) != some .eq) = true := by simp [bne, q3]
    go_enter Tryz.func86, Tryz.ntmps86
    go_wp2_with fail
    go_quiet (first | (go_at_call 84; refine Calls.quiet_of_same (HI.out _)) | (go_at_call 117; refine Calls.quiet_of (HF.out _)) | (go_at_call 118; refine Calls.quiet_of (HC.out _)))
    go_wp2_with fail
    go_quiet (fail)
    go_wp2_with fail
    go_ret
    exact ⟨ret_bool HNO.out.symm, (by (try simp only [World.drewN_drewN]); exact ⟨_, rfl⟩)⟩
  have q3' : (FloatKind.f32.format.order (kAt ks (N + D)) (kAt ks N) != some .eq) = false := by simp [bne, q3]
  exact absurd ⟨by simpa [ordK] using q1, by simpa [ordK] using q2, by simpa [ordK] using q3⟩ hbad
end Go.Proofs.YtlpgaekkhlinhaaGreatDoor
