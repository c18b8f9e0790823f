/- impl.isSound: whether a spline is valid, the program's. -/
import Derived.Test.YtlpgaekkhlinhaaGreatDoorRpI
namespace Go.Fl
open Go.RowKit
theorem RdK.slF {w : World} {b c : Nat} {ks : List Nat} (h : RdK w b ks) (hm : ks.length ≤ 1048576) : SlF w (.slice (some ⟨b, 0, none⟩) ks.length c) ks :=
  .inr ⟨b, 0, c, rfl, by omega, fun i hi => by rw [Nat.zero_add]; exact h i hi⟩
theorem RdZ.slC {w : World} {b lo hi : Nat} {ps : List Cx} (h : RdZ w b ps) (h1 : lo ≤ b) (h2 : b < hi) : SlC w lo hi (some ⟨b, 0, none⟩) ps := fun _ => ⟨b, rfl, h1, h2, h⟩
theorem RdK.below {w w' : World} {B b : Nat} {ks : List Nat} (h : RdK w b ks) (hb : Below B w w') (hl : b < B) : RdK w' b ks := fun i hi => (hb.cell (p := ⟨b, i, none⟩) hl).trans (h i hi)
theorem RdZ.below {w w' : World} {B b : Nat} {ps : List Cx} (h : RdZ w b ps) (hb : Below B w w') (hl : b < B) : RdZ w' b ps := fun i hi => (hb.cell (p := ⟨b, i, none⟩) hl).trans (h i hi)
/-- what the program's loop has seen: the inner numbers from D + 1 on -/
def InnB (D N : Nat) (ks : List Nat) (k : Nat) : Prop := ∀ i, D + 1 ≤ i → i < k → ordK (kAt ks i) (kAt ks 0) ≠ some .eq ∧ ordK (kAt ks i) (kAt ks (N + D)) ≠ some .eq ∧ (D + 1 + D ≤ i → ordK (kAt ks (i - D)) (kAt ks i) ≠ some .eq)
theorem InnB.succ {D N : Nat} {ks : List Nat} {k : Nat} (h : InnB D N ks k) (h1 : (FloatKind.f32.format.order (kAt ks k) (kAt ks 0) == some .eq) = false) (h2 : (FloatKind.f32.format.order (kAt ks k) (kAt ks (N + D)) == some .eq) = false)
    (h3 : D + 1 + D ≤ k → (FloatKind.f32.format.order (kAt ks (k - D)) (kAt ks k) == some .eq) = false) : InnB D N ks (k + 1) := fun i g1 g2 => by
  by_cases e : i = k
  · subst e
    exact ⟨by simpa [ordK] using h1, by simpa [ordK] using h2, fun g => by simpa [ordK] using h3 g⟩
  · exact h i g1 (by omega)
theorem InnB.inn {D N : Nat} {ks : List Nat} (h : InnB D N ks N) : Inn D N ks N := fun i g1 g2 => ⟨(h i g1 g2).1, (h i g1 g2).2.1, fun g => by
  have := (h (i + D) (by omega) g).2.2 (by omega)
  rwa [Nat.add_sub_cancel] at this⟩
theorem Inn.innB {D N : Nat} {ks : List Nat} (h : Inn D N ks N) : InnB D N ks N := fun i g1 g2 => ⟨(h i g1 g2).1, (h i g1 g2).2.1, fun g => by
  have := (h (i - D) (by omega) (by omega)).2.2 (by omega)
  rwa [Nat.sub_add_cancel (by omega)] at this⟩
end Go.Fl
namespace Go.Proofs.YtlpgaekkhlinhaaGreatDoor
open Go.RowKit Go.Fl

set_option maxHeartbeats 40000000 in
set_option maxRecDepth 100000 in
theorem isSound (D : Nat) (b1 c1 b2 c2 : Nat) (ks : List Nat) (ps : List Cx) (hD1 : 1 ≤ D) (hD5 : D ≤ 5) (hn1 : D + 1 ≤ ps.length) (hn24 : ps.length ≤ 24) (hc : ks.length ≤ c1) (hk : ks.length ≤ 1048576) (w : World) (h1 : RdK w b1 ks) (h2 : RdZ w b2 ps) (l1 : b1 < w.heap.size) (l2 : b2 < w.heap.size) :
    Calls Tryz.prog 94 #[.agg #[.int .i64 D, .slice (some ⟨b1, 0, none⟩) ks.length c1, .slice (some ⟨b2, 0, none⟩) ps.length c2]] w fun e w' => e = .returned (.bool (okSpl D ks ps)) ∧ Below w.heap.size w w' := by
  have hb0 : Below w.heap.size w (w.alloc (.cells #[.int .i64 D, .slice (some ⟨b1, 0, none⟩) ks.length c1, .slice (some ⟨b2, 0, none⟩) ps.length c2] 39)) := Below.alloc (Below.refl _ _) (Nat.le_refl _) _
  have hA := h1.below hb0 l1
  have hB := h2.below hb0 l2
  have HA := Lib.hid hA
  have HAP := Lib.hid (fun q => arePoints 0 w.heap.size (some ⟨b2, 0, none⟩) c2 ps (by omega) ((w.alloc (.cells #[.int .i64 D, .slice (some ⟨b1, 0, none⟩) ks.length c1, .slice (some ⟨b2, 0, none⟩) ps.length c2] 39)).drewN q) (hB.slC (Nat.zero_le _) l2))
  have HAF := Lib.hid (fun q => areFinite ks (.slice (some ⟨b1, 0, none⟩) ks.length c1) ((w.alloc (.cells #[.int .i64 D, .slice (some ⟨b1, 0, none⟩) ks.length c1, .slice (some ⟨b2, 0, none⟩) ps.length c2] 39)).drewN q) ((hA.slF hk).drewN q))
  have hD5' : (D : Int) ≤ 5 := by omega
  have hD1' : (1 : Int) ≤ (D : Int) := by omega
  clear h1 h2 hA hB
  by_cases hL : ks.length = ps.length + D + 1
  rotate_left
  · have HNO := Lib.hid (okSpl_false (d := D) (ks := ks) (ps := ps) fun h => hL h.ok.kl)
    have g : ((ks.length : Int) != (ps.length : Int) + (D : Int) + 1) = true := by simp; omega
    clear hL
    go_enter Tryz.func94, Tryz.ntmps94
    go_wp2_with fail
    go_ret
    exact ⟨ret_bool HNO.out.symm, by (repeat (first | exact Below.refl _ _ | assumption | refine below_dr ?_ _ | refine Below.alloc ?_ (by first | omega | (simp; done) | (simp; omega)) _ | refine Below.setCell ?_ (by first | omega | (simp; done) | (simp; omega)) _ | refine Below.trans ?_ (Below.mono (by assumption) (by first | omega | (simp; done) | (simp; omega)))))⟩
  have HARF := Lib.hid (fun hf q => isRising b1 c1 ks (by omega) hk hf ((w.alloc (.cells #[.int .i64 D, .slice (some ⟨b1, 0, none⟩) ks.length c1, .slice (some ⟨b2, 0, none⟩) ps.length c2] 39)).drewN q) HA.out)
  have gD : ((ks.length : Int) != (ps.length : Int) + (D : Int) + 1) = false := by simp; omega
  cases hpk : ps.all okPt
  · have HNO := Lib.hid (okSpl_false (d := D) (ks := ks) (ps := ps) fun h => by have := h.ok.fp; rw [hpk] at this; cases this)
    rw [hpk] at HAP
    clear hL
    go_enter Tryz.func94, Tryz.ntmps94
    go_wp2_with (go_at_call 79; refine (HAP.out 0).mono ?_; rintro e w3 ⟨rfl, m3, rfl⟩)
    go_ret
    exact ⟨ret_bool HNO.out.symm, by (repeat (first | exact Below.refl _ _ | assumption | refine below_dr ?_ _ | refine Below.alloc ?_ (by first | omega | (simp; done) | (simp; omega)) _ | refine Below.setCell ?_ (by first | omega | (simp; done) | (simp; omega)) _ | refine Below.trans ?_ (Below.mono (by assumption) (by first | omega | (simp; done) | (simp; omega)))))⟩
  rw [hpk] at HAP
  cases hfk : ks.all fun x => fin (can .f32 x)
  · have HNO := Lib.hid (okSpl_false (d := D) (ks := ks) (ps := ps) fun h => by have := h.ok.fk; rw [hfk] at this; cases this)
    rw [hfk] at HAF
    clear hL
    go_enter Tryz.func94, Tryz.ntmps94
    go_wp2_with (first | (go_at_call 79; refine (HAP.out 0).mono ?_; rintro e w3 ⟨rfl, m3, rfl⟩) | (go_at_call 127; refine (HAF.out _).mono ?_; rintro e w4 ⟨rfl, m4, rfl⟩))
    go_ret
    exact ⟨ret_bool HNO.out.symm, by (repeat (first | exact Below.refl _ _ | assumption | refine below_dr ?_ _ | refine Below.alloc ?_ (by first | omega | (simp; done) | (simp; omega)) _ | refine Below.setCell ?_ (by first | omega | (simp; done) | (simp; omega)) _ | refine Below.trans ?_ (Below.mono (by assumption) (by first | omega | (simp; done) | (simp; omega)))))⟩
  rw [hfk] at HAF
  have HAR := Lib.hid (HARF.out hfk)
  clear HARF
  cases hrk : roseB ks
  · have HNO := Lib.hid (okSpl_false (d := D) (ks := ks) (ps := ps) fun h => by
      have := roseB_true (ks := ks) fun i g1 g2 => h.ok.rise i g1 g2
      rw [hrk] at this; cases this)
    rw [hrk] at HAR
    clear hL
    go_enter Tryz.func94, Tryz.ntmps94
    go_wp2_with (first | (go_at_call 79; refine (HAP.out 0).mono ?_; rintro e w3 ⟨rfl, m3, rfl⟩) | (go_at_call 127; refine (HAF.out _).mono ?_; rintro e w4 ⟨rfl, m4, rfl⟩) | (go_at_call 128; refine (HAR.out _).mono ?_; rintro e w5 ⟨rfl, m5, rfl⟩))
    go_ret
    exact ⟨ret_bool HNO.out.symm, by (repeat (first | exact Below.refl _ _ | assumption | refine below_dr ?_ _ | refine Below.alloc ?_ (by first | omega | (simp; done) | (simp; omega)) _ | refine Below.setCell ?_ (by first | omega | (simp; done) | (simp; omega)) _ | refine Below.trans ?_ (Below.mono (by assumption) (by first | omega | (simp; done) | (simp; omega)))))⟩
  rw [hrk] at HAR
  have HRO := Lib.hid (roseB_iff.1 hrk)
  have f0 := HA.out 0 (by omega)
  have fD := HA.out D (by omega)
  have fN := HA.out ps.length (by omega)
  have fL := HA.out (ps.length + D) (by omega)
  have HQ := Lib.hid (fun i (hi : i < ps.length + D + 1) => HA.out i (by omega))
  have HY : Hid (ordK (kAt ks 0) (kAt ks (ps.length + D)) = some .lt → ordK (kAt ks 0) (kAt ks D) = some .eq → ordK (kAt ks (ps.length + D)) (kAt ks ps.length) = some .eq → InnB D ps.length ks ps.length → okSpl D ks ps = true) := Lib.hid fun a1 a2 a3 a5 => okSpl_true ⟨D, rfl, ⟨hD1, hD5, by omega, by omega, hL, hfk, hpk, a1, a2, a3, HRO.out, a5.inn⟩⟩
  have HZ : Hid (SplY D ks ps → ordK (kAt ks 0) (kAt ks (ps.length + D)) = some .lt ∧ ordK (kAt ks 0) (kAt ks D) = some .eq ∧ ordK (kAt ks (ps.length + D)) (kAt ks ps.length) = some .eq ∧ InnB D ps.length ks ps.length) := Lib.hid fun h => ⟨h.ok.lo, h.ok.a, h.ok.b, Inn.innB h.ok.inn⟩
  rw [hL] at HAP HAF HAR gD hc f0 fD fN fL HQ ⊢
  clear hL hfk hpk hrk HA hk HRO
  generalize ps.length = N at *
  have hT : ((N : Int) + (D : Int)).toNat = N + D := by omega
  have hT2 : ((D : Int) + 1).toNat = D + 1 := by omega
  have hNb : (N : Int) ≤ 24 := by omega
  have hDN : (D : Int) + 1 ≤ (N : Int) := by omega
  have hNc : (N : Int) ≤ (c1 : Int) := by omega
  have hT3 : ((N : Int) - ((D : Int) + 1)).toNat = N - (D + 1) := by omega
  cases q2 : (FloatKind.f32.format.order (kAt ks 0) (kAt ks D) == some .eq)
  · have HNO := Lib.hid (okSpl_false (d := D) (ks := ks) (ps := ps) fun h => by have := (HZ.out h).2.1; rw [ordK] at this; rw [this] at q2; cases q2)
    have q2' : (FloatKind.f32.format.order (kAt ks 0) (kAt ks D) != some .eq) = true := by simp [bne, q2]
    go_enter Tryz.func94, Tryz.ntmps94
    go_wp2_with (first | (go_at_call 79; refine (HAP.out 0).mono ?_; rintro e w3 ⟨rfl, m3, rfl⟩) | (go_at_call 127; refine (HAF.out _).mono ?_; rintro e w4 ⟨rfl, m4, rfl⟩) | (go_at_call 128; refine (HAR.out _).mono ?_; rintro e w5 ⟨rfl, m5, rfl⟩))
    go_quiet (fail)
    go_wp2_with fail
    go_ret
    exact ⟨ret_bool HNO.out.symm, by (repeat (first | exact Below.refl _ _ | assumption | refine below_dr ?_ _ | refine Below.alloc ?_ (by first | omega | (simp; done) | (simp; omega)) _ | refine Below.setCell ?_ (by first | omega | (simp; done) | (simp; omega)) _ | refine Below.trans ?_ (Below.mono (by assumption) (by first | omega | (simp; done) | (simp; omega)))))⟩
  have q2' : (FloatKind.f32.format.order (kAt ks 0) (kAt ks D) != some .eq) = false := by simp [bne, q2]
  cases q3 : (FloatKind.f32.format.order (kAt ks (N + D)) (kAt ks N) == some .eq)
  · have HNO := Lib.hid (okSpl_false (d := D) (ks := ks) (ps := ps) fun h => by have := (HZ.out h).2.2.1; rw [ordK] at this; rw [this] at q3; cases q3)
    have q3' : (FloatKind.f32.format.order (kAt ks (N + D)) (kAt ks N) != some .eq) = true := by simp [bne, q3]
    go_enter Tryz.func94, Tryz.ntmps94
    go_wp2_with (first | (go_at_call 79; refine (HAP.out 0).mono ?_; rintro e w3 ⟨rfl, m3, rfl⟩) | (go_at_call 127; refine (HAF.out _).mono ?_; rintro e w4 ⟨rfl, m4, rfl⟩) | (go_at_call 128; refine (HAR.out _).mono ?_; rintro e w5 ⟨rfl, m5, rfl⟩))
    go_quiet (fail)
    go_wp2_with fail
    go_ret
    exact ⟨ret_bool HNO.out.symm, by (repeat (first | exact Below.refl _ _ | assumption | refine below_dr ?_ _ | refine Below.alloc ?_ (by first | omega | (simp; done) | (simp; omega)) _ | refine Below.setCell ?_ (by first | omega | (simp; done) | (simp; omega)) _ | refine Below.trans ?_ (Below.mono (by assumption) (by first | omega | (simp; done) | (simp; omega)))))⟩
  have q3' : (FloatKind.f32.format.order (kAt ks (N + D)) (kAt ks N) != some .eq) = false := by simp [bne, q3]
  cases q1 : (FloatKind.f32.format.order (kAt ks 0) (kAt ks (N + D)) == some .lt)
  · have HNO := Lib.hid (okSpl_false (d := D) (ks := ks) (ps := ps) fun h => by have := (HZ.out h).1; rw [ordK] at this; rw [this] at q1; cases q1)
    go_enter Tryz.func94, Tryz.ntmps94
    go_wp2_with (first | (go_at_call 79; refine (HAP.out 0).mono ?_; rintro e w3 ⟨rfl, m3, rfl⟩) | (go_at_call 127; refine (HAF.out _).mono ?_; rintro e w4 ⟨rfl, m4, rfl⟩) | (go_at_call 128; refine (HAR.out _).mono ?_; rintro e w5 ⟨rfl, m5, rfl⟩))
    go_quiet (fail)
    go_wp2_with fail
    go_ret
    exact ⟨ret_bool HNO.out.symm, by (repeat (first | exact Below.refl _ _ | assumption | refine below_dr ?_ _ | refine Below.alloc ?_ (by first | omega | (simp; done) | (simp; omega)) _ | refine Below.setCell ?_ (by first | omega | (simp; done) | (simp; omega)) _ | refine Below.trans ?_ (Below.mono (by assumption) (by first | omega | (simp; done) | (simp; omega)))))⟩
  have HY2 := Lib.hid (HY.out (by simpa [ordK] using q1) (by simpa [ordK] using q2) (by simpa [ordK] using q3))
  clear HY
  go_enter Tryz.func94, Tryz.ntmps94
  go_wp2_with (first | (go_at_call 79; refine (HAP.out 0).mono ?_; rintro e w3 ⟨rfl, m3, rfl⟩) | (go_at_call 127; refine (HAF.out _).mono ?_; rintro e w4 ⟨rfl, m4, rfl⟩) | (go_at_call 128; refine (HAR.out _).mono ?_; rintro e w5 ⟨rfl, m5, rfl⟩))
  go_quiet (fail)
  go_wp2_with fail
  clear q1 q2 q2' q3 q3' fD fN
  go_loopw [8, 9, 82] (fun _ _ j wr => ∃ k q : Nat, k ≤ N - (D + 1) ∧ j = .int .i64 k ∧ wr = (w.alloc (.cells #[.int .i64 D, .slice (some ⟨b1, 0, none⟩) (N + D + 1) c1, .slice (some ⟨b2, 0, none⟩) N c2] 39)).drewN q ∧ Hid (InnB D N ks (D + 1 + k))) (fun _ _ j _ => N - (intOf j).toNat)
  case atStart => exact ⟨0, _, by omega, rfl, rfl, Lib.hid fun i g1 g2 => by omega⟩
  case round =>
    obtain ⟨k, q, hk, rfl, rfl, HN⟩ := hrel
    by_cases hlt : k < N - (D + 1)
    · have g1 : (k : Int) < ((N - (D + 1) : Nat) : Int) := by omega
      have g0 : (0 : Int) ≤ (k : Int) := by omega
      have x1 := HQ.out (D + 1 + k) (by omega)
      cases q1 : (FloatKind.f32.format.order (kAt ks (D + 1 + k)) (kAt ks 0) == some .eq)
      rotate_left
      · have HNO := Lib.hid (okSpl_false (d := D) (ks := ks) (ps := ps) fun h => ((HZ.out h).2.2.2 (D + 1 + k) (by omega) (by omega)).1 (by simpa [ordK] using q1))
        go_wp2_with fail
        go_ret
        exact ⟨ret_bool HNO.out.symm, by (repeat (first | exact Below.refl _ _ | assumption | refine below_dr ?_ _ | refine Below.alloc ?_ (by first | omega | (simp; done) | (simp; omega)) _ | refine Below.setCell ?_ (by first | omega | (simp; done) | (simp; omega)) _ | refine Below.trans ?_ (Below.mono (by assumption) (by first | omega | (simp; done) | (simp; omega)))))⟩
      cases q2 : (FloatKind.f32.format.order (kAt ks (D + 1 + k)) (kAt ks (N + D)) == some .eq)
      rotate_left
      · have HNO := Lib.hid (okSpl_false (d := D) (ks := ks) (ps := ps) fun h => ((HZ.out h).2.2.2 (D + 1 + k) (by omega) (by omega)).2.1 (by simpa [ordK] using q2))
        go_wp2_with fail
        go_ret
        exact ⟨ret_bool HNO.out.symm, by (repeat (first | exact Below.refl _ _ | assumption | refine below_dr ?_ _ | refine Below.alloc ?_ (by first | omega | (simp; done) | (simp; omega)) _ | refine Below.setCell ?_ (by first | omega | (simp; done) | (simp; omega)) _ | refine Below.trans ?_ (Below.mono (by assumption) (by first | omega | (simp; done) | (simp; omega)))))⟩
      by_cases hg : D ≤ k
      · have g2 : (D : Int) ≤ (k : Int) := by omega
        have g3 : (0 : Int) ≤ (k : Int) - (D : Int) := by omega
        have g4 : (k : Int) - (D : Int) < ((N - (D + 1) : Nat) : Int) := by omega
        have hT4 : ((k : Int) - (D : Int)).toNat = k - D := by omega
        have x2 := HQ.out (D + 1 + (k - D)) (by omega)
        have HE := Lib.hid (show D + 1 + k - D = D + 1 + (k - D) by omega)
        cases q3 : (FloatKind.f32.format.order (kAt ks (D + 1 + (k - D))) (kAt ks (D + 1 + k)) == some .eq)
        · have HS := Lib.hid (HN.out.succ q1 q2 (fun _ => by rw [HE.out]; exact q3))
          go_wp2_with fail
          go_roundw
          case rel => exact ⟨k + 1, _, by omega, by go_num, by first | rfl | trivial, HS⟩
          case measure => simp [intOf]; omega
        · have HNO := Lib.hid (okSpl_false (d := D) (ks := ks) (ps := ps) fun h => ((HZ.out h).2.2.2 (D + 1 + k) (by omega) (by omega)).2.2 (by omega) (by rw [HE.out]; simpa [ordK] using q3))
          go_wp2_with fail
          go_ret
          exact ⟨ret_bool HNO.out.symm, by (repeat (first | exact Below.refl _ _ | assumption | refine below_dr ?_ _ | refine Below.alloc ?_ (by first | omega | (simp; done) | (simp; omega)) _ | refine Below.setCell ?_ (by first | omega | (simp; done) | (simp; omega)) _ | refine Below.trans ?_ (Below.mono (by assumption) (by first | omega | (simp; done) | (simp; omega)))))⟩
      · have g2 : ¬ (D : Int) ≤ (k : Int) := by omega
        have HS := Lib.hid (HN.out.succ q1 q2 (fun g => absurd g (by omega)))
        go_wp2_with fail
        go_roundw
        case rel => exact ⟨k + 1, _, by omega, by go_num, by first | rfl | trivial, HS⟩
        case measure => simp [intOf]; omega
    · have g1 : ¬ (k : Int) < ((N - (D + 1) : Nat) : Int) := by omega
      have HOK := Lib.hid (HY2.out (by have := HN.out; rwa [show D + 1 + k = N by omega] at this))
      go_wp2_with fail
      go_ret
      exact ⟨ret_bool HOK.out.symm, by (repeat (first | exact Below.refl _ _ | assumption | refine below_dr ?_ _ | refine Below.alloc ?_ (by first | omega | (simp; done) | (simp; omega)) _ | refine Below.setCell ?_ (by first | omega | (simp; done) | (simp; omega)) _ | refine Below.trans ?_ (Below.mono (by assumption) (by first | omega | (simp; done) | (simp; omega)))))⟩
end Go.Proofs.YtlpgaekkhlinhaaGreatDoor
