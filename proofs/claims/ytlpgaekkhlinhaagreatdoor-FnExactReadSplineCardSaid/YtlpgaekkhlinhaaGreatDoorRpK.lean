/- impl.ValidSpline, ifSpline. -/
import Derived.Test.YtlpgaekkhlinhaaGreatDoorRpJ
namespace Go.Fl
open Go.RowKit
theorem OwnC.three' {w : World} {b : Nat} {t u v : Value} {T : TypeId} (h : OwnC w b #[t, u, v] T) : (w.cell? ⟨b, 0, none⟩ = some t ∧ w.cell? ⟨b, 1, none⟩ = some u ∧ w.cell? ⟨b, 2, none⟩ = some v) ∧ w.frozen? ⟨b, 0, none⟩ = false ∧ w.frozen? ⟨b, 1, none⟩ = false ∧ w.frozen? ⟨b, 2, none⟩ = false :=
  ⟨⟨by rw [h.cell]; rfl, by rw [h.cell]; rfl, by rw [h.cell]; rfl⟩, h.free 0, h.free 1, h.free 2⟩
end Go.Fl
namespace Go.Proofs.YtlpgaekkhlinhaaGreatDoor
open Go.RowKit Go.Fl

set_option maxHeartbeats 2000000 in
set_option maxRecDepth 100000 in
theorem validSpline (d : Int) (b1 c1 b2 c2 : Nat) (ks : List Nat) (ps : List Cx) (hc : ks.length ≤ c1) (hk : ks.length ≤ 1048576) (hp : ps.length ≤ 1048576) (w : World) (h1 : RdK w b1 ks) (h2 : RdZ w b2 ps) (l1 : b1 < w.heap.size) (l2 : b2 < w.heap.size) :
    Calls Tryz.prog 67 #[.agg #[.int .i64 d, .slice (some ⟨b1, 0, none⟩) ks.length c1, .slice (some ⟨b2, 0, none⟩) ps.length c2]] w fun e w' => e = .returned (.bool (okSpl d ks ps)) ∧ Below w.heap.size w w' := by
  have hb0 : Below w.heap.size w (w.alloc (.cells #[.int .i64 d, .slice (some ⟨b1, 0, none⟩) ks.length c1, .slice (some ⟨b2, 0, none⟩) ps.length c2] 39)) := Below.alloc (Below.refl _ _) (Nat.le_refl _) _
  have HA := Lib.hid (h1.below hb0 l1)
  have HB := Lib.hid (h2.below hb0 l2)
  have HB0 := Lib.hid hb0
  have HW := Lib.hid (within d 1 5)
  clear h1 h2 hb0
  by_cases hA : 1 ≤ d ∧ d ≤ 5
  rotate_left
  · rw [show inB d 1 5 = false by simp [inB]; omega] at HW
    have HNO := Lib.hid (okSpl_false (d := d) (ks := ks) (ps := ps) fun ⟨D, e, h⟩ => hA (by have := h.d1; have := h.d5; omega))
    clear hA
    go_enter Tryz.func67, Tryz.ntmps67
    go_wp2_with (go_at_call 92; refine (HW.out _).mono ?_; rintro e w1 ⟨rfl, rfl⟩)
    go_ret
    exact ⟨ret_bool HNO.out.symm, HB0.out⟩
  rw [show inB d 1 5 = true by simp [inB]; omega] at HW
  obtain ⟨D, rfl⟩ := Int.eq_ofNat_of_zero_le (show 0 ≤ d by omega)
  obtain ⟨hD1, hD5⟩ : 1 ≤ D ∧ D ≤ 5 := by omega
  have hD5' : (D : Int) ≤ 5 := by omega
  have hD1' : (1 : Int) ≤ (D : Int) := by omega
  clear hA
  by_cases hB : ps.length < D + 1
  · have HNO := Lib.hid (okSpl_false (d := D) (ks := ks) (ps := ps) fun h => by have := h.ok.n1; omega)
    have g : (ps.length : Int) < (D : Int) + 1 := by omega
    go_enter Tryz.func67, Tryz.ntmps67
    go_wp2_with (go_at_call 92; refine (HW.out _).mono ?_; rintro e w1 ⟨rfl, rfl⟩)
    go_ret
    exact ⟨ret_bool HNO.out.symm, HB0.out⟩
  have gB : ¬ (ps.length : Int) < (D : Int) + 1 := by omega
  by_cases hC : 24 < ps.length
  · have HNO := Lib.hid (okSpl_false (d := D) (ks := ks) (ps := ps) fun h => by have := h.ok.n24; omega)
    have g : (24 : Int) < (ps.length : Int) := by omega
    go_enter Tryz.func67, Tryz.ntmps67
    go_wp2_with (go_at_call 92; refine (HW.out _).mono ?_; rintro e w1 ⟨rfl, rfl⟩)
    go_ret
    exact ⟨ret_bool HNO.out.symm, HB0.out⟩
  have gC : ¬ (24 : Int) < (ps.length : Int) := by omega
  have HS := Lib.hid (isSound D b1 c1 b2 c2 ks ps hD1 hD5 (by omega) (by omega) hc hk _ HA.out HB.out (by simp; omega) (by simp; omega))
  go_enter Tryz.func67, Tryz.ntmps67
  go_wp2_with (first | (go_at_call 92; refine (HW.out _).mono ?_; rintro e w1 ⟨rfl, rfl⟩) | (go_at_call 94; refine HS.out.mono ?_; rintro e w2 ⟨rfl, hb2⟩))
  go_ret
  exact ⟨rfl, HB0.out.trans (hb2.mono (by simp))⟩

set_option maxHeartbeats 2000000 in
set_option maxRecDepth 100000 in
theorem ifSpline (d : Int) (b1 c1 b2 c2 : Nat) (ks : List Nat) (ps : List Cx) (hc : ks.length ≤ c1) (hk : ks.length ≤ 1048576) (hp : ps.length ≤ 1048576) (w : World) (h1 : RdK w b1 ks) (h2 : RdZ w b2 ps) (l1 : b1 < w.heap.size) (l2 : b2 < w.heap.size) :
    Calls Tryz.prog 42 #[.agg #[.int .i64 d, .slice (some ⟨b1, 0, none⟩) ks.length c1, .slice (some ⟨b2, 0, none⟩) ps.length c2]] w fun e w' => (okSpl d ks ps = true → e = .returned (.tuple #[.agg #[.int .i64 d, .slice (some ⟨b1, 0, none⟩) ks.length c1, .slice (some ⟨b2, 0, none⟩) ps.length c2], .bool true])) ∧ (okSpl d ks ps = false → e = .returned (.tuple #[.agg #[.int .i64 0, .slice none 0 0, .slice none 0 0], .bool false])) ∧ Below w.heap.size w w' := by
  have hb0 : Below w.heap.size w ((w.alloc (.cells #[.int .i64 d, .slice (some ⟨b1, 0, none⟩) ks.length c1, .slice (some ⟨b2, 0, none⟩) ps.length c2] 39)).alloc (.cells #[.int .i64 0, .slice none 0 0, .slice none 0 0] 39)) := Below.alloc (Below.alloc (Below.refl _ w) (Nat.le_refl _) _) (by simp) _
  have A0 : OwnC ((w.alloc (.cells #[.int .i64 d, .slice (some ⟨b1, 0, none⟩) ks.length c1, .slice (some ⟨b2, 0, none⟩) ps.length c2] 39)).alloc (.cells #[.int .i64 0, .slice none 0 0, .slice none 0 0] 39)) w.heap.size #[.int .i64 d, .slice (some ⟨b1, 0, none⟩) ks.length c1, .slice (some ⟨b2, 0, none⟩) ps.length c2] 39 := (OwnC.new rfl).alloc _
  have R0 : OwnC ((w.alloc (.cells #[.int .i64 d, .slice (some ⟨b1, 0, none⟩) ks.length c1, .slice (some ⟨b2, 0, none⟩) ps.length c2] 39)).alloc (.cells #[.int .i64 0, .slice none 0 0, .slice none 0 0] 39)) (w.heap.size + 1) #[.int .i64 0, .slice none 0 0, .slice none 0 0] 39 := OwnC.new (by simp)
  have HI := Lib.hid (validSpline d b1 c1 b2 c2 ks ps hc hk hp ((w.alloc (.cells #[.int .i64 d, .slice (some ⟨b1, 0, none⟩) ks.length c1, .slice (some ⟨b2, 0, none⟩) ps.length c2] 39)).alloc (.cells #[.int .i64 0, .slice none 0 0, .slice none 0 0] 39)) (h1.below hb0 l1) (h2.below hb0 l2) (by simp; omega) (by simp; omega))
  have HA0 := Lib.hid A0
  have HR0 := Lib.hid R0
  have HB0 := Lib.hid hb0
  clear hb0 A0 R0 h1 h2
  go_enter Tryz.func42, Tryz.ntmps42
  go_wp2_with fail
  refine HI.out.mono ?_
  rintro e w1 ⟨rfl, hb1⟩
  obtain ⟨⟨a0, a1, a2⟩, _, _, _⟩ := (HA0.out.below hb1 (by simp; omega)).three'
  obtain ⟨⟨d0, d1, d2⟩, f0, f1, f2⟩ := (HR0.out.below hb1 (by simp)).three'
  have HB1 := Lib.hid (HB0.out.trans (hb1.mono (by simp; omega)))
  clear hb1
  cases hok : okSpl d ks ps
  · go_wp2_with fail
    refine bodyPost_ret (v := .tuple #[.agg #[.int .i64 0, .slice none 0 0, .slice none 0 0], .bool false]) (by simp [results, Tryz.results42, go_sem, d0, d1, d2]) rfl ⟨fun h => absurd (h.symm.trans hok) (by decide), fun _ => rfl, ((HB1.out.setCell (by show w.heap.size ≤ w.heap.size + 1; omega) _).setCell (by show w.heap.size ≤ w.heap.size + 1; omega) _).setCell (by show w.heap.size ≤ w.heap.size + 1; omega) _⟩
  · go_wp2_with fail
    refine bodyPost_ret (v := .tuple #[.agg #[.int .i64 d, .slice (some ⟨b1, 0, none⟩) ks.length c1, .slice (some ⟨b2, 0, none⟩) ps.length c2], .bool true]) (by simp [results, Tryz.results42, go_sem, d0, d1, d2]) rfl ⟨fun _ => rfl, fun h => absurd (h.symm.trans hok) (by decide), ((HB1.out.setCell (by show w.heap.size ≤ w.heap.size + 1; omega) _).setCell (by show w.heap.size ≤ w.heap.size + 1; omega) _).setCell (by show w.heap.size ≤ w.heap.size + 1; omega) _⟩
end Go.Proofs.YtlpgaekkhlinhaaGreatDoor
