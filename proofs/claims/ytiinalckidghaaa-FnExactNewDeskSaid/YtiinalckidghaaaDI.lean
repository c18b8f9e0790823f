/- The program's desk at the beginning. -/
import Derived.Test.YtiinalckidghaaaDY
namespace Go.Proofs.Ytiinalckidghaaa
open Go.RowKit Go.Fl
set_option maxHeartbeats 2000000 in
set_option maxRecDepth 100000 in
theorem implNewDesk (w : World) : Calls Try.prog 5 #[] w (DeskR w) := by
  go_enter Try.func5, Try.ntmps5
  have hb0 : Below w.heap.size w ((w.alloc (.cells dskZ 32)).alloc (.cells #[.complex .f32 0 0, .complex .f32 1065353216 1065353216, .complex .f32 1073741824 0] 38)) := by
    show Below _ _ _
    (repeat (first | exact Below.refl _ _ | assumption | refine below_dr ?_ _ | refine Below.alloc ?_ (by first | omega | (simp; done) | (simp; omega)) _ | refine Below.setCell ?_ (by first | omega | (simp; done) | (simp; omega)) _ | refine Below.trans ?_ (Below.mono (by assumption) (by first | omega | (simp; done) | (simp; omega)))))
  have HA := Lib.hid (plainCurve (w.heap.size + 1) (w.heap.size + 2) (w.heap.size + 1) 3 ((w.alloc (.cells dskZ 32)).alloc (.cells #[.complex .f32 0 0, .complex .f32 1065353216 1065353216, .complex .f32 1073741824 0] 38)) (SlC.new (by rfl) (by simp)) (by simp))
  have HT := Lib.hid (OwnC.new (w := w) (b := w.heap.size) (cs := dskZ) (T := 32) rfl)
  have HB0 := Lib.hid hb0
  clear hb0
  go_wp2_with (go_at_call 12; refine HA.out.mono ?_; rintro e w1 ⟨⟨b0, c0, b1, c1, v0, rfl, l0, l1, n01, t0, t1, o0, o1⟩, hb1⟩; have O0 := Lib.hid o0; have O1 := Lib.hid o1; have HB1 := Lib.hid hb1; clear o0 o1 hb1)
  have z1 : w.heap.size + 2 ≤ w1.heap.size := by have := HB1.out.size; simpa using this
  simp at l0 l1
  obtain ⟨L, hL⟩ : ∃ x : World, x = w1.alloc (.cells #[.slice (some ⟨b0, 0, none⟩) 3 c0, .slice (some ⟨b1, 0, none⟩) 3 c1] 25) := ⟨_, rfl⟩
  have hP : OwnC L w1.heap.size #[.slice (some ⟨b0, 0, none⟩) 3 c0, .slice (some ⟨b1, 0, none⟩) 3 c1] 25 := by rw [hL]; exact OwnC.new rfl
  have zL : L.heap.size = w1.heap.size + 1 := by rw [hL]; simp
  have hBL : Below w1.heap.size w1 L := by rw [hL]; exact Below.alloc (Below.refl _ _) (Nat.le_refl _) _
  rw [← hL]
  have HBL := Lib.hid hBL
  have hB := evenSpline L.heap.size (L.heap.size + 1) L.heap.size 4 (L.alloc (.cells #[.complex .f32 0 0, .complex .f32 1065353216 0, .complex .f32 1073741824 0, .complex .f32 1077936128 0] 38)) (SlC.new (by rfl) rfl) (by simp)
  have HPA := Lib.hid (hP.alloc (.cells #[.complex .f32 0 0, .complex .f32 1065353216 0, .complex .f32 1073741824 0, .complex .f32 1077936128 0] 38))
  have HB := Lib.hid hB
  clear hL hP hBL hB
  rw [← zL]
  refine HB.out.mono ?_
  rintro e w2 ⟨⟨b2, c2, b3, c3, v1, rfl, l2, l3, n23, t2, t3, o2, o3⟩, hb2⟩
  simp only [World.size_alloc] at l2 l3
  have z2 := hb2.size
  simp only [World.size_alloc] at z2
  have O2 := Lib.hid o2
  have O3 := Lib.hid o3
  have HB2 := Lib.hid hb2
  have hB12 : Below w1.heap.size w1 w2 := HBL.out.trans ((Below.alloc (Below.refl _ _) (Nat.le_refl _) _ : Below L.heap.size L (L.alloc (.cells #[.complex .f32 0 0, .complex .f32 1065353216 0, .complex .f32 1073741824 0, .complex .f32 1077936128 0] 38))).trans (hb2.mono (by simp)) |>.mono (by omega))
  have HB12 := Lib.hid hB12
  clear o2 o3 hb2 hB12
  go_wp2_with fail
  refine (flatSheet _).mono ?_
  rintro e w3 ⟨⟨b4, c4, v2, rfl, l4, t4, o4⟩, hb3⟩
  simp only [World.size_alloc] at l4
  have z3 := hb3.size
  simp only [World.size_alloc] at z3
  have hB23 : Below w2.heap.size w2 w3 := (Below.alloc (Below.refl _ _) (Nat.le_refl _) _).trans (hb3.mono (by simp))
  have hB13 : Below w1.heap.size w1 w3 := HB12.out.trans (hB23.mono (by omega))
  have hP1 := (HPA.out.below HB2.out (by simp; omega)).below hB23 (by omega)
  have hP2 : OwnC w3 w2.heap.size #[.int .i64 2, .slice (some ⟨b2, 0, none⟩) 7 c2, .slice (some ⟨b3, 0, none⟩) 4 c3] 27 := (OwnC.new rfl).below hb3 (by simp)
  have hP3 : OwnC (w3.alloc (.cells #[.int .i64 2, .int .i64 2, .slice (some ⟨b4, 0, none⟩) 4 c4] 30)) w3.heap.size #[.int .i64 2, .int .i64 2, .slice (some ⟨b4, 0, none⟩) 4 c4] 30 := OwnC.new rfl
  have hR3 : OwnC w3 w.heap.size dskZ 32 := (HT.out.alloc _).below (HB1.out.trans (hB13.mono (by simp; omega))) (by simp; omega)
  have hP1' := hP1.alloc (.cells #[.int .i64 2, .int .i64 2, .slice (some ⟨b4, 0, none⟩) 4 c4] 30)
  have hP2' := hP2.alloc (.cells #[.int .i64 2, .int .i64 2, .slice (some ⟨b4, 0, none⟩) 4 c4] 30)
  have hR' := (hR3.alloc (.cells #[.int .i64 2, .int .i64 2, .slice (some ⟨b4, 0, none⟩) 4 c4] 30)).alloc (.cells #[.complex .f32 0 0, .complex .f32 1082130432 0, .complex .f32 1082130432 1082130432] 38)
  have a0 := hP1'.cell 0
  have a1 := hP1'.cell 1
  have d0 := hP2'.cell 0
  have d1 := hP2'.cell 1
  have d2 := hP2'.cell 2
  have h0 := hP3.cell 0
  have h1 := hP3.cell 1
  have h2 := hP3.cell 2
  have r0 := hR'.cell 0
  have g0 := hR'.free 0
  have r1 := hR'.cell 1
  have g1 := hR'.free 1
  have r2 := hR'.cell 2
  have g2 := hR'.free 2
  have r3 := hR'.cell 3
  have g3 := hR'.free 3
  have r4 := hR'.cell 4
  have g4 := hR'.free 4
  have r5 := hR'.cell 5
  have g5 := hR'.free 5
  have r6 := hR'.cell 6
  have g6 := hR'.free 6
  have r7 := hR'.cell 7
  have g7 := hR'.free 7
  have r8 := hR'.cell 8
  have g8 := hR'.free 8
  simp [dskZ] at a0 a1 d0 d1 d2 h0 h1 h2 r0 r1 r2 r3 r4 r5 r6 r7 r8
  have hBW : Below w.heap.size w w3 := HB0.out.trans ((HB1.out.trans (hB13.mono (by simp; omega))).mono (by simp; omega))
  have HBW := Lib.hid hBW
  have HR := Lib.hid hR'
  have HB3 := Lib.hid hb3
  have HB13 := Lib.hid hB13
  have HB23 := Lib.hid hB23
  have O4 := Lib.hid o4
  clear o4 hBW hR' hb3 hB13 hB23 hP1 hP2 hP3 hR3 hP1' hP2'
  go_wp2_with fail
  obtain ⟨W, hW⟩ : ∃ x : World, x = (((((((((((w3.alloc (.cells #[.int .i64 2, .int .i64 2, .slice (some ⟨b4, 0, none⟩) 4 c4] 30)).alloc (.cells #[.complex .f32 0 0, .complex .f32 1082130432 0, .complex .f32 1082130432 1082130432] 38)).setCell ⟨w.heap.size, 0, none⟩ (.slice (some ⟨b0, 0, none⟩) 3 c0)).setCell ⟨w.heap.size, 1, none⟩ (.slice (some ⟨b1, 0, none⟩) 3 c1)).setCell ⟨w.heap.size, 2, none⟩ (.int .i64 2)).setCell ⟨w.heap.size, 3, none⟩ (.slice (some ⟨b2, 0, none⟩) 7 c2)).setCell ⟨w.heap.size, 4, none⟩ (.slice (some ⟨b3, 0, none⟩) 4 c3)).setCell ⟨w.heap.size, 5, none⟩ (.int .i64 2)).setCell ⟨w.heap.size, 6, none⟩ (.int .i64 2)).setCell ⟨w.heap.size, 7, none⟩ (.slice (some ⟨b4, 0, none⟩) 4 c4)).setCell ⟨w.heap.size, 8, none⟩ (.slice (some ⟨w3.heap.size + 1, 0, none⟩) 3 3)) := ⟨_, rfl⟩
  have hFar : Far (w.heap.size + 1) w3.heap.size w3 W := by rw [hW]; exact ((((((((((((Far.refl (w.heap.size + 1) w3.heap.size w3).alloc (.cells #[.int .i64 2, .int .i64 2, .slice (some ⟨b4, 0, none⟩) 4 c4] 30) (Nat.le_refl _)).alloc (.cells #[.complex .f32 0 0, .complex .f32 1082130432 0, .complex .f32 1082130432 1082130432] 38) (by simp)).set _ _ (.inl (by simp))).set _ _ (.inl (by simp))).set _ _ (.inl (by simp))).set _ _ (.inl (by simp))).set _ _ (.inl (by simp))).set _ _ (.inl (by simp))).set _ _ (.inl (by simp))).set _ _ (.inl (by simp))).set _ _ (.inl (by simp)))
  have hBel : Below w.heap.size w W := by rw [hW]; exact (((((((((((HBW.out.alloc (by omega) (.cells #[.int .i64 2, .int .i64 2, .slice (some ⟨b4, 0, none⟩) 4 c4] 30)).alloc (by simp; omega) (.cells #[.complex .f32 0 0, .complex .f32 1082130432 0, .complex .f32 1082130432 1082130432] 38)).setCell (Nat.le_refl _) _).setCell (Nat.le_refl _) _).setCell (Nat.le_refl _) _).setCell (Nat.le_refl _) _).setCell (Nat.le_refl _) _).setCell (Nat.le_refl _) _).setCell (Nat.le_refl _) _).setCell (Nat.le_refl _) _).setCell (Nat.le_refl _) _)
  have hOwn : OwnC W w.heap.size #[(.slice (some ⟨b0, 0, none⟩) 3 c0), (.slice (some ⟨b1, 0, none⟩) 3 c1), (.int .i64 2), (.slice (some ⟨b2, 0, none⟩) 7 c2), (.slice (some ⟨b3, 0, none⟩) 4 c3), (.int .i64 2), (.int .i64 2), (.slice (some ⟨b4, 0, none⟩) 4 c4), (.slice (some ⟨w3.heap.size + 1, 0, none⟩) 3 3)] 32 := by rw [hW]; exact (((((((((HR.out.set 0 _).set 1 _).set 2 _).set 3 _).set 4 _).set 5 _).set 6 _).set 7 _).set 8 _).congr (by simp [dskZ])
  have zW : W.heap.size = w3.heap.size + 2 := by rw [hW]; simp
  have hO5 : OwnC1 W (w3.heap.size + 1) rngP := by rw [hW]; exact (OwnC1.new (w := w3.alloc (.cells #[.int .i64 2, .int .i64 2, .slice (some ⟨b4, 0, none⟩) 4 c4] 30)) (l := rngP) (T := 38) (nb := w3.heap.size + 1) (by rfl) (by simp)).far ((((((((((Far.refl (w3.heap.size + 1) (w3.heap.size + 2) ((w3.alloc (.cells #[.int .i64 2, .int .i64 2, .slice (some ⟨b4, 0, none⟩) 4 c4] 30)).alloc (.cells #[.complex .f32 0 0, .complex .f32 1082130432 0, .complex .f32 1082130432 1082130432] 38))).set _ _ (.inl (by simp; omega))).set _ _ (.inl (by simp; omega))).set _ _ (.inl (by simp; omega))).set _ _ (.inl (by simp; omega))).set _ _ (.inl (by simp; omega))).set _ _ (.inl (by simp; omega))).set _ _ (.inl (by simp; omega))).set _ _ (.inl (by simp; omega))).set _ _ (.inl (by simp; omega))) (Nat.le_refl _) (by omega)
  rw [← hW]
  have q0 := hOwn.cell 0
  have q1 := hOwn.cell 1
  have q2 := hOwn.cell 2
  have q3 := hOwn.cell 3
  have q4 := hOwn.cell 4
  have q5 := hOwn.cell 5
  have q6 := hOwn.cell 6
  have q7 := hOwn.cell 7
  have q8 := hOwn.cell 8
  simp at q0 q1 q2 q3 q4 q5 q6 q7 q8
  have hFb : ∀ (x : Nat), w.heap.size + 2 ≤ x → x < w1.heap.size → Far x (x + 1) w1 W := fun x h1 h2 => (Far.below HB13.out (show x + 1 ≤ w1.heap.size by omega)).trans (hFar.mono (by omega) (by omega))
  have hFc : ∀ (x : Nat), L.heap.size + 1 ≤ x → x < w2.heap.size → Far x (x + 1) w2 W := fun x h1 h2 => (Far.below HB23.out (by omega)).trans (hFar.mono (by omega) (by omega))
  have hFd : ∀ (x : Nat), w2.heap.size + 1 ≤ x → x < w3.heap.size → Far x (x + 1) w3 W := fun x h1 h2 => hFar.mono (by omega) (by omega)
  refine bodyPost_ret (v := dskV (nth [b0, b1, b2, b3, b4, w3.heap.size + 1]) (nth [c0, c1, c2, c3, c4, 3])) (by simp [results, Try.results5, go_sem, q0, q1, q2, q3, q4, q5, q6, q7, q8]; rfl) rfl ⟨_, _, rfl, ⟨fun i hi => ?_, fun i j h1 h2 => ?_, ?_, ?_, ?_, ?_, ?_, ?_⟩, hBel⟩
  · have hc : i = 0 ∨ i = 1 ∨ i = 2 ∨ i = 3 ∨ i = 4 ∨ i = 5 := by omega
    rcases hc with rfl | rfl | rfl | rfl | rfl | rfl <;> simp [nth] <;> omega
  · have hc : j = 1 ∨ j = 2 ∨ j = 3 ∨ j = 4 ∨ j = 5 := by omega
    have hi : i = 0 ∨ i = 1 ∨ i = 2 ∨ i = 3 ∨ i = 4 := by omega
    rcases hc with rfl | rfl | rfl | rfl | rfl <;> rcases hi with rfl | rfl | rfl | rfl | rfl <;> (try omega) <;> simp [nth] <;> omega
  · exact O0.out.far (hFb b0 (by omega) t0) (Nat.le_refl _) (Nat.lt_succ_self _)
  · exact O1.out.far (hFb b1 (by omega) t1) (Nat.le_refl _) (Nat.lt_succ_self _)
  · exact O2.out.far (hFc b2 (by omega) t2) (Nat.le_refl _) (Nat.lt_succ_self _)
  · exact O3.out.far (hFc b3 (by omega) t3) (Nat.le_refl _) (Nat.lt_succ_self _)
  · exact O4.out.far (hFd b4 (by omega) t4) (Nat.le_refl _) (Nat.lt_succ_self _)
  · exact hO5
end Go.Proofs.Ytiinalckidghaaa
