/- The even spline of the beginning is valid, by the program's functions. -/
import Derived.Test.YtiinalckidghaaaDV
namespace Go.Fl
theorem oAA : FloatKind.f32.format.order 0 0 = some .eq := by decide +kernel
theorem oAB : FloatKind.f32.format.order 0 1065353216 = some .lt := by decide +kernel
theorem oAC : FloatKind.f32.format.order 0 1073741824 = some .lt := by decide +kernel
theorem oBA : FloatKind.f32.format.order 1065353216 0 = some .gt := by decide +kernel
theorem oBB : FloatKind.f32.format.order 1065353216 1065353216 = some .eq := by decide +kernel
theorem oBC : FloatKind.f32.format.order 1065353216 1073741824 = some .lt := by decide +kernel
theorem oCA : FloatKind.f32.format.order 1073741824 0 = some .gt := by decide +kernel
theorem oCB : FloatKind.f32.format.order 1073741824 1065353216 = some .gt := by decide +kernel
theorem oCC : FloatKind.f32.format.order 1073741824 1073741824 = some .eq := by decide +kernel
theorem ogg : (some Ordering.gt == some Ordering.gt) = true := rfl
theorem oge : (some Ordering.gt == some Ordering.eq) = false := rfl
theorem ogl : (some Ordering.gt == some Ordering.lt) = false := rfl
theorem oeg : (some Ordering.eq == some Ordering.gt) = false := rfl
theorem oee : (some Ordering.eq == some Ordering.eq) = true := rfl
theorem oel : (some Ordering.eq == some Ordering.lt) = false := rfl
theorem olg : (some Ordering.lt == some Ordering.gt) = false := rfl
theorem ole : (some Ordering.lt == some Ordering.eq) = false := rfl
theorem oll : (some Ordering.lt == some Ordering.lt) = true := rfl
end Go.Fl
namespace Go.Proofs.Ytiinalckidghaaa
open Go.RowKit Go.Fl
theorem knCells {w : World} {b : Nat} (h : OwnF1 w b knF) : w.cell? ⟨b, 0, none⟩ = some (.float .f32 0) ∧ w.cell? ⟨b, 1, none⟩ = some (.float .f32 0) ∧ w.cell? ⟨b, 2, none⟩ = some (.float .f32 0) ∧ w.cell? ⟨b, 3, none⟩ = some (.float .f32 1065353216) ∧ w.cell? ⟨b, 4, none⟩ = some (.float .f32 1073741824) ∧ w.cell? ⟨b, 5, none⟩ = some (.float .f32 1073741824) ∧ w.cell? ⟨b, 6, none⟩ = some (.float .f32 1073741824) :=
  ⟨h.2 0 (by decide), h.2 1 (by decide), h.2 2 (by decide), h.2 3 (by decide), h.2 4 (by decide), h.2 5 (by decide), h.2 6 (by decide)⟩
set_option maxHeartbeats 1000000 in
theorem risingKn (b c : Nat) (w : World) (h : OwnF1 w b knF) : Calls Try.prog 65 #[.slice (some ⟨b, 0, none⟩) 7 c] w fun e w' => e = .returned (.bool true) ∧ ∃ n, w' = w.drewN n := by
  obtain ⟨c0, c1, c2, c3, c4, c5, c6⟩ := knCells h
  have f1 := oAA; have f2 := oBA; have f3 := oCB; have f4 := oCC; have g1 := ogg; have g2 := oge; have g3 := oeg; have g4 := oee
  clear h
  go_enter Try.func65, Try.ntmps65
  go_wp2_with fail
  go_loopw [3] (fun i wr => ∃ k q : Nat, 1 ≤ k ∧ k ≤ 7 ∧ i = .int .i64 k ∧ wr = w.drewN q) (fun i _ => 7 - (intOf i).toNat)
  case atStart => exact ⟨1, 0, by omega, by omega, rfl, rfl⟩
  case round =>
    obtain ⟨k, q, h1, h7, rfl, rfl⟩ := hrel
    have hc : k = 1 ∨ k = 2 ∨ k = 3 ∨ k = 4 ∨ k = 5 ∨ k = 6 ∨ k = 7 := by omega
    rcases hc with rfl | rfl | rfl | rfl | rfl | rfl | rfl
    · go_wp2_with fail
      go_quiet (fail)
      go_wp2_with fail
      go_roundw
      case rel => exact ⟨2, _, by omega, by omega, by go_num, by first | rfl | (simp only [World.drewN_drewN]; done)⟩
      case measure => simp [intOf]
    · go_wp2_with fail
      go_quiet (fail)
      go_wp2_with fail
      go_roundw
      case rel => exact ⟨3, _, by omega, by omega, by go_num, by first | rfl | (simp only [World.drewN_drewN]; done)⟩
      case measure => simp [intOf]
    · go_wp2_with fail
      go_quiet (fail)
      go_wp2_with fail
      go_roundw
      case rel => exact ⟨4, _, by omega, by omega, by go_num, by first | rfl | (simp only [World.drewN_drewN]; done)⟩
      case measure => simp [intOf]
    · go_wp2_with fail
      go_quiet (fail)
      go_wp2_with fail
      go_roundw
      case rel => exact ⟨5, _, by omega, by omega, by go_num, by first | rfl | (simp only [World.drewN_drewN]; done)⟩
      case measure => simp [intOf]
    · go_wp2_with fail
      go_quiet (fail)
      go_wp2_with fail
      go_roundw
      case rel => exact ⟨6, _, by omega, by omega, by go_num, by first | rfl | (simp only [World.drewN_drewN]; done)⟩
      case measure => simp [intOf]
    · go_wp2_with fail
      go_quiet (fail)
      go_wp2_with fail
      go_roundw
      case rel => exact ⟨7, _, by omega, by omega, by go_num, by first | rfl | (simp only [World.drewN_drewN]; done)⟩
      case measure => simp [intOf]
    · go_wp2_with fail
      go_ret
      exact ⟨rfl, _, rfl⟩
theorem OwnF1.room_lt {w : World} {g : Nat} {xs : List Nat} (h : OwnF1 w g xs) : g < w.heap.size := h.1.lt
theorem splFin : splP.all okPt = true := by decide +kernel
theorem knFin : (knF.all fun x => fin (can .f32 x)) = true := by decide +kernel
set_option maxHeartbeats 2000000 in
set_option maxRecDepth 100000 in
theorem soundKn (b1 c1 b2 c2 : Nat) (hc1 : 7 ≤ c1) (w : World) (h : OwnF1 w b1 knF) (h2 : OwnC1 w b2 splP) : Calls Try.prog 56 #[.agg #[.int .i64 2, .slice (some ⟨b1, 0, none⟩) 7 c1, .slice (some ⟨b2, 0, none⟩) 4 c2]] w fun e w' => e = .returned (.bool true) ∧ Below w.heap.size w w' := by
  have hA : OwnF1 (w.alloc (.cells #[.int .i64 2, .slice (some ⟨b1, 0, none⟩) 7 c1, .slice (some ⟨b2, 0, none⟩) 4 c2] 27)) b1 knF := h.below (Below.alloc (Below.refl _ _) (Nat.le_refl _) _) h.1.lt
  have hB : SlC (w.alloc (.cells #[.int .i64 2, .slice (some ⟨b1, 0, none⟩) 7 c1, .slice (some ⟨b2, 0, none⟩) 4 c2] 27)) 0 w.heap.size (some ⟨b2, 0, none⟩) splP := fun _ => ⟨b2, rfl, Nat.zero_le _, h2.1.lt, fun i hi => (h2.below (Below.alloc (Below.refl _ _) (Nat.le_refl _) _) h2.1.lt).2 i hi⟩
  obtain ⟨k0, k1, k2, k3, k4, k5, k6⟩ := knCells hA
  have HA := Lib.hid hA
  have HB := Lib.hid hB
  have HAP := Lib.hid (fun q => arePoints 0 w.heap.size (some ⟨b2, 0, none⟩) c2 splP (by decide) ((w.alloc (.cells #[.int .i64 2, .slice (some ⟨b1, 0, none⟩) 7 c1, .slice (some ⟨b2, 0, none⟩) 4 c2] 27)).drewN q) hB)
  have HAF := Lib.hid (fun q => areFinite knF (.slice (some ⟨b1, 0, none⟩) 7 c1) ((w.alloc (.cells #[.int .i64 2, .slice (some ⟨b1, 0, none⟩) 7 c1, .slice (some ⟨b2, 0, none⟩) 4 c2] 27)).drewN q) ((hA.slF rfl (by decide)).drewN q))
  have HAR := Lib.hid (fun q => risingKn b1 c1 ((w.alloc (.cells #[.int .i64 2, .slice (some ⟨b1, 0, none⟩) 7 c1, .slice (some ⟨b2, 0, none⟩) 4 c2] 27)).drewN q) hA)
  have s1 := splFin
  have s2 := knFin
  have f1 := oAA; have f2 := oAC; have f3 := oCC; have f4 := oBA; have f5 := oBC; have f6 := oCA
  have g1 := ogg; have g2 := oge; have g3 := ogl; have g4 := oeg; have g5 := oee; have g6 := oel; have g7 := olg; have g8 := ole; have g9 := oll
  clear hA hB h h2
  go_enter Try.func56, Try.ntmps56
  go_wp2_with (first | (go_at_call 53; refine (HAP.out 0).mono ?_; rintro e w3 ⟨rfl, q3, rfl⟩; rw [s1]) | (go_at_call 33; refine (HAF.out _).mono ?_; rintro e w4 ⟨rfl, q4, rfl⟩; rw [s2]) | (go_at_call 65; refine (HAR.out _).mono ?_; rintro e w5 ⟨rfl, q5, rfl⟩))
  go_quiet (fail)
  go_wp2_with fail
  refine wp_loop_rounds 2 ?_
  rw [rounds_succ]
  go_wp2_with fail
  rw [rounds_succ]
  go_wp2_with fail
  go_ret
  exact ⟨rfl, by (repeat (first | exact Below.refl _ _ | assumption | refine below_dr ?_ _ | refine Below.alloc ?_ (by first | omega | (simp; done) | (simp; omega)) _ | refine Below.setCell ?_ (by first | omega | (simp; done) | (simp; omega)) _ | refine Below.trans ?_ (Below.mono (by assumption) (by first | omega | (simp; done) | (simp; omega)))))⟩
set_option maxHeartbeats 2000000 in
set_option maxRecDepth 100000 in
theorem validKn (b1 c1 b2 c2 : Nat) (hc1 : 7 ≤ c1) (w : World) (h : OwnF1 w b1 knF) (h2 : OwnC1 w b2 splP) : Calls Try.prog 44 #[.agg #[.int .i64 2, .slice (some ⟨b1, 0, none⟩) 7 c1, .slice (some ⟨b2, 0, none⟩) 4 c2]] w fun e w' => e = .returned (.bool true) ∧ Below w.heap.size w w' := by
  have hb : Below w.heap.size w (w.alloc (.cells #[.int .i64 2, .slice (some ⟨b1, 0, none⟩) 7 c1, .slice (some ⟨b2, 0, none⟩) 4 c2] 27)) := Below.alloc (Below.refl _ _) (Nat.le_refl _) _
  have HS := Lib.hid (soundKn b1 c1 b2 c2 hc1 _ (h.below hb h.1.lt) (h2.below hb h2.1.lt))
  have hw : inB 2 1 5 = true := by decide
  go_enter Try.func44, Try.ntmps44
  go_wp2_with (first | (go_at_call 30; refine (within _ _ _ _).mono ?_; rintro e w3 ⟨rfl, rfl⟩; rw [hw]) | (go_at_call 56; refine HS.out.mono ?_; rintro e w4 ⟨rfl, hb4⟩))
  go_ret
  exact ⟨rfl, hb.trans (hb4.mono (by simp))⟩
set_option maxHeartbeats 2000000 in
set_option maxRecDepth 100000 in
theorem ifKn (b1 c1 b2 c2 : Nat) (hc1 : 7 ≤ c1) (w : World) (h : OwnF1 w b1 knF) (h2 : OwnC1 w b2 splP) : Calls Try.prog 31 #[.agg #[.int .i64 2, .slice (some ⟨b1, 0, none⟩) 7 c1, .slice (some ⟨b2, 0, none⟩) 4 c2]] w fun e w' => e = .returned (.tuple #[spnV 2 b1 c1 7 b2 c2 4, .bool true]) ∧ Below w.heap.size w w' := by
  have hb : Below w.heap.size w ((w.alloc (.cells #[.int .i64 2, .slice (some ⟨b1, 0, none⟩) 7 c1, .slice (some ⟨b2, 0, none⟩) 4 c2] 27)).alloc (.cells #[.int .i64 0, .slice none 0 0, .slice none 0 0] 27)) := by
    show Below _ _ _
    (repeat (first | exact Below.refl _ _ | assumption | refine below_dr ?_ _ | refine Below.alloc ?_ (by first | omega | (simp; done) | (simp; omega)) _ | refine Below.setCell ?_ (by first | omega | (simp; done) | (simp; omega)) _ | refine Below.trans ?_ (Below.mono (by assumption) (by first | omega | (simp; done) | (simp; omega)))))
  have HS := Lib.hid (validKn b1 c1 b2 c2 hc1 _ (h.below hb h.1.lt) (h2.below hb h2.1.lt))
  have HB := Lib.hid hb
  have hP : OwnC ((w.alloc (.cells #[.int .i64 2, .slice (some ⟨b1, 0, none⟩) 7 c1, .slice (some ⟨b2, 0, none⟩) 4 c2] 27)).alloc (.cells #[.int .i64 0, .slice none 0 0, .slice none 0 0] 27)) w.heap.size #[.int .i64 2, .slice (some ⟨b1, 0, none⟩) 7 c1, .slice (some ⟨b2, 0, none⟩) 4 c2] 27 := (OwnC.new rfl).alloc _
  have hR : OwnC ((w.alloc (.cells #[.int .i64 2, .slice (some ⟨b1, 0, none⟩) 7 c1, .slice (some ⟨b2, 0, none⟩) 4 c2] 27)).alloc (.cells #[.int .i64 0, .slice none 0 0, .slice none 0 0] 27)) (w.heap.size + 1) #[.int .i64 0, .slice none 0 0, .slice none 0 0] 27 := OwnC.new (by simp)
  have HP := Lib.hid hP
  have HR := Lib.hid hR
  clear hP hR hb
  go_enter Try.func31, Try.ntmps31
  go_wp2_with (go_at_call 44; refine HS.out.mono ?_; rintro e w4 ⟨rfl, hb4⟩; have hP4 := HP.out.below hb4 (by simp; omega); have hR4 := HR.out.below hb4 (by simp); have p0 := hP4.cell 0; have p1 := hP4.cell 1; have p2 := hP4.cell 2; have r0 := hR4.cell 0; have r1 := hR4.cell 1; have r2 := hR4.cell 2; have f0 := hR4.free 0; have f1 := hR4.free 1; have f2 := hR4.free 2; simp at p0 p1 p2 r0 r1 r2; have HR4 := Lib.hid hR4; have HB4 := Lib.hid hb4; clear hP4 hR4 hb4)
  have v2 := HR4.out.set3 (.int .i64 2) (.slice (some ⟨b1, 0, none⟩) 7 c1) (.slice (some ⟨b2, 0, none⟩) 4 c2)
  have q0 := v2.cell 0
  have q1 := v2.cell 1
  have q2 := v2.cell 2
  simp at q0 q1 q2
  refine bodyPost_ret (v := .tuple #[spnV 2 b1 c1 7 b2 c2 4, .bool true]) (by simp [results, Try.results31, go_sem, q0, q1, q2, spnV]) rfl ⟨rfl, ?_⟩
  have hB : Below w.heap.size w w4 := HB.out.trans (HB4.out.mono (by simp; omega))
  exact ((hB.setCell (by simp) _).setCell (by simp) _).setCell (by simp) _
end Go.Proofs.Ytiinalckidghaaa
