/- Desks of the beginning: equal, marked, held, by the law's own functions. -/
import Derived.Test.YtiinalckidghaaaDH
import Derived.Test.YtiinalckidghaaaDI
namespace Go.Fl
open Go.RowKit
structure DeskO (w : World) (b : Nat → Nat) : Prop where
  r0 : OwnC1 w (b 0) curP
  r1 : OwnF1 w (b 1) curW
  r2 : OwnF1 w (b 2) knF
  r3 : OwnC1 w (b 3) splP
  r4 : OwnP1 w (b 4) spF
  r5 : OwnC1 w (b 5) rngP
theorem DeskAt.o {w : World} {lo : Nat} {b : Nat → Nat} (h : DeskAt w lo b) : DeskO w b := ⟨h.r0, h.r1, h.r2, h.r3, h.r4, h.r5⟩
theorem DeskO.below {w w' : World} {B : Nat} {b : Nat → Nat} (h : DeskO w b) (hb : Below B w w') (hl : ∀ i, i < 6 → b i < B) : DeskO w' b :=
  ⟨h.r0.below hb (hl 0 (by decide)), h.r1.below hb (hl 1 (by decide)), h.r2.below hb (hl 2 (by decide)), h.r3.below hb (hl 3 (by decide)), h.r4.below hb (hl 4 (by decide)), h.r5.below hb (hl 5 (by decide))⟩
theorem DeskO.lt {w : World} {b : Nat → Nat} (h : DeskO w b) (i : Nat) (hi : i < 6) : b i < w.heap.size := by
  have hc : i = 0 ∨ i = 1 ∨ i = 2 ∨ i = 3 ∨ i = 4 ∨ i = 5 := by omega
  rcases hc with rfl | rfl | rfl | rfl | rfl | rfl
  · exact h.r0.1.lt
  · exact h.r1.1.lt
  · exact h.r2.1.lt
  · exact h.r3.1.lt
  · exact h.r4.1.lt
  · exact h.r5.1.lt
/-- the marks from 1 to 32 -/
structure DeskM (w : World) (b : Nat → Nat) : Prop where
  m0 : SlC w (b 0) (b 0 + 1) (some ⟨b 0, 0, none⟩) (mL 1 3)
  m1 : SlK w (b 1) (b 1 + 1) (some ⟨b 1, 0, none⟩) 3 ((4 : Nat) : Int)
  m2 : SlK w (b 2) (b 2 + 1) (some ⟨b 2, 0, none⟩) 7 ((7 : Nat) : Int)
  m3 : SlC w (b 3) (b 3 + 1) (some ⟨b 3, 0, none⟩) (mL 14 4)
  m4 : SlM w (b 4) (b 4 + 1) (some ⟨b 4, 0, none⟩) 4 18
  m5 : SlC w (b 5) (b 5 + 1) (some ⟨b 5, 0, none⟩) (mL 30 3)
theorem DeskM.below {w w' : World} {B : Nat} {b : Nat → Nat} (h : DeskM w b) (hb : Below B w w') (hl : ∀ i, i < 6 → b i < B) : DeskM w' b :=
  ⟨h.m0.far (Far.below hb (hl 0 (by decide))), h.m1.far (Far.below hb (hl 1 (by decide))), h.m2.far (Far.below hb (hl 2 (by decide))), h.m3.far (Far.below hb (hl 3 (by decide))), h.m4.far (Far.below hb (hl 4 (by decide))), h.m5.far (Far.below hb (hl 5 (by decide)))⟩
end Go.Fl
namespace Go.Proofs.Ytiinalckidghaaa
open Go.RowKit Go.Fl
theorem curFin : curP.all okPt = true := by decide +kernel
theorem rngFin : rngP.all okPt = true := by decide +kernel
theorem cuwFin : (curW.all fun x => fin (can .f32 x)) = true := by decide +kernel
set_option maxHeartbeats 2000000 in
set_option maxRecDepth 100000 in
theorem eqDsk (b c b' c' : Nat → Nat) (w : World) (h : DeskO w b) (h' : DeskO w b') :
    Calls Try.prog 6 #[dskV b c, dskV b' c'] w fun e w' => e = .returned (.bool true) ∧ Below w.heap.size w w' := by
  have hb : Below w.heap.size w ((w.alloc (.cells #[.slice (some ⟨b 0, 0, none⟩) 3 (c 0), .slice (some ⟨b 1, 0, none⟩) 3 (c 1), .int .i64 2, .slice (some ⟨b 2, 0, none⟩) 7 (c 2), .slice (some ⟨b 3, 0, none⟩) 4 (c 3), .int .i64 2, .int .i64 2, .slice (some ⟨b 4, 0, none⟩) 4 (c 4), .slice (some ⟨b 5, 0, none⟩) 3 (c 5)] 32)).alloc (.cells #[.slice (some ⟨b' 0, 0, none⟩) 3 (c' 0), .slice (some ⟨b' 1, 0, none⟩) 3 (c' 1), .int .i64 2, .slice (some ⟨b' 2, 0, none⟩) 7 (c' 2), .slice (some ⟨b' 3, 0, none⟩) 4 (c' 3), .int .i64 2, .int .i64 2, .slice (some ⟨b' 4, 0, none⟩) 4 (c' 4), .slice (some ⟨b' 5, 0, none⟩) 3 (c' 5)] 32)) := by
    show Below _ _ _
    (repeat (first | exact Below.refl _ _ | assumption | refine below_dr ?_ _ | refine Below.alloc ?_ (by first | omega | (simp; done) | (simp; omega)) _ | refine Below.setCell ?_ (by first | omega | (simp; done) | (simp; omega)) _ | refine Below.trans ?_ (Below.mono (by assumption) (by first | omega | (simp; done) | (simp; omega)))))
  have HA := Lib.hid (eqCur (b 0) (c 0) (b 1) (c 1) (b' 0) (c' 0) (b' 1) (c' 1) curP curW (by decide) (by decide) curFin cuwFin _ (h.r0.below hb h.r0.1.lt) (h.r1.below hb h.r1.1.lt) (h'.r0.below hb h'.r0.1.lt) (h'.r1.below hb h'.r1.1.lt))
  have hP : OwnC ((w.alloc (.cells #[.slice (some ⟨b 0, 0, none⟩) 3 (c 0), .slice (some ⟨b 1, 0, none⟩) 3 (c 1), .int .i64 2, .slice (some ⟨b 2, 0, none⟩) 7 (c 2), .slice (some ⟨b 3, 0, none⟩) 4 (c 3), .int .i64 2, .int .i64 2, .slice (some ⟨b 4, 0, none⟩) 4 (c 4), .slice (some ⟨b 5, 0, none⟩) 3 (c 5)] 32)).alloc (.cells #[.slice (some ⟨b' 0, 0, none⟩) 3 (c' 0), .slice (some ⟨b' 1, 0, none⟩) 3 (c' 1), .int .i64 2, .slice (some ⟨b' 2, 0, none⟩) 7 (c' 2), .slice (some ⟨b' 3, 0, none⟩) 4 (c' 3), .int .i64 2, .int .i64 2, .slice (some ⟨b' 4, 0, none⟩) 4 (c' 4), .slice (some ⟨b' 5, 0, none⟩) 3 (c' 5)] 32)) w.heap.size #[.slice (some ⟨b 0, 0, none⟩) 3 (c 0), .slice (some ⟨b 1, 0, none⟩) 3 (c 1), .int .i64 2, .slice (some ⟨b 2, 0, none⟩) 7 (c 2), .slice (some ⟨b 3, 0, none⟩) 4 (c 3), .int .i64 2, .int .i64 2, .slice (some ⟨b 4, 0, none⟩) 4 (c 4), .slice (some ⟨b 5, 0, none⟩) 3 (c 5)] 32 := (OwnC.new rfl).alloc _
  have hQ : OwnC ((w.alloc (.cells #[.slice (some ⟨b 0, 0, none⟩) 3 (c 0), .slice (some ⟨b 1, 0, none⟩) 3 (c 1), .int .i64 2, .slice (some ⟨b 2, 0, none⟩) 7 (c 2), .slice (some ⟨b 3, 0, none⟩) 4 (c 3), .int .i64 2, .int .i64 2, .slice (some ⟨b 4, 0, none⟩) 4 (c 4), .slice (some ⟨b 5, 0, none⟩) 3 (c 5)] 32)).alloc (.cells #[.slice (some ⟨b' 0, 0, none⟩) 3 (c' 0), .slice (some ⟨b' 1, 0, none⟩) 3 (c' 1), .int .i64 2, .slice (some ⟨b' 2, 0, none⟩) 7 (c' 2), .slice (some ⟨b' 3, 0, none⟩) 4 (c' 3), .int .i64 2, .int .i64 2, .slice (some ⟨b' 4, 0, none⟩) 4 (c' 4), .slice (some ⟨b' 5, 0, none⟩) 3 (c' 5)] 32)) (w.heap.size + 1) #[.slice (some ⟨b' 0, 0, none⟩) 3 (c' 0), .slice (some ⟨b' 1, 0, none⟩) 3 (c' 1), .int .i64 2, .slice (some ⟨b' 2, 0, none⟩) 7 (c' 2), .slice (some ⟨b' 3, 0, none⟩) 4 (c' 3), .int .i64 2, .int .i64 2, .slice (some ⟨b' 4, 0, none⟩) 4 (c' 4), .slice (some ⟨b' 5, 0, none⟩) 3 (c' 5)] 32 := OwnC.new (by simp)
  have HP := Lib.hid hP
  have HQ := Lib.hid hQ
  have HB := Lib.hid hb
  have H := Lib.hid h
  have H' := Lib.hid h'
  have l : ∀ i, i < 6 → b i < w.heap.size := h.lt
  have l' : ∀ i, i < 6 → b' i < w.heap.size := h'.lt
  have L := Lib.hid l
  have L' := Lib.hid l'
  clear h h' hP hQ hb l l'
  unfold dskV
  go_enter Try.func6, Try.ntmps6
  go_wp2_with (go_at_call 15; refine HA.out.mono ?_; rintro e w1 ⟨rfl, hb1⟩; have HB1 := Lib.hid hb1; have hP1 := HP.out.below hb1 (by simp; omega); have hQ1 := HQ.out.below hb1 (by simp); have HP1 := Lib.hid hP1; have HQ1 := Lib.hid hQ1; have p2 := hP1.cell 2; have p3 := hP1.cell 3; have p4 := hP1.cell 4; have q2 := hQ1.cell 2; have q3 := hQ1.cell 3; have q4 := hQ1.cell 4; simp at p2 p3 p4 q2 q3 q4; clear hb1 hP1 hQ1)
  have z1 : w.heap.size + 2 ≤ w1.heap.size := by have := HB1.out.size; simpa using this
  have hB1 : Below w.heap.size w w1 := HB.out.trans (HB1.out.mono (by simp; omega))
  have HW1 := Lib.hid hB1
  have o1 := H.out.below hB1 L.out
  have o1' := H'.out.below hB1 L'.out
  refine (eqSpn 2 (b 2) (c 2) (b 3) (c 3) (b' 2) (c' 2) (b' 3) (c' 3) knF splP (by decide) (by decide) splFin knFin w1 o1.r2 o1.r3 o1'.r2 o1'.r3).mono ?_
  rintro e w2 ⟨rfl, hb2⟩
  have z2 := hb2.size
  have hP2 := HP1.out.below hb2 (by omega)
  have hQ2 := HQ1.out.below hb2 (by omega)
  have s5 := hP2.cell 5
  have s6 := hP2.cell 6
  have s7 := hP2.cell 7
  have t5 := hQ2.cell 5
  have t6 := hQ2.cell 6
  have t7 := hQ2.cell 7
  simp at s5 s6 s7 t5 t6 t7
  have HP2 := Lib.hid hP2
  have HQ2 := Lib.hid hQ2
  have hB2 := hB1.trans (hb2.mono (by omega))
  have HW2 := Lib.hid hB2
  have o2 := Lib.hid (H.out.below hB2 L.out)
  have o2' := Lib.hid (H'.out.below hB2 L'.out)
  clear p2 p3 p4 q2 q3 q4 o1 o1' hB1 hb2 hP2 hQ2 hB2
  go_wp2_with fail
  refine (eqSht 2 2 (b 4) (c 4) (b' 4) (c' 4) spF (by decide) spCan w2 o2.out.r4 o2'.out.r4).mono ?_
  rintro e w3 ⟨rfl, hb3⟩
  have z3 := hb3.size
  have hP3 := HP2.out.below hb3 (by omega)
  have hQ3 := HQ2.out.below hb3 (by omega)
  have s8 := hP3.cell 8
  have t8 := hQ3.cell 8
  simp at s8 t8
  have hB3 := HW2.out.trans (hb3.mono (by omega))
  have HW3 := Lib.hid hB3
  have o3 := Lib.hid (H.out.below hB3 L.out)
  have o3' := Lib.hid (H'.out.below hB3 L'.out)
  clear s5 s6 s7 t5 t6 t7 hb3 hP3 hQ3 hB3
  go_wp2_with fail
  refine (eqC1 0 _ 0 _ (some ⟨b 5, 0, none⟩) (some ⟨b' 5, 0, none⟩) (c 5) (c' 5) rngP (by decide) rngFin w3 o3.out.r5.rd o3'.out.r5.rd).mono ?_
  rintro e w4 ⟨rfl, q4, rfl⟩
  go_wp2_with fail
  go_ret
  exact ⟨rfl, below_dr HW3.out _⟩
end Go.Proofs.Ytiinalckidghaaa
