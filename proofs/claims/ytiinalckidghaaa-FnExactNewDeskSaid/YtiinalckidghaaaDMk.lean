/- Marks on a desk of the beginning, and whether they are held, by the law's own functions. -/
import Derived.Test.YtiinalckidghaaaDK
namespace Go.Proofs.Ytiinalckidghaaa
open Go.RowKit Go.Fl
set_option maxHeartbeats 2000000 in
set_option maxRecDepth 100000 in
theorem markDsk (b c : Nat → Nat) (w : World) (h : DeskO w b) (inj : ∀ i j, i < j → j < 6 → b i ≠ b j) :
    Calls Try.prog 7 #[dskV b c, .int .i64 1] w fun e w' => e = .returned (.int .i64 33) ∧ DeskM w' b ∧ Ch (fun x => ∃ i, i < 6 ∧ x = b i) w w' := by
  have hb : Below w.heap.size w (w.alloc (.cells #[.slice (some ⟨b 0, 0, none⟩) 3 (c 0), .slice (some ⟨b 1, 0, none⟩) 3 (c 1), .int .i64 2, .slice (some ⟨b 2, 0, none⟩) 7 (c 2), .slice (some ⟨b 3, 0, none⟩) 4 (c 3), .int .i64 2, .int .i64 2, .slice (some ⟨b 4, 0, none⟩) 4 (c 4), .slice (some ⟨b 5, 0, none⟩) 3 (c 5)] 32)) := by
    show Below _ _ _
    (repeat (first | exact Below.refl _ _ | assumption | refine below_dr ?_ _ | refine Below.alloc ?_ (by first | omega | (simp; done) | (simp; omega)) _ | refine Below.setCell ?_ (by first | omega | (simp; done) | (simp; omega)) _ | refine Below.trans ?_ (Below.mono (by assumption) (by first | omega | (simp; done) | (simp; omega)))))
  have l := h.lt
  have i01 := inj 0 1 (by decide) (by decide)
  have i23 := inj 2 3 (by decide) (by decide)
  have h1 := h.below hb l
  have hP : OwnC (w.alloc (.cells #[.slice (some ⟨b 0, 0, none⟩) 3 (c 0), .slice (some ⟨b 1, 0, none⟩) 3 (c 1), .int .i64 2, .slice (some ⟨b 2, 0, none⟩) 7 (c 2), .slice (some ⟨b 3, 0, none⟩) 4 (c 3), .int .i64 2, .int .i64 2, .slice (some ⟨b 4, 0, none⟩) 4 (c 4), .slice (some ⟨b 5, 0, none⟩) 3 (c 5)] 32)) w.heap.size #[.slice (some ⟨b 0, 0, none⟩) 3 (c 0), .slice (some ⟨b 1, 0, none⟩) 3 (c 1), .int .i64 2, .slice (some ⟨b 2, 0, none⟩) 7 (c 2), .slice (some ⟨b 3, 0, none⟩) 4 (c 3), .int .i64 2, .int .i64 2, .slice (some ⟨b 4, 0, none⟩) 4 (c 4), .slice (some ⟨b 5, 0, none⟩) 3 (c 5)] 32 := OwnC.new rfl
  have zW : (w.alloc (.cells #[.slice (some ⟨b 0, 0, none⟩) 3 (c 0), .slice (some ⟨b 1, 0, none⟩) 3 (c 1), .int .i64 2, .slice (some ⟨b 2, 0, none⟩) 7 (c 2), .slice (some ⟨b 3, 0, none⟩) 4 (c 3), .int .i64 2, .int .i64 2, .slice (some ⟨b 4, 0, none⟩) 4 (c 4), .slice (some ⟨b 5, 0, none⟩) 3 (c 5)] 32)).heap.size = w.heap.size + 1 := by simp
  have hl0 := l 0 (by decide); have hl1 := l 1 (by decide); have hl2 := l 2 (by decide); have hl3 := l 3 (by decide); have hl4 := l 4 (by decide); have hl5 := l 5 (by decide)
  obtain ⟨W, hW⟩ : ∃ x : World, x = w.alloc (.cells #[.slice (some ⟨b 0, 0, none⟩) 3 (c 0), .slice (some ⟨b 1, 0, none⟩) 3 (c 1), .int .i64 2, .slice (some ⟨b 2, 0, none⟩) 7 (c 2), .slice (some ⟨b 3, 0, none⟩) 4 (c 3), .int .i64 2, .int .i64 2, .slice (some ⟨b 4, 0, none⟩) 4 (c 4), .slice (some ⟨b 5, 0, none⟩) 3 (c 5)] 32) := ⟨_, rfl⟩
  rw [← hW] at hb h1 hP zW
  have hM1 : Calls Try.prog 19 #[.agg #[.slice (some ⟨b 0, 0, none⟩) 3 (c 0), .slice (some ⟨b 1, 0, none⟩) 3 (c 1)], .int .i64 1] W fun e w' => e = .returned (.int .i64 7) ∧ SlC w' (b 0) (b 0 + 1) (some ⟨b 0, 0, none⟩) (mL 1 3) ∧ SlK w' (b 1) (b 1 + 1) (some ⟨b 1, 0, none⟩) 3 ((4 : Nat) : Int) ∧ Ch (fun c => c = b 0 ∨ c = b 1) W w' := markCur (b 0) (b 1) 3 (c 0) 3 (c 1) 1 (by decide) (by decide) i01 W h1.r0.1 h1.r1.1
  have HM1 := Lib.hid hM1
  have HP := Lib.hid hP
  have HB := Lib.hid hb
  have H1 := Lib.hid h1
  have INJ := Lib.hid inj
  have HW := Lib.hid hW
  have pp0 := hP.cell 0
  have pp1 := hP.cell 1
  simp at pp0 pp1
  rw [hW] at pp0 pp1
  clear h hM1 hP hb h1 inj
  unfold dskV
  go_enter Try.func7, Try.ntmps7
  go_wp2_with fail
  rw [← HW.out]
  refine HM1.out.mono ?_
  rintro e w1 ⟨rfl, m0, m1, ch1⟩
  have z1 := ch1.size
  have hP1 : OwnC w1 w.heap.size #[.slice (some ⟨b 0, 0, none⟩) 3 (c 0), .slice (some ⟨b 1, 0, none⟩) 3 (c 1), .int .i64 2, .slice (some ⟨b 2, 0, none⟩) 7 (c 2), .slice (some ⟨b 3, 0, none⟩) 4 (c 3), .int .i64 2, .int .i64 2, .slice (some ⟨b 4, 0, none⟩) 4 (c 4), .slice (some ⟨b 5, 0, none⟩) 3 (c 5)] 32 := ch1.own HP.out (by omega)
  have p2 := hP1.cell 2
  have p3 := hP1.cell 3
  have p4 := hP1.cell 4
  simp at p2 p3 p4
  have M0 := Lib.hid m0
  have M1 := Lib.hid m1
  have C1 := Lib.hid ch1
  have HP1 := Lib.hid hP1
  clear m0 m1 ch1 hP1 pp0 pp1 hW
  go_wp2_with fail
  have n02 := INJ.out 0 2 (by decide) (by decide); have n12 := INJ.out 1 2 (by decide) (by decide); have n03 := INJ.out 0 3 (by decide) (by decide); have n13 := INJ.out 1 3 (by decide) (by decide)
  have n04 := INJ.out 0 4 (by decide) (by decide); have n14 := INJ.out 1 4 (by decide) (by decide); have n24 := INJ.out 2 4 (by decide) (by decide); have n34 := INJ.out 3 4 (by decide) (by decide)
  have n05 := INJ.out 0 5 (by decide) (by decide); have n15 := INJ.out 1 5 (by decide) (by decide); have n25 := INJ.out 2 5 (by decide) (by decide); have n35 := INJ.out 3 5 (by decide) (by decide); have n45 := INJ.out 4 5 (by decide) (by decide)
  refine (markSpn 2 (b 2) (b 3) 7 (c 2) 4 (c 3) 7 (by decide) i23 w1 (H1.out.r2.1.ch C1.out (by omega)) (H1.out.r3.1.ch C1.out (by omega))).mono ?_
  rintro e w2 ⟨rfl, m2, m3, ch2⟩
  have z2 := ch2.size
  have hP2 : OwnC w2 w.heap.size #[.slice (some ⟨b 0, 0, none⟩) 3 (c 0), .slice (some ⟨b 1, 0, none⟩) 3 (c 1), .int .i64 2, .slice (some ⟨b 2, 0, none⟩) 7 (c 2), .slice (some ⟨b 3, 0, none⟩) 4 (c 3), .int .i64 2, .int .i64 2, .slice (some ⟨b 4, 0, none⟩) 4 (c 4), .slice (some ⟨b 5, 0, none⟩) 3 (c 5)] 32 := ch2.own HP1.out (by omega)
  have s5 := hP2.cell 5
  have s6 := hP2.cell 6
  have s7 := hP2.cell 7
  simp at s5 s6 s7
  have M2 := Lib.hid m2
  have M3 := Lib.hid m3
  have C2 := Lib.hid ch2
  have HP2 := Lib.hid hP2
  clear m2 m3 ch2 hP2 p2 p3 p4
  go_wp2_with fail
  refine (markSht 2 2 (b 4) 4 (c 4) 18 (by decide) (by decide) (by decide) w2 ((H1.out.r4.1.ch C1.out (by omega)).ch C2.out (by omega))).mono ?_
  rintro e w3 ⟨rfl, m4, ch3⟩
  have z3 := ch3.size
  have hP3 : OwnC w3 w.heap.size #[.slice (some ⟨b 0, 0, none⟩) 3 (c 0), .slice (some ⟨b 1, 0, none⟩) 3 (c 1), .int .i64 2, .slice (some ⟨b 2, 0, none⟩) 7 (c 2), .slice (some ⟨b 3, 0, none⟩) 4 (c 3), .int .i64 2, .int .i64 2, .slice (some ⟨b 4, 0, none⟩) 4 (c 4), .slice (some ⟨b 5, 0, none⟩) 3 (c 5)] 32 := ch3.own HP2.out (by omega)
  have s8 := hP3.cell 8
  simp at s8
  have M4 := Lib.hid m4
  have C3 := Lib.hid ch3
  clear m4 ch3 hP3 s5 s6 s7
  go_wp2_with fail
  refine (markC1 (b 5) 3 (c 5) 30 (by decide) w3 (((H1.out.r5.1.ch C1.out (by omega)).ch C2.out (by omega)).ch C3.out (by omega))).mono ?_
  rintro e w4 ⟨rfl, m5, o5⟩
  have M5 := Lib.hid m5
  have C4 := Lib.hid (Ch.only o5)
  clear m5 o5 s8
  go_wp2_with fail
  go_ret
  have f4 : ∀ i, i < 5 → Far (b i) (b i + 1) w3 w4 := fun i hi => C4.out.farS (by have := H1.out.lt i (by omega); omega) (fun x hx => by have := INJ.out i 5 (by omega) (by decide); omega)
  have f3 : ∀ i, i < 4 → Far (b i) (b i + 1) w2 w3 := fun i hi => C3.out.farS (by have := H1.out.lt i (by omega); omega) (fun x hx => by have := INJ.out i 4 (by omega) (by decide); omega)
  have f2 : ∀ i, i < 2 → Far (b i) (b i + 1) w1 w2 := fun i hi => C2.out.farS (by have := H1.out.lt i (by omega); omega) (fun x hx => by have := INJ.out i 2 (by omega) (by decide); have := INJ.out i 3 (by omega) (by decide); omega)
  refine ⟨rfl, ⟨((M0.out.far (f2 0 (by decide))).far (f3 0 (by decide))).far (f4 0 (by decide)), ((M1.out.far (f2 1 (by decide))).far (f3 1 (by decide))).far (f4 1 (by decide)), (M2.out.far (f3 2 (by decide))).far (f4 2 (by decide)), (M3.out.far (f3 3 (by decide))).far (f4 3 (by decide)), M4.out.far (f4 4 (by decide)), M5.out⟩, ?_⟩
  have cA : Ch (fun x => ∃ i, i < 6 ∧ x = b i) w W := Ch.below HB.out
  exact (((cA.more C1.out (fun x hx => hx.elim (fun h => ⟨0, by decide, h⟩) (fun h => ⟨1, by decide, h⟩))).more C2.out (fun x hx => hx.elim (fun h => ⟨2, by decide, h⟩) (fun h => ⟨3, by decide, h⟩))).more C3.out (fun x hx => ⟨4, by decide, hx⟩)).more C4.out (fun x hx => ⟨5, by decide, hx⟩)
end Go.Proofs.Ytiinalckidghaaa
