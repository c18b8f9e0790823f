/- The law FnExactNewDesk: marks that are held; what it walks. -/
import Derived.Test.YtiinalckidghaaaDMk
namespace Go.Proofs.Ytiinalckidghaaa
open Go.RowKit Go.Fl
set_option maxHeartbeats 2000000 in
set_option maxRecDepth 100000 in
theorem heldDsk (b c : Nat → Nat) (w : World) (h : DeskM w b) (l : ∀ i, i < 6 → b i < w.heap.size) :
    Calls Try.prog 8 #[dskV b c, .int .i64 1] w fun e w' => e = .returned (.int .i64 33) ∧ Below w.heap.size w w' := by
  have hb : Below w.heap.size w (w.alloc (.cells #[.slice (some ⟨b 0, 0, none⟩) 3 (c 0), .slice (some ⟨b 1, 0, none⟩) 3 (c 1), .int .i64 2, .slice (some ⟨b 2, 0, none⟩) 7 (c 2), .slice (some ⟨b 3, 0, none⟩) 4 (c 3), .int .i64 2, .int .i64 2, .slice (some ⟨b 4, 0, none⟩) 4 (c 4), .slice (some ⟨b 5, 0, none⟩) 3 (c 5)] 32)) := by
    show Below _ _ _
    (repeat (first | exact Below.refl _ _ | assumption | refine below_dr ?_ _ | refine Below.alloc ?_ (by first | omega | (simp; done) | (simp; omega)) _ | refine Below.setCell ?_ (by first | omega | (simp; done) | (simp; omega)) _ | refine Below.trans ?_ (Below.mono (by assumption) (by first | omega | (simp; done) | (simp; omega)))))
  have hP : OwnC (w.alloc (.cells #[.slice (some ⟨b 0, 0, none⟩) 3 (c 0), .slice (some ⟨b 1, 0, none⟩) 3 (c 1), .int .i64 2, .slice (some ⟨b 2, 0, none⟩) 7 (c 2), .slice (some ⟨b 3, 0, none⟩) 4 (c 3), .int .i64 2, .int .i64 2, .slice (some ⟨b 4, 0, none⟩) 4 (c 4), .slice (some ⟨b 5, 0, none⟩) 3 (c 5)] 32)) w.heap.size #[.slice (some ⟨b 0, 0, none⟩) 3 (c 0), .slice (some ⟨b 1, 0, none⟩) 3 (c 1), .int .i64 2, .slice (some ⟨b 2, 0, none⟩) 7 (c 2), .slice (some ⟨b 3, 0, none⟩) 4 (c 3), .int .i64 2, .int .i64 2, .slice (some ⟨b 4, 0, none⟩) 4 (c 4), .slice (some ⟨b 5, 0, none⟩) 3 (c 5)] 32 := OwnC.new rfl
  have zW : (w.alloc (.cells #[.slice (some ⟨b 0, 0, none⟩) 3 (c 0), .slice (some ⟨b 1, 0, none⟩) 3 (c 1), .int .i64 2, .slice (some ⟨b 2, 0, none⟩) 7 (c 2), .slice (some ⟨b 3, 0, none⟩) 4 (c 3), .int .i64 2, .int .i64 2, .slice (some ⟨b 4, 0, none⟩) 4 (c 4), .slice (some ⟨b 5, 0, none⟩) 3 (c 5)] 32)).heap.size = w.heap.size + 1 := by simp
  obtain ⟨W, hW⟩ : ∃ x : World, x = w.alloc (.cells #[.slice (some ⟨b 0, 0, none⟩) 3 (c 0), .slice (some ⟨b 1, 0, none⟩) 3 (c 1), .int .i64 2, .slice (some ⟨b 2, 0, none⟩) 7 (c 2), .slice (some ⟨b 3, 0, none⟩) 4 (c 3), .int .i64 2, .int .i64 2, .slice (some ⟨b 4, 0, none⟩) 4 (c 4), .slice (some ⟨b 5, 0, none⟩) 3 (c 5)] 32) := ⟨_, rfl⟩
  have pp0 := hP.cell 0
  have pp1 := hP.cell 1
  simp at pp0 pp1
  rw [← hW] at hb hP zW
  have hl0 := l 0 (by decide); have hl1 := l 1 (by decide); have hl2 := l 2 (by decide); have hl3 := l 3 (by decide); have hl4 := l 4 (by decide); have hl5 := l 5 (by decide)
  have hM1 := h.below hb l
  have HM1 := Lib.hid (show Calls Try.prog 23 #[.agg #[.slice (some ⟨b 0, 0, none⟩) 3 (c 0), .slice (some ⟨b 1, 0, none⟩) 3 (c 1)], .int .i64 1] W fun e w' => e = .returned (.int .i64 7) ∧ Below W.heap.size W w' from heldCur (b 0) (b 1) 3 (c 0) 3 (c 1) 1 (by decide) (by decide) W hM1.m0 hM1.m1 (by omega) (by omega))
  have HP := Lib.hid hP
  have HB := Lib.hid hb
  have HW := Lib.hid hW
  have HM := Lib.hid h
  have L := Lib.hid l
  clear h hM1 hP hb l
  unfold dskV
  go_enter Try.func8, Try.ntmps8
  go_wp2_with fail
  rw [← HW.out]
  refine HM1.out.mono ?_
  rintro e w1 ⟨rfl, hb1⟩
  have z1 := hb1.size
  have hP1 := HP.out.below hb1 (by omega)
  have p2 := hP1.cell 2
  have p3 := hP1.cell 3
  have p4 := hP1.cell 4
  simp at p2 p3 p4
  have hB1 : Below w.heap.size w w1 := HB.out.trans (hb1.mono (by omega))
  have HB1 := Lib.hid hB1
  have HP1 := Lib.hid hP1
  have m1 := HM.out.below hB1 L.out
  have HS := Lib.hid (show Calls Try.prog 24 #[.agg #[.int .i64 2, .slice (some ⟨b 2, 0, none⟩) 7 (c 2), .slice (some ⟨b 3, 0, none⟩) 4 (c 3)], .int .i64 7] w1 fun e w' => e = .returned (.int .i64 18) ∧ Below w1.heap.size w1 w' from heldSpn 2 (b 2) (b 3) 7 (c 2) 4 (c 3) 7 (by decide) w1 m1.m2 m1.m3 (by omega) (by omega))
  clear hb1 hP1 hB1 m1 pp0 pp1 hW
  go_wp2_with fail
  refine HS.out.mono ?_
  rintro e w2 ⟨rfl, hb2⟩
  have z2 := hb2.size
  have hP2 := HP1.out.below hb2 (by omega)
  have s5 := hP2.cell 5
  have s6 := hP2.cell 6
  have s7 := hP2.cell 7
  simp at s5 s6 s7
  have hB2 : Below w.heap.size w w2 := HB1.out.trans (hb2.mono (by omega))
  have HB2 := Lib.hid hB2
  have HP2 := Lib.hid hP2
  have m2 := HM.out.below hB2 L.out
  have HT := Lib.hid (show Calls Try.prog 25 #[.agg #[.int .i64 2, .int .i64 2, .slice (some ⟨b 4, 0, none⟩) 4 (c 4)], .int .i64 18] w2 fun e w' => e = .returned (.int .i64 30) ∧ Below w2.heap.size w2 w' from heldSht 2 2 (b 4) 4 (c 4) 18 (by decide) (by decide) (by decide) w2 m2.m4 (by omega))
  clear hb2 hP2 hB2 m2 p2 p3 p4
  go_wp2_with fail
  refine HT.out.mono ?_
  rintro e w3 ⟨rfl, hb3⟩
  have z3 := hb3.size
  have hP3 := HP2.out.below hb3 (by omega)
  have s8 := hP3.cell 8
  simp at s8
  have hB3 : Below w.heap.size w w3 := HB2.out.trans (hb3.mono (by omega))
  have HB3 := Lib.hid hB3
  have m3 := HM.out.below hB3 L.out
  have HQ := Lib.hid (show Calls Try.prog 26 #[.slice (some ⟨b 5, 0, none⟩) 3 (c 5), .int .i64 30] w3 fun e w' => e = .returned (.int .i64 33) ∧ w' = w3 from heldC1 (b 5) (b 5 + 1) (some ⟨b 5, 0, none⟩) 3 (c 5) 30 (by decide) w3 m3.m5)
  clear hb3 hP3 hB3 m3 s5 s6 s7
  go_wp2_with fail
  refine HQ.out.mono ?_
  rintro e w4 ⟨rfl, rfl⟩
  go_wp2_with fail
  go_ret
  exact ⟨rfl, HB3.out⟩
theorem dcells {w : World} {p : Nat} {b c : Nat → Nat} {T : TypeId} (h : OwnC w p #[.slice (some ⟨b 0, 0, none⟩) 3 (c 0), .slice (some ⟨b 1, 0, none⟩) 3 (c 1), .int .i64 2, .slice (some ⟨b 2, 0, none⟩) 7 (c 2), .slice (some ⟨b 3, 0, none⟩) 4 (c 3), .int .i64 2, .int .i64 2, .slice (some ⟨b 4, 0, none⟩) 4 (c 4), .slice (some ⟨b 5, 0, none⟩) 3 (c 5)] T) : w.cell? ⟨p, 0, none⟩ = some (.slice (some ⟨b 0, 0, none⟩) 3 (c 0)) ∧ w.cell? ⟨p, 1, none⟩ = some (.slice (some ⟨b 1, 0, none⟩) 3 (c 1)) ∧ w.cell? ⟨p, 2, none⟩ = some (.int .i64 2) ∧ w.cell? ⟨p, 3, none⟩ = some (.slice (some ⟨b 2, 0, none⟩) 7 (c 2)) ∧ w.cell? ⟨p, 4, none⟩ = some (.slice (some ⟨b 3, 0, none⟩) 4 (c 3)) ∧ w.cell? ⟨p, 5, none⟩ = some (.int .i64 2) ∧ w.cell? ⟨p, 6, none⟩ = some (.int .i64 2) ∧ w.cell? ⟨p, 7, none⟩ = some (.slice (some ⟨b 4, 0, none⟩) 4 (c 4)) ∧ w.cell? ⟨p, 8, none⟩ = some (.slice (some ⟨b 5, 0, none⟩) 3 (c 5)) :=
  ⟨h.cell 0, h.cell 1, h.cell 2, h.cell 3, h.cell 4, h.cell 5, h.cell 6, h.cell 7, h.cell 8⟩
set_option maxHeartbeats 2000000 in
set_option maxRecDepth 100000 in
theorem lawND (w : World) : Calls Try.prog 3 #[] w fun e w' => e = .returned (.bool true) ∧ Below w.heap.size w w' := by
  go_enter Try.func3, Try.ntmps3
  go_wp2_with fail
  refine (specNewDesk w).mono ?_
  rintro e w1 ⟨b, c, rfl, h1, hb1⟩
  have z1 := hb1.size
  have H1 := Lib.hid h1
  have HB1 := Lib.hid hb1
  clear h1 hb1
  unfold dskV
  go_wp2_with fail
  refine (implNewDesk _).mono ?_
  rintro e w2 ⟨b', c', rfl, h2, hb2⟩
  have hal : Below w1.heap.size w1 (w1.alloc (.cells #[.slice (some ⟨b 0, 0, none⟩) 3 (c 0), .slice (some ⟨b 1, 0, none⟩) 3 (c 1), .int .i64 2, .slice (some ⟨b 2, 0, none⟩) 7 (c 2), .slice (some ⟨b 3, 0, none⟩) 4 (c 3), .int .i64 2, .int .i64 2, .slice (some ⟨b 4, 0, none⟩) 4 (c 4), .slice (some ⟨b 5, 0, none⟩) 3 (c 5)] 32)) := Below.alloc (Below.refl _ _) (Nat.le_refl _) _
  have hsz : (w1.alloc (.cells #[.slice (some ⟨b 0, 0, none⟩) 3 (c 0), .slice (some ⟨b 1, 0, none⟩) 3 (c 1), .int .i64 2, .slice (some ⟨b 2, 0, none⟩) 7 (c 2), .slice (some ⟨b 3, 0, none⟩) 4 (c 3), .int .i64 2, .int .i64 2, .slice (some ⟨b 4, 0, none⟩) 4 (c 4), .slice (some ⟨b 5, 0, none⟩) 3 (c 5)] 32)).heap.size = w1.heap.size + 1 := by simp
  rw [hsz] at h2
  have z2 : w1.heap.size + 1 ≤ w2.heap.size := by have := hb2.size; rw [hsz] at this; exact this
  have hP1 : OwnC w2 w1.heap.size #[.slice (some ⟨b 0, 0, none⟩) 3 (c 0), .slice (some ⟨b 1, 0, none⟩) 3 (c 1), .int .i64 2, .slice (some ⟨b 2, 0, none⟩) 7 (c 2), .slice (some ⟨b 3, 0, none⟩) 4 (c 3), .int .i64 2, .int .i64 2, .slice (some ⟨b 4, 0, none⟩) 4 (c 4), .slice (some ⟨b 5, 0, none⟩) 3 (c 5)] 32 := (OwnC.new rfl).below hb2 (by omega)
  have hB12 : Below w1.heap.size w1 w2 := hal.trans (hb2.mono (by omega))
  obtain ⟨W, hW⟩ : ∃ x : World, x = w2.alloc (.cells #[.slice (some ⟨b' 0, 0, none⟩) 3 (c' 0), .slice (some ⟨b' 1, 0, none⟩) 3 (c' 1), .int .i64 2, .slice (some ⟨b' 2, 0, none⟩) 7 (c' 2), .slice (some ⟨b' 3, 0, none⟩) 4 (c' 3), .int .i64 2, .int .i64 2, .slice (some ⟨b' 4, 0, none⟩) 4 (c' 4), .slice (some ⟨b' 5, 0, none⟩) 3 (c' 5)] 32) := ⟨_, rfl⟩
  have zW : W.heap.size = w2.heap.size + 1 := by rw [hW]; simp
  have hB2W : Below w2.heap.size w2 W := by rw [hW]; exact Below.alloc (Below.refl _ _) (Nat.le_refl _) _
  have hPW : OwnC W w2.heap.size #[.slice (some ⟨b' 0, 0, none⟩) 3 (c' 0), .slice (some ⟨b' 1, 0, none⟩) 3 (c' 1), .int .i64 2, .slice (some ⟨b' 2, 0, none⟩) 7 (c' 2), .slice (some ⟨b' 3, 0, none⟩) 4 (c' 3), .int .i64 2, .int .i64 2, .slice (some ⟨b' 4, 0, none⟩) 4 (c' 4), .slice (some ⟨b' 5, 0, none⟩) 3 (c' 5)] 32 := by rw [hW]; exact OwnC.new rfl
  have hP1W := hP1.below hB2W (by omega)
  obtain ⟨p0, p1, p2, p3, p4, p5, p6, p7, p8⟩ := dcells hP1W
  obtain ⟨q0, q1, q2, q3, q4, q5, q6, q7, q8⟩ := dcells hPW
  have H2 := Lib.hid h2
  have HB1W := Lib.hid (hB12.trans (hB2W.mono (by omega)))
  have OW := Lib.hid ((H1.out.o.below hB12 (fun i hi => (H1.out.lo i hi).2)).below hB2W (fun i hi => by have := (H1.out.lo i hi).2; omega))
  have PW := Lib.hid (h2.o.below hB2W h2.o.lt)
  have HP1 := Lib.hid hP1W
  have HP2 := Lib.hid hPW
  have hlb : ∀ i, i < 6 → b' i < w2.heap.size ∧ w1.heap.size < b' i := fun i hi => ⟨(H2.out.lo i hi).2, (H2.out.lo i hi).1⟩
  have HLB := Lib.hid hlb
  rw [hW] at p0 p1 p2 p3 p4 p5 p6 p7 p8 q0 q1 q2 q3 q4 q5 q6 q7 q8
  have HW := Lib.hid hW
  clear hal hsz h2 hb2 hP1 hB12 hB2W hPW hP1W hlb hW
  unfold dskV
  go_wp2_with fail
  rw [← HW.out] at p0 p1 p2 p3 p4 p5 p6 p7 p8 q0 q1 q2 q3 q4 q5 q6 q7 q8 ⊢
  refine (eqDsk b' c' b c W PW.out OW.out).mono ?_
  rintro e w3 ⟨rfl, hb3⟩
  clear p0 p1 p2 p3 p4 p5 p6 p7 p8 q0 q1 q2 q3 q4 q5 q6 q7 q8
  have z3 := hb3.size
  have HB3 := Lib.hid hb3
  have O3 := Lib.hid (OW.out.below hb3 OW.out.lt)
  have P3 := Lib.hid (PW.out.below hb3 PW.out.lt)
  have HQ1 := Lib.hid (HP1.out.below hb3 (by omega))
  have HQ2 := Lib.hid (HP2.out.below hb3 (by omega))
  obtain ⟨q0, q1, q2, q3, q4, q5, q6, q7, q8⟩ := dcells HQ2.out
  clear hb3
  go_wp2_with fail
  refine (markDsk b' c' w3 P3.out H2.out.inj).mono ?_
  rintro e w4 ⟨rfl, m4, ch4⟩
  clear q0 q1 q2 q3 q4 q5 q6 q7 q8
  have z4 := ch4.size
  have M4 := Lib.hid m4
  have hS : ∀ x, (∃ i, i < 6 ∧ x = b' i) → w1.heap.size < x ∧ x < w2.heap.size := fun x hx => by obtain ⟨i, hi, rfl⟩ := hx; exact ⟨(HLB.out i hi).2, (HLB.out i hi).1⟩
  have hB4 : Below w1.heap.size w3 w4 := ch4.toBelow (by omega) (fun x hx => by have := hS x hx; omega)
  have HR1 := Lib.hid (show OwnC w4 w1.heap.size #[.slice (some ⟨b 0, 0, none⟩) 3 (c 0), .slice (some ⟨b 1, 0, none⟩) 3 (c 1), .int .i64 2, .slice (some ⟨b 2, 0, none⟩) 7 (c 2), .slice (some ⟨b 3, 0, none⟩) 4 (c 3), .int .i64 2, .int .i64 2, .slice (some ⟨b 4, 0, none⟩) 4 (c 4), .slice (some ⟨b 5, 0, none⟩) 3 (c 5)] 32 from ch4.own HQ1.out (fun hx => by have := hS _ hx; omega))
  have HR2 := Lib.hid (show OwnC w4 w2.heap.size #[.slice (some ⟨b' 0, 0, none⟩) 3 (c' 0), .slice (some ⟨b' 1, 0, none⟩) 3 (c' 1), .int .i64 2, .slice (some ⟨b' 2, 0, none⟩) 7 (c' 2), .slice (some ⟨b' 3, 0, none⟩) 4 (c' 3), .int .i64 2, .int .i64 2, .slice (some ⟨b' 4, 0, none⟩) 4 (c' 4), .slice (some ⟨b' 5, 0, none⟩) 3 (c' 5)] 32 from ch4.own HQ2.out (fun hx => by have := hS _ hx; omega))
  obtain ⟨q0, q1, q2, q3, q4, q5, q6, q7, q8⟩ := dcells HR2.out
  have hlt4 : ∀ i, i < 6 → b' i < w4.heap.size := fun i hi => by have := (HLB.out i hi).1; omega
  have O4 := Lib.hid (O3.out.below hB4 (fun i hi => (H1.out.lo i hi).2))
  have HB4 := Lib.hid hB4
  have HL4 := Lib.hid hlt4
  clear m4 ch4 hB4 hlt4 hS
  go_wp2_with fail
  refine (heldDsk b' c' w4 M4.out HL4.out).mono ?_
  rintro e w5 ⟨rfl, hb5⟩
  clear q0 q1 q2 q3 q4 q5 q6 q7 q8
  have z5 := hb5.size
  have HB5 := Lib.hid hb5
  have O5 := Lib.hid (O4.out.below hb5 O4.out.lt)
  have M5 := Lib.hid (M4.out.below hb5 HL4.out)
  have HS1 := Lib.hid (HR1.out.below hb5 (by omega))
  have HS2 := Lib.hid (HR2.out.below hb5 (by omega))
  clear hb5
  go_wp2_with fail
  refine (implNewDesk w5).mono ?_
  rintro e w6 ⟨b6, c6, rfl, h6, hb6⟩
  have z6 := hb6.size
  obtain ⟨W6, hW6⟩ : ∃ x : World, x = w6.alloc (.cells #[.slice (some ⟨b6 0, 0, none⟩) 3 (c6 0), .slice (some ⟨b6 1, 0, none⟩) 3 (c6 1), .int .i64 2, .slice (some ⟨b6 2, 0, none⟩) 7 (c6 2), .slice (some ⟨b6 3, 0, none⟩) 4 (c6 3), .int .i64 2, .int .i64 2, .slice (some ⟨b6 4, 0, none⟩) 4 (c6 4), .slice (some ⟨b6 5, 0, none⟩) 3 (c6 5)] 32) := ⟨_, rfl⟩
  have zW6 : W6.heap.size = w6.heap.size + 1 := by rw [hW6]; simp
  have hB66 : Below w6.heap.size w6 W6 := by rw [hW6]; exact Below.alloc (Below.refl _ _) (Nat.le_refl _) _
  have hP6 : OwnC W6 w6.heap.size #[.slice (some ⟨b6 0, 0, none⟩) 3 (c6 0), .slice (some ⟨b6 1, 0, none⟩) 3 (c6 1), .int .i64 2, .slice (some ⟨b6 2, 0, none⟩) 7 (c6 2), .slice (some ⟨b6 3, 0, none⟩) 4 (c6 3), .int .i64 2, .int .i64 2, .slice (some ⟨b6 4, 0, none⟩) 4 (c6 4), .slice (some ⟨b6 5, 0, none⟩) 3 (c6 5)] 32 := by rw [hW6]; exact OwnC.new rfl
  have hB56 : Below w5.heap.size w5 W6 := hb6.trans (hB66.mono (by omega))
  have hT1 := HS1.out.below hB56 (by omega)
  have hT2 := HS2.out.below hB56 (by omega)
  obtain ⟨p0, p1, p2, p3, p4, p5, p6, p7, p8⟩ := dcells hT1
  obtain ⟨q0, q1, q2, q3, q4, q5, q6, q7, q8⟩ := dcells hP6
  have H6 := Lib.hid (h6.o.below hB66 h6.o.lt)
  have HB56 := Lib.hid hB56
  have O6 := Lib.hid (O5.out.below hB56 O5.out.lt)
  have M6 := Lib.hid (M5.out.below hB56 (fun i hi => by have := HL4.out i hi; omega))
  have HT2 := Lib.hid hT2
  rw [hW6] at p0 p1 p2 p3 p4 p5 p6 p7 p8 q0 q1 q2 q3 q4 q5 q6 q7 q8
  have HW6 := Lib.hid hW6
  clear h6 hb6 hW6 hB66 hP6 hB56 hT1 hT2
  unfold dskV
  go_wp2_with fail
  rw [← HW6.out] at p0 p1 p2 p3 p4 p5 p6 p7 p8 q0 q1 q2 q3 q4 q5 q6 q7 q8 ⊢
  refine (eqDsk b6 c6 b c W6 H6.out O6.out).mono ?_
  rintro e w7 ⟨rfl, hb7⟩
  clear p0 p1 p2 p3 p4 p5 p6 p7 p8 q0 q1 q2 q3 q4 q5 q6 q7 q8
  have z7 := hb7.size
  have HB7 := Lib.hid hb7
  have M7 := Lib.hid (M6.out.below hb7 (fun i hi => by have := HL4.out i hi; omega))
  have hU := HT2.out.below hb7 (by omega)
  obtain ⟨q0, q1, q2, q3, q4, q5, q6, q7, q8⟩ := dcells hU
  clear hb7 hU
  go_wp2_with fail
  refine (heldDsk b' c' w7 M7.out (fun i hi => by have := HL4.out i hi; omega)).mono ?_
  rintro e w8 ⟨rfl, hb8⟩
  have HB8 := Lib.hid hb8
  clear hb8 q0 q1 q2 q3 q4 q5 q6 q7 q8
  go_wp2_with fail
  go_ret
  exact ⟨rfl, (((((HB1.out.trans (HB1W.out.mono (by omega))).trans (HB3.out.mono (by omega))).trans (HB4.out.mono (by omega))).trans (HB5.out.mono (by omega))).trans (HB56.out.mono (by omega))).trans ((HB7.out.mono (by omega)).trans (HB8.out.mono (by omega)) |>.mono (Nat.le_refl _))⟩
end Go.Proofs.Ytiinalckidghaaa
