/- The law: both find the same outlines again, and the results are the caller's own. -/
import Derived.Test.YtenamfkggeeacaaORecW
import Derived.Test.YtenamfkggeeacaaORecM
namespace Go.Proofs.Ytenamfkggeeacaa
open Go.RowKit Go.Fl

set_option maxHeartbeats 2000000 in
set_option maxRecDepth 100000 in
theorem lawRO (s : ByteArray) (hs4 : s.size ≤ 9223372036854775807) (w : World) :
    Calls Try.prog 4 #[.string s] w fun e w' => e = .returned (.bool true) ∧ Below w.heap.size w w' := by
  have hfit := recF_fits s 8 0
  have hlen := recF_len s 8 0
  go_enter Try.func4, Try.ntmps4
  by_cases hsz : s.size ≤ 1048576
  · have hsz1 : ¬ (1048576 : Int) < (s.size : Int) := by omega
    have HS := Lib.hid (fun w => specRec s hsz w)
    have HI := Lib.hid (fun w => implRec s hsz w)
    unfold RetR at HS HI
    generalize (recF s 8 0).1 = os at *
    generalize (recF s 8 0).2 = p at *
    have HF := Lib.hid hfit
    have hsum := sumO_le hfit os.length (Nat.le_refl _)
    clear hfit
    go_wp2_with fail
    refine (HS.out _).mono ?_
    rintro e w1 ⟨b1, d1, rfl, ho1, hb1⟩
    have HO1 := Lib.hid ho1
    have HB1 := Lib.hid hb1
    have z1 := hb1.size
    clear ho1 hb1
    go_wp2_with fail
    refine (HI.out _).mono ?_
    rintro e w2 ⟨b2, d2, rfl, ho2, hb2⟩
    have z2 := hb2.size
    have HO1 := Lib.hid (HO1.out.far (Far.below hb2 (Nat.le_refl _)))
    have HO2 := Lib.hid ho2
    have HB2 := Lib.hid (HB1.out.trans (hb2.mono z1))
    clear ho2 hb2 HB1
    go_wp2_with fail
    refine (eqOlS _ _ _ _ _ _ _ _ os (by omega) HF.out _ HO2.out.slO HO1.out.slO (Nat.le_refl _) z2).mono ?_
    rintro e w3 ⟨rfl, hb3⟩
    have z3 := hb3.size
    have HO1 := Lib.hid (HO1.out.far (Far.below hb3 z2))
    have HO2 := Lib.hid (HO2.out.far (Far.below hb3 (Nat.le_refl _)))
    have HB3 := Lib.hid (HB2.out.trans (hb3.mono (by omega)))
    clear hb3 HB2
    obtain ⟨kn, hkn⟩ : ∃ x, x = 1 + sumO os os.length := ⟨_, rfl⟩
    have HN := Lib.hid hkn
    have k2 : (kn : Int) < 2100 := by omega
    have k3 : (0 : Int) ≤ (kn : Int) := by omega
    clear hkn
    go_wp2_with fail
    refine (markOlS _ _ _ _ _ _ os hlen HF.out _ z3 HO2.out).mono ?_
    rintro e w4 ⟨rfl, hM, hG⟩
    rw [← HN.out]
    have z4 := hG.size
    have HM4 := Lib.hid hM
    have HO1 := Lib.hid (HO1.out.far (hG.far (by omega) (.inl (Nat.le_refl _))))
    have HB4 := Lib.hid (HB3.out.trans (hG.below (by omega) z1))
    clear hM hG HO2 HB3
    go_wp2_with fail
    refine (heldOlS _ _ _ _ os hlen HF.out _ (by omega) HM4.out).mono ?_
    rintro e w5 ⟨rfl, hb5⟩
    rw [← HN.out]
    have z5 := hb5.size
    have HO1 := Lib.hid (HO1.out.far (Far.below hb5 (by omega)))
    have HM4 := Lib.hid (HM4.out.far (Far.below hb5 (by omega)))
    have HB5 := Lib.hid (HB4.out.trans (hb5.mono (by omega)))
    clear hb5 HB4
    go_wp2_with fail
    refine (HI.out _).mono ?_
    rintro e w6 ⟨b3, d3, rfl, ho3, hb6⟩
    have z6 := hb6.size
    have HO1 := Lib.hid (HO1.out.far (Far.below hb6 (by omega)))
    have HM4 := Lib.hid (HM4.out.far (Far.below hb6 (by omega)))
    have HO3 := Lib.hid ho3
    have HB6 := Lib.hid (HB5.out.trans (hb6.mono (by omega)))
    clear ho3 hb6 HB5
    go_wp2_with fail
    refine (eqOlS _ _ _ _ _ _ _ _ os (by omega) HF.out _ HO3.out.slO HO1.out.slO (Nat.le_refl _) (by omega)).mono ?_
    rintro e w7 ⟨rfl, hb7⟩
    have z7 := hb7.size
    have HM4 := Lib.hid (HM4.out.far (Far.below hb7 (by omega)))
    have HB7 := Lib.hid (HB6.out.trans (hb7.mono (by omega)))
    clear hb7 HB6
    go_wp2_with fail
    refine (heldOlS _ _ _ _ os hlen HF.out _ (by omega) HM4.out).mono ?_
    rintro e w8 ⟨rfl, hb8⟩
    rw [← HN.out]
    have HB8 := Lib.hid (HB7.out.trans (hb8.mono (by omega)))
    clear hb8 HB7
    go_wp2_with fail
    go_ret
    exact ⟨rfl, HB8.out⟩
  · have hsz1 : (1048576 : Int) < (s.size : Int) := by omega
    go_wp2_with fail
    go_ret
    exact ⟨rfl, Below.refl _ _⟩
end Go.Proofs.Ytenamfkggeeacaa
