/- The law: both load the same outline, and the result is the caller's own. -/
import Derived.Test.YtenamfkggeeacaaOLoad
import Derived.Test.YtenamfkggeeacaaOEq
import Derived.Test.YtenamfkggeeacaaOMk
namespace Go.Fl
open Go.RowKit
theorem sumL_le {ls : List (List Cx)} (h : ∀ i, i < ls.length → (lpAt ls i).length ≤ 64) : ∀ j, j ≤ ls.length → sumL ls j ≤ 64 * j
  | 0, _ => Nat.zero_le _
  | j + 1, hj => by
    have h1 := sumL_le h j (by omega)
    have h2 := h j (by omega)
    show sumL ls j + (lpAt ls j).length ≤ 64 * (j + 1)
    omega
theorem RdJ.fits {s nm : ByteArray} {ls : List (List Cx)} {n : Nat} (h : RdJ s nm ls n) : ls.length ≤ 4 ∧ sumL ls ls.length ≤ 256 ∧ Go.Proofs.Ytenamfkggeeacaa.okAll ls := by
  rcases h with ⟨h1, _, rfl, _⟩ | ⟨_, _, rfl, _⟩
  · obtain ⟨_, _, h4, h5⟩ := h1.2.1
    have hall : ∀ i, i < (pLps s (pLoops s)).length → (lpAt (pLps s (pLoops s)) i).length ≤ 64 ∧ (lpAt (pLps s (pLoops s)) i).all okPt = true := fun i hi => by
      have := List.all_eq_true.1 h5 _ (List.getElem_mem hi)
      have e : lpAt (pLps s (pLoops s)) i = (pLps s (pLoops s))[i] := by simp [lpAt, hi]
      rw [e]
      unfold okLoop at this
      simp only [Bool.and_eq_true, decide_eq_true_eq] at this
      exact ⟨this.1.2, this.2⟩
    refine ⟨h4, ?_, fun i hi => ⟨by have := (hall i hi).1; omega, (hall i hi).2⟩⟩
    have := sumL_le (fun i hi => (hall i hi).1) _ (Nat.le_refl (pLps s (pLoops s)).length)
    omega
  · exact ⟨by simp, by simp [sumL], fun i hi => absurd hi (Nat.not_lt_zero _)⟩
theorem LoJ.fits {s nm : ByteArray} {ls : List (List Cx)} {ok : Bool} (h : LoJ s nm ls ok) : ls.length ≤ 4 ∧ sumL ls ls.length ≤ 256 ∧ Go.Proofs.Ytenamfkggeeacaa.okAll ls := by
  obtain ⟨a, b, n, hr, ⟨_, _, _, rfl, _⟩ | ⟨_, _, rfl, _⟩⟩ := h
  · exact hr.fits
  · exact ⟨by simp, by simp [sumL], fun i hi => absurd hi (Nat.not_lt_zero _)⟩
end Go.Fl
namespace Go.Proofs.Ytenamfkggeeacaa
open Go.RowKit Go.Fl

set_option maxHeartbeats 2000000 in
set_option maxRecDepth 100000 in
theorem lawL (s : ByteArray) (hs4 : s.size ≤ 9223372036854775807) (w : World) :
    Calls Try.prog 3 #[.string s] w fun e w' => e = .returned (.bool true) ∧ Below w.heap.size w w' := by
  go_enter Try.func3, Try.ntmps3
  by_cases hsz : s.size ≤ 1048576
  · have hsz1 : ¬ (1048576 : Int) < (s.size : Int) := by omega
    go_wp2_with fail
    refine (specLoad s hsz _).mono ?_
    rintro e w1 ⟨⟨a1, d1, nm, ls, ok, hj, rfl, hl1⟩, hb1⟩
    have HJ := Lib.hid hj
    have hfit := hj.fits
    have HF := Lib.hid hfit
    obtain ⟨l4, l256, hokA⟩ := hfit
    have HOK := Lib.hid hokA
    have HL1 := Lib.hid hl1
    have HB1 := Lib.hid hb1
    have z1 := hb1.size
    have HC3 := Lib.hid (OwnC.new (w := w1) (cs := #[.string nm, .slice a1 ls.length d1]) (T := 24) rfl)
    clear hj hl1 hb1 hokA
    go_wp2_with fail
    refine (implLoad s hsz _).mono ?_
    rintro e w2 ⟨⟨a2, d2, nm2, ls2, ok2, hj2, rfl, hl2⟩, hb2⟩
    obtain ⟨rfl, rfl, rfl⟩ := HJ.out.unique hj2
    have hb2' : Below (w1.heap.size + 1) (w1.alloc (.cells #[.string nm2, .slice a1 ls2.length d1] 24)) w2 := by simpa using hb2
    have z2 : w1.heap.size + 1 ≤ w2.heap.size := by simpa using hb2'.size
    have HL2 := Lib.hid hl2
    have HL1 := Lib.hid (LsAt.far HL1.out (((Far.refl _ _ _).alloc (.cells #[.string nm2, .slice a1 ls2.length d1] 24) (Nat.le_refl _)).trans (Far.below hb2' (by omega))))
    have HC3 := Lib.hid (HC3.out.below hb2' (by omega))
    have HC5 := Lib.hid (OwnC.new (w := w2) (cs := #[.string nm2, .slice a2 ls2.length d2]) (T := 24) rfl)
    have HB2 : Hid (Below w.heap.size w w2) := Lib.hid ((HB1.out.alloc z1 _).trans (hb2'.mono (by omega)))
    have c30 := HC3.out.cell 0
    have c31 := HC3.out.cell 1
    simp at c30 c31
    have n3 : w1.heap.size < w2.heap.size := z2
    clear hj2 hb2 hb2' hl2
    go_wp2_with fail
    refine (eqOl _ _ _ _ _ _ _ _ nm2 ls2 (by omega) HOK.out _ ((LsAt.far HL2.out ((Far.refl _ _ _).alloc _ (Nat.le_refl _))).slL) ((LsAt.far HL1.out ((Far.refl _ _ _).alloc _ (by omega))).slL) (by simp) (by simp; omega)).mono ?_
    rintro e w3 ⟨rfl, hb3⟩
    have hb3' : Below (w2.heap.size + 1) (w2.alloc (.cells #[.string nm2, .slice a2 ls2.length d2] 24)) w3 := by simpa using hb3
    have z3 : w2.heap.size + 1 ≤ w3.heap.size := by simpa using hb3'.size
    have HL2 := Lib.hid (LsAt.far HL2.out (((Far.refl _ _ _).alloc (.cells #[.string nm2, .slice a2 ls2.length d2] 24) (Nat.le_refl _)).trans (Far.below hb3' (by omega))))
    have HL1 := Lib.hid (LsAt.far HL1.out (((Far.refl _ _ _).alloc (.cells #[.string nm2, .slice a2 ls2.length d2] 24) (by omega)).trans (Far.below hb3' (by omega))))
    have HC3 := Lib.hid ((HC3.out.alloc _).below hb3' (by omega))
    have HC5 := Lib.hid (HC5.out.below hb3' (by omega))
    have HB3 : Hid (Below w.heap.size w w3) := Lib.hid ((HB2.out.alloc (by omega) _).trans (hb3'.mono (by omega)))
    have c50 := HC5.out.cell 0
    have c51 := HC5.out.cell 1
    simp at c50 c51
    clear hb3 hb3' HB2 c30 c31
    go_wp2_with fail
    have hk1 : 1 + sumL ls2 ls2.length < 2100 := by omega
    refine (markOl 40 _ _ a2 d2 nm2 ls2 1 (by omega) hk1 _ (by omega) HL2.out).mono ?_
    rintro e w4 ⟨rfl, hs4, hk4⟩
    have z4 := hk4.size
    have HM := Lib.hid hs4
    have HL1 := Lib.hid (LsAt.far HL1.out (hk4.far (by omega) (.inl (by simp))))
    have HC3 := Lib.hid (show OwnC w4 _ _ _ from (hk4.block _ (by omega) (by simp; omega)).trans HC3.out)
    have HC5 := Lib.hid (show OwnC w4 _ _ _ from (hk4.block _ (by omega) (by simp)).trans HC5.out)
    have HB4 : Hid (Below w.heap.size w w4) := Lib.hid (HB3.out.trans (hk4.below (by omega) (by simp; omega)))
    have c50 := HC5.out.cell 0
    have c51 := HC5.out.cell 1
    simp at c50 c51
    obtain ⟨kn, hkn⟩ : ∃ x, x = 1 + sumL ls2 ls2.length := ⟨_, rfl⟩
    have HN := Lib.hid hkn
    have k2 : (kn : Int) < 2100 := by omega
    have k3 : (0 : Int) ≤ (kn : Int) := by omega
    have HK1 := Lib.hid hk1
    rw [← HN.out]
    clear hs4 hk4 HB3 hkn hk1
    go_wp2_with fail
    refine (heldOl _ _ a2 d2 nm2 ls2 1 (by omega) HK1.out _ (by omega) HM.out).mono ?_
    rintro e w5 ⟨rfl, hb5⟩
    have z5 := hb5.size
    rw [← HN.out]
    have HM := Lib.hid (HM.out.far (Far.below hb5 (by omega)))
    have HL1 := Lib.hid (LsAt.far HL1.out (Far.below hb5 (by omega)))
    have HC3 := Lib.hid (HC3.out.below hb5 (by omega))
    have HC5 := Lib.hid (HC5.out.below hb5 (by omega))
    have HB5 : Hid (Below w.heap.size w w5) := Lib.hid (HB4.out.trans (hb5.mono (by omega)))
    clear hb5 HB4 c50 c51
    go_wp2_with fail
    refine (implLoad s hsz _).mono ?_
    rintro e w6 ⟨⟨a3, d3, nm3, ls3, ok3, hj3, rfl, hl3⟩, hb6⟩
    obtain ⟨rfl, rfl, rfl⟩ := HJ.out.unique hj3
    have z6 := hb6.size
    have HL3 := Lib.hid hl3
    have HM := Lib.hid (HM.out.far (Far.below hb6 (by omega)))
    have HL1 := Lib.hid (LsAt.far HL1.out (Far.below hb6 (by omega)))
    have HC3 := Lib.hid (HC3.out.below hb6 (by omega))
    have HC5 := Lib.hid (HC5.out.below hb6 (by omega))
    have HC9 := Lib.hid (OwnC.new (w := w6) (cs := #[.string nm3, .slice a3 ls3.length d3]) (T := 24) rfl)
    have HB6 : Hid (Below w.heap.size w w6) := Lib.hid (HB5.out.trans (hb6.mono (by omega)))
    have c30 := HC3.out.cell 0
    have c31 := HC3.out.cell 1
    simp at c30 c31
    have n3 : w1.heap.size < w6.heap.size := by omega
    clear hj3 hb6 hl3 HB5
    go_wp2_with fail
    refine (eqOl _ _ _ _ _ _ _ _ nm3 ls3 (by omega) HOK.out _ ((LsAt.far HL3.out ((Far.refl _ _ _).alloc _ (Nat.le_refl _))).slL) ((LsAt.far HL1.out ((Far.refl _ _ _).alloc _ (by omega))).slL) (by simp) (by simp; omega)).mono ?_
    rintro e w7 ⟨rfl, hb7⟩
    have hb7' : Below (w6.heap.size + 1) (w6.alloc (.cells #[.string nm3, .slice a3 ls3.length d3] 24)) w7 := by simpa using hb7
    have z7 : w6.heap.size + 1 ≤ w7.heap.size := by simpa using hb7'.size
    have HM := Lib.hid (HM.out.far (((Far.refl _ _ _).alloc (.cells #[.string nm3, .slice a3 ls3.length d3] 24) (by omega)).trans (Far.below hb7' (by omega))))
    have HC5 := Lib.hid ((HC5.out.alloc _).below hb7' (by omega))
    have HB7 : Hid (Below w.heap.size w w7) := Lib.hid ((HB6.out.alloc (by omega) _).trans (hb7'.mono (by omega)))
    have c50 := HC5.out.cell 0
    have c51 := HC5.out.cell 1
    simp at c50 c51
    clear hb7 hb7' HB6 c30 c31
    go_wp2_with fail
    refine (heldOl _ _ a2 d2 nm3 ls3 1 (by omega) HK1.out _ (by omega) HM.out).mono ?_
    rintro e w8 ⟨rfl, hb8⟩
    rw [← HN.out]
    have HB8 := Lib.hid (HB7.out.trans (hb8.mono (by omega)))
    clear hb8 HB7
    go_wp2_with fail
    go_ret
    exact ⟨rfl, HB8.out⟩
  · have hsz1 : (1048576 : Int) < (s.size : Int) := by omega
    go_wp2_with fail
    go_ret
    exact ⟨rfl, Below.refl _ _⟩
end Go.Proofs.Ytenamfkggeeacaa
