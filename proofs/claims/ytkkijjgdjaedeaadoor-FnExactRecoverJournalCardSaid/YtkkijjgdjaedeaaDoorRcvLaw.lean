/- The law: both find the same lines again, and the results are the caller's own. -/
import Derived.Test.YtkkijjgdjaedeaaDoorRcvB
namespace Go.Proofs.YtkkijjgdjaedeaaDoor
open Go.RowKit Go.Fl

set_option maxHeartbeats 2000000 in
theorem lawR (s : ByteArray) (hs4 : s.size ≤ 9223372036854775807) (w : World) (mx : Int) (hm : w.cell? ⟨0, 0, none⟩ = some (.int .i64 mx)) (ht : Tab w) :
    Calls Tryd.prog 3 #[.string s] w fun e w' => e = .returned (.bool true) ∧ Below w.heap.size w w' := by
  have HT := Lib.hid ht
  have HM := Lib.hid hm
  clear ht hm
  go_enter Tryd.func3, Tryd.ntmps3
  by_cases hsz : s.size ≤ 1048576
  · have hsz1 : ¬ (1048576 : Int) < (s.size : Int) := by omega
    go_wp2_with fail
    refine (rcvS s _).mono ?_
    rintro e w1 ⟨a1, c1, xs, p, ok, hJ, rfl, ho1, hb1⟩
    have hlen := hJ.len
    have HJ := Lib.hid hJ
    have HO1 := Lib.hid ho1
    have HB1 := Lib.hid hb1
    have z1 := hb1.size
    clear hJ ho1 hb1
    go_wp2_with fail
    refine (rcvB s mx _ (keep_cell HB1.out HM.out) (HT.out.on HB1.out)).mono ?_
    rintro e w2 ⟨a2, c2, xs', p', ok', hJ', rfl, ho2, hb2⟩
    obtain ⟨rfl, rfl, rfl⟩ := HJ.out.unique hJ'
    have z2 := hb2.size
    have HO1 := Lib.hid (HO1.out.far (Far.below hb2 (Nat.le_refl _)))
    have HO2 := Lib.hid ho2
    have HB2 := Lib.hid (HB1.out.trans (hb2.mono z1))
    clear hJ' ho2 hb2 HB1
    go_wp2_with fail
    refine (eqStringS _ _ _ _ _ _ _ _ _ (by omega) _ HO2.out.reads HO1.out.reads).mono ?_
    rintro e w3 ⟨rfl, q, rfl⟩
    have HO1 := Lib.hid (show OwnS (w2.drewN q) _ _ a1 _ from HO1.out)
    have HO2 := Lib.hid (show OwnS (w2.drewN q) _ _ a2 _ from HO2.out)
    have HB3 := Lib.hid (below_dr HB2.out q)
    clear HB2
    go_wp2_with fail
    refine (markStringS _ _ _ _ xs' (by omega) _ HO2.out (by simp)).mono ?_
    rintro e w4 ⟨rfl, hM, hG⟩
    have z4 : w2.heap.size ≤ w4.heap.size := hG.size
    have HM4 := Lib.hid hM
    have HO1 := Lib.hid (HO1.out.far (hG.far (by simpa using z2) (.inl (Nat.le_refl _))))
    have HB4 := Lib.hid (HB3.out.trans (hG.below z1 (by simp; omega)))
    clear hM hG HO2 HB3
    go_wp2_with fail
    refine (heldStringS _ _ _ xs'.length _ (by omega) _ HM4.out z4).mono ?_
    rintro e w5 ⟨rfl, hb5⟩
    have z5 := hb5.size
    have HO1 := Lib.hid (HO1.out.far (Far.below hb5 (by omega)))
    have HM4 := Lib.hid (HM4.out.far (Far.below hb5 (by omega)))
    have HB5 := Lib.hid (HB4.out.trans (hb5.mono (by omega)))
    have n0 : ¬ (1 : Int) + (xs'.length : Int) < 0 := by omega
    clear hb5 HB4
    go_wp2_with fail
    refine (rcvB s mx _ (keep_cell HB5.out HM.out) (HT.out.on HB5.out)).mono ?_
    rintro e w6 ⟨a3, c3, xs3, p3, ok3, hJ3, rfl, ho3, hb6⟩
    obtain ⟨rfl, rfl, rfl⟩ := HJ.out.unique hJ3
    have z6 := hb6.size
    have HO1 := Lib.hid (HO1.out.far (Far.below hb6 (by omega)))
    have HM4 := Lib.hid (HM4.out.far (Far.below hb6 (by omega)))
    have HO3 := Lib.hid ho3
    have HB6 := Lib.hid (HB5.out.trans (hb6.mono (by omega)))
    clear hJ3 ho3 hb6 HB5
    go_wp2_with fail
    refine (eqStringS _ _ _ _ _ _ _ _ _ (by omega) _ HO3.out.reads HO1.out.reads).mono ?_
    rintro e w7 ⟨rfl, q', rfl⟩
    have HM4 := Lib.hid (show MarkT (w6.drewN q') _ _ a2 _ from HM4.out)
    have HB7 := Lib.hid (below_dr HB6.out q')
    clear HB6
    go_wp2_with fail
    refine (heldStringS _ _ _ _ _ (by omega) _ HM4.out (by simp; omega)).mono ?_
    rintro e w8 ⟨rfl, hb8⟩
    have HB8 := Lib.hid (HB7.out.trans (hb8.mono (by simp; omega)))
    clear hb8 HB7
    go_wp2_with fail
    go_ret
    exact ⟨rfl, HB8.out⟩
  · have hsz1 : (1048576 : Int) < (s.size : Int) := by omega
    go_wp2_with fail
    go_ret
    exact ⟨rfl, Below.refl _ _⟩
end Go.Proofs.YtkkijjgdjaedeaaDoor
