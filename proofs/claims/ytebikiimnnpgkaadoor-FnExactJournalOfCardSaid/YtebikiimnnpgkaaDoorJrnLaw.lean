/- The law: both journals are alike. -/
import Derived.Test.YtebikiimnnpgkaaDoorJrnB
namespace Go.Proofs.YtebikiimnnpgkaaDoor
open Go.RowKit Go.Fl

set_option maxHeartbeats 2000000 in
theorem lawJ (lo hi : Nat) (ao : Option Addr) (c : Nat) (ps : List ByteArray) (hn : ps.length ≤ 9223372036854775807) (hf : Fit ps) (w : World) (hs : SlT w lo hi ao ps) (hh : hi ≤ w.heap.size) (ht : Tab w) :
    Calls Tryd.prog 3 #[.slice ao ps.length c] w fun e w' => e = .returned (.bool true) ∧ Below w.heap.size w w' := by
  have HS := Lib.hid hs
  have HT := Lib.hid ht
  have HF := Lib.hid hf
  clear hs ht hf
  go_enter Tryd.func3, Tryd.ntmps3
  go_wp2_with fail
  refine (szStringS lo hi ao c ps hn HF.out _ HS.out).mono ?_
  rintro e w1 ⟨r, rfl, hr0, hr1, hfit, rfl⟩
  have HFIT := Lib.hid hfit
  clear hfit
  by_cases hr : r < 0
  · go_wp2_with fail
    go_ret
    exact ⟨rfl, Below.refl _ _⟩
  have hfit := HFIT.out (by omega)
  have hn' : ps.length ≤ 1048576 := by omega
  have hl' : lens ps ps.length ≤ 1048576 := by omega
  clear hn HF HFIT hfit
  -- the reference's answer
  go_wp2_with fail
  refine (toStringS lo hi ao c ps hn' _ HS.out hh).mono ?_
  rintro e w2 ⟨rfl, hs2, hz2, hb2⟩
  have HB2 := Lib.hid hb2
  have HS2 := Lib.hid hs2
  clear hb2 hs2
  go_wp2_with fail
  refine (jrnS _ _ _ ps.length ps hn' hl' _ HS2.out (by omega)).mono ?_
  rintro e w3 ⟨hy3, hn3, hb3⟩
  have z3 := hb3.size
  have HB3 := Lib.hid (HB2.out.trans (hb3.mono (by omega)))
  have HY3 := Lib.hid hy3
  have HN3 := Lib.hid hn3
  clear hb3 hy3 hn3
  by_cases hok : OkJ ps
  · obtain rfl := HY3.out hok
    have HOK := Lib.hid hok
    clear hok HY3 HN3
    go_wp2_with fail
    refine (toStringS lo hi ao c ps hn' _ (HS.out.far (Far.below HB3.out hh)) (by omega)).mono ?_
    rintro e w4 ⟨rfl, hs4, hz4, hb4⟩
    have HB4 := Lib.hid (HB3.out.trans (hb4.mono (by omega)))
    have HS4 := Lib.hid hs4
    clear hb4 hs4
    go_wp2_with fail
    refine (jrnB _ _ _ ps.length ps hn' hl' _ HS4.out (by omega) (HT.out.on HB4.out)).mono ?_
    rintro e w5 ⟨hy5, _, hb5⟩
    obtain rfl := hy5 HOK.out
    have z5 := hb5.size
    have HB5 := Lib.hid (HB4.out.trans (hb5.mono (by omega)))
    have HS5 := Lib.hid (HS4.out.far (Far.below hb5 (by omega)))
    clear hb5 hy5
    go_wp2_with fail
    refine (toStringS lo hi ao c ps hn' _ (HS.out.far (Far.below HB5.out hh)) (by omega)).mono ?_
    rintro e w6 ⟨rfl, hs6, hz6, hb6⟩
    have HB6 := Lib.hid (HB5.out.trans (hb6.mono (by omega)))
    have HS6 := Lib.hid hs6
    have HS5 := Lib.hid (HS5.out.far (Far.below hb6 (by omega)))
    clear hb6 hs6
    go_wp2_with fail
    refine (eqStringS _ _ _ _ _ _ _ _ ps hn' _ HS5.out HS6.out).mono ?_
    rintro e w7 ⟨rfl, q, rfl⟩
    go_wp2_with fail
    go_ret
    exact ⟨rfl, below_dr HB6.out q⟩
  · obtain rfl := HN3.out hok
    have HOK := Lib.hid hok
    clear hok HY3 HN3
    go_wp2_with fail
    refine (toStringS lo hi ao c ps hn' _ (HS.out.far (Far.below HB3.out hh)) (by omega)).mono ?_
    rintro e w4 ⟨rfl, hs4, hz4, hb4⟩
    have HB4 := Lib.hid (HB3.out.trans (hb4.mono (by omega)))
    have HS4 := Lib.hid hs4
    clear hb4 hs4
    go_wp2_with fail
    refine (jrnB _ _ _ ps.length ps hn' hl' _ HS4.out (by omega) (HT.out.on HB4.out)).mono ?_
    rintro e w5 ⟨_, hy5, hb5⟩
    obtain rfl := hy5 HOK.out
    have z5 := hb5.size
    have HB5 := Lib.hid (HB4.out.trans (hb5.mono (by omega)))
    have HS5 := Lib.hid (HS4.out.far (Far.below hb5 (by omega)))
    clear hb5 hy5
    go_wp2_with fail
    refine (toStringS lo hi ao c ps hn' _ (HS.out.far (Far.below HB5.out hh)) (by omega)).mono ?_
    rintro e w6 ⟨rfl, hs6, hz6, hb6⟩
    have HB6 := Lib.hid (HB5.out.trans (hb6.mono (by omega)))
    have HS6 := Lib.hid hs6
    have HS5 := Lib.hid (HS5.out.far (Far.below hb6 (by omega)))
    clear hb6 hs6
    go_wp2_with fail
    refine (eqStringS _ _ _ _ _ _ _ _ ps hn' _ HS5.out HS6.out).mono ?_
    rintro e w7 ⟨rfl, q, rfl⟩
    go_wp2_with fail
    go_ret
    exact ⟨rfl, below_dr HB6.out q⟩
end Go.Proofs.YtebikiimnnpgkaaDoor
