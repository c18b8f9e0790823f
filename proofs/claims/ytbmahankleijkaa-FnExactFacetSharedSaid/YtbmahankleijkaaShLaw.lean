/- The law of FacetShared. -/
import Derived.Test.YtbmahankleijkaaFsh
import Derived.Test.YtbmahankleijkaaMkS
namespace Go.Proofs.Ytbmahankleijkaa
open Go.RowKit Go.Fl

set_option maxHeartbeats 4000000 in
set_option maxRecDepth 100000 in
theorem fnFacetShared (lo hi : Nat) (sa fa : Option Addr) (cn cm : Nat) (ps : List Sp) (fs : List (List Int)) (x : Int) (hp : ps.length ≤ 9223372036854775807) (hn : fs.length ≤ 9223372036854775807) (hsh : Short fs 9223372036854775807 fs.length) (w : World)
    (hnet : NetAt w lo hi sa fa ps fs) (hh : hi ≤ w.heap.size) :
    Calls Try.prog 6 #[netV sa fa ps.length cn fs.length cm, .int .i64 x] w fun e w' => e = .returned (.bool true) ∧ Below w.heap.size w w' := by
  have HN := Lib.hid hnet
  have HSH := Lib.hid hsh
  clear hnet hsh
  unfold netV
  have A0 : OwnC (w.alloc (.cells #[.slice sa ps.length cn, .slice fa fs.length cm] 25)) w.heap.size #[.slice sa ps.length cn, .slice fa fs.length cm] 25 := OwnC.new rfl
  have HA0 := Lib.hid A0
  clear A0
  go_enter Try.func6, Try.ntmps6
  go_wp2_with fail
  refine (szNet lo hi sa fa cn cm ps fs hp hn HSH.out _ (HN.out.far ((Far.refl _ _ _).alloc _ hh)) (by first | omega | (simp; done) | (simp; omega))).mono ?_
  rintro e w1 ⟨⟨r, rfl, hfit⟩, hb1⟩
  have HB1 : Hid (Below w.heap.size w w1) := Below.trans (by (repeat (first | exact Below.refl _ _ | assumption | refine below_dr ?_ _ | refine Below.alloc ?_ (by first | omega | (simp; done) | (simp; omega)) _ | refine Below.setCell ?_ (by first | omega | (simp; done) | (simp; omega)) _ | refine Below.trans ?_ (Below.mono (by assumption) (by first | omega | (simp; done) | (simp; omega)))))) (hb1.mono (by simp))
  have z1 : w.heap.size + 1 ≤ w1.heap.size := by have := hb1.size; simpa using this
  have A1 := HA0.out.below hb1 (by first | omega | (simp; done) | (simp; omega))
  have c0 := A1.cell 0
  have c1 := A1.cell 1
  simp at c0 c1
  have HA1 := Lib.hid A1
  have HFIT := Lib.hid hfit
  clear A1 HA0 hb1 hfit
  by_cases hr : r < 0
  · go_wp2_with fail
    go_ret
    exact ⟨rfl, HB1.out⟩
  have hf := HFIT.out (by omega)
  have hp' := hf.spots
  have hn' := hf.facets
  have HSH' : Hid (∀ i, i < fs.length → (fAt fs i).length ≤ 1048576) := Lib.hid hf.short
  clear hp hn HSH hf HFIT
  -- the reference's answer
  go_wp2_with fail
  refine (toNet lo hi sa fa cn cm ps fs hp' hn' HSH'.out _ (HN.out.far (Far.below HB1.out hh)) (by omega)).mono ?_
  rintro e w2 ⟨bs1, bf1, g1, rfl, hN1, hb2⟩
  have HN1 := Lib.hid hN1
  have z2 := hb2.size
  have A2 := HA1.out.below hb2 (by omega)
  have HB2 := Lib.hid (HB1.out.trans (hb2.mono (by omega)))
  clear c0 c1 hN1 hb2
  unfold netV
  go_wp2_with fail
  refine (sharedS w1.heap.size w2.heap.size (some ⟨bs1, 0, none⟩) (some ⟨bf1, 0, none⟩) ps.length fs.length ps fs x hp' hn' HSH'.out _ HN1.out.net (Nat.le_refl _)).mono ?_
  rintro e w3 ⟨⟨ao1, d1, rfl, hO1⟩, hb3⟩
  have HO1 := Lib.hid hO1
  have z3 := hb3.size
  have A3 := A2.below hb3 (by omega)
  have HB3 := Lib.hid (HB2.out.trans (hb3.mono (by omega)))
  have c0 := A3.cell 0
  have c1 := A3.cell 1
  simp at c0 c1
  have HA3 := Lib.hid A3
  clear A2 A3 hO1 hb3 HN1 HA1
  -- the program's answer
  go_wp2_with fail
  refine (toNet lo hi sa fa cn cm ps fs hp' hn' HSH'.out _ (HN.out.far (Far.below HB3.out hh)) (by omega)).mono ?_
  rintro e w4 ⟨bs2, bf2, g2, rfl, hN2, hb4⟩
  have z4 := hb4.size
  have A4 := HA3.out.below hb4 (by omega)
  have HB4 := Lib.hid (HB3.out.trans (hb4.mono (by omega)))
  have HO1 := Lib.hid (HO1.out.far (Far.below hb4 (Nat.le_refl _)))
  have hfar4 : Far 0 w4.heap.size w4 (w4.alloc (.cells #[.slice (some ⟨bs2, 0, none⟩) ps.length ps.length, .slice (some ⟨bf2, 0, none⟩) fs.length fs.length] 33)) := (Far.refl _ _ _).alloc _ (Nat.le_refl _)
  have HN2 := Lib.hid (hN2.far (hfar4.mono (Nat.zero_le _) (Nat.le_refl _)))
  have HO1 := Lib.hid (HO1.out.far (hfar4.mono (Nat.zero_le _) (by omega)))
  have A4 := A4.alloc (.cells #[.slice (some ⟨bs2, 0, none⟩) ps.length ps.length, .slice (some ⟨bf2, 0, none⟩) fs.length fs.length] 33)
  have X4 : OwnC (w4.alloc (.cells #[.slice (some ⟨bs2, 0, none⟩) ps.length ps.length, .slice (some ⟨bf2, 0, none⟩) fs.length fs.length] 33)) w4.heap.size #[.slice (some ⟨bs2, 0, none⟩) ps.length ps.length, .slice (some ⟨bf2, 0, none⟩) fs.length fs.length] 33 := OwnC.new rfl
  have HB4 := Lib.hid (HB4.out.alloc (by omega) (.cells #[.slice (some ⟨bs2, 0, none⟩) ps.length ps.length, .slice (some ⟨bf2, 0, none⟩) fs.length fs.length] 33))
  clear c0 c1 hN2 hb4 HA3 hfar4
  unfold netV
  go_wp2_with fail
  refine (sharedB w3.heap.size w4.heap.size (some ⟨bs2, 0, none⟩) (some ⟨bf2, 0, none⟩) ps.length fs.length ps fs x hp' hn' HSH'.out _ (by exact HN2.out.net) (by exact HN2.out.caps) (by simp)).mono ?_
  rintro e w5 ⟨⟨ao2, d2, rfl, hO2⟩, hb5⟩
  have z5 : w4.heap.size + 1 ≤ w5.heap.size := by have := hb5.size; simpa using this
  have hf5 : Far 0 (w4.heap.size + 1) (w4.alloc (.cells #[.slice (some ⟨bs2, 0, none⟩) ps.length ps.length, .slice (some ⟨bf2, 0, none⟩) fs.length fs.length] 33)) w5 := Far.below hb5 (by simp)
  have hO2 : OwnP w5 (w4.heap.size + 1) w5.heap.size ao2 (shL ps fs x) := by simpa using hO2
  have HO2 := Lib.hid hO2
  have HN2 := Lib.hid (HN2.out.far (hf5.mono (Nat.zero_le _) (by omega)))
  have HO1 := Lib.hid (HO1.out.far (hf5.mono (Nat.zero_le _) (by omega)))
  have A5 := A4.below hb5 (by simp; omega)
  have X5 := X4.below hb5 (by simp)
  have HB5 := Lib.hid (HB4.out.trans (hb5.mono (by simp; omega)))
  have hl : (shL ps fs x).length ≤ 1048576 := shL_len hn'
  have c0 := A5.cell 0
  have c1 := A5.cell 1
  have x0 := X5.cell 0
  have x1 := X5.cell 1
  simp at c0 c1 x0 x1
  have HA5 := Lib.hid A5
  have HX5 := Lib.hid X5
  clear A4 X4 hO2 hb5 hf5 A5 X5 HB4
  generalize hxs : shL ps fs x = xs at *
  have HXS := Lib.hid hxs
  clear hxs
  go_wp2_with fail
  refine (eqSpotS _ _ _ _ ao2 ao1 d2 d1 xs hl _ HO2.out.reads HO1.out.reads (by omega) (by omega)).mono ?_
  rintro e w6 ⟨rfl, hq⟩
  have hfq : Far 0 w5.heap.size w5 w6 := Far.below hq (Nat.le_refl _)
  have z6 : w5.heap.size ≤ w6.heap.size := hq.size
  have HB6 := Lib.hid (HB5.out.trans (hq.mono (by omega)))
  have HN2 := Lib.hid (HN2.out.far (hfq.mono (Nat.zero_le _) (by omega)))
  have HO1 := Lib.hid (HO1.out.far (hfq.mono (Nat.zero_le _) (by omega)))
  have HO2 := Lib.hid (HO2.out.far (hfq.mono (Nat.zero_le _) (by omega)))
  have A6 := HA5.out.far hfq (Nat.zero_le _) (by omega)
  have X6 := HX5.out.far hfq (Nat.zero_le _) (by omega)
  clear c0 c1 x0 x1 hq hfq HA5 HX5 HB5
  have c0 := A6.cell 0
  have c1 := A6.cell 1
  have x0 := X6.cell 0
  have x1 := X6.cell 1
  simp at c0 c1 x0 x1
  have HA6 := Lib.hid A6
  have HX6 := Lib.hid X6
  clear A6 X6
  go_wp2_with fail
  go_region_held3 (fun w' => w'.cell? ⟨w.heap.size, 0, none⟩ = some (.slice sa ps.length cn) ∧ w'.cell? ⟨w.heap.size, 1, none⟩ = some (.slice fa fs.length cm) ∧ w'.cell? ⟨w4.heap.size, 0, none⟩ = some (.slice (some ⟨bs2, 0, none⟩) ps.length ps.length) ∧ w'.cell? ⟨w4.heap.size, 1, none⟩ = some (.slice (some ⟨bf2, 0, none⟩) fs.length fs.length)) (first | go_keep | (refine ⟨?_, ?_, ?_, ?_⟩ <;> exact keep_cell (by assumption) (by assumption)))
    ((first | (go_at_call 14; refine (toNet lo hi sa fa cn cm ps fs hp' hn' HSH'.out w6.drew (HN.out.far (Far.below HB6.out.drew hh)) (by simp; omega)).mono ?_; rintro e w7 ⟨bs3, bf3, g3, rfl, hN3, hb7⟩; have HN3 := Lib.hid hN3; have HB7 : Hid (Below w6.heap.size w6 w7) := Lib.hid ⟨hb7.os, hb7.tape, hb7.output, hb7.size, hb7.block⟩; have s0 := keep_cell HB7.out c0; have s1 := keep_cell HB7.out c1; have s2 := keep_cell HB7.out x0; have s3 := keep_cell HB7.out x1; clear hN3 hb7; unfold netV) | (go_at_call 17; refine (eqNet w3.heap.size w4.heap.size w6.heap.size w7.heap.size (some ⟨bs2, 0, none⟩) (some ⟨bf2, 0, none⟩) (some ⟨bs3, 0, none⟩) (some ⟨bf3, 0, none⟩) _ _ _ _ ps fs hp' hn' HSH'.out w7 (HN2.out.net.far (Far.below HB7.out (by omega))) HN3.out.net (by have := HB7.out.size; omega) (Nat.le_refl _)).mono ?_; rintro e w8 ⟨rfl, hb8⟩)))
  have z7 := HB7.out.size
  have z8 := hb8.size
  have B68 : Below w6.heap.size w6 w8 := HB7.out.trans (hb8.mono z7)
  have HN2 := Lib.hid (HN2.out.far (Far.below B68 (by omega)))
  have HO1 := Lib.hid (HO1.out.far (Far.below B68 (by omega)))
  have HO2 := Lib.hid (HO2.out.far (Far.below B68 (by omega)))
  have A8 := HA6.out.below B68 (by omega)
  have X8 := HX6.out.below B68 (by omega)
  have HB8 := Lib.hid (HB6.out.trans (B68.mono (by omega)))
  clear c0 c1 x0 x1 s0 s1 s2 s3 hb8 HN3 HB7 HA6 HX6 HB6 B68
  have c0 := A8.cell 0
  have c1 := A8.cell 1
  have x0 := X8.cell 0
  have x1 := X8.cell 1
  simp at c0 c1 x0 x1
  have HA8 := Lib.hid A8
  have HX8 := Lib.hid X8
  clear A8 X8
  go_wp2_with fail
  refine (markNet w3.heap.size w4.heap.size bs2 bf2 g2 ps fs _ _ 1 hp' hn' HSH'.out (by omega) (by omega) w8 HN2.out (by omega)).mono ?_
  rintro e w9 ⟨rfl, hk9, _⟩
  have z9 := hk9.size
  have HO1 := Lib.hid (HO1.out.far (hk9.far (by omega) (by omega)))
  have HO2 := Lib.hid (HO2.out.far (hk9.far (by omega) (by omega)))
  have A9 := HA8.out.below (hk9.below (B := w.heap.size + 1) (by omega) (by omega)) (by omega)
  have HB9 := Lib.hid (HB8.out.trans (hk9.below (by omega) (by omega)))
  have hsum := sumTo_le HSH'.out fs.length (Nat.le_refl _)
  clear c0 c1 x0 x1 hk9 HA8 HX8 HB8 HN2
  have c0 := A9.cell 0
  have c1 := A9.cell 1
  simp at c0 c1
  have HA9 := Lib.hid A9
  clear A9
  go_wp2_with fail
  refine (eqSpotS _ _ _ _ ao2 ao1 d2 d1 xs hl _ HO2.out.reads HO1.out.reads (by omega) (by omega)).mono ?_
  rintro e w10 ⟨rfl, hq⟩
  have hfq : Far 0 w9.heap.size w9 w10 := Far.below hq (Nat.le_refl _)
  have z10 : w9.heap.size ≤ w10.heap.size := hq.size
  have HB10 := Lib.hid (HB9.out.trans (hq.mono (by omega)))
  have HO1 := Lib.hid (HO1.out.far (hfq.mono (Nat.zero_le _) (by omega)))
  have HO2 := Lib.hid (HO2.out.far (hfq.mono (Nat.zero_le _) (by omega)))
  have A10 := HA9.out.far hfq (Nat.zero_le _) (by omega)
  clear c0 c1 hq hfq HA9 HB9
  have c0 := A10.cell 0
  have c1 := A10.cell 1
  simp at c0 c1
  have HA10 := Lib.hid A10
  clear A10
  go_wp2_with fail
  refine (markOwnP (w4.heap.size + 1) w5.heap.size ao2 d2 xs 1 hl (by omega) (by omega) w10 HO2.out).mono ?_
  rintro e w11 ⟨rfl, hm11, hk11⟩
  have z11 := hk11.size
  have HO1 := Lib.hid (HO1.out.far (hk11.far (by omega) (by omega)))
  have A11 := HA10.out.below (hk11.below (B := w.heap.size + 1) (by omega) (by omega)) (by omega)
  have HB11 := Lib.hid (HB10.out.trans (hk11.below (by omega) (by omega)))
  have HM := Lib.hid hm11
  clear c0 c1 hk11 HA10 HB10 HO2 hm11
  have c0 := A11.cell 0
  have c1 := A11.cell 1
  simp at c0 c1
  have HA11 := Lib.hid A11
  clear A11
  go_wp2_with fail
  refine (heldSpotS _ _ ao2 xs.length d2 1 hl (by omega) (by omega) w11 HM.out).mono ?_
  rintro e w11' ⟨rfl, q11, hq⟩
  have hfq : Far 0 w11.heap.size w11 w11' := by rw [hq]; exact (Far.refl _ _ _).drewN q11
  have z11' : w11'.heap.size = w11.heap.size := by rw [hq]; rfl
  have HB11 : Hid (Below w.heap.size w w11') := by rw [hq]; exact below_dr HB11.out q11
  have HO1 := Lib.hid (HO1.out.far (hfq.mono (Nat.zero_le _) (by omega)))
  have HM := Lib.hid (HM.out.far (hfq.mono (Nat.zero_le _) (by omega)))
  have A12 := HA11.out.far hfq (Nat.zero_le _) (by omega)
  clear c0 c1 hq hfq
  have c0 := A12.cell 0
  have c1 := A12.cell 1
  simp at c0 c1
  clear A12
  go_wp2_with fail
  -- once more
  refine (toNet lo hi sa fa cn cm ps fs hp' hn' HSH'.out _ (HN.out.far (Far.below HB11.out hh)) (by omega)).mono ?_
  rintro e w12 ⟨bs4, bf4, g4, rfl, hN4, hb12⟩
  have z12 := hb12.size
  have HO1 := Lib.hid (HO1.out.far (Far.below hb12 (by omega)))
  have HM := Lib.hid (HM.out.far (Far.below hb12 (by omega)))
  have HB12 := Lib.hid (HB11.out.trans (hb12.mono (by omega)))
  have HN4 := Lib.hid hN4
  clear c0 c1 hb12 hN4 HA11 HB11
  unfold netV
  go_wp2_with fail
  refine (sharedB _ _ (some ⟨bs4, 0, none⟩) (some ⟨bf4, 0, none⟩) ps.length fs.length ps fs x hp' hn' HSH'.out w12 HN4.out.net HN4.out.caps (Nat.le_refl _)).mono ?_
  rintro e w13 ⟨⟨ao3, d3, rfl, hO3⟩, hb13⟩
  rw [HXS.out] at hO3 ⊢
  have z13 := hb13.size
  have HO1 := Lib.hid (HO1.out.far (Far.below hb13 (by omega)))
  have HM := Lib.hid (HM.out.far (Far.below hb13 (by omega)))
  have HB13 := Lib.hid (HB12.out.trans (hb13.mono (by omega)))
  have HO3 := Lib.hid hO3
  clear hb13 hO3 HB12 HN4
  go_wp2_with fail
  refine (eqSpotS _ _ _ _ ao3 ao1 d3 d1 xs hl _ HO3.out.reads HO1.out.reads (by omega) (by omega)).mono ?_
  rintro e w14 ⟨rfl, hq⟩
  have hfq : Far 0 w13.heap.size w13 w14 := Far.below hq (Nat.le_refl _)
  have HB14 := Lib.hid (HB13.out.trans (hq.mono (by omega)))
  have HM := Lib.hid (HM.out.far (hfq.mono (Nat.zero_le _) (by omega)))
  clear hq hfq
  go_wp2_with fail
  refine (heldSpotS _ _ ao2 xs.length d2 1 hl (by omega) (by omega) w14 HM.out).mono ?_
  rintro e w15 ⟨rfl, q15, rfl⟩
  go_wp2_with fail
  go_ret
  exact ⟨rfl, below_dr HB14.out _⟩
end Go.Proofs.Ytbmahankleijkaa
