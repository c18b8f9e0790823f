/- The law of EaseNet. -/
import Derived.Test.YtbmahankleijkaaONet
import Derived.Test.YtbmahankleijkaaEaseB
import Derived.Test.YtbmahankleijkaaTrk
namespace Go.Proofs.Ytbmahankleijkaa
open Go.RowKit Go.Fl

set_option maxHeartbeats 4000000 in
set_option maxRecDepth 100000 in
theorem fnEaseNet (lo hi : Nat) (sa fa : Option Addr) (cn cm : Nat) (ps : List Sp) (fs : List (List Int)) (sh : Nat) (hp : ps.length ≤ 9223372036854775807) (hn : fs.length ≤ 9223372036854775807) (hsh : Short fs 9223372036854775807 fs.length) (w : World)
    (hnet : NetAt w lo hi sa fa ps fs) (hh : hi ≤ w.heap.size) :
    Calls Try.prog 10 #[netV sa fa ps.length cn fs.length cm, .float .f32 sh] w fun e w' => e = .returned (.bool true) ∧ Below w.heap.size w w' := by
  have HN := Lib.hid hnet
  have HSH := Lib.hid hsh
  clear hnet hsh
  unfold netV
  have A0 : OwnC (w.alloc (.cells #[.slice sa ps.length cn, .slice fa fs.length cm] 25)) w.heap.size #[.slice sa ps.length cn, .slice fa fs.length cm] 25 := OwnC.new rfl
  have HA := Lib.hid A0
  clear A0
  go_enter Try.func10, Try.ntmps10
  go_wp2_with fail
  refine (szNet lo hi sa fa cn cm ps fs hp hn HSH.out _ (HN.out.far ((Far.refl _ _ _).alloc _ hh)) (by first | omega | (simp; done) | (simp; omega))).mono ?_
  rintro e w1 ⟨⟨r0, rfl, hfit⟩, hb1⟩
  have HB : Hid (Below w.heap.size w w1) := Below.trans (by (repeat (first | exact Below.refl _ _ | assumption | refine below_dr ?_ _ | refine Below.alloc ?_ (by first | omega | (simp; done) | (simp; omega)) _ | refine Below.setCell ?_ (by first | omega | (simp; done) | (simp; omega)) _ | refine Below.trans ?_ (Below.mono (by assumption) (by first | omega | (simp; done) | (simp; omega)))))) (hb1.mono (by simp))
  have z1 : w.heap.size + 1 ≤ w1.heap.size := by have := hb1.size; simpa using this
  have A1 := HA.out.below hb1 (by first | omega | (simp; done) | (simp; omega))
  have HA1 := Lib.hid A1
  have HFIT := Lib.hid hfit
  have a0 := HA1.out.cell 0
  have a1 := HA1.out.cell 1
  simp at a0 a1
  clear A1 HA hb1 hfit
  by_cases hr0 : r0 < 0
  · go_wp2_with fail
    go_ret
    exact ⟨rfl, HB.out⟩
  have hf := HFIT.out (by omega)
  have hp' := hf.spots
  have hn' := hf.facets
  have HSH' : Hid (∀ i, i < fs.length → (fAt fs i).length ≤ 1048576) := Lib.hid hf.short
  clear hp hn HSH hf HFIT
  have hq1 : (ezRP ps fs (can .f32 sh)).length ≤ 1048576 := ez_len1 hp'
  have hq2 : (ezRF ps fs (can .f32 sh)).length ≤ 1048576 := ez_len2 hn'
  have HQ3 : Hid (∀ i, i < (ezRF ps fs (can .f32 sh)).length → (fAt (ezRF ps fs (can .f32 sh)) i).length ≤ 1048576) := Lib.hid (ez_len3 HSH'.out)
  have HCS := Lib.hid (fun lo hi sa fa sc fc w h1 h2 => easeS lo hi sa fa sc fc ps fs sh hp' hn' HSH'.out w h1 h2)
  have HCB := Lib.hid (fun lo hi sa fa sc fc w h1 h2 h3 => easeB lo hi sa fa sc fc ps fs sh hp' hn' HSH'.out w h1 h2 h3)
  generalize ezRP ps fs (can .f32 sh) = qs at *
  generalize ezRF ps fs (can .f32 sh) = rs at *
  generalize ezO ps fs (can .f32 sh) = ok at *
  go_wp2_with fail
  refine (toNet lo hi sa fa cn cm ps fs hp' hn' HSH'.out _ (HN.out.far (Far.below HB.out hh)) (by omega)).mono ?_
  rintro e w2 ⟨bs1, bf1, g1, rfl, hN, hb⟩
  have z2 := hb.size
  have HA_1 := Lib.hid (HA1.out.below hb (by have := HA1.out.lt; omega))
  clear HA1
  have HB_2 := Lib.hid (HB.out.trans (hb.mono (by omega)))
  clear HB
  have HB := HB_2
  clear HB_2
  clear a0 a1
  have a0 := HA_1.out.cell 0
  have a1 := HA_1.out.cell 1
  simp at a0 a1
  have HX1 := Lib.hid hN
  clear hb hN
  unfold netV
  go_wp2_with fail
  refine (HCS.out w1.heap.size w2.heap.size (some ⟨bs1, 0, none⟩) (some ⟨bf1, 0, none⟩) ps.length fs.length _ HX1.out.net (Nat.le_refl _)).mono ?_
  unfold RetN netV
  rintro e w3 ⟨⟨sa1, fa1, k1, k2, rfl, hO1⟩, hb⟩
  have z3 := hb.size
  have HA_3 := Lib.hid (HA_1.out.below hb (by have := HA_1.out.lt; omega))
  clear HA_1
  have HB_4 := Lib.hid (HB.out.trans (hb.mono (by omega)))
  clear HB
  have HB := HB_4
  clear HB_4
  clear a0 a1
  have a0 := HA_3.out.cell 0
  have a1 := HA_3.out.cell 1
  simp at a0 a1
  have HO1 := Lib.hid hO1
  clear hb hO1 HX1
  have hO : OwnC (w3.alloc (.cells #[.slice sa1 qs.length k1, .slice fa1 rs.length k2] 33)) w3.heap.size #[.slice sa1 qs.length k1, .slice fa1 rs.length k2] 33 := OwnC.new rfl
  have hB : Below w3.heap.size w3 (w3.alloc (.cells #[.slice sa1 qs.length k1, .slice fa1 rs.length k2] 33)) := Below.alloc (Below.refl _ _) (Nat.le_refl _) _
  have zv3 : (w3.alloc (.cells #[.slice sa1 qs.length k1, .slice fa1 rs.length k2] 33)).heap.size = w3.heap.size + 1 := by simp
  have a0' := keep_cell hB a0
  have a1' := keep_cell hB a1
  have b0' := hO.cell 0
  have b1' := hO.cell 1
  simp at b0' b1'
  have HhO := Lib.hid hO
  have HhB := Lib.hid hB
  clear hO hB a0 a1
  go_wp2_with fail
  clear a0' a1' b0' b1'
  have hO := HhO.out
  have hB := HhB.out
  clear HhO HhB
  generalize w3.alloc (.cells #[.slice sa1 qs.length k1, .slice fa1 rs.length k2] 33) = v3 at *
  have O1_5 := Lib.hid (HO1.out.far (Far.below hB (by omega)))
  clear HO1
  have HA_6 := Lib.hid (HA_3.out.below hB (by have := HA_3.out.lt; omega))
  clear HA_3
  have HB_7 := Lib.hid (HB.out.trans (hB.mono (by omega)))
  clear HB
  have HB := HB_7
  clear HB_7
  have HW := Lib.hid hO
  clear hO hB
  have a0 := HA_6.out.cell 0
  have a1 := HA_6.out.cell 1
  have b0 := HW.out.cell 0
  have b1 := HW.out.cell 1
  simp at a0 a1 b0 b1
  refine (toNet lo hi sa fa cn cm ps fs hp' hn' HSH'.out _ (HN.out.far (Far.below HB.out hh)) (by omega)).mono ?_
  rintro e w4 ⟨bs2, bf2, g2, rfl, hN, hb⟩
  have z4 := hb.size
  have O1_8 := Lib.hid (O1_5.out.far (Far.below hb (by omega)))
  clear O1_5
  have HA_9 := Lib.hid (HA_6.out.below hb (by have := HA_6.out.lt; omega))
  clear HA_6
  have HW_10 := Lib.hid (HW.out.below hb (by have := HW.out.lt; omega))
  clear HW
  have HB_11 := Lib.hid (HB.out.trans (hb.mono (by omega)))
  clear HB
  have HB := HB_11
  clear HB_11
  clear a0 a1 b0 b1
  have a0 := HA_9.out.cell 0
  have a1 := HA_9.out.cell 1
  have b0 := HW_10.out.cell 0
  have b1 := HW_10.out.cell 1
  simp at a0 a1 b0 b1
  have HX2 := Lib.hid hN
  clear hb hN
  unfold netV
  have hO : OwnC (w4.alloc (.cells #[.slice (some ⟨bs2, 0, none⟩) ps.length ps.length, .slice (some ⟨bf2, 0, none⟩) fs.length fs.length] 33)) w4.heap.size #[.slice (some ⟨bs2, 0, none⟩) ps.length ps.length, .slice (some ⟨bf2, 0, none⟩) fs.length fs.length] 33 := OwnC.new rfl
  have hB : Below w4.heap.size w4 (w4.alloc (.cells #[.slice (some ⟨bs2, 0, none⟩) ps.length ps.length, .slice (some ⟨bf2, 0, none⟩) fs.length fs.length] 33)) := Below.alloc (Below.refl _ _) (Nat.le_refl _) _
  have zv4 : (w4.alloc (.cells #[.slice (some ⟨bs2, 0, none⟩) ps.length ps.length, .slice (some ⟨bf2, 0, none⟩) fs.length fs.length] 33)).heap.size = w4.heap.size + 1 := by simp
  have a0' := keep_cell hB a0
  have a1' := keep_cell hB a1
  have b0' := keep_cell hB b0
  have b1' := keep_cell hB b1
  have x0' := hO.cell 0
  have x1' := hO.cell 1
  simp at x0' x1'
  have HhO := Lib.hid hO
  have HhB := Lib.hid hB
  clear hO hB a0 a1 b0 b1
  go_wp2_with fail
  clear a0' a1' b0' b1' x0' x1'
  have hO := HhO.out
  have hB := HhB.out
  clear HhO HhB
  generalize w4.alloc (.cells #[.slice (some ⟨bs2, 0, none⟩) ps.length ps.length, .slice (some ⟨bf2, 0, none⟩) fs.length fs.length] 33) = v4 at *
  have O1_12 := Lib.hid (O1_8.out.far (Far.below hB (by omega)))
  clear O1_8
  have X2_13 := Lib.hid (HX2.out.far (Far.below hB (by omega)))
  clear HX2
  have HA_14 := Lib.hid (HA_9.out.below hB (by have := HA_9.out.lt; omega))
  clear HA_9
  have HW_15 := Lib.hid (HW_10.out.below hB (by have := HW_10.out.lt; omega))
  clear HW_10
  have HB_16 := Lib.hid (HB.out.trans (hB.mono (by omega)))
  clear HB
  have HB := HB_16
  clear HB_16
  have HX := Lib.hid hO
  clear hO hB
  have a0 := HA_14.out.cell 0
  have a1 := HA_14.out.cell 1
  have b0 := HW_15.out.cell 0
  have b1 := HW_15.out.cell 1
  have x0 := HX.out.cell 0
  have x1 := HX.out.cell 1
  simp at a0 a1 b0 b1 x0 x1
  refine (HCB.out v3.heap.size w4.heap.size (some ⟨bs2, 0, none⟩) (some ⟨bf2, 0, none⟩) ps.length fs.length _ X2_13.out.net X2_13.out.caps (by omega)).mono ?_
  unfold RetN netV
  rintro e w5 ⟨⟨sa2, fa2, k3, k4, rfl, hO2⟩, hb⟩
  have z5 := hb.size
  have O1_17 := Lib.hid (O1_12.out.far (Far.below hb (by omega)))
  clear O1_12
  have X2_18 := Lib.hid (X2_13.out.far (Far.below hb (by omega)))
  clear X2_13
  have HA_19 := Lib.hid (HA_14.out.below hb (by have := HA_14.out.lt; omega))
  clear HA_14
  have HW_20 := Lib.hid (HW_15.out.below hb (by have := HW_15.out.lt; omega))
  clear HW_15
  have HX_21 := Lib.hid (HX.out.below hb (by have := HX.out.lt; omega))
  clear HX
  have HB_22 := Lib.hid (HB.out.trans (hb.mono (by omega)))
  clear HB
  have HB := HB_22
  clear HB_22
  clear a0 a1 b0 b1 x0 x1
  have a0 := HA_19.out.cell 0
  have a1 := HA_19.out.cell 1
  have b0 := HW_20.out.cell 0
  have b1 := HW_20.out.cell 1
  have x0 := HX_21.out.cell 0
  have x1 := HX_21.out.cell 1
  simp at a0 a1 b0 b1 x0 x1
  have HO2 := Lib.hid hO2
  clear hb hO2
  have hO : OwnC (w5.alloc (.cells #[.slice sa2 qs.length k3, .slice fa2 rs.length k4] 33)) w5.heap.size #[.slice sa2 qs.length k3, .slice fa2 rs.length k4] 33 := OwnC.new rfl
  have hB : Below w5.heap.size w5 (w5.alloc (.cells #[.slice sa2 qs.length k3, .slice fa2 rs.length k4] 33)) := Below.alloc (Below.refl _ _) (Nat.le_refl _) _
  have zv5 : (w5.alloc (.cells #[.slice sa2 qs.length k3, .slice fa2 rs.length k4] 33)).heap.size = w5.heap.size + 1 := by simp
  have a0' := keep_cell hB a0
  have a1' := keep_cell hB a1
  have b0' := keep_cell hB b0
  have b1' := keep_cell hB b1
  have x0' := keep_cell hB x0
  have x1' := keep_cell hB x1
  have y0' := hO.cell 0
  have y1' := hO.cell 1
  simp at y0' y1'
  have HhO := Lib.hid hO
  have HhB := Lib.hid hB
  clear hO hB a0 a1 b0 b1 x0 x1
  go_wp2_with fail
  clear a0' a1' b0' b1' x0' x1' y0' y1'
  have hO := HhO.out
  have hB := HhB.out
  clear HhO HhB
  generalize w5.alloc (.cells #[.slice sa2 qs.length k3, .slice fa2 rs.length k4] 33) = v5 at *
  have O1_23 := Lib.hid (O1_17.out.far (Far.below hB (by omega)))
  clear O1_17
  have X2_24 := Lib.hid (X2_18.out.far (Far.below hB (by omega)))
  clear X2_18
  have O2_25 := Lib.hid (HO2.out.far (Far.below hB (by omega)))
  clear HO2
  have HA_26 := Lib.hid (HA_19.out.below hB (by have := HA_19.out.lt; omega))
  clear HA_19
  have HW_27 := Lib.hid (HW_20.out.below hB (by have := HW_20.out.lt; omega))
  clear HW_20
  have HX_28 := Lib.hid (HX_21.out.below hB (by have := HX_21.out.lt; omega))
  clear HX_21
  have HB_29 := Lib.hid (HB.out.trans (hB.mono (by omega)))
  clear HB
  have HB := HB_29
  clear HB_29
  have HG := Lib.hid hO
  clear hO hB
  have a0 := HA_26.out.cell 0
  have a1 := HA_26.out.cell 1
  have b0 := HW_27.out.cell 0
  have b1 := HW_27.out.cell 1
  have x0 := HX_28.out.cell 0
  have x1 := HX_28.out.cell 1
  have y0 := HG.out.cell 0
  have y1 := HG.out.cell 1
  simp at a0 a1 b0 b1 x0 x1 y0 y1
  refine (eqNet v4.heap.size w5.heap.size w2.heap.size w3.heap.size sa2 fa2 sa1 fa1 _ _ _ _ qs rs hq1 hq2 HQ3.out _ O2_25.out.net O1_23.out.net (by omega) (by omega)).mono ?_
  rintro e w6 ⟨rfl, hb⟩
  have z6 := hb.size
  have O1_30 := Lib.hid (O1_23.out.far (Far.below hb (by omega)))
  clear O1_23
  have X2_31 := Lib.hid (X2_24.out.far (Far.below hb (by omega)))
  clear X2_24
  have O2_32 := Lib.hid (O2_25.out.far (Far.below hb (by omega)))
  clear O2_25
  have HA_33 := Lib.hid (HA_26.out.below hb (by have := HA_26.out.lt; omega))
  clear HA_26
  have HW_34 := Lib.hid (HW_27.out.below hb (by have := HW_27.out.lt; omega))
  clear HW_27
  have HX_35 := Lib.hid (HX_28.out.below hb (by have := HX_28.out.lt; omega))
  clear HX_28
  have HG_36 := Lib.hid (HG.out.below hb (by have := HG.out.lt; omega))
  clear HG
  have HB_37 := Lib.hid (HB.out.trans (hb.mono (by omega)))
  clear HB
  have HB := HB_37
  clear HB_37
  clear a0 a1 b0 b1 x0 x1 y0 y1
  have a0 := HA_33.out.cell 0
  have a1 := HA_33.out.cell 1
  have b0 := HW_34.out.cell 0
  have b1 := HW_34.out.cell 1
  have x0 := HX_35.out.cell 0
  have x1 := HX_35.out.cell 1
  have y0 := HG_36.out.cell 0
  have y1 := HG_36.out.cell 1
  simp at a0 a1 b0 b1 x0 x1 y0 y1
  clear hb
  go_wp2_with fail
  go_region_held3 (fun w' => w'.cell? ⟨w.heap.size, 0, none⟩ = some (.slice sa ps.length cn) ∧ w'.cell? ⟨w.heap.size, 1, none⟩ = some (.slice fa fs.length cm) ∧ w'.cell? ⟨w4.heap.size, 0, none⟩ = some (.slice (some ⟨bs2, 0, none⟩) ps.length ps.length) ∧ w'.cell? ⟨w4.heap.size, 1, none⟩ = some (.slice (some ⟨bf2, 0, none⟩) fs.length fs.length))
    (refine ⟨?_, ?_, ?_, ?_⟩ <;> first | (with_reducible assumption) | ((with_reducible refine Trk.k0 ?_) <;> with_reducible assumption) | exact keep_cell HB7.out (by with_reducible assumption) | exact keep_cell HB8.out (by with_reducible assumption))
    ((first | (go_at_call 14; refine (toNet lo hi sa fa cn cm ps fs hp' hn' HSH'.out w6.drew (HN.out.far (Far.below HB.out.drew hh)) (by simp; omega)).mono ?_; rintro e w7 ⟨bs3, bf3, g3, rfl, hN3, hb7⟩; have HN3 := Lib.hid hN3; have HB7 : Hid (Below w6.heap.size w6 w7) := Lib.hid ⟨hb7.os, hb7.tape, hb7.output, hb7.size, hb7.block⟩; clear hN3 hb7; unfold netV) | (go_at_call 17; refine (eqNet v3.heap.size w4.heap.size w6.heap.size w7.heap.size (some ⟨bs2, 0, none⟩) (some ⟨bf2, 0, none⟩) (some ⟨bs3, 0, none⟩) (some ⟨bf3, 0, none⟩) _ _ _ _ ps fs hp' hn' HSH'.out w7 (X2_31.out.net.far (Far.below HB7.out (by omega))) HN3.out.net (by have := HB7.out.size; omega) (Nat.le_refl _)).mono ?_; rintro e w8 ⟨rfl, hb8⟩; have HB8 : Hid (Below w6.heap.size w6 w8) := Lib.hid (HB7.out.trans (hb8.mono HB7.out.size)); clear hb8)))
  have hb := HB8.out
  have z8 := hb.size
  have O1_38 := Lib.hid (O1_30.out.far (Far.below hb (by omega)))
  clear O1_30
  have X2_39 := Lib.hid (X2_31.out.far (Far.below hb (by omega)))
  clear X2_31
  have O2_40 := Lib.hid (O2_32.out.far (Far.below hb (by omega)))
  clear O2_32
  have HA_41 := Lib.hid (HA_33.out.below hb (by have := HA_33.out.lt; omega))
  clear HA_33
  have HW_42 := Lib.hid (HW_34.out.below hb (by have := HW_34.out.lt; omega))
  clear HW_34
  have HX_43 := Lib.hid (HX_35.out.below hb (by have := HX_35.out.lt; omega))
  clear HX_35
  have HG_44 := Lib.hid (HG_36.out.below hb (by have := HG_36.out.lt; omega))
  clear HG_36
  have HB_45 := Lib.hid (HB.out.trans (hb.mono (by omega)))
  clear HB
  have HB := HB_45
  clear HB_45
  clear a0 a1 b0 b1 x0 x1 y0 y1
  have a0 := HA_41.out.cell 0
  have a1 := HA_41.out.cell 1
  have b0 := HW_42.out.cell 0
  have b1 := HW_42.out.cell 1
  have x0 := HX_43.out.cell 0
  have x1 := HX_43.out.cell 1
  have y0 := HG_44.out.cell 0
  have y1 := HG_44.out.cell 1
  simp at a0 a1 b0 b1 x0 x1 y0 y1
  clear hb HB7 HB8 HN3
  go_wp2_with fail
  refine (markNet v3.heap.size w4.heap.size bs2 bf2 g2 ps fs _ _ 1 hp' hn' HSH'.out (by omega) (by omega) w8 X2_39.out (by omega)).mono ?_
  rintro e w9 ⟨rfl, hk, _⟩
  have z9 := hk.size
  clear X2_39
  have O1_46 := Lib.hid (O1_38.out.far (hk.far (by omega) (by omega)))
  clear O1_38
  have O2_47 := Lib.hid (O2_40.out.far (hk.far (by omega) (by omega)))
  clear O2_40
  have HA_48 := Lib.hid (HA_41.out.far (hk.far (lo := v3.heap.size) (hi := w4.heap.size) (a := w.heap.size) (b := w.heap.size + 1) (by have := HA_41.out.lt; omega) (by omega)) (Nat.le_refl _) (Nat.lt_succ_self _))
  clear HA_41
  have HW_49 := Lib.hid (HW_42.out.far (hk.far (lo := v3.heap.size) (hi := w4.heap.size) (a := w3.heap.size) (b := w3.heap.size + 1) (by have := HW_42.out.lt; omega) (by omega)) (Nat.le_refl _) (Nat.lt_succ_self _))
  clear HW_42
  have HX_50 := Lib.hid (HX_43.out.far (hk.far (lo := v3.heap.size) (hi := w4.heap.size) (a := w4.heap.size) (b := w4.heap.size + 1) (by have := HX_43.out.lt; omega) (by omega)) (Nat.le_refl _) (Nat.lt_succ_self _))
  clear HX_43
  have HG_51 := Lib.hid (HG_44.out.far (hk.far (lo := v3.heap.size) (hi := w4.heap.size) (a := w5.heap.size) (b := w5.heap.size + 1) (by have := HG_44.out.lt; omega) (by omega)) (Nat.le_refl _) (Nat.lt_succ_self _))
  clear HG_44
  have HB_52 := Lib.hid (HB.out.trans (hk.below (by omega) (by omega)))
  clear HB
  have HB := HB_52
  clear HB_52
  clear a0 a1 b0 b1 x0 x1 y0 y1
  have a0 := HA_48.out.cell 0
  have a1 := HA_48.out.cell 1
  have b0 := HW_49.out.cell 0
  have b1 := HW_49.out.cell 1
  have x0 := HX_50.out.cell 0
  have x1 := HX_50.out.cell 1
  have y0 := HG_51.out.cell 0
  have y1 := HG_51.out.cell 1
  simp at a0 a1 b0 b1 x0 x1 y0 y1
  have hsum := sumTo_le HSH'.out fs.length (Nat.le_refl _)
  have hpos : ¬ ((1 : Int) + (ps.length : Int) * 3 + (sumTo fs fs.length : Int) < 0) := by omega
  clear hk
  go_wp2_with fail
  refine (eqNet v4.heap.size w5.heap.size w2.heap.size w3.heap.size sa2 fa2 sa1 fa1 _ _ _ _ qs rs hq1 hq2 HQ3.out _ O2_47.out.net O1_46.out.net (by omega) (by omega)).mono ?_
  rintro e w10 ⟨rfl, hb⟩
  have z10 := hb.size
  have O1_53 := Lib.hid (O1_46.out.far (Far.below hb (by omega)))
  clear O1_46
  have O2_54 := Lib.hid (O2_47.out.far (Far.below hb (by omega)))
  clear O2_47
  have HA_55 := Lib.hid (HA_48.out.below hb (by have := HA_48.out.lt; omega))
  clear HA_48
  have HW_56 := Lib.hid (HW_49.out.below hb (by have := HW_49.out.lt; omega))
  clear HW_49
  have HX_57 := Lib.hid (HX_50.out.below hb (by have := HX_50.out.lt; omega))
  clear HX_50
  have HG_58 := Lib.hid (HG_51.out.below hb (by have := HG_51.out.lt; omega))
  clear HG_51
  have HB_59 := Lib.hid (HB.out.trans (hb.mono (by omega)))
  clear HB
  have HB := HB_59
  clear HB_59
  clear a0 a1 b0 b1 x0 x1 y0 y1
  have a0 := HA_55.out.cell 0
  have a1 := HA_55.out.cell 1
  have b0 := HW_56.out.cell 0
  have b1 := HW_56.out.cell 1
  have x0 := HX_57.out.cell 0
  have x1 := HX_57.out.cell 1
  have y0 := HG_58.out.cell 0
  have y1 := HG_58.out.cell 1
  simp at a0 a1 b0 b1 x0 x1 y0 y1
  clear hb hsum hpos
  go_wp2_with fail
  refine (markO v4.heap.size w5.heap.size sa2 fa2 qs rs _ _ 1 hq1 hq2 HQ3.out (by omega) (by omega) w10 O2_54.out (by omega)).mono ?_
  rintro e w11 ⟨rfl, hm, hk⟩
  have z11 := hk.size
  clear O2_54
  have O1_60 := Lib.hid (O1_53.out.far (hk.far (by omega) (by omega)))
  clear O1_53
  have HA_61 := Lib.hid (HA_55.out.far (hk.far (lo := v4.heap.size) (hi := w5.heap.size) (a := w.heap.size) (b := w.heap.size + 1) (by have := HA_55.out.lt; omega) (by omega)) (Nat.le_refl _) (Nat.lt_succ_self _))
  clear HA_55
  have HW_62 := Lib.hid (HW_56.out.far (hk.far (lo := v4.heap.size) (hi := w5.heap.size) (a := w3.heap.size) (b := w3.heap.size + 1) (by have := HW_56.out.lt; omega) (by omega)) (Nat.le_refl _) (Nat.lt_succ_self _))
  clear HW_56
  have HX_63 := Lib.hid (HX_57.out.far (hk.far (lo := v4.heap.size) (hi := w5.heap.size) (a := w4.heap.size) (b := w4.heap.size + 1) (by have := HX_57.out.lt; omega) (by omega)) (Nat.le_refl _) (Nat.lt_succ_self _))
  clear HX_57
  have HG_64 := Lib.hid (HG_58.out.far (hk.far (lo := v4.heap.size) (hi := w5.heap.size) (a := w5.heap.size) (b := w5.heap.size + 1) (by have := HG_58.out.lt; omega) (by omega)) (Nat.le_refl _) (Nat.lt_succ_self _))
  clear HG_58
  have HB_65 := Lib.hid (HB.out.trans (hk.below (by omega) (by omega)))
  clear HB
  have HB := HB_65
  clear HB_65
  clear a0 a1 b0 b1 x0 x1 y0 y1
  have a0 := HA_61.out.cell 0
  have a1 := HA_61.out.cell 1
  have b0 := HW_62.out.cell 0
  have b1 := HW_62.out.cell 1
  have x0 := HX_63.out.cell 0
  have x1 := HX_63.out.cell 1
  have y0 := HG_64.out.cell 0
  have y1 := HG_64.out.cell 1
  simp at a0 a1 b0 b1 x0 x1 y0 y1
  have HM := Lib.hid hm
  have hsum := sumTo_le HQ3.out rs.length (Nat.le_refl _)
  have hpos : ¬ ((1 : Int) + (qs.length : Int) * 3 + (sumTo rs rs.length : Int) < 0) := by omega
  clear hk hm
  go_wp2_with fail
  refine (heldO v4.heap.size w5.heap.size sa2 fa2 qs.length rs _ _ 1 hq1 hq2 HQ3.out (by omega) (by omega) _ HM.out (by omega)).mono ?_
  rintro e w12 ⟨rfl, hb⟩
  have z12 := hb.size
  have O1_66 := Lib.hid (O1_60.out.far (Far.below hb (by omega)))
  clear O1_60
  have M_67 := Lib.hid (HM.out.far (Far.below hb (by omega)))
  clear HM
  have HA_68 := Lib.hid (HA_61.out.below hb (by have := HA_61.out.lt; omega))
  clear HA_61
  have HW_69 := Lib.hid (HW_62.out.below hb (by have := HW_62.out.lt; omega))
  clear HW_62
  have HX_70 := Lib.hid (HX_63.out.below hb (by have := HX_63.out.lt; omega))
  clear HX_63
  have HG_71 := Lib.hid (HG_64.out.below hb (by have := HG_64.out.lt; omega))
  clear HG_64
  have HB_72 := Lib.hid (HB.out.trans (hb.mono (by omega)))
  clear HB
  have HB := HB_72
  clear HB_72
  clear a0 a1 b0 b1 x0 x1 y0 y1
  have a0 := HA_68.out.cell 0
  have a1 := HA_68.out.cell 1
  have b0 := HW_69.out.cell 0
  have b1 := HW_69.out.cell 1
  have x0 := HX_70.out.cell 0
  have x1 := HX_70.out.cell 1
  have y0 := HG_71.out.cell 0
  have y1 := HG_71.out.cell 1
  simp at a0 a1 b0 b1 x0 x1 y0 y1
  clear hb
  go_wp2_with fail
  refine (toNet lo hi sa fa cn cm ps fs hp' hn' HSH'.out _ (HN.out.far (Far.below HB.out hh)) (by omega)).mono ?_
  rintro e w13 ⟨bs4, bf4, g4, rfl, hN, hb⟩
  have z13 := hb.size
  have O1_73 := Lib.hid (O1_66.out.far (Far.below hb (by omega)))
  clear O1_66
  have M_74 := Lib.hid (M_67.out.far (Far.below hb (by omega)))
  clear M_67
  have HA_75 := Lib.hid (HA_68.out.below hb (by have := HA_68.out.lt; omega))
  clear HA_68
  have HW_76 := Lib.hid (HW_69.out.below hb (by have := HW_69.out.lt; omega))
  clear HW_69
  have HX_77 := Lib.hid (HX_70.out.below hb (by have := HX_70.out.lt; omega))
  clear HX_70
  have HG_78 := Lib.hid (HG_71.out.below hb (by have := HG_71.out.lt; omega))
  clear HG_71
  have HB_79 := Lib.hid (HB.out.trans (hb.mono (by omega)))
  clear HB
  have HB := HB_79
  clear HB_79
  clear a0 a1 b0 b1 x0 x1 y0 y1
  have a0 := HA_75.out.cell 0
  have a1 := HA_75.out.cell 1
  have b0 := HW_76.out.cell 0
  have b1 := HW_76.out.cell 1
  have x0 := HX_77.out.cell 0
  have x1 := HX_77.out.cell 1
  have y0 := HG_78.out.cell 0
  have y1 := HG_78.out.cell 1
  simp at a0 a1 b0 b1 x0 x1 y0 y1
  have HX4 := Lib.hid hN
  clear hb hN
  unfold netV
  go_wp2_with fail
  refine (HCB.out w12.heap.size w13.heap.size (some ⟨bs4, 0, none⟩) (some ⟨bf4, 0, none⟩) ps.length fs.length _ HX4.out.net HX4.out.caps (Nat.le_refl _)).mono ?_
  unfold RetN netV
  rintro e w14 ⟨⟨sa3, fa3, k5, k6, rfl, hO3⟩, hb⟩
  have z14 := hb.size
  have O1_80 := Lib.hid (O1_73.out.far (Far.below hb (by omega)))
  clear O1_73
  have M_81 := Lib.hid (M_74.out.far (Far.below hb (by omega)))
  clear M_74
  have HA_82 := Lib.hid (HA_75.out.below hb (by have := HA_75.out.lt; omega))
  clear HA_75
  have HW_83 := Lib.hid (HW_76.out.below hb (by have := HW_76.out.lt; omega))
  clear HW_76
  have HX_84 := Lib.hid (HX_77.out.below hb (by have := HX_77.out.lt; omega))
  clear HX_77
  have HG_85 := Lib.hid (HG_78.out.below hb (by have := HG_78.out.lt; omega))
  clear HG_78
  have HB_86 := Lib.hid (HB.out.trans (hb.mono (by omega)))
  clear HB
  have HB := HB_86
  clear HB_86
  clear a0 a1 b0 b1 x0 x1 y0 y1
  have a0 := HA_82.out.cell 0
  have a1 := HA_82.out.cell 1
  have b0 := HW_83.out.cell 0
  have b1 := HW_83.out.cell 1
  have x0 := HX_84.out.cell 0
  have x1 := HX_84.out.cell 1
  have y0 := HG_85.out.cell 0
  have y1 := HG_85.out.cell 1
  simp at a0 a1 b0 b1 x0 x1 y0 y1
  have HO3 := Lib.hid hO3
  clear hb hO3 HX4
  have hO : OwnC (w14.alloc (.cells #[.slice sa3 qs.length k5, .slice fa3 rs.length k6] 33)) w14.heap.size #[.slice sa3 qs.length k5, .slice fa3 rs.length k6] 33 := OwnC.new rfl
  have hB : Below w14.heap.size w14 (w14.alloc (.cells #[.slice sa3 qs.length k5, .slice fa3 rs.length k6] 33)) := Below.alloc (Below.refl _ _) (Nat.le_refl _) _
  have zv14 : (w14.alloc (.cells #[.slice sa3 qs.length k5, .slice fa3 rs.length k6] 33)).heap.size = w14.heap.size + 1 := by simp
  have a0' := keep_cell hB a0
  have a1' := keep_cell hB a1
  have b0' := keep_cell hB b0
  have b1' := keep_cell hB b1
  have x0' := keep_cell hB x0
  have x1' := keep_cell hB x1
  have y0' := keep_cell hB y0
  have y1' := keep_cell hB y1
  have h0' := hO.cell 0
  have h1' := hO.cell 1
  simp at h0' h1'
  have HhO := Lib.hid hO
  have HhB := Lib.hid hB
  clear hO hB a0 a1 b0 b1 x0 x1 y0 y1
  go_wp2_with fail
  clear a0' a1' b0' b1' x0' x1' y0' y1' h0' h1'
  have hO := HhO.out
  have hB := HhB.out
  clear HhO HhB
  generalize w14.alloc (.cells #[.slice sa3 qs.length k5, .slice fa3 rs.length k6] 33) = v14 at *
  have O1_87 := Lib.hid (O1_80.out.far (Far.below hB (by omega)))
  clear O1_80
  have M_88 := Lib.hid (M_81.out.far (Far.below hB (by omega)))
  clear M_81
  have O3_89 := Lib.hid (HO3.out.far (Far.below hB (by omega)))
  clear HO3
  have HA_90 := Lib.hid (HA_82.out.below hB (by have := HA_82.out.lt; omega))
  clear HA_82
  have HW_91 := Lib.hid (HW_83.out.below hB (by have := HW_83.out.lt; omega))
  clear HW_83
  have HX_92 := Lib.hid (HX_84.out.below hB (by have := HX_84.out.lt; omega))
  clear HX_84
  have HG_93 := Lib.hid (HG_85.out.below hB (by have := HG_85.out.lt; omega))
  clear HG_85
  have HB_94 := Lib.hid (HB.out.trans (hB.mono (by omega)))
  clear HB
  have HB := HB_94
  clear HB_94
  have HH := Lib.hid hO
  clear hO hB
  have a0 := HA_90.out.cell 0
  have a1 := HA_90.out.cell 1
  have b0 := HW_91.out.cell 0
  have b1 := HW_91.out.cell 1
  have x0 := HX_92.out.cell 0
  have x1 := HX_92.out.cell 1
  have y0 := HG_93.out.cell 0
  have y1 := HG_93.out.cell 1
  have h0 := HH.out.cell 0
  have h1 := HH.out.cell 1
  simp at a0 a1 b0 b1 x0 x1 y0 y1 h0 h1
  refine (eqNet w13.heap.size w14.heap.size w2.heap.size w3.heap.size sa3 fa3 sa1 fa1 _ _ _ _ qs rs hq1 hq2 HQ3.out _ O3_89.out.net O1_87.out.net (by omega) (by omega)).mono ?_
  rintro e w15 ⟨rfl, hb⟩
  have z15 := hb.size
  have O1_95 := Lib.hid (O1_87.out.far (Far.below hb (by omega)))
  clear O1_87
  have M_96 := Lib.hid (M_88.out.far (Far.below hb (by omega)))
  clear M_88
  have O3_97 := Lib.hid (O3_89.out.far (Far.below hb (by omega)))
  clear O3_89
  have HA_98 := Lib.hid (HA_90.out.below hb (by have := HA_90.out.lt; omega))
  clear HA_90
  have HW_99 := Lib.hid (HW_91.out.below hb (by have := HW_91.out.lt; omega))
  clear HW_91
  have HX_100 := Lib.hid (HX_92.out.below hb (by have := HX_92.out.lt; omega))
  clear HX_92
  have HG_101 := Lib.hid (HG_93.out.below hb (by have := HG_93.out.lt; omega))
  clear HG_93
  have HH_102 := Lib.hid (HH.out.below hb (by have := HH.out.lt; omega))
  clear HH
  have HB_103 := Lib.hid (HB.out.trans (hb.mono (by omega)))
  clear HB
  have HB := HB_103
  clear HB_103
  clear a0 a1 b0 b1 x0 x1 y0 y1 h0 h1
  have a0 := HA_98.out.cell 0
  have a1 := HA_98.out.cell 1
  have b0 := HW_99.out.cell 0
  have b1 := HW_99.out.cell 1
  have x0 := HX_100.out.cell 0
  have x1 := HX_100.out.cell 1
  have y0 := HG_101.out.cell 0
  have y1 := HG_101.out.cell 1
  have h0 := HH_102.out.cell 0
  have h1 := HH_102.out.cell 1
  simp at a0 a1 b0 b1 x0 x1 y0 y1 h0 h1
  clear hb
  go_wp2_with fail
  refine (heldO v4.heap.size w5.heap.size sa2 fa2 qs.length rs _ _ 1 hq1 hq2 HQ3.out (by omega) (by omega) _ M_96.out (by omega)).mono ?_
  rintro e w16 ⟨rfl, hb⟩
  have HB16 := Lib.hid (HB.out.trans (hb.mono (by omega)))
  clear hb
  go_wp2_with fail
  go_ret
  exact ⟨rfl, HB16.out⟩
end Go.Proofs.Ytbmahankleijkaa
