/- Contract: VolumeOfNet, the reference's. -/
import Derived.Test.YtbmahankleijkaaVolD
namespace Go.Proofs.Ytbmahankleijkaa
open Go.RowKit Go.Fl

theorem cell_set3 {w : World} {b b' o : Nat} {v x y z : Value} (hne : b ≠ b') (h : w.cell? ⟨b, o, none⟩ = some v) : (((w.setCell ⟨b', 0, none⟩ x).setCell ⟨b', 1, none⟩ y).setCell ⟨b', 2, none⟩ z).cell? ⟨b, o, none⟩ = some v := by
  rw [World.cell?_setCell_far _ _ _ _ (Ne.symm hne), World.cell?_setCell_far _ _ _ _ (Ne.symm hne), World.cell?_setCell_far _ _ _ _ (Ne.symm hne), h]
theorem keep_alloc {w : World} {b o : Nat} {v : Value} (ob : Obj) (h : w.cell? ⟨b, o, none⟩ = some v) : (w.alloc ob).cell? ⟨b, o, none⟩ = some v := keep_cell (Below.alloc (Below.refl _ _) (Nat.le_refl _) _) h
theorem keep_alloc_drew {w : World} {b o : Nat} {v : Value} (ob : Obj) (h : w.cell? ⟨b, o, none⟩ = some v) : (w.alloc ob).drew.cell? ⟨b, o, none⟩ = some v := (show (w.alloc ob).cell? ⟨b, o, none⟩ = some v from keep_alloc ob h)
theorem keep_drew {w : World} {b o : Nat} {v : Value} (h : w.cell? ⟨b, o, none⟩ = some v) : w.drew.cell? ⟨b, o, none⟩ = some v := h

set_option maxHeartbeats 2000000 in
set_option maxRecDepth 100000 in
theorem volS (lo hi : Nat) (sa fa : Option Addr) (sc fc : Nat) (ps : List Sp) (fs : List (List Int)) (hp : ps.length ≤ 1048576) (hn : fs.length ≤ 1048576) (hsh : ∀ i, i < fs.length → (fAt fs i).length ≤ 1048576) (w : World)
    (hs : NetAt w lo hi sa fa ps fs) (hh : hi ≤ w.heap.size) :
    Calls Try.prog 33 #[netV sa fa ps.length sc fs.length fc] w (RetF (volV ps fs) (volO ps fs) w) := by
  have A0 : OwnC (w.alloc (.cells #[.slice sa ps.length sc, .slice fa fs.length fc] 33)) w.heap.size #[.slice sa ps.length sc, .slice fa fs.length fc] 33 := OwnC.new rfl
  have IS := Lib.hid (l06Is lo hi w.heap.size sa fa sc fc ps fs hp hn hsh (w.alloc (.cells #[.slice sa ps.length sc, .slice fa fs.length fc] 33)) (A0.cell 0) (A0.cell 1) (hs.far ((Far.refl _ _ _).alloc _ hh)) (by simp; omega))
  have HS := Lib.hid hs
  have HSH := Lib.hid hsh
  have HA0 := Lib.hid A0
  clear hs hsh A0
  unfold netV
  cases hv : okN ps fs
  · have HV : Hid (dec (OkNet ps fs (colA fs) (colB fs)) = false) := Lib.hid hv
    have HC : Hid (volC ps fs = false) := Lib.hid (by simp [volC, hv])
    clear hv
    go_enter Try.func33, Try.ntmps33
    go_wp2_with (go_at_call 44; refine IS.out.mono ?_; rintro e w3 ⟨rfl, hb3⟩; rw [HV.out])
    go_ret2
    exact RetF.no HC.out (Below.trans (by (repeat (first | exact Below.refl _ _ | assumption | refine below_dr ?_ _ | refine Below.alloc ?_ (by first | omega | (simp; done) | (simp; omega)) _ | refine Below.setCell ?_ (by first | omega | (simp; done) | (simp; omega)) _ | refine Below.trans ?_ (Below.mono (by assumption) (by first | omega | (simp; done) | (simp; omega)))))) (hb3.mono (by simp)))
  have HV : Hid (dec (OkNet ps fs (colA fs) (colB fs)) = true) := Lib.hid hv
  have hok := okN_net hv
  have HOK := Lib.hid (OkNet.sideOk hok)
  have HIN : Hid (∀ i, i < fs.length → InN ps.length (fAt fs i)) := fun i h => (hok.facets i h).inN
  have H3 : Hid (∀ i, i < fs.length → 3 ≤ (fAt fs i).length) := fun i h => (hok.facets i h).1
  have HFI := Lib.hid hok.spots
  by_cases hpr : (prL true fs).length = 0
  rotate_left
  · have HC : Hid (volC ps fs = false) := Lib.hid (by simp [volC, hpr])
    have hpr0 : 0 < (prL true fs).length := by omega
    clear hv hok
    go_enter Try.func33, Try.ntmps33
    go_wp2_with (first | (go_at_call 44; refine IS.out.mono ?_; rintro e w3 ⟨rfl, hb3⟩; rw [HV.out]; have A1 := HA0.out.below hb3 (by first | omega | (simp; done) | (simp; omega)); have q0 := A1.cell 0; have q1 := A1.cell 1; simp at q0 q1) | (go_at_call 54; refine (l06Pairs lo hi w.heap.size sa fa ps.length sc fc fs true hn HSH.out HOK.out _ q0 q1 (HS.out.facets.far (((Far.refl _ _ _).alloc _ hh).trans (Far.below hb3 (by first | omega | (simp; done) | (simp; omega))))) (by have := hb3.size; simp at this; omega)).mono ?_; rintro e w4 ⟨b, cap, rfl, hr4, hl4, hb4⟩))
    go_ret2
    have z3 := hb3.size
    simp at z3
    exact RetF.no HC.out (Below.trans (Below.trans (by (repeat (first | exact Below.refl _ _ | assumption | refine below_dr ?_ _ | refine Below.alloc ?_ (by first | omega | (simp; done) | (simp; omega)) _ | refine Below.setCell ?_ (by first | omega | (simp; done) | (simp; omega)) _ | refine Below.trans ?_ (Below.mono (by assumption) (by first | omega | (simp; done) | (simp; omega)))))) (hb3.mono (by simp))) (hb4.mono (by omega)))
  have HPR := Lib.hid hpr
  have HVC : Hid (volC ps fs = allF volT ps fs fs.length) := Lib.hid (by simp [volC, hv, hpr])
  have HVX : Hid (∀ j k, j < fs.length → k ≤ (fAt fs j).length - 2 → allJ volT ps (fAt fs j) (allF volT ps fs j) k = false → volC ps fs = false) := fun j k h1 h2 h3 => by rw [HVC.out]; exact allF_no h1 h2 h3
  clear hv hok hpr
  go_enter Try.func33, Try.ntmps33
  go_wp2_with (first | (go_at_call 44; refine IS.out.mono ?_; rintro e w3 ⟨rfl, hb3⟩; rw [HV.out]; have A1 := HA0.out.below hb3 (by first | omega | (simp; done) | (simp; omega)); have q0 := A1.cell 0; have q1 := A1.cell 1; simp at q0 q1) | (go_at_call 54; refine (l06Pairs lo hi w.heap.size sa fa ps.length sc fc fs true hn HSH.out HOK.out _ q0 q1 (HS.out.facets.far (((Far.refl _ _ _).alloc _ hh).trans (Far.below hb3 (by first | omega | (simp; done) | (simp; omega))))) (by have := hb3.size; simp at this; omega)).mono ?_; rintro e w4 ⟨b, cap, rfl, hr4, hl4, hb4⟩; rw [HPR.out]))
  have z3 := hb3.size
  simp at z3
  have HA4 := Lib.hid (A1.below hb4 (by omega))
  have HB4 : Hid (Below w.heap.size w w4) := Below.trans (Below.trans (by (repeat (first | exact Below.refl _ _ | assumption | refine below_dr ?_ _ | refine Below.alloc ?_ (by first | omega | (simp; done) | (simp; omega)) _ | refine Below.setCell ?_ (by first | omega | (simp; done) | (simp; omega)) _ | refine Below.trans ?_ (Below.mono (by assumption) (by first | omega | (simp; done) | (simp; omega)))))) (hb3.mono (by simp))) (hb4.mono (by omega))
  clear hb3 hb4 hr4 A1 q0 q1
  go_loopw [4, 5] (fun su i wr => ∃ (j s : Nat), j ≤ fs.length ∧ i = .int .i64 j ∧ su = .float .f32 s ∧ Hid (F32 s (triF volG ps fs j)) ∧ Hid (allF volT ps fs j = true) ∧ Hid (Below w.heap.size w wr) ∧ Hid (OwnC wr w.heap.size #[.slice sa ps.length sc, .slice fa fs.length fc] 33)) (fun _ i _ => fs.length - (intOf i).toNat)
  case atStart => exact ⟨0, 0, by omega, rfl, rfl, Lib.hid F32.zero, Lib.hid rfl, HB4, HA4⟩
  case round =>
    clear HB4 HA4
    obtain ⟨j, s, hj, rfl, rfl, HSU, HAL, HW, HA⟩ := hrel
    have n1 := HA.out.cell 1
    simp at n1
    by_cases hlt : j < fs.length
    · obtain ⟨bf, of', rfl, f1, f2, hc⟩ := HS.out.facets (by omega)
      obtain ⟨ai, ci, hc1, hs1⟩ := hc j hlt
      have e1 := keep_cell HW.out hc1
      have HS1 := Lib.hid hs1
      have hlk := HSH.out j hlt
      have hl3 := H3.out j hlt
      have k0 : (0 : Int) ≤ (j : Int) := by omega
      have k1 : (j : Int) < (fs.length : Int) := by omega
      clear hc hc1 hs1
      go_wp2_with fail
      go_loopw [4, 7] (fun su i wq => ∃ (k s : Nat), k + 2 ≤ (fAt fs j).length ∧ i = .int .i64 ((k : Int) + 1) ∧ su = .float .f32 s ∧ Hid (F32 s (triJ volG ps (fAt fs j) (triF volG ps fs j) k)) ∧ Hid (allJ volT ps (fAt fs j) (allF volT ps fs j) k = true) ∧ Hid (Below w.heap.size w wq) ∧ Hid (OwnC wq w.heap.size #[.slice sa ps.length sc, .slice (some ⟨bf, of', none⟩) fs.length fc] 33)) (fun _ i _ => (fAt fs j).length - (intOf i).toNat)
      case atStart => exact ⟨0, s, by omega, by simp, rfl, HSU, HAL, HW, HA⟩
      case round =>
        clear HW HA HSU n1 e1
        obtain ⟨k, s, hk, rfl, rfl, HSU, HAL, HW, HA⟩ := hrel
        have n0 := HA.out.cell 0
        simp at n0
        have t2 : IntKind.i64.wrap ((k : Int) + 1 + 1) = (k : Int) + 1 + 1 := by rw [IntKind.wrap_i64]; omega
        by_cases hlt2 : k + 2 < (fAt fs j).length
        · have hsi := HS1.out.far (Far.below HW.out hh)
          obtain ⟨b3, o3, rfl, f3, f4, hc3⟩ := hsi (by omega)
          have hsp := HS.out.spots.far (Far.below HW.out hh)
          obtain ⟨v0, sb, so, x, y, z, hv0, hl0, hsa, l1, l2, a1, a2, a3, q0⟩ := cornAt hsp (HIN.out j hlt) (k := 0) (by omega)
          subst hsa
          obtain ⟨v1, sb1, so1, x', y', z', hv1, hl1, hsb1, _, _, b1, b2, b3', q1⟩ := cornAt hsp (HIN.out j hlt) (k := k + 1) (by omega)
          cases hsb1
          obtain ⟨v2, sb2, so2, x2, y2, z2, hv2, hl2, hsb2, _, _, c1, c2, c3, q2⟩ := cornAt hsp (HIN.out j hlt) (k := k + 2) (by omega)
          cases hsb2
          have e0 := hc3 0 (by omega)
          have e1 := hc3 (k + 1) (by omega)
          have e2 := hc3 (k + 2) (by omega)
          rw [hv0, Nat.add_zero] at e0
          have m3 : ¬ fAt fs j = [] := fun h => by rw [h] at hlt2; simp at hlt2
          have m5 : 0 < (fAt fs j).length := by omega
          rw [hv1] at e1
          rw [hv2] at e2
          have t0 : (0 : Int) ≤ (k : Int) + 1 := by omega
          have t1 : (k : Int) + 1 < ((fAt fs j).length : Int) := by omega
          have t4 : (0 : Int) ≤ (k : Int) + 1 + 1 := by omega
          have t5 : (k : Int) + 1 + 1 < ((fAt fs j).length : Int) := by omega
          have t6 : ((k : Int) + 1).toNat = k + 1 := by omega
          have t7 : ((k : Int) + 1 + 1).toNat = k + 2 := by omega
          have t8 : (0 : Int) < ((fAt fs j).length : Int) := by omega
          have i0 : (0 : Int) ≤ (v0 : Int) := by omega
          have i1 : (v0 : Int) < (ps.length : Int) := by omega
          have i2 : (0 : Int) ≤ (v1 : Int) := by omega
          have i3 : (v1 : Int) < (ps.length : Int) := by omega
          have i4 : (0 : Int) ≤ (v2 : Int) := by omega
          have i5 : (v2 : Int) < (ps.length : Int) := by omega
          have Q0 := Lib.hid q0
          have Q1 := Lib.hid q1
          have Q2 := Lib.hid q2
          have hzb : sb < wr.heap.size := by have := HW.out.size; omega
          have hzc : b3 < wr.heap.size := by have := HW.out.size; omega
          have HCO : Hid (crOk (cornP ps (fAt fs j) (k + 1)) (cornP ps (fAt fs j) (k + 2)) = volT (cornP ps (fAt fs j) 0) (cornP ps (fAt fs j) (k + 1)) (cornP ps (fAt fs j) (k + 2))) := Lib.hid (by
            unfold crOk volT
            rw [cornFin HFI.out (HIN.out j hlt) (by omega), cornFin HFI.out (HIN.out j hlt) (by omega)]; rfl)
          have E0 := Lib.hid e0
          have A1 := Lib.hid a1
          have A2 := Lib.hid a2
          have A3 := Lib.hid a3
          have HAN : Hid (allJ volT ps (fAt fs j) (allF volT ps fs j) (k + 1) = volT (cornP ps (fAt fs j) 0) (cornP ps (fAt fs j) (k + 1)) (cornP ps (fAt fs j) (k + 2))) := Lib.hid (by rw [allJ, HAL.out, Bool.true_and])
          have hla := HA.out.lt
          have hz := HW.out.size
          clear hc3 hsi hsp q0 q1 q2 hv0 hv1 hv2
          go_wp2_with fail
          go_region_held (fun w' => w'.cell? ⟨w.heap.size, 0, none⟩ = some (.slice (some ⟨sb, so, none⟩) ps.length sc) ∧ w'.cell? ⟨b3, o3 + (k + 1), none⟩ = some (.int .i64 v1) ∧ w'.cell? ⟨b3, o3 + (k + 2), none⟩ = some (.int .i64 v2) ∧
              w'.cell? ⟨sb, so + v1 * 3, none⟩ = some (.float .f32 x') ∧ w'.cell? ⟨sb, so + v1 * 3 + 1, none⟩ = some (.float .f32 y') ∧ w'.cell? ⟨sb, so + v1 * 3 + 2, none⟩ = some (.float .f32 z') ∧
              w'.cell? ⟨sb, so + v2 * 3, none⟩ = some (.float .f32 x2) ∧ w'.cell? ⟨sb, so + v2 * 3 + 1, none⟩ = some (.float .f32 y2) ∧ w'.cell? ⟨sb, so + v2 * 3 + 2, none⟩ = some (.float .f32 z2)) (refine ⟨?_, ?_, ?_, ?_, ?_, ?_, ?_, ?_, ?_⟩ <;> first | (with_reducible assumption) | ((with_reducible refine cell_set3 ?_ ?_) <;> with_reducible assumption) | ((with_reducible refine keep_alloc _ ?_) <;> with_reducible assumption) | ((with_reducible refine keep_alloc_drew _ ?_) <;> with_reducible assumption) | ((with_reducible refine keep_drew ?_) <;> with_reducible assumption))
            ((first
              | (refine (crossSpots x' y' z' x2 y2 z2 _ _ Q1.out Q2.out _).mono ?_; rintro e w3 ⟨⟨a, b, c, rfl, hab⟩, hb3⟩; rw [HCO.out]; have HAB := Lib.hid hab; have D3 : OwnC w3 wr.heap.size #[.float .f32 0, .float .f32 0, .float .f32 0] 79 := ((OwnC.new (w := wr) rfl).drewN 1).below hb3 (by simp); have d0 := D3.cell 0; have d1 := D3.cell 1; have d2 := D3.cell 2; simp at d0 d1 d2; have g0 := D3.free 0; have g1 := D3.free 1; have g2 := D3.free 2; have HD3 := Lib.hid D3; have HB3 : Hid (Below wr.heap.size wr w3) := Lib.hid (Below.trans (by (repeat (first | exact Below.refl _ _ | assumption | refine below_dr ?_ _ | refine Below.alloc ?_ (by first | omega | (simp; done) | (simp; omega)) _ | refine Below.setCell ?_ (by first | omega | (simp; done) | (simp; omega)) _ | refine Below.trans ?_ (Below.mono (by assumption) (by first | omega | (simp; done) | (simp; omega)))))) (hb3.mono (by simp))); have HA3 := Lib.hid (HA.out.below HB3.out hla); have s1 := keep_cell HB3.out n0; have s2 := keep_cell HB3.out e1; have s3 := keep_cell HB3.out e2; have s4 := keep_cell HB3.out b1; have s5 := keep_cell HB3.out b2; have s6 := keep_cell HB3.out b3'; have s7 := keep_cell HB3.out c1; have s8 := keep_cell HB3.out c2; have s9 := keep_cell HB3.out c3; have ne1 : sb ≠ wr.heap.size := (by omega); have ne2 : b3 ≠ wr.heap.size := (by omega); have ne3 : w.heap.size ≠ wr.heap.size := (by omega); clear hab hb3 D3)
              | (refine (crossSpots x' y' z' x2 y2 z2 _ _ Q1.out Q2.out _).mono ?_; rintro e w3 ⟨⟨a, b, c, rfl, hab⟩, hb3⟩; rw [HCO.out]; have HAB := Lib.hid hab; have HB3 : Hid (Below wr.heap.size wr w3) := Lib.hid ⟨hb3.os, hb3.tape, hb3.output, hb3.size, hb3.block⟩; have HA3 := Lib.hid (HA.out.below HB3.out hla); have s1 := keep_cell HB3.out n0; have s2 := keep_cell HB3.out e1; have s3 := keep_cell HB3.out e2; have s4 := keep_cell HB3.out b1; have s5 := keep_cell HB3.out b2; have s6 := keep_cell HB3.out b3'; have s7 := keep_cell HB3.out c1; have s8 := keep_cell HB3.out c2; have s9 := keep_cell HB3.out c3; have zz3 := HB3.out.size; have ne1 : sb ≠ w3.heap.size := (by omega); have ne2 : b3 ≠ w3.heap.size := (by omega); have ne3 : w.heap.size ≠ w3.heap.size := (by omega); clear hab hb3)))
          · have HO5 : Hid (OwnC (w3.alloc (.cells #[.float .f32 a, .float .f32 b, .float .f32 c] 79)) w3.heap.size #[.float .f32 a, .float .f32 b, .float .f32 c] 79) := Lib.hid (OwnC.new rfl)
            have HB5 : Hid (Below wr.heap.size wr (w3.alloc (.cells #[.float .f32 a, .float .f32 b, .float .f32 c] 79))) := Lib.hid (HB3.out.alloc zz3 _)
            generalize w3.alloc (.cells #[.float .f32 a, .float .f32 b, .float .f32 c] 79) = w5 at *
            have n0' := keep_cell HB5.out n0
            have e0' := keep_cell HB5.out e0
            have a1' := keep_cell HB5.out a1
            have a2' := keep_cell HB5.out a2
            have a3' := keep_cell HB5.out a3
            have HA5 := Lib.hid (HA.out.below HB5.out hla)
            have d0 := HO5.out.cell 0
            have d1 := HO5.out.cell 1
            have d2 := HO5.out.cell 2
            simp at d0 d1 d2
            clear n0 e0 e1 e2 a1 a2 a3 b1 b2 b3' c1 c2 c3 s1 s2 s3 s4 s5 s6 s7 s8 s9 ne1 ne2 ne3
            cases hvt : volT (cornP ps (fAt fs j) 0) (cornP ps (fAt fs j) (k + 1)) (cornP ps (fAt fs j) (k + 2))
            · have HC : Hid (volC ps fs = false) := Lib.hid (HVX.out j (k + 1) hlt (by omega) (by rw [HAN.out]; exact hvt))
              clear hvt
              go_wp2_with fail
              go_ret2
              exact RetF.no HC.out (Below.trans HW.out (HB5.out.mono hz))
            · have HPX : Hid (IsSp a b c (spCross (cornP ps (fAt fs j) (k + 1)) (cornP ps (fAt fs j) (k + 2)))) := Lib.hid (HAB.out (by rw [HCO.out]; exact hvt))
              have HAL5 : Hid (allJ volT ps (fAt fs j) (allF volT ps fs j) (k + 1) = true) := Lib.hid (by rw [HAN.out]; exact hvt)
              have HS5 : Hid (Below w5.heap.size w5 w5.drew) := Lib.hid (below_dr (Below.refl _ _) 1)
              clear hvt
              go_wp2_with fail
              go_region_held (fun w' => w'.cell? ⟨w.heap.size, 0, none⟩ = some (.slice (some ⟨sb, so, none⟩) ps.length sc) ∧ w'.cell? ⟨b3, o3, none⟩ = some (.int .i64 v0) ∧
                  w'.cell? ⟨sb, so + v0 * 3, none⟩ = some (.float .f32 x) ∧ w'.cell? ⟨sb, so + v0 * 3 + 1, none⟩ = some (.float .f32 y) ∧ w'.cell? ⟨sb, so + v0 * 3 + 2, none⟩ = some (.float .f32 z) ∧
                  w'.cell? ⟨w3.heap.size, 0, none⟩ = some (.float .f32 a) ∧ w'.cell? ⟨w3.heap.size, 1, none⟩ = some (.float .f32 b) ∧ w'.cell? ⟨w3.heap.size, 2, none⟩ = some (.float .f32 c))
                (refine ⟨?_, ?_, ?_, ?_, ?_, ?_, ?_, ?_⟩ <;> first | (with_reducible assumption) | ((with_reducible refine keep_drew ?_) <;> with_reducible assumption) | exact keep_cell B6 (by with_reducible assumption) | exact keep_cell (below_dr B6 _) (by with_reducible assumption))
                ((first
                  | (go_at_call 68; (with_reducible refine (dotS x y z a b c _ _ Q0.out HPX.out _).mono ?_); rintro e w6 ⟨⟨r, rfl, hr⟩, hb6⟩; have HR := Lib.hid hr; have B6 : Below w5.heap.size w5 w6 := Below.trans HS5.out (hb6.mono (Nat.le_refl _)); clear hr hb6)
                  | (refine wpList_f rfl rfl rfl rfl (by decide) ?_; intro _ _ _; simp only [Act.put, List.setIfInBounds_toArray, List.set_cons_succ, List.set_cons_zero])))
              have z5 : wr.heap.size ≤ w5.heap.size := HB5.out.size
              have HB6 : Hid (Below w.heap.size w w6) := Lib.hid (Below.trans HW.out (Below.trans HB5.out (B6.mono z5) |>.mono hz))
              have HA6 := Lib.hid (HA5.out.below B6 (by omega))
              go_wp2_with fail
              go_roundw
              case rel => exact ⟨k + 1, _, by omega, by go_num, rfl, Lib.hid (F32.add HSU.out HR.out), HAL5, Lib.hid (below_dr HB6.out _), Lib.hid (HA6.out.drewN _)⟩
              case measure => simp [intOf]; omega
          · have HO5 : Hid (OwnC ((((w3).setCell ⟨wr.heap.size, 0, none⟩ (.float .f32 a)).setCell ⟨wr.heap.size, 1, none⟩ (.float .f32 b)).setCell ⟨wr.heap.size, 2, none⟩ (.float .f32 c)) wr.heap.size #[.float .f32 a, .float .f32 b, .float .f32 c] 79) := Lib.hid ((((HD3.out.set 0 (.float .f32 a)).set 1 (.float .f32 b)).set 2 (.float .f32 c)).congr rfl)
            have HB5 : Hid (Below wr.heap.size wr ((((w3).setCell ⟨wr.heap.size, 0, none⟩ (.float .f32 a)).setCell ⟨wr.heap.size, 1, none⟩ (.float .f32 b)).setCell ⟨wr.heap.size, 2, none⟩ (.float .f32 c))) := Lib.hid (((HB3.out.setCell (Nat.le_refl _) _).setCell (Nat.le_refl _) _).setCell (Nat.le_refl _) _)
            generalize (((w3).setCell ⟨wr.heap.size, 0, none⟩ (.float .f32 a)).setCell ⟨wr.heap.size, 1, none⟩ (.float .f32 b)).setCell ⟨wr.heap.size, 2, none⟩ (.float .f32 c) = w5 at *
            have n0' := keep_cell HB5.out n0
            have e0' := keep_cell HB5.out e0
            have a1' := keep_cell HB5.out a1
            have a2' := keep_cell HB5.out a2
            have a3' := keep_cell HB5.out a3
            have HA5 := Lib.hid (HA.out.below HB5.out hla)
            have d0 := HO5.out.cell 0
            have d1 := HO5.out.cell 1
            have d2 := HO5.out.cell 2
            simp at d0 d1 d2
            clear n0 e0 e1 e2 a1 a2 a3 b1 b2 b3' c1 c2 c3 s1 s2 s3 s4 s5 s6 s7 s8 s9 ne1 ne2 ne3
            cases hvt : volT (cornP ps (fAt fs j) 0) (cornP ps (fAt fs j) (k + 1)) (cornP ps (fAt fs j) (k + 2))
            · have HC : Hid (volC ps fs = false) := Lib.hid (HVX.out j (k + 1) hlt (by omega) (by rw [HAN.out]; exact hvt))
              clear hvt
              go_wp2_with fail
              go_ret2
              exact RetF.no HC.out (Below.trans HW.out (HB5.out.mono hz))
            · have HPX : Hid (IsSp a b c (spCross (cornP ps (fAt fs j) (k + 1)) (cornP ps (fAt fs j) (k + 2)))) := Lib.hid (HAB.out (by rw [HCO.out]; exact hvt))
              have HAL5 : Hid (allJ volT ps (fAt fs j) (allF volT ps fs j) (k + 1) = true) := Lib.hid (by rw [HAN.out]; exact hvt)
              have HS5 : Hid (Below w5.heap.size w5 w5.drew) := Lib.hid (below_dr (Below.refl _ _) 1)
              clear hvt
              go_wp2_with fail
              go_region_held (fun w' => w'.cell? ⟨w.heap.size, 0, none⟩ = some (.slice (some ⟨sb, so, none⟩) ps.length sc) ∧ w'.cell? ⟨b3, o3, none⟩ = some (.int .i64 v0) ∧
                  w'.cell? ⟨sb, so + v0 * 3, none⟩ = some (.float .f32 x) ∧ w'.cell? ⟨sb, so + v0 * 3 + 1, none⟩ = some (.float .f32 y) ∧ w'.cell? ⟨sb, so + v0 * 3 + 2, none⟩ = some (.float .f32 z) ∧
                  w'.cell? ⟨wr.heap.size, 0, none⟩ = some (.float .f32 a) ∧ w'.cell? ⟨wr.heap.size, 1, none⟩ = some (.float .f32 b) ∧ w'.cell? ⟨wr.heap.size, 2, none⟩ = some (.float .f32 c))
                (refine ⟨?_, ?_, ?_, ?_, ?_, ?_, ?_, ?_⟩ <;> first | (with_reducible assumption) | ((with_reducible refine keep_drew ?_) <;> with_reducible assumption) | exact keep_cell B6 (by with_reducible assumption) | exact keep_cell (below_dr B6 _) (by with_reducible assumption))
                ((first
                  | (go_at_call 68; (with_reducible refine (dotS x y z a b c _ _ Q0.out HPX.out _).mono ?_); rintro e w6 ⟨⟨r, rfl, hr⟩, hb6⟩; have HR := Lib.hid hr; have B6 : Below w5.heap.size w5 w6 := Below.trans HS5.out (hb6.mono (Nat.le_refl _)); clear hr hb6)
                  | (refine wpList_f rfl rfl rfl rfl (by decide) ?_; intro _ _ _; simp only [Act.put, List.setIfInBounds_toArray, List.set_cons_succ, List.set_cons_zero])))
              have z5 : wr.heap.size ≤ w5.heap.size := HB5.out.size
              have HB6 : Hid (Below w.heap.size w w6) := Lib.hid (Below.trans HW.out (Below.trans HB5.out (B6.mono z5) |>.mono hz))
              have HA6 := Lib.hid (HA5.out.below B6 (by omega))
              go_wp2_with fail
              go_roundw
              case rel => exact ⟨k + 1, _, by omega, by go_num, rfl, Lib.hid (F32.add HSU.out HR.out), HAL5, Lib.hid (below_dr HB6.out _), Lib.hid (HA6.out.drewN _)⟩
              case measure => simp [intOf]; omega
        · have t9 : ¬ ((k : Int) + 1 + 1 < ((fAt fs j).length : Int)) := by omega
          have hkm : k = (fAt fs j).length - 2 := by omega
          have HSU4 : Hid (F32 s (triF volG ps fs (j + 1))) := Lib.hid (by show F32 s (triJ volG ps (fAt fs j) (triF volG ps fs j) ((fAt fs j).length - 2)); rw [← hkm]; exact HSU.out)
          have HAL4 : Hid (allF volT ps fs (j + 1) = true) := Lib.hid (by show allJ volT ps (fAt fs j) (allF volT ps fs j) ((fAt fs j).length - 2) = true; rw [← hkm]; exact HAL.out)
          go_wp2_with fail
          go_roundw
          case rel => exact ⟨j + 1, s, by omega, by go_num, rfl, HSU4, HAL4, HW, HA⟩
          case measure => simp [intOf]; omega
    · have hjn : j = fs.length := by omega
      subst hjn
      have HV1 : Hid (volV ps fs = ifFin (fdiv (triF volG ps fs fs.length) 1086324736)) := Lib.hid (by simp [volV, HVC.out, HAL.out])
      have HV2 : Hid (volO ps fs = fin (fdiv (triF volG ps fs fs.length) 1086324736)) := Lib.hid (by simp [volO, HVC.out, HAL.out])
      go_wp2_with (first | (refine wpList_f rfl rfl rfl rfl (by decide) ?_; intro _ _ _; simp only [Act.put, List.setIfInBounds_toArray, List.set_cons_succ, List.set_cons_zero]))
      rename_i q m hq k1 k2
      have HQ : can .f32 q = fdiv (triF volG ps fs fs.length) 1086324736 := by
        have h1 := HSU.out
        unfold F32 at hq h1
        rw [hq, h1, can_of_not (show nanB .f32 1086324736 = false by decide +kernel)]; rfl
      refine (l02Number q _).mono ?_
      rintro e w5 ⟨⟨v, rfl, hv⟩, n', rfl⟩
      rw [HQ] at hv
      rw [HQ]
      have HV := Lib.hid hv
      clear hv hq
      go_wp2_with fail
      go_ret2
      rw [HV1.out, HV2.out]
      exact ⟨⟨v, rfl, HV.out⟩, by have := HW.out; (repeat (first | exact Below.refl _ _ | assumption | refine below_dr ?_ _ | refine Below.alloc ?_ (by first | omega | (simp; done) | (simp; omega)) _ | refine Below.setCell ?_ (by first | omega | (simp; done) | (simp; omega)) _ | refine Below.trans ?_ (Below.mono (by assumption) (by first | omega | (simp; done) | (simp; omega)))))⟩
end Go.Proofs.Ytbmahankleijkaa
