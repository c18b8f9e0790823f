/- Arcs: the law walked. -/
import Derived.Test.YtkbikfifnaihlaaArJf
namespace Go.Fl
open Ieee Go.RowKit
theorem rng3 (p : Nat → Cx) : (List.range 3).map p = [p 0, p 1, p 2] := rfl
theorem rng_succ (p : Nat → Cx) (k : Nat) : ((List.range (k + 1)).map p).map cV = ((List.range k).map p).map cV ++ [cV (p k)] := by rw [List.range_succ, List.map_append, List.map_append]; rfl
theorem rng_at (p : Nat → Cx) {n i : Nat} (h : i < n) : (((List.range n).map p).map cV)[i]? = some (cV (p i)) := by simp [h]
end Go.Fl
namespace Go.Proofs.Ytkbikfifnaihlaa
open Go.RowKit Go.Fl

set_option maxHeartbeats 8000000 in
set_option maxRecDepth 100000 in
theorem lawA (a1 a2 : Option Addr) (n1 n2 ca1 ca2 : Nat) (w : World) (h1 : CodeAt w w.heap.size a1 n1) (h2 : CodeAt w w.heap.size a2 n2) :
    Calls Try.prog 3 #[.slice a1 n1 ca1, .slice a2 n2 ca2] w fun e w' => e = .returned (.bool true) ∧ Below w.heap.size w w' := by
  have H1 := Lib.hid h1
  have H2 := Lib.hid h2
  clear h1 h2
  go_enter Try.func3, Try.ntmps3
  by_cases hsz : n1 ≤ 1048576 ∧ n2 ≤ 1048576
  · obtain ⟨hn1, hn2⟩ := hsz
    have dz : ∀ w : World, w.drewN 0 = w := World.drewN_zero
    go_wp2_with fail
    refine (b10LongNo a1 a2 n1 n2 ca1 ca2 hn1 hn2 w).mono ?_
    rintro e w ⟨rfl, rfl⟩
    go_wp2_with fail
    refine (b10At w.heap.size a1 n1 ca1 0 17 hn1 (by decide) (by decide) (by decide) w H1.out).mono ?_
    rintro e w ⟨⟨A, rfl, hA⟩, rfl⟩
    have HA := Lib.hid hA
    have hA' : (A : Int) < 17 := by omega
    obtain ⟨x1, d1⟩ := run_fopN (op := .quo) (miN hA).n
    have x1 : ∀ w, mop .quo .f32 (floatOfInt .f32 ((A : Int) - 8)) 1082130432 w = miF A := x1
    have d1 : mdr .quo .f32 (floatOfInt .f32 ((A : Int) - 8)) 1082130432 = 0 := d1
    go_wp2_with fail
    refine (b10At w.heap.size a1 n1 ca1 1 17 hn1 (by decide) (by decide) (by decide) w H1.out).mono ?_
    rintro e w ⟨⟨B, rfl, hB⟩, rfl⟩
    have HB := Lib.hid hB
    have hB' : (B : Int) < 17 := by omega
    obtain ⟨x2, d2⟩ := run_fopN (op := .quo) (miN hB).n
    have x2 : ∀ w, mop .quo .f32 (floatOfInt .f32 ((B : Int) - 8)) 1082130432 w = miF B := x2
    have d2 : mdr .quo .f32 (floatOfInt .f32 ((B : Int) - 8)) 1082130432 = 0 := d2
    go_wp2_with fail
    refine (b10At w.heap.size a1 n1 ca1 2 15 hn1 (by decide) (by decide) (by decide) w H1.out).mono ?_
    rintro e w ⟨⟨b, rfl, hb⟩, rfl⟩
    have HBB := Lib.hid hb
    have hb' : (b : Int) < 15 := by omega
    obtain ⟨x3, d3⟩ := run_fopN (op := .quo) (roN hb).n
    have x3 : ∀ w, mop .quo .f32 (floatOfInt .f32 (2 + (b : Int))) 1082130432 w = roundF b := x3
    have d3 : mdr .quo .f32 (floatOfInt .f32 (2 + (b : Int))) 1082130432 = 0 := d3
    go_wp2_with fail
    refine (b10At w.heap.size a2 n2 ca2 0 16 hn2 (by decide) (by decide) (by decide) w H2.out).mono ?_
    rintro e w ⟨⟨j, rfl, hj⟩, rfl⟩
    have HJ := Lib.hid hj
    have hj' : (j : Int) < 16 := by omega
    have hfr := (argN (up := true) (t := 0) (d := 0) hj (by decide) (by decide)).fr
    obtain ⟨x4, d4⟩ := run_fopN (op := .quo) hfr
    have x4 : ∀ w, mop .quo .f32 (floatOfInt .f32 (j : Int)) 1098907648 w = frF j := x4
    have d4 : mdr .quo .f32 (floatOfInt .f32 (j : Int)) 1098907648 = 0 := d4
    clear hfr hA hB hb hj
    go_wp2_with fail
    refine (b10At w.heap.size a2 n2 ca2 1 6 hn2 (by decide) (by decide) (by decide) w H2.out).mono ?_
    rintro e w ⟨⟨t, rfl, ht⟩, rfl⟩
    have HT := Lib.hid ht
    have ht' : (t : Int) < 6 := by omega
    obtain ⟨x5, d5⟩ := run_fopN (op := .quo) (show isN .f32 (tuP t) = true from (tuN true ht).n)
    have x5 : ∀ w, mop .quo .f32 (floatOfInt .f32 (2 + (t : Int))) 1098907648 w = tuP t := x5
    have d5 : mdr .quo .f32 (floatOfInt .f32 (2 + (t : Int))) 1098907648 = 0 := d5
    clear ht
    go_wp2_with fail
    refine (b10At w.heap.size a2 n2 ca2 2 2 hn2 (by decide) (by decide) (by decide) w H2.out).mono ?_
    rintro e w ⟨⟨u, rfl, hu⟩, rfl⟩
    have hu' : (u : Int) < 2 := by omega
    clear hu
    go_upto_if 63 with fail
    go_cut [8] from 63 to 65 (fun u8 wx => ∃ up : Bool, u8 = .float .f32 (tuF up t) ∧ wx = w)
    case first =>
      by_cases h1 : u = 1
      · have h1' : (u : Int) = 1 := by omega
        clear h1
        go_wp2_with fail
        go_meet
        exact ⟨false, rfl, rfl⟩
      · have h1' : ¬ (u : Int) = 1 := by omega
        clear h1
        go_wp2_with fail
        go_meet
        exact ⟨true, rfl, rfl⟩
    case rest =>
    obtain ⟨up, rfl, hw⟩ := hcut
    have hw := hw.symm
    subst hw
    have hA := HA.out
    have hB := HB.out
    have hb := HBB.out
    have hj := HJ.out
    have ht := HT.out
    have HL := Lib.hid (ptsL up hA hB hb hj ht)
    have HR := Lib.hid (arcs_all up hA hB hb hj ht)
    have wfr := run_wid64 (isN.nan (argN (up := up) (d := 0) hj ht (by decide)).fr)
    have wtu := run_wid64 (isN.nan (tuN up ht).n)
    have HG : Hid (∀ k, k < 3 → ArgN up j t k) := Lib.hid fun k hk => argN hj ht hk
    obtain ⟨y1, e1⟩ := wfr
    obtain ⟨y2, e2⟩ := wtu
    clear hA hB hb hj ht hu' x1 d1 x2 d2 x3 d3 x4 d4 x5 d5
    obtain ⟨p, hp⟩ : ∃ p, p = ptL A B b j t up := ⟨_, rfl⟩
    have HP := Lib.hid hp
    clear hp
    go_wp2_with fail
    go_loopw [9, 10] (fun o i wr => ∃ k bS cap : Nat, k ≤ 3 ∧ i = .int .i64 (k : Nat) ∧ o = .slice (some ⟨bS, 0, none⟩) k cap ∧ w.heap.size ≤ bS ∧ Hid (ORow wr 24 1 bS cap k (((List.range k).map p).map cV)) ∧ Hid (Below w.heap.size w wr)) (fun _ i _ => 3 - (intOf i).toNat)
    case atStart => exact ⟨0, w.heap.size, 0, by omega, rfl, rfl, Nat.le_refl _, Lib.hid (ORow.new _ _ _), Lib.hid (Below.alloc (Below.refl _ _) (Nat.le_refl _) _)⟩
    case round =>
      obtain ⟨k, bS, cap, hk, rfl, rfl, hbS, HRW, HBL⟩ := hrel
      by_cases hlt : k < 3
      · have k0 : (0 : Int) ≤ (k : Int) := by omega
        have k1 : (k : Int) < 3 := by omega
        have ga := HG.out k hlt
        have HPH := Lib.hid (fun W => phasorS (HL.out.ph k hlt) W)
        have HSC := Lib.hid (fun W => scaleS (HL.out.sc k hlt) W)
        have hadd := fun W => cx_add (P := Try.prog) 24 (HL.out.pt k hlt) W
        obtain ⟨z1, g1⟩ := run_fopN ga.p
        obtain ⟨z2, g2⟩ := run_fopN (op := .add) ga.n
        have eG : fop .add .f64 (fcv .f32 .f64 (frF j)) (fop .mul .f64 (floatOfInt .f64 (k : Int)) (fcv .f32 .f64 (tuF up t))) = argF up j t k := rfl
        rw [eG] at z2
        have eP : ptL A B b j t up k = p k := by rw [HP.out]
        have eQ : plusF (mdL A B) (scaleF (phL up j t k) (roundF b)) = p k := eP
        have e3 : (mdL A B).1 = miF A := rfl
        have e4 : (mdL A B).2 = miF B := rfl
        rw [eQ, e3, e4] at hadd
        obtain ⟨PH, hPH⟩ : ∃ z, z = phL up j t k := ⟨_, rfl⟩
        have ePH : phF denS (argF up j t k) = PH := hPH.symm
        rw [ePH] at HPH
        rw [← hPH] at HSC hadd
        obtain ⟨SC, hSC⟩ : ∃ z, z = scaleF PH (roundF b) := ⟨_, rfl⟩
        rw [← hSC] at HSC hadd
        obtain ⟨Z, hZ⟩ : ∃ z, z = p k := ⟨_, rfl⟩
        rw [← hZ] at hadd
        have HZ := Lib.hid hZ
        unfold cV at HSC
        clear ga eG eP eQ e3 e4 hPH ePH hSC hZ
        have hzw := HBL.out.size
        have hbl := HRW.out.lt
        go_wp2_with fail
        refine (HPH.out _).mono ?_
        rintro e w1 ⟨rfl, rfl⟩
        go_wp2_with fail
        refine (HSC.out _).mono ?_
        rintro e w1 ⟨rfl, rfl⟩
        go_wp2_with (first | (at_builtin; refine wpList_app2 rfl _ _ _ rfl 24 (.complex .f32 0 0) 1 8 Try.underlying27 infoCx rfl (by decide) _ #[.complex .f32 Z.1 Z.2] 24 rfl (by simp [Value.oneCell']) _ bS cap k _ rfl rfl rfl HRW.out (by omega) (by decide) ?_; intro b6 cap6 w6 hr6 hbb6 hgr6; have HR6 := Lib.hid hr6; have HB6 := Lib.hid hbb6; have HG6 := Lib.hid hgr6; clear hr6 hbb6 hgr6))
        have hbw9 : w.heap.size ≤ b6 := by have := HB6.out; omega
        have hR9 : Hid (ORow w6 24 1 b6 cap6 (k + 1) (((List.range (k + 1)).map p).map cV)) := Lib.hid (by rw [rng_succ, ← HZ.out]; exact HR6.out)
        have hB9 : Hid (Below w.heap.size w w6) := Lib.hid (HBL.out.trans (HG6.out.below (B := w.heap.size) hbS hzw))
        exact ⟨⟨k + 1, b6, cap6, by omega, by go_num, rfl, hbw9, hR9, hB9⟩, by simp [intOf]; omega⟩
      · obtain rfl : k = 3 := by omega
        have HC : Hid (∀ i, i < 3 → wr.cell? ⟨bS, i, none⟩ = some (cV (p i))) := Lib.hid fun i hi => by
          rw [HRW.out.cell i (by omega), rng3]
          have : i = 0 ∨ i = 1 ∨ i = 2 := by omega
          rcases this with rfl | rfl | rfl <;> rfl
        obtain ⟨m, r, f, tt, em, er, ef, et, hall⟩ := HR.out
        have eP : ptL A B b j t up = p := HP.out.symm
        rw [eP] at hall em er ef et
        have HALL := Lib.hid hall
        have HAT : Hid (∀ W, Calls Try.prog 8 #[cV (p 0), cV (p 1), cV (p 2)] W fun e w' => e = .returned (.tuple #[arcV m r f tt, .bool true]) ∧ Below W.heap.size W w') := Lib.hid fun W => by rw [em, er, ef, et]; exact arcThroughW hall.arc W
        have HXS : Hid (xsL A B b j t up = [p 0, p 1, p 2]) := Lib.hid (by rw [← eP]; rfl)
        have hbl := HRW.out.lt
        have hbs := hbS
        obtain ⟨v1, hv1⟩ : ∃ x : World, x = wr := ⟨_, rfl⟩
        rw [← hv1] at HC HBL hbl
        have c0 := HC.out 0 (by decide)
        have c1 := HC.out 1 (by decide)
        have c2 := HC.out 2 (by decide)
        obtain ⟨P0, hP0⟩ : ∃ z, z = p 0 := ⟨_, rfl⟩
        obtain ⟨P1, hP1⟩ : ∃ z, z = p 1 := ⟨_, rfl⟩
        obtain ⟨P2, hP2⟩ : ∃ z, z = p 2 := ⟨_, rfl⟩
        rw [← hP0] at c0 HAT
        rw [← hP1] at c1 HAT
        rw [← hP2] at c2 HAT
        clear hall em er ef et eP HRW hk HG hP0 hP1 hP2
        unfold arcV at HAT
        unfold cV at c0 c1 c2 HAT
        rw [← hv1]
        clear hv1
        go_upto_region 14 with fail
        go_cut [11, 12] from 87 to 99 (fun u11 u12 wx => ∃ ab, u11 = .pointer (some ⟨ab, 0, none⟩) ∧ u12 = .bool true ∧ v1.heap.size ≤ ab ∧ ab < wx.heap.size ∧ Hid (Below v1.heap.size v1 wx) ∧ Hid (OwnC wx ab #[.complex .f32 m.1 m.2, .float .f32 r, .float .f32 f, .float .f32 tt] 32))
        case first =>
          --[[
          go_region_held3 (fun w' => w'.cell? ⟨bS, 0, none⟩ = some (.complex .f32 P0.1 P0.2) ∧ w'.cell? ⟨bS, 1, none⟩ = some (.complex .f32 P1.1 P1.2) ∧ w'.cell? ⟨bS, 2, none⟩ = some (.complex .f32 P2.1 P2.2)) (first | go_keep | (exact ⟨keep_cell hb8 c0, keep_cell hb8 c1, keep_cell hb8 c2⟩) | (exact ⟨keep_cell ((((hb8.setCell (Nat.le_refl _) _).setCell (Nat.le_refl _) _).setCell (Nat.le_refl _) _).setCell (Nat.le_refl _) _) c0, keep_cell ((((hb8.setCell (Nat.le_refl _) _).setCell (Nat.le_refl _) _).setCell (Nat.le_refl _) _).setCell (Nat.le_refl _) _) c1, keep_cell ((((hb8.setCell (Nat.le_refl _) _).setCell (Nat.le_refl _) _).setCell (Nat.le_refl _) _).setCell (Nat.le_refl _) _) c2⟩) | (refine ⟨?_, ?_, ?_⟩ <;> go_keep) | (exact ⟨keep_cell (hb8.alloc hb8.size _) c0, keep_cell (hb8.alloc hb8.size _) c1, keep_cell (hb8.alloc hb8.size _) c2⟩)) ((go_at_call 8; refine (HAT.out _).mono ?_; rintro e v9 ⟨rfl, hb9⟩; first
            | (have hb8 : Below v1.heap.size v1 v9 := (below_dr (Below.refl v1.heap.size v1) 1).trans hb9)
            | (have ho : OwnC v9 v1.heap.size #[.complex .f32 0 0, .float .f32 0, .float .f32 0, .float .f32 0] 32 := (OwnC.below ((OwnC.new rfl).drewN 1) hb9 (by simp)); have hb8 : Below v1.heap.size v1 v9 := (by first | exact ((below_dr (Below.refl v1.heap.size v1) 1).alloc (Nat.le_refl _) _).trans (hb9.mono (by simp)) | exact (below_dr ((Below.refl v1.heap.size v1).alloc (Nat.le_refl _) _) 1).trans (hb9.mono (by simp))); have a0 := ho.cell 0; have a1 := ho.cell 1; have a2 := ho.cell 2; have a3 := ho.cell 3; have f0 := ho.free 0; have f1 := ho.free 1; have f2 := ho.free 2; have f3 := ho.free 3; have HO := Lib.hid ho; clear ho)))
          all_goals (go_wp2_with fail)
          all_goals go_meet
          · exact ⟨_, rfl, rfl, hb8.size, by simp, Lib.hid (hb8.alloc hb8.size _), Lib.hid (OwnC.new rfl)⟩
          · exact ⟨_, rfl, rfl, Nat.le_refl _, by simpa using HO.out.lt, Lib.hid ((((hb8.setCell (Nat.le_refl _) _).setCell (Nat.le_refl _) _).setCell (Nat.le_refl _) _).setCell (Nat.le_refl _) _), Lib.hid (((((HO.out.set 0 _).set 1 _).set 2 _).set 3 _).congr (by simp))⟩
          --]]
        case rest =>
        obtain ⟨ab, rfl, rfl, hab, habl, HBA, HOA⟩ := hcut
        obtain ⟨v2, hv2⟩ : ∃ x : World, x = wc := ⟨_, rfl⟩
        rw [← hv2] at habl HBA HOA ⊢
        have HB2 := Lib.hid (HBL.out.trans (HBA.out.mono HBL.out.size))
        have HC2 : Hid (∀ i, i < 3 → v2.cell? ⟨bS, i, none⟩ = some (cV (p i))) := Lib.hid fun i hi => keep_cell HBA.out (HC.out i hi)
        have hbl2 : bS < v2.heap.size := by have := HBA.out.size; omega
        have T := HALL.out.tests
        have HVA := Lib.hid (fun W => validArcW (f := f) (t := tt) HALL.out.mn HALL.out.lg.n.rn HALL.out.r0 HALL.out.fn HALL.out.lg.n.tn W)
        obtain ⟨D, hD⟩ : ∃ z, z = minusF m (mdL A B) := ⟨_, rfl⟩
        have hsub : ∀ W, Sem.run Try.prog (binOp .sub 24 (.complex .f32 m.1 m.2) (.complex .f32 (miF A) (miF B))) W = .ok (.complex .f32 D.1 D.2) W := fun W => by rw [hD]; exact cx_sub 24 T.d W
        have HLD : Hid (∀ W, Calls Try.prog 10 #[.complex .f32 D.1 D.2] W fun e w' => e = .returned (.float .f32 (longF D)) ∧ w' = W) := Lib.hid (by rw [hD]; exact fun W => longS T.l W)
        have q1 : (FloatKind.f64.format.order (fcv .f32 .f64 (longF D)) 4576918229304087675 == some .gt) = false := by rw [hD]; exact T.t1.gt
        have nL : nanB .f32 (longF D) = false := by rw [hD]; exact T.t1.w
        obtain ⟨L, hL⟩ : ∃ z, z = longF D := ⟨_, rfl⟩
        rw [← hL] at HLD q1 nL
        have HG2 := Lib.hid (fun W => b10GapN _ _ T.wr T.wo T.t2.g W)
        have q2 : (FloatKind.f64.format.order (gapF (fcv .f32 .f64 r) (fcv .f32 .f64 (roundF b))) 4576918229304087675 == some .gt) = false := T.t2.gt
        have HG3 := Lib.hid (fun W => b10GapN _ _ T.wt T.p T.t3.g W)
        have q3 : (FloatKind.f64.format.order (gapF (fcv .f32 .f64 tt) (fop .mul .f64 twoB (fcv .f32 .f64 (tuF up t)))) 4576918229304087675 == some .gt) = false := T.t3.gt
        obtain ⟨m1, d1⟩ := run_wid64 nL
        obtain ⟨m2, d2⟩ := run_wid64 (isN.nan HALL.out.lg.n.rn)
        obtain ⟨m3, d3⟩ := run_wid64 (isN.nan (roN HBB.out).n)
        obtain ⟨m4, d4⟩ := run_wid64 (isN.nan HALL.out.lg.n.tn)
        obtain ⟨m5, d5⟩ := run_fopN T.p
        have e1 : twoB = 4611686018427387904 := rfl
        rw [e1] at m5 d5 HG3 q3
        obtain ⟨RW, hRW⟩ : ∃ z, z = fcv .f32 .f64 r := ⟨_, rfl⟩
        obtain ⟨OW, hOW⟩ : ∃ z, z = fcv .f32 .f64 (roundF b) := ⟨_, rfl⟩
        obtain ⟨TW, hTW⟩ : ∃ z, z = fcv .f32 .f64 tt := ⟨_, rfl⟩
        obtain ⟨UW, hUW⟩ : ∃ z, z = fcv .f32 .f64 (tuF up t) := ⟨_, rfl⟩
        obtain ⟨U2, hU2⟩ : ∃ z, z = fop .mul .f64 4611686018427387904 UW := ⟨_, rfl⟩
        have HOW := Lib.hid hOW
        have HUW := Lib.hid hUW
        rw [← hRW, ← hOW] at HG2 q2
        rw [← hTW, ← hUW, ← hU2] at HG3 q3
        rw [← hUW, ← hU2] at m5
        rw [← hUW] at d5 y2
        rw [← hRW] at m2
        rw [← hOW] at m3
        rw [← hTW] at m4
        obtain ⟨G2, hG2⟩ : ∃ z, z = gapF RW OW := ⟨_, rfl⟩
        obtain ⟨G3, hG3⟩ : ∃ z, z = gapF TW U2 := ⟨_, rfl⟩
        rw [← hG2] at HG2 q2
        rw [← hG3] at HG3 q3
        have a0 := HOA.out.cell 0
        have a1 := HOA.out.cell 1
        have a2 := HOA.out.cell 2
        have a3 := HOA.out.cell 3
        unfold arcV cV at HVA
        clear hv2 HC HBL HBA T hD hL hRW hOW hTW hUW hU2 hG2 hG3 e1 c0 c1 c2 hbl nL HAT HR
        go_wp2_with fail
        refine (HVA.out _).mono ?_
        rintro e v3 ⟨rfl, hb3⟩
        have HB3 := Lib.hid (HB2.out.trans (hb3.mono HB2.out.size))
        have HC3 : Hid (∀ i, i < 3 → v3.cell? ⟨bS, i, none⟩ = some (cV (p i))) := Lib.hid fun i hi => keep_cell hb3 (HC2.out i hi)
        have HO3 := Lib.hid (HOA.out.below hb3 habl)
        have hbl3 : bS < v3.heap.size := by have := hb3.size; omega
        have habl3 : ab < v3.heap.size := by have := hb3.size; omega
        clear hb3 HB2 HC2 HOA hbl2 a0 a1 a2 a3
        have a0 := HO3.out.cell 0
        have a1 := HO3.out.cell 1
        have a2 := HO3.out.cell 2
        have a3 := HO3.out.cell 3
        go_wp2_with fail
        refine (HLD.out _).mono ?_
        rintro e v4 ⟨rfl, rfl⟩
        go_wp2_with fail
        refine (HG2.out _).mono ?_
        rintro e v5 ⟨rfl, rfl⟩
        go_wp2_with fail
        refine (HG3.out _).mono ?_
        rintro e v6 ⟨rfl, rfl⟩
        go_wp2_with fail
        clear a0 a1 a2 a3 m1 d1 m2 d2 m4 d4 m5 d5 q1 q2 q3 HG2 HG3 HLD hsub
        go_loopw [13] (fun i wr => ∃ k : Nat, k ≤ 3 ∧ i = .int .i64 (k : Nat) ∧ Hid (Below v6.heap.size v6 wr)) (fun i _ => 3 - (intOf i).toNat)
        case atStart => exact ⟨0, by omega, rfl, Lib.hid (Below.refl _ _)⟩
        case round =>
          obtain ⟨k, hk, rfl, HBR⟩ := hrel
          have HCR : Hid (∀ i, i < 3 → wr.cell? ⟨bS, i, none⟩ = some (cV (p i))) := Lib.hid fun i hi => keep_cell HBR.out (HC3.out i hi)
          have HOR := Lib.hid (HO3.out.below HBR.out habl3)
          have a0 := HOR.out.cell 0
          have a1 := HOR.out.cell 1
          have a2 := HOR.out.cell 2
          have a3 := HOR.out.cell 3
          by_cases hlt : k < 3
          · have k0 : (0 : Int) ≤ (k : Int) := by omega
            have k1 : (k : Int) < 3 := by omega
            obtain ⟨hat, hd, hl, hn⟩ := HALL.out.at_ k hlt
            have HAA := Lib.hid (fun W => arcAtW hat W)
            obtain ⟨h1, g1⟩ := run_fopN (op := .quo) (shN hlt).1
            have h1 : ∀ w, mop .quo .f32 (floatOfInt .f32 (k : Int)) 1073741824 w = shF k := h1
            have g1 : mdr .quo .f32 (floatOfInt .f32 (k : Int)) 1073741824 = 0 := g1
            have ck := HCR.out k hlt
            obtain ⟨Z, hZ⟩ : ∃ z, z = arcAtF m r f tt (shF k) := ⟨_, rfl⟩
            rw [← hZ] at HAA hd hl hn
            obtain ⟨Pk, hPk⟩ : ∃ z, z = p k := ⟨_, rfl⟩
            rw [← hPk] at hd hl hn ck
            have hsub := fun W => cx_sub (P := Try.prog) 24 hd W
            obtain ⟨D, hD⟩ : ∃ z, z = minusF Z Pk := ⟨_, rfl⟩
            rw [← hD] at hsub hl hn
            have HLD : Hid (∀ W, Calls Try.prog 10 #[.complex .f32 D.1 D.2] W fun e w' => e = .returned (.float .f32 (longF D)) ∧ w' = W) := Lib.hid fun W => longS hl W
            obtain ⟨L, hL⟩ : ∃ z, z = longF D := ⟨_, rfl⟩
            rw [← hL] at HLD hn
            have q1 : (FloatKind.f64.format.order (fcv .f32 .f64 L) 4581421828931458171 == some .gt) = false := hn.gt
            obtain ⟨m1, d1⟩ := run_wid64 hn.w
            unfold arcV cV at HAA
            unfold cV at ck
            clear hat hd hl hn hZ hPk hD hL
            go_wp2_with fail
            refine (HAA.out _).mono ?_
            rintro e w8 ⟨rfl, hb8⟩
            have ck8 : w8.cell? ⟨bS, k, none⟩ = some (.complex .f32 Pk.1 Pk.2) := keep_cell hb8 ck
            have HB8 : Hid (Below v6.heap.size v6 w8) := Lib.hid (HBR.out.trans (hb8.mono HBR.out.size))
            clear hb8 a0 a1 a2 a3 ck
            go_wp2_with fail
            refine (HLD.out _).mono ?_
            rintro e w8 ⟨rfl, rfl⟩
            go_wp2_with fail
            exact ⟨⟨k + 1, by omega, by go_num, HB8⟩, by simp [intOf]; omega⟩
          · obtain rfl : k = 3 := by omega
            have HBW := Lib.hid (HB3.out.trans (HBR.out.mono HB3.out.size))
            have hblr : bS < wr.heap.size := by have := HBR.out.size; omega
            clear hk HBR HB3 HC3 HO3
            have HLG := Lib.hid (fun W => longOfArcW (f := f) HALL.out.mn HALL.out.r0 HALL.out.fn HALL.out.lg.n W)
            have HRF : Hid (∀ c W, bS < W.heap.size → (∀ i, i < 3 → W.cell? ⟨bS, i, none⟩ = some (cV (p i))) → Calls Try.prog 14 #[.slice (some ⟨bS, 0, none⟩) 3 c] W fun e w' => e = .returned (.tuple #[cV (fitZ (cAt (xsL A B b j t up))), .float .f32 (fitR (cAt (xsL A B b j t up))), .bool true]) ∧ Below W.heap.size W w') := Lib.hid fun c W h1 h2 => roundFitW rfl HALL.out.path HALL.out.fit HALL.out.all bS c W h1 (fun i hi => by rw [xsL_at hi]; have h3 := h2 i hi; rw [HP.out] at h3; exact h3)
            have FT := Lib.hid HALL.out.ft
            obtain ⟨FZ, hFZ⟩ : ∃ z, z = fitZ (cAt (xsL A B b j t up)) := ⟨_, rfl⟩
            obtain ⟨FR, hFR⟩ : ∃ z, z = fitR (cAt (xsL A B b j t up)) := ⟨_, rfl⟩
            rw [← hFZ, ← hFR] at HRF FT
            have HLT := Lib.hid HALL.out.lg
            obtain ⟨LG, hLG⟩ : ∃ z, z = lgF r tt := ⟨_, rfl⟩
            rw [← hLG] at HLG
            have HLGE := Lib.hid hLG
            unfold arcV cV at HLG
            clear hFZ hFR hLG HALL HXS
            go_wp2_with fail
            refine (HLG.out _).mono ?_
            rintro e v7 ⟨rfl, hb7⟩
            have HB7 := Lib.hid (HBW.out.trans (hb7.mono HBW.out.size))
            have HC7 : Hid (∀ i, i < 3 → v7.cell? ⟨bS, i, none⟩ = some (cV (p i))) := Lib.hid fun i hi => keep_cell hb7 (HCR.out i hi)
            have hbl7 : bS < v7.heap.size := by have := hb7.size; omega
            clear hb7 HBW HCR hblr a0 a1 a2 a3
            go_wp2_with fail
            refine (HRF.out _ _ hbl7 HC7.out).mono ?_
            rintro e v8 ⟨rfl, hb8⟩
            have HB8 := Lib.hid (HB7.out.trans (hb8.mono HB7.out.size))
            clear hb8 HB7 HC7 hbl7 HRF
            unfold cV
            go_wp2_with fail
            refine (b10At w.heap.size a2 n2 ca2 3 5 hn2 (by decide) (by decide) (by decide) _ (H2.out.far (Far.below HB8.out (Nat.le_refl _)))).mono ?_
            rintro e v9 ⟨⟨r3, rfl, hr3⟩, rfl⟩
            obtain ⟨N, hN⟩ : ∃ N, N = 3 + r3 := ⟨_, rfl⟩
            have qN : (3 : Int) + (r3 : Int) = (N : Int) := by omega
            have hN3 : 3 ≤ N := by omega
            have hN7 : N ≤ 7 := by omega
            have hN3' : (3 : Int) ≤ (N : Int) := by omega
            have hN7' : (N : Int) ≤ 7 := by omega
            have hr3' : (r3 : Int) < 5 := by omega
            clear hN
            go_wp2_with fail
            refine (b10At w.heap.size a2 n2 ca2 4 16 hn2 (by decide) (by decide) (by decide) _ (H2.out.far (Far.below HB8.out (Nat.le_refl _)))).mono ?_
            rintro e v10 ⟨⟨wn, rfl, hwn⟩, rfl⟩
            clear qN hr3 hr3'
            have HLN := Lib.hid (line_all HA.out HB.out hwn hN3 hN7)
            have hwn' : (wn : Int) < 16 := by omega
            obtain ⟨x1, d1⟩ := run_fopN (op := .quo) HLN.out.x
            have x1 : ∀ w, mop .quo .f64 (floatOfInt .f64 (wn : Int)) 4625196817309499392 w = wyF wn := x1
            have d1 : mdr .quo .f64 (floatOfInt .f64 (wn : Int)) 4625196817309499392 = 0 := d1
            have HPY : Hid (∀ W, Calls Try.prog 7 #[.float .f64 (wyF wn)] W fun e w' => e = .returned (.complex .f32 (wyL wn).1 (wyL wn).2) ∧ w' = W) := Lib.hid fun W => phasorS HLN.out.ph W
            obtain ⟨Wy, hWy⟩ : ∃ z, z = wyL wn := ⟨_, rfl⟩
            rw [← hWy] at HPY
            have HWY := Lib.hid hWy
            clear hWy hwn
            go_wp2_with fail
            refine (HPY.out _).mono ?_
            rintro e v11 ⟨rfl, rfl⟩
            go_wp2_with fail
            obtain ⟨q, hq⟩ : ∃ q, q = lnP (mdL A B) Wy := ⟨_, rfl⟩
            have HQ := Lib.hid hq
            clear hq
            go_loopw [23, 24] (fun o i wr => ∃ k bL cp : Nat, k ≤ N ∧ i = .int .i64 (k : Nat) ∧ o = .slice (some ⟨bL, 0, none⟩) k cp ∧ v11.heap.size ≤ bL ∧ Hid (ORow wr 24 1 bL cp k (((List.range k).map q).map cV)) ∧ Hid (Below v11.heap.size v11 wr)) (fun _ i _ => N - (intOf i).toNat)
            case atStart => exact ⟨0, v11.heap.size, 0, by omega, rfl, rfl, Nat.le_refl _, Lib.hid (ORow.new _ _ _), Lib.hid (Below.alloc (Below.refl _ _) (Nat.le_refl _) _)⟩
            case round =>
              obtain ⟨k, bL, cp, hk, rfl, rfl, hbL, HRW, HBL⟩ := hrel
              by_cases hlt : k < N
              · have k0 : (0 : Int) ≤ (k : Int) := by omega
                have k1 : (k : Int) < (N : Int) := by omega
                have hsc := HLN.out.sc k hlt
                have hpt := HLN.out.pt k hlt
                rw [← HWY.out] at hsc hpt
                have HSC := Lib.hid (fun W => scaleS hsc W)
                have hadd := fun W => cx_add (P := Try.prog) 24 hpt W
                obtain ⟨SC, hSC⟩ : ∃ z, z = scaleF Wy (floatOfInt .f32 ((k : Nat) : Int)) := ⟨_, rfl⟩
                have eQ : plusF (mdL A B) SC = q k := by rw [hSC, HQ.out]; rfl
                have e3 : (mdL A B).1 = miF A := rfl
                have e4 : (mdL A B).2 = miF B := rfl
                rw [← hSC] at HSC hadd
                rw [eQ, e3, e4] at hadd
                obtain ⟨Z, hZ⟩ : ∃ z, z = q k := ⟨_, rfl⟩
                rw [← hZ] at hadd
                have HZ := Lib.hid hZ
                unfold cV at HSC
                clear hsc hpt eQ e3 e4 hSC hZ
                have hzw := HBL.out.size
                have hbl := HRW.out.lt
                go_wp2_with fail
                refine (HSC.out _).mono ?_
                rintro e w1 ⟨rfl, rfl⟩
                go_wp2_with (first | (at_builtin; refine wpList_app2 rfl _ _ _ rfl 24 (.complex .f32 0 0) 1 8 Try.underlying27 infoCx rfl (by decide) _ #[.complex .f32 Z.1 Z.2] 24 rfl (by simp [Value.oneCell']) _ bL cp k _ rfl rfl rfl HRW.out (by omega) (by decide) ?_; intro b6 cap6 w6 hr6 hbb6 hgr6; have HR6 := Lib.hid hr6; have HB6 := Lib.hid hbb6; have HG6 := Lib.hid hgr6; clear hr6 hbb6 hgr6))
                have hbw9 : v11.heap.size ≤ b6 := by have := HB6.out; omega
                have hR9 : Hid (ORow w6 24 1 b6 cap6 (k + 1) (((List.range (k + 1)).map q).map cV)) := Lib.hid (by rw [rng_succ, ← HZ.out]; exact HR6.out)
                have hB9 : Hid (Below v11.heap.size v11 w6) := Lib.hid (HBL.out.trans (HG6.out.below (B := v11.heap.size) hbL hzw))
                exact ⟨⟨k + 1, b6, cap6, by omega, by go_num, rfl, hbw9, hR9, hB9⟩, by simp [intOf]; omega⟩
              · obtain rfl : k = N := by omega
                have k1 : ¬ (k : Int) < (k : Int) := by omega
                have hblL := HRW.out.lt
                obtain ⟨xs, hxs⟩ : ∃ x, x = lnL (mdL A B) (wyL wn) k := ⟨_, rfl⟩
                have HLP := HLN.out
                have hTS := HLN.out.t
                rw [← hxs] at hTS
                have HCL : Hid (∀ i, i < k → wr.cell? ⟨bL, i, none⟩ = some (cV (cAt xs i))) := Lib.hid fun i hi => by
                  rw [HRW.out.cell i (by omega), rng_at q hi, hxs, lnL_at hi, HQ.out, HWY.out]
                have HLF := Lib.hid (fun c => lineFitW (by rw [hxs]; exact lnL_len _ _ _) (by rw [hxs]; exact HLP.path) (by rw [hxs]; exact HLP.ln) (by rw [hxs]; exact HLP.all) bL c wr hblL HCL.out)
                have hnm := HLP.ln.me.m
                have hna := HLP.ln.al
                have hnx := HLP.ln.mx k (Nat.le_refl _)
                rw [← hxs] at hnm hna hnx
                obtain ⟨ME, hME⟩ : ∃ z, z = meF (cAt xs) k := ⟨_, rfl⟩
                obtain ⟨AL, hAL⟩ : ∃ z, z = lnW (cAt xs) k := ⟨_, rfl⟩
                obtain ⟨FA, hFA⟩ : ∃ z, z = mxF (cAt xs) (meF (cAt xs) k) (lnW (cAt xs) k) k := ⟨_, rfl⟩
                rw [← hFA] at HLF hnx
                rw [← hME, ← hAL] at HLF
                rw [← hME] at hnm
                rw [← hAL] at hna
                have tF := hTS.far
                have tC := hTS.cr
                have tD := hTS.d
                have tS := hTS.sd
                rw [← hFA] at tF
                rw [← hAL] at tC
                rw [← hME] at tD tS
                rw [← HWY.out] at tC tS
                have HBW := Lib.hid (HB8.out.trans (HBL.out.mono HB8.out.size))
                clear hTS HLP HLN HCL hxs hME hAL hFA HRW HQ HWY HBL
                unfold cV at HLF
                go_wp2_with fail
                refine (HLF.out _).mono ?_
                rintro e v12 ⟨rfl, hb12⟩
                have HB12 := Lib.hid (HBW.out.trans (hb12.mono HBW.out.size))
                clear hb12 HBW HLF
                -- the second guard
                have gLW := HLT.out.w
                have gA := HLT.out.a
                have gB := HLT.out.b
                have gG := HLT.out.g
                have gC := HLT.out.c
                have gT := HLT.out.t
                unfold lgW at gC gT
                have eF : full64 = 4618760256396512830 := rfl
                have eT : twoB = 4611686018427387904 := rfl
                have gUW := HLT.out.wu
                have gOW := HLT.out.wo
                have gnL := HLT.out.n.l
                rw [← HLGE.out] at gLW gT gnL
                rw [← HOW.out, eF] at gA gB gC gT
                rw [eT] at gB gC gT
                rw [← HUW.out] at gG gC gT gUW
                rw [← HOW.out] at gOW
                obtain ⟨m6, d6⟩ := run_wid64 (isN.nan gnL)
                obtain ⟨LW, hLW⟩ : ∃ z, z = fcv .f32 .f64 LG := ⟨_, rfl⟩
                rw [← hLW] at m6 gLW gT
                obtain ⟨m7, d7⟩ := run_fopN gA
                obtain ⟨F1, hF1⟩ : ∃ z, z = fop .mul .f64 4618760256396512830 OW := ⟨_, rfl⟩
                rw [← hF1] at m7 gB gC gT
                obtain ⟨m8, d8⟩ := run_fopN gB
                obtain ⟨F2, hF2⟩ : ∃ z, z = fop .mul .f64 F1 4611686018427387904 := ⟨_, rfl⟩
                rw [← hF2] at m8 gC gT
                have HG4 := Lib.hid (fun W => b10GapN _ _ gUW zero64_N.1 gG W)
                obtain ⟨G4, hG4⟩ : ∃ z, z = gapF UW 0 := ⟨_, rfl⟩
                rw [← hG4] at HG4 gC gT
                obtain ⟨m9, d9⟩ := run_fopN gC
                obtain ⟨F3, hF3⟩ : ∃ z, z = fop .mul .f64 F2 G4 := ⟨_, rfl⟩
                rw [← hF3] at m9 gC gT
                have HG5 := Lib.hid (fun W => b10GapN _ _ gLW gC gT.g W)
                have q5 : (FloatKind.f64.format.order (gapF LW F3) 4591870180066957722 == some .gt) = false := gT.gt
                obtain ⟨G5, hG5⟩ : ∃ z, z = gapF LW F3 := ⟨_, rfl⟩
                rw [← hG5] at HG5 q5
                have tZ := FT.out.t1
                have tR := FT.out.t2
                have lZ := FT.out.l
                have wR := FT.out.wr
                obtain ⟨D2, hD2⟩ : ∃ z, z = minusF FZ (mdL A B) := ⟨_, rfl⟩
                have hs2 : ∀ W, Sem.run Try.prog (binOp .sub 24 (.complex .f32 FZ.1 FZ.2) (.complex .f32 (miF A) (miF B))) W = .ok (.complex .f32 D2.1 D2.2) W := fun W => by rw [hD2]; exact cx_sub 24 FT.out.d W
                rw [← hD2] at tZ lZ
                have HL2 : Hid (∀ W, Calls Try.prog 10 #[.complex .f32 D2.1 D2.2] W fun e w' => e = .returned (.float .f32 (longF D2)) ∧ w' = W) := Lib.hid fun W => longS lZ W
                obtain ⟨L2, hL2⟩ : ∃ z, z = longF D2 := ⟨_, rfl⟩
                rw [← hL2] at HL2 tZ
                have q6 : (FloatKind.f64.format.order (fcv .f32 .f64 L2) 4581421828931458171 == some .gt) = false := tZ.gt
                obtain ⟨m10, d10⟩ := run_wid64 tZ.w
                have nR : nanB .f32 FR = false := isN.nan FT.out.rn
                obtain ⟨m11, d11⟩ := run_wid64 nR
                rw [← HOW.out] at tR
                obtain ⟨RW, hRW⟩ : ∃ z, z = fcv .f32 .f64 FR := ⟨_, rfl⟩
                rw [← hRW] at m11 tR wR
                have HG6 := Lib.hid (fun W => b10GapN _ _ wR gOW tR.g W)
                have q7 : (FloatKind.f64.format.order (gapF RW OW) 4581421828931458171 == some .gt) = false := tR.gt
                obtain ⟨G6, hG6⟩ : ∃ z, z = gapF RW OW := ⟨_, rfl⟩
                rw [← hG6] at HG6 q7
                have q8 : (FloatKind.f64.format.order (fcv .f32 .f64 FA) 4576918229304087675 == some .gt) = false := tF.gt
                obtain ⟨m12, d12⟩ := run_wid64 tF.w
                clear gLW gA gB gG gC gT eF eT gUW gnL hLW hF1 hF2 hG4 hF3 hG5 tZ tR lZ wR hD2 hL2 hRW hG6 tF nR
                go_wp2_with fail
                refine (HG4.out _).mono ?_
                rintro e v13 ⟨rfl, rfl⟩
                go_wp2_with fail
                refine (HG5.out _).mono ?_
                rintro e v13 ⟨rfl, rfl⟩
                go_wp2_with fail
                refine (HL2.out _).mono ?_
                rintro e v13 ⟨rfl, rfl⟩
                go_wp2_with fail
                refine (HG6.out _).mono ?_
                rintro e v13 ⟨rfl, rfl⟩
                -- across and beside
                have hb := HBB.out
                obtain ⟨cR, cN, cT⟩ := corner_all hb
                obtain ⟨w1, w2⟩ := run_wid64 (isN.nan tC.wn.1)
                obtain ⟨w3, w4⟩ := run_wid64 (isN.nan tC.wn.2)
                obtain ⟨l1, l2⟩ := run_wid64 (isN.nan tC.ln.1)
                obtain ⟨l3, l4⟩ := run_wid64 (isN.nan tC.ln.2)
                obtain ⟨s1, s2⟩ := run_fopN tC.a
                obtain ⟨s3, s4⟩ := run_fopN tC.b
                have gC := tC.c
                have gT := tC.t
                unfold crW at gC gT
                obtain ⟨s5, s6⟩ := run_fopN (op := .sub) gC
                obtain ⟨CR, hCR⟩ : ∃ z, z = fop .sub .f64 (fop .mul .f64 (fcv .f32 .f64 Wy.1) (fcv .f32 .f64 AL.2)) (fop .mul .f64 (fcv .f32 .f64 Wy.2) (fcv .f32 .f64 AL.1)) := ⟨_, rfl⟩
                rw [← hCR] at s5 gC gT
                have HG7 := Lib.hid (fun W => b10GapN _ _ gC zero64_N.1 gT.g W)
                have q9 : (FloatKind.f64.format.order (gapF CR 0) 4576918229304087675 == some .lt) = true := gT.lt
                obtain ⟨G7, hG7⟩ : ∃ z, z = gapF CR 0 := ⟨_, rfl⟩
                rw [← hG7] at HG7 q9
                clear gC gT hCR hG7
                obtain ⟨D3, hD3⟩ : ∃ z, z = minusF ME (mdL A B) := ⟨_, rfl⟩
                have hs3 : ∀ W, Sem.run Try.prog (binOp .sub 24 (.complex .f32 ME.1 ME.2) (.complex .f32 (miF A) (miF B))) W = .ok (.complex .f32 D3.1 D3.2) W := fun W => by rw [hD3]; exact cx_sub 24 tD W
                rw [← hD3] at tS
                obtain ⟨l5, l6⟩ := run_wid64 (isN.nan tS.ln.1)
                obtain ⟨l7, l8⟩ := run_wid64 (isN.nan tS.ln.2)
                obtain ⟨t1, t2⟩ := run_fopN tS.a
                obtain ⟨t3, t4⟩ := run_fopN tS.b
                have gC := tS.c
                have gT := tS.t
                unfold crW at gC gT
                obtain ⟨t5, t6⟩ := run_fopN (op := .sub) gC
                obtain ⟨SD, hSD⟩ : ∃ z, z = fop .sub .f64 (fop .mul .f64 (fcv .f32 .f64 Wy.1) (fcv .f32 .f64 D3.2)) (fop .mul .f64 (fcv .f32 .f64 Wy.2) (fcv .f32 .f64 D3.1)) := ⟨_, rfl⟩
                rw [← hSD] at t5 gC gT
                have HG8 := Lib.hid (fun W => b10GapN _ _ gC zero64_N.1 gT.g W)
                have q10 : (FloatKind.f64.format.order (gapF SD 0) 4576918229304087675 == some .lt) = true := gT.lt
                obtain ⟨G8, hG8⟩ : ∃ z, z = gapF SD 0 := ⟨_, rfl⟩
                rw [← hG8] at HG8 q10
                clear gC gT hSD hG8 hD3 tC tS tD
                -- the corner
                have HRC := Lib.hid (fun W => roundCornerW cR cN W)
                obtain ⟨CM, hCM⟩ : ∃ z, z = midF (coPa (radF b)) (coPb (radF b)) (coPc (radF b)) := ⟨_, rfl⟩
                obtain ⟨C1, hC1⟩ : ∃ z, z = arR (coPa (radF b)) (coPb (radF b)) (coPc (radF b)) := ⟨_, rfl⟩
                obtain ⟨C2, hC2⟩ : ∃ z, z = arF (coPa (radF b)) (coPb (radF b)) (coPc (radF b)) := ⟨_, rfl⟩
                obtain ⟨C3, hC3⟩ : ∃ z, z = arT (coPa (radF b)) (coPb (radF b)) (coPc (radF b)) := ⟨_, rfl⟩
                rw [← hCM, ← hC1] at cT
                rw [← hCM, ← hC1, ← hC2, ← hC3] at HRC
                obtain ⟨x9, y9⟩ := run_fopN (op := .quo) cT.qr
                have eR : fop .quo .f32 (roundF b) fourB = radF b := rfl
                have c4 : fourB = 1082130432 := rfl
                have cQ := cT.q
                have cG := cT.t2
                have cL := cT.l
                have cE := cT.t1
                have cD := cT.d
                rw [eR] at x9 cL cE cD
                obtain ⟨RB, hRB⟩ : ∃ z, z = radF b := ⟨_, rfl⟩
                rw [← hRB] at x9 cL cE cD HRC
                rw [c4] at x9 y9 HRC
                obtain ⟨m13, d13⟩ := run_wid64 (isN.nan cT.rn)
                have e5 : fourD = 4616189618054758400 := rfl
                rw [e5] at cQ cG
                rw [← HOW.out] at cQ cG
                obtain ⟨m14, d14⟩ := run_fopN (op := .quo) cQ
                obtain ⟨Q4, hQ4⟩ : ∃ z, z = fop .quo .f64 OW 4616189618054758400 := ⟨_, rfl⟩
                rw [← hQ4] at m14 cQ cG
                have HG9 := Lib.hid (fun W => b10GapN _ _ cT.wr cQ cG.g W)
                have q11 : (FloatKind.f64.format.order (gapF (fcv .f32 .f64 C1) Q4) 4576918229304087675 == some .lt) = true := cG.lt
                obtain ⟨G9, hG9⟩ : ∃ z, z = gapF (fcv .f32 .f64 C1) Q4 := ⟨_, rfl⟩
                rw [← hG9] at HG9 q11
                obtain ⟨D4, hD4⟩ : ∃ z, z = minusF CM (RB, RB) := ⟨_, rfl⟩
                have hs4 : ∀ W, Sem.run Try.prog (binOp .sub 24 (.complex .f32 CM.1 CM.2) (.complex .f32 RB RB)) W = .ok (.complex .f32 D4.1 D4.2) W := fun W => by rw [hD4]; exact cx_sub (b := (RB, RB)) 24 cD W
                rw [← hD4] at cL cE
                have HL4 : Hid (∀ W, Calls Try.prog 10 #[.complex .f32 D4.1 D4.2] W fun e w' => e = .returned (.float .f32 (longF D4)) ∧ w' = W) := Lib.hid fun W => longS cL W
                obtain ⟨L4, hL4⟩ : ∃ z, z = longF D4 := ⟨_, rfl⟩
                rw [← hL4] at HL4 cE
                have q12 : (FloatKind.f64.format.order (fcv .f32 .f64 L4) 4576918229304087675 == some .lt) = true := cE.lt
                obtain ⟨m15, d15⟩ := run_wid64 cE.w
                unfold arcV cV at HRC
                clear cR cN cT hCM hC1 hC2 hC3 eR c4 cQ cG cL cE cD hRB e5 hQ4 hG9 hD4 hL4 hb
                go_wp2_with fail
                clear m6 d6 m7 d7 m8 d8 m9 d9 m10 d10 m11 d11 m12 d12 q5 q6 q7 q8 HG4 HG5 HG6 HL2 hs2
                refine (HRC.out _).mono ?_
                rintro e v14 ⟨rfl, hb14⟩
                have HB14 := Lib.hid (HB12.out.trans (hb14.mono HB12.out.size))
                clear hb14 HB12 HRC
                go_wp2_with fail
                refine (HG7.out _).mono ?_
                rintro e v15 ⟨rfl, rfl⟩
                go_wp2_with fail
                refine (HG8.out _).mono ?_
                rintro e v15 ⟨rfl, rfl⟩
                go_wp2_with fail
                refine (HG9.out _).mono ?_
                rintro e v15 ⟨rfl, rfl⟩
                go_wp2_with fail
                refine (HL4.out _).mono ?_
                rintro e v15 ⟨rfl, rfl⟩
                go_wp2_with fail
                go_ret
                exact ⟨rfl, HB14.out.alloc HB14.out.size _⟩
  · go_wp2_with fail
    refine (b10LongYes a1 a2 n1 n2 ca1 ca2 hsz w).mono ?_
    rintro e w0 ⟨rfl, rfl⟩
    go_wp2_with fail
    go_ret
    exact ⟨rfl, Below.refl _ _⟩
end Go.Proofs.Ytkbikfifnaihlaa
