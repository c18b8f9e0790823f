/- The law FnPlans walked. -/
import Derived.Test.YtfpkdnopbnppmaaPnQ
namespace Go.Proofs.Ytfpkdnopbnppmaa
open Go.RowKit Go.Fl

theorem qW_run {m : Nat} (hm : m ≤ 64) : (∀ w, mop .quo .f32 (floatOfInt .f32 (m : Int)) 1082130432 w = qW m) ∧ mdr .quo .f32 (floatOfInt .f32 (m : Int)) 1082130432 = 0 := run_fopN (qW_q hm).num
theorem hW_run {m : Nat} (hm : m ≤ 64) : (∀ w, mop .quo .f32 (floatOfInt .f32 (m : Int)) 1073741824 w = hW m) ∧ mdr .quo .f32 (floatOfInt .f32 (m : Int)) 1073741824 = 0 := run_fopN (hW_q hm).num

theorem okL_push {ls : List Nat} {x : Nat} (h : okL ls) (hx : ∃ q, 1 ≤ q ∧ q ≤ 16 ∧ x = qW q) : okL (ls ++ [x]) := fun k hk => by
  rw [List.length_append] at hk
  unfold nF
  by_cases e : k < ls.length
  · obtain ⟨q, a, b, c⟩ := h k e
    exact ⟨q, a, b, by rw [← c]; unfold nF; rw [List.getD_eq_getElem?_getD, List.getD_eq_getElem?_getD, List.getElem?_append_left e]⟩
  · have e : k = ls.length := by simp at hk; omega
    obtain ⟨q, a, b, c⟩ := hx
    exact ⟨q, a, b, by rw [e]; simp [c]⟩
theorem wayB_N {jw r h c T lw : Nat} (H : ∀ k, k ≤ 12 → isN .f32 (wayK jw r h c T k) = true ∧ StepTest lw (wayK jw r h c T k) (wayB jw r h c T k)) {k : Nat} (hk : k ≤ 13) : isN .f32 (wayB jw r h c T k) = true := by
  cases k with
  | zero => exact zero_N.1
  | succ k => exact (H k (by omega)).1
set_option maxHeartbeats 4000000 in
set_option maxRecDepth 100000 in
theorem lawP (a1 a2 : Option Addr) (n1 n2 ca1 ca2 : Nat) (w : World) (h1 : CodeAt w w.heap.size a1 n1) (h2 : CodeAt w w.heap.size a2 n2) :
    Calls Try.prog 3 #[.slice a1 n1 ca1, .slice a2 n2 ca2] w fun e w' => e = .returned (.bool true) ∧ Below w.heap.size w w' := by
  have H1 := Lib.hid h1
  have H2 := Lib.hid h2
  clear h1 h2
  go_enter Try.func3, Try.ntmps3
  by_cases hsz : n1 ≤ 1048576 ∧ n2 ≤ 1048576
  · obtain ⟨hn1, hn2⟩ := hsz
    go_wp2_with fail
    refine (b10LongNo a1 a2 n1 n2 ca1 ca2 hn1 hn2 w).mono ?_
    rintro e w ⟨rfl, rfl⟩
    go_wp2_with fail
    have HB0 := Lib.hid (show Below w.heap.size w (w.alloc (.cells #[] 26)) from Below.alloc (Below.refl _ _) (Nat.le_refl _) _)
    obtain ⟨r0, hr00⟩ : ∃ r0, r0 = atN w a2 n2 0 6 := ⟨_, rfl⟩
    have HR0 := Lib.hid hr00
    obtain ⟨N, hN⟩ : ∃ N, N = 2 + r0 := ⟨_, rfl⟩
    have HN := Lib.hid hN
    have HN2 := Lib.hid (show 2 ≤ N by omega)
    clear hN hr00
    go_loopw [5, 6] (fun o i wr => ∃ (k g cap : Nat) (ls : List Nat), k ≤ 7 ∧ i = .int .i64 k ∧ o = .slice (some ⟨g, 0, none⟩) k cap ∧ Hid (k ≤ N) ∧ Hid (ls.length = k) ∧ Hid (okL ls) ∧ w.heap.size ≤ g ∧ Hid (ORow wr 26 1 g cap k (ls.map (Value.float .f32))) ∧ Hid (Below w.heap.size w wr)) (fun _ i _ => 8 - (intOf i).toNat)
    case atStart => exact ⟨0, w.heap.size, 0, [], Nat.zero_le _, rfl, rfl, Lib.hid (Nat.zero_le _), Lib.hid rfl, Lib.hid (fun k hk => absurd hk (Nat.not_lt_zero _)), Nat.le_refl _, Lib.hid (ORow.new _ _ _), HB0⟩
    case round =>
      obtain ⟨k, g, cap, ls, hk, rfl, rfl, HK, HL, HO, hg, HR, HB⟩ := hrel
      go_wp2_with fail
      refine (b10AtV w.heap.size a2 n2 ca2 0 6 hn2 (by decide) (by decide) (by decide) wr (H2.out.far (Far.below HB.out (Nat.le_refl _)))).mono ?_
      rintro e wr ⟨rfl, hr0, rfl⟩
      rw [atN_far H2.out (Far.below HB.out (Nat.le_refl _)), ← HR0.out] at hr0 ⊢
      have q0 : (2 : Int) + (r0 : Int) = (N : Int) := by have := HN.out; omega
      have n7 : (N : Int) ≤ 7 := by omega
      have n0 : (0 : Int) ≤ (N : Int) := by omega
      have r1 : (r0 : Int) < 6 := by omega
      by_cases hlt : k < N
      · have k0 : (0 : Int) ≤ (k : Int) := by omega
        have k1 : (k : Int) < (N : Int) := by omega
        obtain ⟨K, hK⟩ : ∃ K, K = k + 1 := ⟨_, rfl⟩
        have kK : (k : Int) + 1 = (K : Int) := by omega
        have HKK := Lib.hid hK
        have hK7 : K ≤ 7 := by omega
        have hKi : (K : Int) ≤ 7 := by omega
        clear hK
        go_wp2_with fail
        refine (b10AtV w.heap.size a1 n1 ca1 k 16 hn1 (by omega) (by decide) (by decide) wr (H1.out.far (Far.below HB.out (Nat.le_refl _)))).mono ?_
        rintro e wr ⟨rfl, hr, rfl⟩
        generalize atN wr a1 n1 k 16 = q at hr ⊢
        obtain ⟨Q, hQ⟩ : ∃ Q, Q = 1 + q := ⟨_, rfl⟩
        have qQ : (1 : Int) + (q : Int) = (Q : Int) := by omega
        have HQ := Lib.hid hQ
        have hQ16 : Q ≤ 16 := by omega
        have hQi : (Q : Int) ≤ 16 := by omega
        obtain ⟨m1, d1⟩ := qW_run (m := Q) (by omega)
        have dz : ∀ w : World, w.drewN 0 = w := World.drewN_zero
        have hqi : (q : Int) < 16 := by omega
        have hzw := HB.out.size
        clear hQ
        go_wp2_with (first | (at_builtin; refine wpList_app2 rfl _ _ _ rfl 26 (.float .f32 0) 1 4 Try.underlying24 infoF32 rfl (by decide) _ #[.float .f32 (qW Q)] 26 rfl (by simp [Value.oneCell']) _ g cap k _ rfl rfl rfl HR.out (by omega) (by decide) ?_; intro b6 cap6 w6 hr6 hbb6 hgr6; have HR6 := Lib.hid hr6; have HB6 := Lib.hid hbb6; have HG6 := Lib.hid hgr6; clear hr6 hbb6 hgr6))
        have hb6 : b6 = g ∨ wr.heap.size < b6 := HB6.out
        have hgB := HG6.out.below (B := w.heap.size) hg hzw
        have hk9 := HKK.out
        exact ⟨⟨K, b6, cap6, ls ++ [qW Q], hK7, rfl, by rw [hk9], Lib.hid (by omega), Lib.hid (by rw [List.length_append, HL.out, hk9]; rfl), Lib.hid (okL_push HO.out ⟨Q, by omega, hQ16, rfl⟩), by omega, Lib.hid (by rw [hk9, List.map_append]; exact HR6.out), Lib.hid (HB.out.trans hgB)⟩, by show 8 - ((K : Nat) : Int).toNat < 8 - ((k : Nat) : Int).toNat; omega⟩
      · have hkN : k = N := by have := HK.out; omega
        subst hkN
        have k1 : ¬ (k : Int) < (k : Int) := by omega
        clear HN HR0 hr0
        go_wp2_with fail
        refine (b10AtV w.heap.size a2 n2 ca2 1 8 hn2 (by decide) (by decide) (by decide) wr (H2.out.far (Far.below HB.out (Nat.le_refl _)))).mono ?_
        rintro e wr ⟨rfl, hra, rfl⟩
        generalize atN wr a2 n2 1 8 = q1 at hra ⊢
        obtain ⟨M, hM⟩ : ∃ Q, Q = 1 + q1 := ⟨_, rfl⟩
        have qM : (1 : Int) + (q1 : Int) = (M : Int) := by omega
        have hM1 : 1 ≤ M := by omega
        have hM8 : M ≤ 8 := by omega
        have hMi : (M : Int) ≤ 8 := by omega
        obtain ⟨mM, dM⟩ := hW_run (m := M) (by omega)
        have dz : ∀ w : World, w.drewN 0 = w := World.drewN_zero
        have hqi1 : (q1 : Int) < 8 := by omega
        clear hM
        go_wp2_with fail
        refine (b10AtV w.heap.size a2 n2 ca2 2 8 hn2 (by decide) (by decide) (by decide) wr (H2.out.far (Far.below HB.out (Nat.le_refl _)))).mono ?_
        rintro e wr ⟨rfl, hrb, rfl⟩
        generalize atN wr a2 n2 2 8 = q2 at hrb ⊢
        obtain ⟨B, hB⟩ : ∃ Q, Q = 1 + q2 := ⟨_, rfl⟩
        have qB : (1 : Int) + (q2 : Int) = (B : Int) := by omega
        have hB1 : 1 ≤ B := by omega
        have hB8 : B ≤ 8 := by omega
        have hBi : (B : Int) ≤ 8 := by omega
        obtain ⟨mB, dB⟩ := hW_run (m := B) (by omega)
        have hqi2 : (q2 : Int) < 8 := by omega
        clear hB
        go_wp2_with fail
        have hk2 : 2 ≤ k := HN2.out
        obtain ⟨K1, hK1⟩ : ∃ K1, K1 = k + 1 := ⟨_, rfl⟩
        have hsp := sp_in HL.out hk2 hk HO.out hM1 hM8 hB1 hB8
        have HSP := Lib.hid hsp
        refine (speedsOk g k K1 cap M B ls wr hK1 HL.out hk2 hk HO.out hM1 hM8 hB1 hB8 HR.out).mono ?_
        rintro e v1 ⟨bb, cb, rfl, hbb, hbl1, hV, hbel1⟩
        have kK1 : (k : Int) + 1 = (K1 : Int) := by omega
        have HK1 := Lib.hid hK1
        have hK1i : (K1 : Int) ≤ 8 := by omega
        have hk0 : (0 : Int) ≤ (k : Int) := by omega
        have hkK1 : (k : Int) < (K1 : Int) := by omega
        have h0K1 : (0 : Int) < (K1 : Int) := by omega
        have hvi := (speeds_ok hsp).1
        have c0 : v1.cell? ⟨bb, 0, none⟩ = some (.float .f32 0) := by
          have := hV.2 0 (by rw [hvi.len]; omega)
          have z := hvi.z0
          unfold nF at z
          rw [z] at this; exact this
        have cn : v1.cell? ⟨bb, k, none⟩ = some (.float .f32 0) := by
          have := hV.2 k (by rw [hvi.len]; omega)
          have z := hvi.zn
          unfold nF at z
          rw [z] at this; exact this
        have z00 : FloatKind.f32.format.order 0 0 = some .eq := by decide +kernel
        have hT := (time_last hsp).2.1
        have HTL := Lib.hid (time_last hsp)
        have HBV := Lib.hid (HB.out.trans (hbel1.mono HB.out.size))
        have HRV := Lib.hid (HR.out.below hbel1 HR.out.lt)
        have HV := Lib.hid hV
        have HVI := Lib.hid hvi
        have hgv : w.heap.size ≤ bb := Nat.le_trans HB.out.size hbb
        obtain ⟨T, hTT⟩ : ∃ T, T = spSum ls (spEnd ls (hW M) (hW B)) k := ⟨_, rfl⟩
        rw [← hTT] at hT ⊢
        have HTT := Lib.hid hTT
        have HPC := Lib.hid (fun j (hj : j < k) => piece_ok hsp hj)
        have HLE := Lib.hid (fun j (hj : j < k) => (⟨(least_step hsp hj).1, (least_ok hsp (j + 1) hj).1⟩ : isN .f64 (fop .quo .f64 (fcv .f32 .f64 (nF ls j)) (fcv .f32 .f64 (hW M))) = true ∧ isN .f64 (leastK ls (hW M) (j + 1)) = true))
        have HLN := Lib.hid (fun j (hj : j < k) => isN.nan (hsp.ls j hj).1)
        have HVN := Lib.hid (fun j (hj : j ≤ k) => isN.nan (hvi.num j hj).1)
        have nM := isN.nan hsp.mN
        have nB := isN.nan hsp.rN
        have HCL := Lib.hid (show ∀ j, j < k → v1.cell? ⟨g, j, none⟩ = some (.float .f32 (nF ls j)) from fun j hj => by
          rw [HRV.out.cell j (by omega), List.getElem?_map, List.getElem?_eq_getElem (by rw [HL.out]; exact hj)]
          unfold nF
          rw [List.getD_eq_getElem?_getD, List.getElem?_eq_getElem (by rw [HL.out]; exact hj)]; rfl)
        have HCV := Lib.hid (show ∀ j, j ≤ k → v1.cell? ⟨bb, j, none⟩ = some (.float .f32 (nF (spEnd ls (hW M) (hW B)) j)) from fun j hj => hV.2 j (by rw [hvi.len]; omega))
        clear hsp hvi hV hbel1 hTT hK1 HB HR hbb
        go_wp2_with fail
        clear c0 cn z00 hT
        go_loopw [12, 96] (fun s i wr => ∃ (j q : Nat), j ≤ k ∧ i = .int .i64 j ∧ s = .float .f64 (leastK ls (hW M) j) ∧ wr = v1.drewN q) (fun _ i _ => k - (intOf i).toNat)
        case atStart => exact ⟨0, 0, Nat.zero_le _, rfl, rfl, (World.drewN_zero _).symm⟩
        case round =>
          obtain ⟨j, qq, hj, rfl, rfl, rfl⟩ := hrel
          by_cases hlt : j < k
          · have j0 : (0 : Int) ≤ (j : Int) := by omega
            have j1 : (j : Int) < (k : Int) := by omega
            obtain ⟨J, hJ⟩ : ∃ J, J = j + 1 := ⟨_, rfl⟩
            have jJ : (j : Int) + 1 = (J : Int) := by omega
            have J0 : (0 : Int) ≤ (J : Int) := by omega
            have J1 : (J : Int) < (K1 : Int) := by omega
            have j2 : (j : Int) < (K1 : Int) := by omega
            have HJ := Lib.hid hJ
            have hc1 : v1.cell? ⟨g, j, none⟩ = some (.float .f32 (nF ls j)) := HCL.out j hlt
            have hc2 : v1.cell? ⟨bb, j, none⟩ = some (.float .f32 (nF (spEnd ls (hW M) (hW B)) j)) := HCV.out j hj
            have hc3 : v1.cell? ⟨bb, J, none⟩ = some (.float .f32 (nF (spEnd ls (hW M) (hW B)) J)) := HCV.out J (by omega)
            have p := HPC.out j hlt
            rw [← hJ] at p
            have vl := HLN.out j hlt
            have va := HVN.out j hj
            have vb := HVN.out J (by omega)
            obtain ⟨le1, le2⟩ := HLE.out j hlt
            have elk : leastK ls (hW M) J = fop .add .f64 (leastK ls (hW M) j) (fop .quo .f64 (fcv .f32 .f64 (nF ls j)) (fcv .f32 .f64 (hW M))) := by rw [hJ]; rfl
            rw [← hJ, elk] at le2
            have HEL := Lib.hid elk
            clear hJ elk
            generalize nF (spEnd ls (hW M) (hW B)) j = a at hc2 p va
            generalize nF (spEnd ls (hW M) (hW B)) J = b at hc3 p vb
            generalize nF ls j = l at hc1 p vl le1 le2 HEL ⊢
            generalize leastK ls (hW M) j = sm at le2 HEL ⊢
            obtain ⟨mq, dq⟩ := run_fopN (op := .quo) le1
            obtain ⟨ma, da⟩ := run_fopN (op := .add) le2
            obtain ⟨m1, d1⟩ := run_fopN (op := .add) p.nm
            obtain ⟨m2, d2⟩ := run_fopN (op := .mul) p.nbb
            obtain ⟨m3, d3⟩ := run_fopN (op := .mul) p.naa
            obtain ⟨m4, d4⟩ := run_fopN (op := .mul) p.n1
            obtain ⟨m5, d5⟩ := run_fopN (op := .mul) p.n2
            obtain ⟨m6, d6⟩ := run_fopN (op := .add) p.n3
            have HGP := Lib.hid (fun w => b10GapN _ _ p.nbb p.naa p.ng w)
            have t1 := p.low
            have t2 := p.high
            have t3 := p.rise
            clear p le1 le2
            go_wp2_with fail
            go_quiet ((go_at_call 7; refine quiet_of3 HGP.out))
            go_wp2_with fail
            exact ⟨⟨J, _, by omega, rfl, by rw [HEL.out], rfl⟩, by show k - ((J : Nat) : Int).toNat < k - ((j : Nat) : Int).toNat; omega⟩
          · have hjk : j = k := by omega
            subst hjk
            have j1 : ¬ (j : Int) < (j : Int) := by omega
            obtain ⟨tl1, tl2, tl3, tl4⟩ := HTL.out
            rw [← HTT.out] at tl1 tl4
            have vT := isN.nan tl1
            obtain ⟨m1, d1⟩ := run_fopN (op := .sub) tl3
            have dz : ∀ w : World, w.drewN 0 = w := World.drewN_zero
            generalize leastK ls (hW M) j = sm at tl3 tl4 m1 d1 ⊢
            obtain ⟨v2, hv2⟩ : ∃ x : World, x = v1.drewN qq := ⟨_, rfl⟩
            have HB2 := Lib.hid (show Below w.heap.size w v2 by rw [hv2]; exact below_dr HBV.out qq)
            rw [← hv2]
            clear hv2 HCL HCV HVN HLN HLE HPC HVI HV HRV HBV tl1 tl2 tl3 HTL HTT HSP HL HK HO hgv hg HK1 kK1 hK1i hkK1 h0K1 hra hrb mM mB dM dB
            have HC2 := Lib.hid (show CodeAt v2 w.heap.size a2 n2 from H2.out.far (Far.below HB2.out (Nat.le_refl _)))
            clear H1 H2
            go_wp2_with fail
            refine (b10AtV w.heap.size a2 n2 ca2 3 32 hn2 (by decide) (by decide) (by decide) v2 HC2.out).mono ?_
            rintro e v2 ⟨rfl, hrc, rfl⟩
            generalize atN v2 a2 n2 3 32 = q3 at hrc ⊢
            obtain ⟨L, hL⟩ : ∃ Q, Q = 1 + q3 := ⟨_, rfl⟩
            have qL : (1 : Int) + (q3 : Int) = (L : Int) := by omega
            have hL1 : 1 ≤ L := by omega
            have hL8 : L ≤ 32 := by omega
            have hLi : (L : Int) ≤ 32 := by omega
            obtain ⟨mL, dL⟩ := qW_run (m := L) (by omega)
            have hqi3 : (q3 : Int) < 32 := by omega
            clear hL
            go_wp2_with fail
            refine (b10AtV w.heap.size a2 n2 ca2 4 8 hn2 (by decide) (by decide) (by decide) v2 HC2.out).mono ?_
            rintro e v2 ⟨rfl, hrd, rfl⟩
            generalize atN v2 a2 n2 4 8 = q4 at hrd ⊢
            obtain ⟨J, hJ⟩ : ∃ Q, Q = 1 + q4 := ⟨_, rfl⟩
            have qJ : (1 : Int) + (q4 : Int) = (J : Int) := by omega
            have hJ1 : 1 ≤ J := by omega
            have hJ8 : J ≤ 8 := by omega
            have hJi : (J : Int) ≤ 8 := by omega
            obtain ⟨mJ, dJ⟩ := hW_run (m := J) (by omega)
            have hqi4 : (q4 : Int) < 8 := by omega
            clear hJ
            go_wp2_with fail
            have HJN := j_in hL1 hL8 hM1 hM8 hB1 hB8 hJ1 hJ8
            have HGD := plan_good HJN
            refine (jerkOk hL1 hL8 hM1 hM8 hB1 hB8 hJ1 hJ8 v2).mono ?_
            rintro e v3 ⟨rfl, hb3⟩
            generalize (jkPlan (qW L) (hW M) (hW B) (hW J)).1 = r at HGD ⊢
            generalize (jkPlan (qW L) (hW M) (hW B) (hW J)).2.1 = h at HGD ⊢
            generalize (jkPlan (qW L) (hW M) (hW B) (hW J)).2.2 = c at HGD ⊢
            generalize qW L = lw at HJN HGD mL ⊢
            generalize hW J = jw at HJN HGD mJ ⊢
            generalize hW M = mw at HJN HGD nM ⊢
            generalize hW B = rw' at HJN HGD nB ⊢
            have HB3 := Lib.hid (HB2.out.trans (hb3.mono HB2.out.size))
            clear hb3 HB2 HC2
            unfold agg4
            go_wp2_with fail
            refine (timeOk HGD _).mono ?_
            rintro e v4 ⟨rfl, hb4⟩
            obtain ⟨P, hP⟩ : ∃ P, P = v3.heap.size := ⟨_, rfl⟩
            have HO4 := Lib.hid (show OwnC v4 P #[.float .f32 jw, .float .f32 r, .float .f32 h, .float .f32 c] 32 from (OwnC.new hP).below hb4 (OwnC.new hP).lt)
            have HB4 := Lib.hid ((HB3.out.alloc HB3.out.size _).trans (hb4.mono (by rw [World.size_alloc]; exact Nat.le_succ_of_le HB3.out.size)))
            have c0 : v4.cell? ⟨P, 0, none⟩ = some (.float .f32 jw) := by simpa using HO4.out.cell 0
            have c1 : v4.cell? ⟨P, 1, none⟩ = some (.float .f32 r) := by simpa using HO4.out.cell 1
            have c2 : v4.cell? ⟨P, 2, none⟩ = some (.float .f32 h) := by simpa using HO4.out.cell 2
            have c3 : v4.cell? ⟨P, 3, none⟩ = some (.float .f32 c) := by simpa using HO4.out.cell 3
            rw [← hP]
            clear hb4 hP HB3
            obtain ⟨s1, s2, s3, s4, s5, o1, o2, s6, o3, o4, o5, o6, s7⟩ := plan_tests HJN HGD
            obtain ⟨tn, _, tt0, tt9⟩ := total_ok HGD.pw
            have HTN := Lib.hid tn
            have HT0 := Lib.hid tt0
            have HT9 := Lib.hid tt9
            have vj := isN.nan HJN.nj
            have vr := isN.nan HGD.pw.nr
            have vh := isN.nan HGD.pw.nh
            have vt := isN.nan tn
            have vl := isN.nan HJN.nl
            have HJN := Lib.hid HJN
            have HWS := Lib.hid (fun k (hk : k ≤ 12) => way_steps HJN.out HGD hk)
            have HWE := Lib.hid (way_ends HJN.out HGD)
            have HWC := Lib.hid (fun t (nt : isN .f32 t = true) (t0 : 0 ≤ R .f32 t) (t9 : R .f32 t ≤ 64) w => wayOk HJN.out HGD nt t0 t9 w)
            have s1' : FloatKind.f32.format.order jw jw = some .eq := by simpa using s1
            clear s1
            obtain ⟨x1, y1⟩ := run_fopN (op := .mul) o1
            obtain ⟨x2, y2⟩ := run_fopN (op := .add) o2
            obtain ⟨x3, y3⟩ := run_fopN (op := .mul) o3
            obtain ⟨x4, y4⟩ := run_fopN (op := .add) o4
            obtain ⟨x5, y5⟩ := run_fopN (op := .mul) o5
            obtain ⟨x6, y6⟩ := run_fopN (op := .add) o6
            generalize hTT : planTime r h c = T at *
            clear hTT
            clear o1 o2 o3 o4 o5 o6 HGD tn tt0 tt9
            go_wp2_with fail
            clear c0 c1 c2 c3 s1' s2 s3 s4 s5 s6 s7 x1 x2 x3 x4 x5 x6 y1 y2 y3 y4 y5 y6 vr vh nM nB vT m1 d1 tl4 j1 k1 mL dL mJ dJ
            go_loopw [22, 23] (fun s i wr => ∃ k : Nat, k ≤ 13 ∧ i = .int .i64 k ∧ s = .float .f32 (wayB jw r h c T k) ∧ Hid (OwnC wr P #[.float .f32 jw, .float .f32 r, .float .f32 h, .float .f32 c] 32) ∧ Hid (Below w.heap.size w wr)) (fun _ i _ => 13 - (intOf i).toNat)
            case atStart => exact ⟨0, by decide, rfl, rfl, HO4, HB4⟩
            case round =>
              obtain ⟨k, hk13, rfl, rfl, HOW, HBW⟩ := hrel
              by_cases hle : k ≤ 12
              · have k0 : (0 : Int) ≤ (k : Int) := by omega
                have k1 : (k : Int) ≤ 12 := by omega
                obtain ⟨K, hK⟩ : ∃ K, K = k + 1 := ⟨_, rfl⟩
                have kK : (k : Int) + 1 = (K : Int) := by omega
                have hKi : (K : Int) ≤ 13 := by omega
                have HKK := Lib.hid hK
                clear hK
                have c0 : wr.cell? ⟨P, 0, none⟩ = some (.float .f32 jw) := by simpa using HOW.out.cell 0
                have c1 : wr.cell? ⟨P, 1, none⟩ = some (.float .f32 r) := by simpa using HOW.out.cell 1
                have c2 : wr.cell? ⟨P, 2, none⟩ = some (.float .f32 h) := by simpa using HOW.out.cell 2
                have c3 : wr.cell? ⟨P, 3, none⟩ = some (.float .f32 c) := by simpa using HOW.out.cell 3
                obtain ⟨t1, t2, t3, t4, _⟩ := tick_ok HTN.out HT0.out HT9.out hle
                obtain ⟨x1, y1⟩ := run_fopN (op := .mul) t1
                obtain ⟨x2, y2⟩ := run_fopN (op := .quo) t2
                have HCW := Lib.hid (HWC.out (tickF T k) t2 t3 (by grind) wr)
                have HST := Lib.hid (HWS.out k hle)
                have HVB := Lib.hid (wayB_N HWS.out (Nat.le_succ_of_le hle))
                clear t1 t2 t3 t4
                have HEW := Lib.hid (show wayB jw r h c T K = (pwTo jw r h c (tickF T k) 7).1 by rw [HKK.out]; rfl)
                go_wp2_with fail
                refine HCW.out.mono ?_
                rintro e w5 ⟨rfl, hb5⟩
                have HOX := Lib.hid (HOW.out.below hb5 HOW.out.lt)
                have HBX := Lib.hid (HBW.out.trans (hb5.mono HBW.out.size))
                obtain ⟨nx, sn1, sn2, sn3, sno⟩ := HST.out
                have ewk : wayK jw r h c T k = (pwTo jw r h c (tickF T k) 7).1 := rfl
                rw [ewk] at nx sno
                generalize (pwTo jw r h c (tickF T k) 7).1 = X at nx sno HEW ⊢
                generalize wayB jw r h c T k = b at sno sn3 HVB ⊢
                have vx := isN.nan nx
                have vb := isN.nan HVB.out
                obtain ⟨z1, u1⟩ := run_fopN (op := .add) sn1
                obtain ⟨z2, u2⟩ := run_fopN (op := .mul) sn2
                obtain ⟨z3, u3⟩ := run_fopN (op := .sub) sn3
                clear nx sn1 sn2 sn3 hb5 ewk c0 c1 c2 c3 x1 y1 x2 y2
                go_wp2_with fail
                exact ⟨⟨K, by omega, rfl, by rw [HEW.out], HOX, HBX⟩, by show 13 - ((K : Nat) : Int).toNat < 13 - ((k : Nat) : Int).toNat; omega⟩
              · have hkk : k = 13 := by omega
                subst hkk
                have c0 : wr.cell? ⟨P, 0, none⟩ = some (.float .f32 jw) := by simpa using HOW.out.cell 0
                have c1 : wr.cell? ⟨P, 1, none⟩ = some (.float .f32 r) := by simpa using HOW.out.cell 1
                have c2 : wr.cell? ⟨P, 2, none⟩ = some (.float .f32 h) := by simpa using HOW.out.cell 2
                have c3 : wr.cell? ⟨P, 3, none⟩ = some (.float .f32 c) := by simpa using HOW.out.cell 3
                obtain ⟨t1, t2, t3⟩ := late_ok HTN.out HT0.out HT9.out
                obtain ⟨x1, y1⟩ := run_fopN (op := .add) t1
                have HCW := Lib.hid (HWC.out (lateF T) t1 (by have := HT0.out; grind) (by grind) wr)
                obtain ⟨ny, E1, E2⟩ := HWE.out
                have HNB := Lib.hid (HWS.out 12 (Nat.le_refl _)).1
                have ewb : wayB jw r h c T 13 = wayK jw r h c T 12 := rfl
                rw [ewb]
                have HE1 := Lib.hid E1
                have HE2 := Lib.hid E2
                have HNY := Lib.hid ny
                clear t1 t2 t3 ewb E1 E2 ny
                generalize wayK jw r h c T 12 = b at HE1 HE2 HNB ⊢
                go_wp2_with fail
                refine HCW.out.mono ?_
                rintro e w5 ⟨rfl, hb5⟩
                have HBX := Lib.hid (HBW.out.trans (hb5.mono HBW.out.size))
                generalize (pwTo jw r h c (lateF T) 7).1 = X at HE2 HNY ⊢
                have vx := isN.nan HNY.out
                have vb := isN.nan HNB.out
                obtain ⟨a1', a2', a3', a4', a5', a6'⟩ := HE1.out
                obtain ⟨b1', b2', b3', _, _, b6'⟩ := HE2.out
                have HG1 := Lib.hid (fun w => b10GapN _ _ a1' a2' a3' w)
                have HG2 := Lib.hid (fun w => b10GapN _ _ b1' b2' b3' w)
                obtain ⟨z1, u1⟩ := run_fopN (op := .add) a4'
                obtain ⟨z2, u2⟩ := run_fopN (op := .mul) a5'
                clear a1' a2' a3' a4' a5' b1' b2' b3' hb5 c0 c1 c2 c3 x1 y1
                go_wp2_with fail
                refine (HG1.out _).mono ?_
                rintro e w6 ⟨rfl, rfl⟩
                go_wp2_with fail
                refine (HG2.out _).mono ?_
                rintro e w7 ⟨rfl, rfl⟩
                go_wp2_with fail
                go_ret
                refine ⟨?_, ?_⟩
                · first | rfl | (rw [b6']) | (simp [a6', b6'])
                · exact HBX.out
  · go_wp2_with fail
    refine (b10LongYes a1 a2 n1 n2 ca1 ca2 hsz w).mono ?_
    rintro e w ⟨rfl, rfl⟩
    go_wp2_with fail
    go_ret
    exact ⟨rfl, Below.refl _ _⟩
end Go.Proofs.Ytfpkdnopbnppmaa
