/- The law FnHulls walked. -/
import Derived.Test.YtkpjhoiaegioeaaHuX
namespace Go.Fl
open Ieee Go.RowKit
theorem OwnC1.bel {w w' : World} {b : Nat} {xs : List Cx} (h : OwnC1 w b xs) (hb : RowKit.Below w.heap.size w w') : OwnC1 w' b xs := h.far (lo := 0) (Far.below hb (Nat.le_refl _)) (Nat.zero_le _) h.1.lt
theorem CodeAt.up {w : World} {P P' : Nat} {a : Option Addr} {n : Nat} (h : CodeAt w P a n) (hp : P ≤ P') : CodeAt w P' a n := fun h0 => by
  obtain ⟨b, off, e, hb, hc⟩ := h h0
  exact ⟨b, off, e, by omega, hc⟩
theorem some_of_N {op : BinOp} {x y : Nat} (h : isN .f32 (fop op .f32 x y) = true) : floatBits op .f32 x y = some (fop op .f32 x y) := by
  unfold fop at h ⊢
  cases hb : floatBits op .f32 x y with
  | some r => rfl
  | none => rw [hb] at h; exfalso; revert h; decide +kernel
end Go.Fl
namespace Go.Proofs.Ytkpjhoiaegioeaa
open Go.RowKit Go.Fl

theorem subC_run {a b : Cx} (h : nN (minusF a b)) (w : World) : Sem.run Try.prog (binOp BinOp.sub 26 (cV a) (cV b)) w = .ok (cV (minusF a b)) w :=
  run_complex_sum (P := Try.prog) w .sub (Or.inr rfl) 26 .f32 a.1 a.2 b.1 b.2 (minusF a b).1 (minusF a b).2 (by unfold cSumBits; rw [some_of_N (op := .sub) (x := a.1) (y := b.1) h.1, some_of_N (op := .sub) (x := a.2) (y := b.2) h.2]; rfl)
theorem addC_run {a b : Cx} (h : nN (plusF a b)) (w : World) : Sem.run Try.prog (binOp BinOp.add 26 (cV a) (cV b)) w = .ok (cV (plusF a b)) w :=
  run_complex_sum (P := Try.prog) w .add (Or.inl rfl) 26 .f32 a.1 a.2 b.1 b.2 (plusF a b).1 (plusF a b).2 (by unfold cSumBits; rw [some_of_N (op := .add) (x := a.1) (y := b.1) h.1, some_of_N (op := .add) (x := a.2) (y := b.2) h.2]; rfl)

set_option maxHeartbeats 16000000 in
set_option maxRecDepth 100000 in
theorem lawH (a1 a2 : Option Addr) (n1 n2 ca1 ca2 : Nat) (w : World) (h1 : CodeAt w w.heap.size a1 n1) (h2 : CodeAt w w.heap.size a2 n2) :
    Calls Try.prog 3 #[.slice a1 n1 ca1, .slice a2 n2 ca2] w fun e w' => e = .returned (.bool true) ∧ Below w.heap.size w w' := by
  have H1 := Lib.hid h1
  have H2 := Lib.hid h2
  clear h1 h2
  go_enter Try.func3, Try.ntmps3
  by_cases hsz : n1 ≤ 1048576 ∧ n2 ≤ 1048576
  · obtain ⟨hn1, hn2⟩ := hsz
    go_wp2_with fail
    refine (b10LongNo a1 a2 n1 n2 ca1 ca2 hn1 hn2 w).mono ?_
    rintro e w ⟨rfl, rfl⟩
    go_wp2_with fail
    have HB0 := Lib.hid (show Below w.heap.size w (w.alloc (.cells #[] 26)) from Below.alloc (Below.refl _ _) (Nat.le_refl _) _)
    refine (b10At w.heap.size a2 n2 ca2 0 8 hn2 (by decide) (by decide) (by decide) _ (H2.out.far (Far.below HB0.out (Nat.le_refl _)))).mono ?_
    rintro e wx ⟨⟨r0, rfl, hr0⟩, hwx⟩
    subst hwx
    obtain ⟨N, hN⟩ : ∃ N, N = 3 + r0 := ⟨_, rfl⟩
    have q0 : (3 : Int) + (r0 : Int) = (N : Int) := by omega
    have hN3 : 3 ≤ N := by omega
    have hN10 : N ≤ 10 := by omega
    have hN10' : (N : Int) ≤ 10 := by omega
    clear hN
    go_wp2_with fail
    go_loopw [5, 7] (fun o i wr => ∃ (k g cap : Nat) (xs : List Cx), k ≤ N ∧ i = .int .i64 k ∧ o = .slice (some ⟨g, 0, none⟩) k cap ∧ Hid (xs.length = k) ∧ Hid (∀ z, z ∈ xs → canP z) ∧ w.heap.size ≤ g ∧ Hid (ORow wr 26 1 g cap k (xs.map cV)) ∧ Hid (Below w.heap.size w wr)) (fun _ i _ => N - (intOf i).toNat)
    case atStart => exact ⟨0, w.heap.size, 0, [], Nat.zero_le _, rfl, rfl, Lib.hid rfl, Lib.hid (fun z hz => by cases hz), Nat.le_refl _, Lib.hid (ORow.new _ _ _), HB0⟩
    case round =>
      clear q0
      obtain ⟨k, g, cap, xs, hk, rfl, rfl, HXL, HXC, hg, HR, HB⟩ := hrel
      by_cases hlt : k < N
      · have k0 : (0 : Int) ≤ (k : Int) := by omega
        have k1 : (k : Int) < (N : Int) := by omega
        obtain ⟨K, hK⟩ : ∃ K, K = k + 1 := ⟨_, rfl⟩
        have kK : IntKind.i64.wrap ((k : Int) + 1) = (K : Int) := by rw [IntKind.wrap_i64]; omega
        have HKK := Lib.hid hK
        have kK0 : (0 : Int) ≤ (K : Int) := by omega
        have kK1 : (K : Int) ≤ 10 := by omega
        have hK9 : K ≤ 10 := by omega
        clear hK
        go_wp2_with fail
        refine (b10At w.heap.size a1 n1 ca1 k 17 hn1 (by omega) (by decide) (by decide) wr (H1.out.far (Far.below HB.out (Nat.le_refl _)))).mono ?_
        rintro e wr ⟨⟨r1, rfl, hr1⟩, rfl⟩
        obtain ⟨m1, d1⟩ := dH_run (m := (r1 : Int) - 8) (by omega)
        have dz : ∀ w : World, w.drewN 0 = w := World.drewN_zero
        have hr1' : (r1 : Int) < 17 := by omega
        go_wp2_with fail
        refine (b10At w.heap.size a2 n2 ca2 K 17 hn2 (by omega) (by decide) (by decide) wr (H2.out.far (Far.below HB.out (Nat.le_refl _)))).mono ?_
        rintro e wr ⟨⟨r2, rfl, hr2⟩, rfl⟩
        obtain ⟨m2, d2⟩ := dH_run (m := (r2 : Int) - 8) (by omega)
        have hr2' : (r2 : Int) < 17 := by omega
        have hzw := HB.out.size
        go_wp2_with (first | (at_builtin; refine wpList_appC rfl _ _ rfl _ _ [(dH ((r1 : Int) - 8), dH ((r2 : Int) - 8))] rfl (by simp) (by simp) _ _ _ _ _ _ _ _ rfl rfl rfl (by first | rfl | simp) HR.out (by omega) ?_; intro b6 cap6 w6 hr6 hbb6 hgr6; have HR6 := Lib.hid hr6; have HB6 := Lib.hid hbb6; have HG6 := Lib.hid hgr6; clear hr6 hbb6 hgr6))
        have hb6 : b6 = g ∨ wr.heap.size < b6 := HB6.out
        have hgB := HG6.out.below (B := w.heap.size) hg hzw
        have hk9 := HKK.out
        exact ⟨⟨K, b6, cap6, xs ++ [(dH ((r1 : Int) - 8), dH ((r2 : Int) - 8))], by omega, by first | rfl | (rw [hk9]; go_num), by rw [hk9] <;> go_num, Lib.hid (by rw [List.length_append, HXL.out, hk9]; rfl), Lib.hid (fun z hz => by
          rcases List.mem_append.1 hz with h | h
          · exact HXC.out z h
          · exact ⟨((r1 : Int) - 8, (r2 : Int) - 8), by simpa using h, ⟨by show ((r1 : Int) - 8).natAbs ≤ 8; omega, by show ((r2 : Int) - 8).natAbs ≤ 8; omega⟩⟩), by omega, Lib.hid (by rw [hk9]; exact HR6.out), Lib.hid (HB.out.trans hgB)⟩, by rw [hk9]; exact meas_upI k1⟩
      · have hkN : k = N := by omega
        subst hkN
        have k1 : ¬ (k : Int) < (k : Int) := by omega
        have HO := Lib.hid (OwnC1.row HR.out HXL.out.symm)
        have hzw := HB.out.size
        have hgl := HR.out.lt
        clear HR H1
        have HC2 := H2
        clear H2
        go_wp2_with fail
        have HG := Lib.hid (fun z hz => (HXC.out z hz).good)
        refine (hullOfPoints 0 wr.heap.size (some ⟨g, 0, none⟩) cap k xs HXL.out (by omega) (by omega) HG.out wr (HO.out.sl (Nat.zero_le _) hgl) (Nat.le_refl _)).mono ?_
        rintro e v1 ⟨⟨gH, capH, mH, H, rfl, hmH, hgH, hoH, hrH⟩, hbl⟩
        have HMH := Lib.hid hmH
        have HOH := Lib.hid hoH
        have HRH := Lib.hid hrH
        have HXO := Lib.hid (HO.out.bel hbl)
        have HB1 := Lib.hid (HB.out.trans (hbl.mono hzw))
        have hlen1 : 1 ≤ mH ∧ mH ≤ k := by
          obtain ⟨L, ha, hm, he, hl⟩ := hrH.hull
          have hne : L ≠ [] := fun e => by
            have h0 : 0 < xs.length := by rw [HXL.out]; omega
            have : hz (cAt xs 0) ∈ L := (hm _).2 (List.mem_map.2 ⟨_, cAt_mem h0, rfl⟩)
            rw [e] at this; cases this
          have hlen := hull_len ha hne
          have eH : H.length = (hullZ L).length := by rw [← he, List.length_map]
          rw [HXL.out] at hl
          omega
        have HCH := Lib.hid (show ∀ z, z ∈ H → canP z from fun z hz => HXC.out z (hrH.sub z hz))
        have hglH : gH < v1.heap.size := hoH.1.lt
        obtain ⟨hl1, hl2⟩ := hlen1
        clear hmH hoH hrH hbl HO HB hgH
        go_wp2_with fail
        refine (hullOfPoints 0 v1.heap.size (some ⟨gH, 0, none⟩) capH mH H HMH.out.symm hl1 (by omega) (fun z hz => (HCH.out z hz).good) v1 (HOH.out.sl (Nat.zero_le _) hglH) (Nat.le_refl _)).mono ?_
        rintro e v2 ⟨⟨gG, capG, mG, H2, rfl, hmG, hgG, hoG, hrG⟩, hbl⟩
        have hsame := (hull_same HXC.out (by rw [HXL.out]; omega) HRH.out hrG).1
        subst hsame
        have hmm : mG = mH := by rw [hmG, HMH.out]
        subst hmm
        have hglG : gG < v2.heap.size := hoG.1.lt
        have HSA := Lib.hid (sameAllN 0 v2.heap.size 0 v2.heap.size (some ⟨gG, 0, none⟩) (some ⟨gH, 0, none⟩) capG capH mG H2 HMH.out.symm (by omega) (fun z hz => (HCH.out z hz).bits) v2 (hoG.sl (Nat.zero_le _) hglG) ((HOH.out.bel hbl).sl (Nat.zero_le _) (Nat.lt_of_lt_of_le hglH hbl.size)))
        have HX2 := Lib.hid (HXO.out.bel hbl)
        have HH2 := Lib.hid (HOH.out.bel hbl)
        have HB2 := Lib.hid (HB1.out.trans (hbl.mono HB1.out.size))
        clear hmG hoG hrG hbl hgG HXO HOH HB1
        have l1 : ¬ (mG : Int) < 1 := by omega
        have l2 : ¬ (k : Int) < (mG : Int) := by omega
        go_wp2_with fail
        refine HSA.out.mono ?_
        rintro e v3 ⟨rfl, q3, rfl⟩
        go_wp2_with fail
        have HLF := Lib.hid (show ∀ i, i < mG → ∀ j, j < k → 0 ≤ turnZ (hz (cAt H2 i)) (hz (cAt H2 ((i + 1) % mG))) (hz (cAt xs j)) from fun i hi j hj => by
          obtain ⟨L, ha, hm, he, _⟩ := HRH.out.hull
          have eH : H2.length = (hullZ L).length := by rw [← he, List.length_map]
          have hp : hz (cAt xs j) ∈ L := (hm _).2 (List.mem_map.2 ⟨_, cAt_mem (by rw [HXL.out]; exact hj), rfl⟩)
          have := hull_left ha hp (i := i) (by rw [← eH, ← HMH.out]; exact hi)
          rw [← eH, ← HMH.out, ← he, zAt_map_hz (by rw [← HMH.out]; exact hi), zAt_map_hz (by rw [← HMH.out]; exact Nat.mod_lt _ (by omega))] at this
          exact this)
        obtain ⟨vA, hvA⟩ : ∃ x : World, x = v2.drewN q3 := ⟨_, rfl⟩
        have HX3 := Lib.hid (show OwnC1 vA g xs by rw [hvA]; exact HX2.out.bel (below_dr (Below.refl _ _) q3))
        have HH3 := Lib.hid (show OwnC1 vA gH H2 by rw [hvA]; exact HH2.out.bel (below_dr (Below.refl _ _) q3))
        have HB3 := Lib.hid (show Below w.heap.size w vA by rw [hvA]; exact below_dr HB2.out q3)
        rw [← hvA]
        clear hvA HX2 HH2 HB2 HSA HRH hglG hglH hgl
        go_loopw [90] (fun iv wr => ∃ i q : Nat, i ≤ mG ∧ iv = .int .i64 i ∧ wr = vA.drewN q) (fun iv _ => mG - (intOf iv).toNat)
        case atStart => exact ⟨0, 0, Nat.zero_le _, rfl, rfl⟩
        case round =>
          obtain ⟨i, qi, hi, rfl, rfl⟩ := hrel
          by_cases hlt2 : i < mG
          · have i0 : (0 : Int) ≤ (i : Int) := by omega
            have i1 : (i : Int) < (mG : Int) := by omega
            obtain ⟨i2, hi2⟩ : ∃ j, j = (i + 1) % mG := ⟨_, rfl⟩
            have hi2n : i2 < mG := by rw [hi2]; exact Nat.mod_lt _ (by omega)
            have i3 : (0 : Int) ≤ (i2 : Int) := by omega
            have i4 : (i2 : Int) < (mG : Int) := by omega
            have i5 : ((i : Int) + 1) % (mG : Int) = (i2 : Int) := by rw [hi2]; rfl
            have i6 : ((i : Int) + 1).tmod (mG : Int) = (i2 : Int) := by rw [Int.tmod_eq_emod_of_nonneg (by omega)]; exact i5
            have i7 : ¬ (mG : Int) = 0 := by omega
            have i8 : (mG : Int) ≤ 10 := by omega
            have c1 := HH3.out.2 i (by rw [← HMH.out]; exact hlt2)
            have c2 := HH3.out.2 i2 (by rw [← HMH.out]; exact hi2n)
            have hlf := HLF.out i hlt2
            rw [← hi2] at hlf
            have gp := (HCH.out _ (cAt_mem (xs := H2) (show i < H2.length by rw [← HMH.out]; exact hlt2))).good
            have gq := (HCH.out _ (cAt_mem (xs := H2) (show i2 < H2.length by rw [← HMH.out]; exact hi2n))).good
            obtain ⟨p, hp⟩ : ∃ p, p = cAt H2 i := ⟨_, rfl⟩
            obtain ⟨q, hq⟩ : ∃ p, p = cAt H2 i2 := ⟨_, rfl⟩
            rw [← hp] at c1 hlf gp
            rw [← hq] at c2 hlf gq
            have HLF2 := Lib.hid (fun j (hj : j < k) => left_facts gp gq (HXC.out _ (cAt_mem (xs := xs) (show j < xs.length by rw [HXL.out]; exact hj))).good (hlf j hj))
            unfold cV at c1 c2
            clear hp hq hi2 hlf gp gq
            go_wp2_with fail
            go_loopw [107] (fun jv wr => ∃ j qj : Nat, j ≤ k ∧ jv = .int .i64 j ∧ wr = vA.drewN qj) (fun jv _ => k - (intOf jv).toNat)
            case atStart => exact ⟨0, qi, Nat.zero_le _, rfl, rfl⟩
            case round =>
              obtain ⟨j, qj, hj, rfl, rfl⟩ := hrel
              by_cases hlt3 : j < k
              · have j0 : (0 : Int) ≤ (j : Int) := by omega
                have j1 : (j : Int) < (k : Int) := by omega
                have c3 := HX3.out.2 j (by rw [HXL.out]; exact hlt3)
                obtain ⟨t, ho⟩ := HLF2.out j hlt3
                obtain ⟨z, hzz⟩ : ∃ p, p = cAt xs j := ⟨_, rfl⟩
                rw [← hzz] at c3 t ho
                have hs1 : ∀ w, Sem.run Try.prog (binOp BinOp.sub 26 (cV q) (cV p)) w = .ok (cV (minusF q p)) w := fun w => subC_run ⟨t.a.1.num, t.a.2.num⟩ w
                have hs2 : ∀ w, Sem.run Try.prog (binOp BinOp.sub 26 (cV z) (cV p)) w = .ok (cV (minusF z p)) w := fun w => subC_run ⟨t.b.1.num, t.b.2.num⟩ w
                have v1 := t.a.nan.1
                have v2 := t.a.nan.2
                have v3 := t.b.nan.1
                have v4 := t.b.nan.2
                obtain ⟨m1, d1⟩ := run_fopN (op := .mul) t.m1
                obtain ⟨m2, d2⟩ := run_fopN (op := .mul) t.m2
                obtain ⟨m3, d3⟩ := run_fopN (op := .sub) t.s
                have dz : ∀ w : World, w.drewN 0 = w := World.drewN_zero
                unfold leftF at ho
                unfold cV at c3 hs1 hs2
                clear t hzz
                go_wp2_with fail
                go_quiet (fail)
                go_wp2_with fail
                exact ⟨⟨j + 1, _, by omega, by go_num, rfl⟩, meas_upI j1⟩
              · have j1 : ¬ (j : Int) < (k : Int) := by omega
                go_wp2_with fail
                exact ⟨⟨i + 1, _, by omega, by go_num, rfl⟩, meas_upI i1⟩
          · have i1 : ¬ (i : Int) < (mG : Int) := by omega
            obtain ⟨vB, hvB⟩ : ∃ x : World, x = vA.drewN qi := ⟨_, rfl⟩
            have HX4 := Lib.hid (show OwnC1 vB g xs by rw [hvB]; exact HX3.out.bel (below_dr (Below.refl _ _) qi))
            have HB4 := Lib.hid (show Below w.heap.size w vB by rw [hvB]; exact below_dr HB3.out qi)
            rw [← hvB]
            clear hvB HX3 HH3 HB3 HLF HMH HCH hl1 hl2 l1 l2 hlt2
            have HCC := Lib.hid (show CodeAt vB w.heap.size a2 n2 from HC2.out.far (Far.below HB4.out (Nat.le_refl _)))
            have dz : ∀ w : World, w.drewN 0 = w := World.drewN_zero
            go_wp2_with fail
            refine (b10At w.heap.size a2 n2 ca2 2 9 hn2 (by decide) (by decide) (by decide) vB HCC.out).mono ?_
            rintro e wx ⟨⟨r2, rfl, hr2⟩, hwx⟩
            subst hwx
            obtain ⟨m1, d1⟩ := dH_run (m := (r2 : Int) - 6) (by omega)
            have hr2' : (r2 : Int) < 9 := by omega
            go_wp2_with fail
            refine (b10At w.heap.size a2 n2 ca2 3 9 hn2 (by decide) (by decide) (by decide) wx HCC.out).mono ?_
            rintro e vB ⟨⟨r3, rfl, hr3⟩, hwx⟩
            subst hwx
            obtain ⟨m2, d2⟩ := dH_run (m := (r3 : Int) - 6) (by omega)
            have hr3' : (r3 : Int) < 9 := by omega
            go_wp2_with fail
            refine (b10At w.heap.size a2 n2 ca2 4 8 hn2 (by decide) (by decide) (by decide) vB HCC.out).mono ?_
            rintro e wx ⟨⟨r4, rfl, hr4⟩, hwx⟩
            subst hwx
            obtain ⟨m3, d3⟩ := dH_run (m := 1 + (r4 : Int)) (by omega)
            have hr4' : (r4 : Int) < 8 := by omega
            go_wp2_with fail
            refine (b10At w.heap.size a2 n2 ca2 5 8 hn2 (by decide) (by decide) (by decide) wx HCC.out).mono ?_
            rintro e vB ⟨⟨r5, rfl, hr5⟩, hwx⟩
            subst hwx
            obtain ⟨m4, d4⟩ := dH_run (m := 1 + (r5 : Int)) (by omega)
            have hr5' : (r5 : Int) < 8 := by omega
            have pl : PX (dH ((r2 : Int) - 6), dH ((r3 : Int) - 6)) ((r2 : Int) - 6, (r3 : Int) - 6) 1 := ⟨dH_q (by omega), dH_q (by omega)⟩
            have pd : PX (dH (1 + (r4 : Int)), dH (1 + (r5 : Int))) (1 + (r4 : Int), 1 + (r5 : Int)) 1 := ⟨dH_q (by omega), dH_q (by omega)⟩
            have ll : low ((r2 : Int) - 6, (r3 : Int) - 6) 10 := ⟨by show ((r2 : Int) - 6).natAbs ≤ 10; omega, by show ((r3 : Int) - 6).natAbs ≤ 10; omega⟩
            have ph := pl.plus pd (ll.mono (by decide)) ⟨by show (1 + (r4 : Int)).natAbs ≤ _; omega, by show (1 + (r5 : Int)).natAbs ≤ _; omega⟩
            have lh : low (addZ ((r2 : Int) - 6, (r3 : Int) - 6) (1 + (r4 : Int), 1 + (r5 : Int))) 10 := ⟨by show ((r2 : Int) - 6 + (1 + (r4 : Int))).natAbs ≤ 10; omega, by show ((r3 : Int) - 6 + (1 + (r5 : Int))).natAbs ≤ 10; omega⟩
            have hadd : ∀ w, Sem.run Try.prog (binOp BinOp.add 26 (cV (dH ((r2 : Int) - 6), dH ((r3 : Int) - 6))) (cV (dH (1 + (r4 : Int)), dH (1 + (r5 : Int))))) w = .ok (cV (plusF (dH ((r2 : Int) - 6), dH ((r3 : Int) - 6)) (dH (1 + (r4 : Int)), dH (1 + (r5 : Int))))) w := fun w => addC_run ⟨ph.1.num, ph.2.num⟩ w
            have hbox := box_ok pl ph ll lh (by show (r2 : Int) - 6 < (r2 : Int) - 6 + (1 + (r4 : Int)); omega) (by show (r2 : Int) - 6 + (1 + (r4 : Int)) ≤ (r2 : Int) - 6 + 8; omega) (by show (r3 : Int) - 6 < (r3 : Int) - 6 + (1 + (r5 : Int)); omega) (by show (r3 : Int) - 6 + (1 + (r5 : Int)) ≤ (r3 : Int) - 6 + 8; omega)
            have hv1 : V .f32 (dH ((r2 : Int) - 6)) < V .f32 (plusF (dH ((r2 : Int) - 6), dH ((r3 : Int) - 6)) (dH (1 + (r4 : Int)), dH (1 + (r5 : Int)))).1 := by
              rw [pl.1.val, ph.1.val]
              exact Int.mul_lt_mul_of_pos_right (by show (r2 : Int) - 6 < (r2 : Int) - 6 + (1 + (r4 : Int)); omega) (pow_pos_i _)
            have hv2 : V .f32 (dH ((r3 : Int) - 6)) < V .f32 (plusF (dH ((r2 : Int) - 6), dH ((r3 : Int) - 6)) (dH (1 + (r4 : Int)), dH (1 + (r5 : Int)))).2 := by
              rw [pl.2.val, ph.2.val]
              exact Int.mul_lt_mul_of_pos_right (by show (r3 : Int) - 6 < (r3 : Int) - 6 + (1 + (r5 : Int)); omega) (pow_pos_i _)
            obtain ⟨LO, hLO⟩ : ∃ z : Cx, z = (dH ((r2 : Int) - 6), dH ((r3 : Int) - 6)) := ⟨_, rfl⟩
            obtain ⟨HI, hHI⟩ : ∃ z : Cx, z = plusF (dH ((r2 : Int) - 6), dH ((r3 : Int) - 6)) (dH (1 + (r4 : Int)), dH (1 + (r5 : Int))) := ⟨_, rfl⟩
            have HLO := Lib.hid (show isH LO by rw [hLO]; exact ⟨_, pl, ll⟩)
            have HHI := Lib.hid (show isH HI by rw [hHI]; exact ⟨_, ph, lh⟩)
            rw [← hHI, ← hLO] at hbox
            rw [← hHI] at hadd hv1 hv2
            rw [show dH ((r2 : Int) - 6) = LO.1 by rw [hLO]] at hv1
            rw [show dH ((r3 : Int) - 6) = LO.2 by rw [hLO]] at hv2
            have HBOX := Lib.hid hbox
            have HV1 := Lib.hid hv1
            have HV2 := Lib.hid hv2
            unfold cV at hadd
            clear pl pd ll ph lh hbox hv1 hv2 HCC
            go_wp2_with fail
            rw [← hHI, show dH ((r2 : Int) - 6) = LO.1 by rw [hLO], show dH ((r3 : Int) - 6) = LO.2 by rw [hLO]]
            clear hHI hLO hadd m1 d1 m2 d2 m3 d3 m4 d4 hr2' hr3' hr4' hr5'
            have HXH := Lib.hid (show ∀ z, z ∈ xs → isH z from fun z hz => (HXC.out z hz).isH)
            have HX5 := Lib.hid (show ∀ z, z ∈ xs → nN z ∧ within (RP z) 5 from fun z hz => ⟨(HXH.out z hz).ok.1.1, (HXH.out z hz).ok.2⟩)
            have hgB := HX4.out.1.lt
            refine (clipBox (a := LO) (b := HI) 0 vB.heap.size (some ⟨g, 0, none⟩) cap k HXL.out hN3 (by omega) (fun z hz => (HX5.out z hz).1) HBOX.out.ol.1 HBOX.out.oh.1 HV1.out HV2.out (fun kk hkk _ => box_clip_ok HBOX.out HX5.out kk hkk) vB (HX4.out.sl (Nat.zero_le _) hgB) (Nat.le_refl _)).mono ?_
            rintro e vC ⟨⟨ao', capC, kk, rfl, hcond, hkk4, hslc⟩, hbl⟩
            have HXC2 := Lib.hid (HX4.out.bel hbl)
            have HB5 := Lib.hid (HB4.out.trans (hbl.mono HB4.out.size))
            have hgC : g < vC.heap.size := Nat.lt_of_lt_of_le hgB hbl.size
            obtain ⟨Z, hZ⟩ : ∃ Z, Z = boxTo xs LO HI kk := ⟨_, rfl⟩
            have HIN := Lib.hid (show 3 ≤ Z.length → ∀ z, z ∈ Z → nN z ∧ within (RP z) 6 ∧ (R .f32 LO.1 - 5 / 1000 ≤ R .f32 z.1 ∧ R .f32 z.1 ≤ R .f32 HI.1 + 5 / 1000 ∧ R .f32 LO.2 - 5 / 1000 ≤ R .f32 z.2 ∧ R .f32 z.2 ≤ R .f32 HI.2 + 5 / 1000) from fun h3 z hz => by
              rw [hZ] at h3 hz
              have hk4 : kk = 4 := by rcases hcond with h | h; omega; exact h
              subst hk4
              obtain ⟨u1, u2, u3⟩ := box_in HBOX.out HX5.out 4 (Nat.le_refl _) z hz
              have e4 : (((4 : Nat) : Int) : Rat) = 4 := rfl
              rw [e4] at u2 u3
              have y0 : -(1 / 1000) - 4 / 65536 ≤ R .f32 z.2 - R .f32 LO.2 := u3 0 (by decide)
              have y1 : -(1 / 1000) - 4 / 65536 ≤ R .f32 HI.1 - R .f32 z.1 := u3 1 (by decide)
              have y2 : -(1 / 1000) - 4 / 65536 ≤ R .f32 HI.2 - R .f32 z.2 := u3 2 (by decide)
              have y3 : -(1 / 1000) - 4 / 65536 ≤ R .f32 z.1 - R .f32 LO.1 := u3 3 (by decide)
              exact ⟨u1, u2.mono (by grind), by grind, by grind, by grind, by grind⟩)
            have HSZ := Lib.hid (show SlC vC 0 vC.heap.size ao' Z by rw [hZ]; exact hslc)
            rw [← hZ]
            obtain ⟨mZ, hmZ⟩ : ∃ m, m = Z.length := ⟨_, rfl⟩
            rw [← hmZ]
            have HMZ := Lib.hid hmZ
            have hmZ9 : (mZ : Int) ≤ 1000 := by
              have e1 := boxTo_len xs LO HI kk
              have e2 : 2 ^ kk ≤ 2 ^ 4 := Nat.pow_le_pow_right (by decide) hkk4
              have e3 := Nat.mul_le_mul e2 (show xs.length ≤ 10 by rw [HXL.out]; omega)
              rw [hZ] at hmZ
              omega
            clear hbl hcond hslc hZ hmZ HX4 HB4 hkk4
            go_wp2_with fail
            refine (clipLeft (a := LO) (b := HI) 0 vC.heap.size (some ⟨g, 0, none⟩) cap k HXL.out hN3 (by omega) (fun z hz => (HX5.out z hz).1) HBOX.out.ol.1 HBOX.out.oh.1 (Int.ne_of_lt HV1.out) (clip_ok (fun z hz => (HXH.out z hz).ok.1) HLO.out.ok.1 HHI.out.ok.1) vC (HXC2.out.sl (Nat.zero_le _) hgC) (Nat.le_refl _)).mono ?_
            rintro e vD ⟨⟨gL, capL, mL, rfl, hmL, hgL, hoL⟩, hbl⟩
            have HX6 := Lib.hid (HXC2.out.bel hbl)
            have HB6 := Lib.hid (HB5.out.trans (hbl.mono HB5.out.size))
            have HSZ2 := Lib.hid (HSZ.out.far (Far.below hbl (Nat.le_refl _)))
            have HOL := Lib.hid hoL
            have HML := Lib.hid hmL
            have hgD : g < vD.heap.size := Nat.lt_of_lt_of_le hgC hbl.size
            have hszD := hbl.size
            clear hmL hgL hoL hbl HXC2 HB5 HSZ
            go_wp2_with fail
            refine (clipLeft (a := HI) (b := LO) 0 vD.heap.size (some ⟨g, 0, none⟩) cap k HXL.out hN3 (by omega) (fun z hz => (HX5.out z hz).1) HBOX.out.oh.1 HBOX.out.ol.1 (Ne.symm (Int.ne_of_lt HV1.out)) (clip_ok (fun z hz => (HXH.out z hz).ok.1) HHI.out.ok.1 HLO.out.ok.1) vD (HX6.out.sl (Nat.zero_le _) hgD) (Nat.le_refl _)).mono ?_
            rintro e vE ⟨⟨gR, capR, mR, rfl, hmR, hgR, hoR⟩, hbl⟩
            have HX7 := Lib.hid (HX6.out.bel hbl)
            have HB7 := Lib.hid (HB6.out.trans (hbl.mono HB6.out.size))
            have HSZ3 := Lib.hid (HSZ2.out.far (lo := 0) (hi := vC.heap.size) (Far.below hbl hszD))
            have HOL2 := Lib.hid (HOL.out.bel hbl)
            have HOR := Lib.hid hoR
            have HMR := Lib.hid hmR
            have hgE : g < vE.heap.size := Nat.lt_of_lt_of_le hgD hbl.size
            clear hmR hgR hoR hbl HX6 HB6 HSZ2 HOL hszD
            go_wp2_with fail
            have n1 := HLO.out.ok.1.1
            have n2 := HHI.out.ok.1.1
            have w1 := HLO.out.ok.2
            have w2 := HHI.out.ok.2
            have vl1 := isN.nan n1.1
            have vl2 := isN.nan n1.2
            have vh1 := isN.nan n2.1
            have vh2 := isN.nan n2.2
            obtain ⟨lx, hlx⟩ : ∃ z, z = LO.1 := ⟨_, rfl⟩
            obtain ⟨ly, hly⟩ : ∃ z, z = LO.2 := ⟨_, rfl⟩
            obtain ⟨hx, hhx⟩ : ∃ z, z = HI.1 := ⟨_, rfl⟩
            obtain ⟨hy, hhy⟩ : ∃ z, z = HI.2 := ⟨_, rfl⟩
            have HW := Lib.hid (show (isN .f32 lx = true ∧ isN .f32 ly = true ∧ isN .f32 hx = true ∧ isN .f32 hy = true) ∧ (-6 ≤ R .f32 lx ∧ R .f32 lx ≤ 6) ∧ (-6 ≤ R .f32 ly ∧ R .f32 ly ≤ 6) ∧ (-6 ≤ R .f32 hx ∧ R .f32 hx ≤ 6) ∧ (-6 ≤ R .f32 hy ∧ R .f32 hy ≤ 6) from by
              rw [hlx, hly, hhx, hhy]
              obtain ⟨a1, a2, a3, a4⟩ := w1
              obtain ⟨b1, b2, b3, b4⟩ := w2
              have a1 : -5 ≤ R .f32 LO.1 := a1
              have a2 : R .f32 LO.1 ≤ 5 := a2
              have a3 : -5 ≤ R .f32 LO.2 := a3
              have a4 : R .f32 LO.2 ≤ 5 := a4
              have b1 : -5 ≤ R .f32 HI.1 := b1
              have b2 : R .f32 HI.1 ≤ 5 := b2
              have b3 : -5 ≤ R .f32 HI.2 := b3
              have b4 : R .f32 HI.2 ≤ 5 := b4
              exact ⟨⟨n1.1, n1.2, n2.1, n2.2⟩, ⟨by grind, by grind⟩, ⟨by grind, by grind⟩, ⟨by grind, by grind⟩, ⟨by grind, by grind⟩⟩)
            rw [← hlx] at vl1 HIN
            rw [← hly] at vl2 HIN
            rw [← hhx] at vh1 HIN
            rw [← hhy] at vh2 HIN
            rw [← hlx, ← hly, ← hhx, ← hhy]
            clear n1 n2 w1 w2 hlx hly hhx hhy
            go_loopw [200] (fun iv wr => ∃ i : Nat, i ≤ mZ ∧ iv = .int .i64 i ∧ wr = vE) (fun iv _ => mZ - (intOf iv).toNat)
            case atStart => exact ⟨0, Nat.zero_le _, rfl, rfl⟩
            case round =>
              obtain ⟨i, hi, rfl, rfl⟩ := hrel
              by_cases hlt4 : i < mZ
              · have i0 : (0 : Int) ≤ (i : Int) := by omega
                have i1' : (i : Int) < (mZ : Int) := by omega
                by_cases h3 : 3 ≤ mZ
                · have h3' : (3 : Int) ≤ (mZ : Int) := by omega
                  obtain ⟨bz, hbz, _, _, hcz⟩ := HSZ3.out (by rw [← HMZ.out]; omega)
                  have c1 := hcz i (by rw [← HMZ.out]; exact hlt4)
                  obtain ⟨u1, ⟨u2, u3, u4, u5⟩, u6, u7, u8, u9⟩ := HIN.out (by rw [← HMZ.out]; exact h3) _ (cAt_mem (xs := Z) (show i < Z.length by rw [← HMZ.out]; exact hlt4))
                  obtain ⟨⟨x, y⟩, hz⟩ : ∃ z, z = cAt Z i := ⟨_, rfl⟩
                  rw [← hz] at c1 u1 u2 u3 u4 u5 u6 u7 u8 u9
                  obtain ⟨⟨a1, a2, a3, a4⟩, ⟨b1, b2⟩, ⟨b3, b4⟩, ⟨b5, b6⟩, ⟨b7, b8⟩⟩ := HW.out
                  have vx : nanB .f32 x = false := isN.nan u1.1
                  have vy : nanB .f32 y = false := isN.nan u1.2
                  obtain ⟨s1, o1⟩ := below_no u1.1 a1 u2 u3 b1 b2 u6
                  obtain ⟨s2, o2⟩ := above_no u1.1 a3 u2 u3 b5 b6 u7
                  obtain ⟨s3, o3⟩ := below_no u1.2 a2 u4 u5 b3 b4 u8
                  obtain ⟨s4, o4⟩ := above_no u1.2 a4 u4 u5 b7 b8 u9
                  obtain ⟨m1, d1⟩ := run_fopN s1
                  obtain ⟨m2, d2⟩ := run_fopN s2
                  obtain ⟨m3, d3⟩ := run_fopN s3
                  obtain ⟨m4, d4⟩ := run_fopN s4
                  unfold cV at c1
                  subst hbz
                  clear hcz hz u1 u2 u3 u4 u5 u6 u7 u8 u9 a1 a2 a3 a4 b1 b2 b3 b4 b5 b6 b7 b8 s1 s2 s3 s4
                  go_wp2_with fail
                  exact ⟨⟨i + 1, by omega, by go_num, trivial⟩, meas_upI i1'⟩
                · have h3' : ¬ (3 : Int) ≤ (mZ : Int) := by omega
                  go_wp2_with fail
                  exact ⟨⟨i + 1, by omega, by go_num, trivial⟩, meas_upI i1'⟩
              · have i1' : ¬ (i : Int) < (mZ : Int) := by omega
                have e6 : ∀ z, z ∈ xs → nN z ∧ within (RP z) 6 := fun z hz => ⟨(HX5.out z hz).1, (HX5.out z hz).2.mono (by grind)⟩
                have e7 := clip_6 HXH.out HLO.out HHI.out
                have e8 := clip_6 HXH.out HHI.out HLO.out
                have hL1 := clipTo_len xs LO HI xs.length
                have hL2 := clipTo_len xs HI LO xs.length
                have hne : (RP HI).1 - (RP LO).1 ≠ 0 := fun e => by
                  have h9 : R .f32 LO.1 < R .f32 HI.1 := R_lt.2 HV1.out
                  have e : R .f32 HI.1 - R .f32 LO.1 = 0 := e
                  grind
                obtain ⟨ab1, ab2⟩ := area_both HXH.out HLO.out HHI.out hne (by rw [HXL.out]; omega) (by rw [HXL.out]; omega) (fun z hz => (e7 z hz).2) (fun z hz => (e8 z hz).2)
                obtain ⟨f1, f2, f3, f4⟩ := areas_last e6 e7 e8 (by rw [HXL.out]; omega) (by rw [HXL.out] at hL1 ⊢; omega) (by rw [HXL.out] at hL2 ⊢; omega) ab1 ab2
                have HA1 := Lib.hid (b10AreaN 0 wr.heap.size (some ⟨gL, 0, none⟩) capL mL (clipTo xs LO HI xs.length) (by rw [HXL.out, HML.out]) (by rw [HML.out]; rw [HXL.out] at hL1; omega) e7 wr ((by have := HOL2.out; rw [HXL.out]; exact this : OwnC1 wr gL (clipTo xs LO HI xs.length)).sl (Nat.zero_le _) HOL2.out.1.lt))
                have HA2 := Lib.hid (b10AreaN 0 wr.heap.size (some ⟨gR, 0, none⟩) capR mR (clipTo xs HI LO xs.length) (by rw [HXL.out, HMR.out]) (by rw [HMR.out]; rw [HXL.out] at hL2; omega) e8 wr ((by have := HOR.out; rw [HXL.out]; exact this : OwnC1 wr gR (clipTo xs HI LO xs.length)).sl (Nat.zero_le _) HOR.out.1.lt))
                have HA3 := Lib.hid (b10AreaN 0 wr.heap.size (some ⟨g, 0, none⟩) cap k xs HXL.out (by omega) e6 wr (HX7.out.sl (Nat.zero_le _) hgE))
                have HGP := Lib.hid (b10GapN _ _ f1 f2 f3 wr)
                obtain ⟨mA, dA⟩ := run_fopN f1
                obtain ⟨A1, hA1⟩ : ∃ A, A = areaF (clipTo xs LO HI xs.length) := ⟨_, rfl⟩
                obtain ⟨A2, hA2⟩ : ∃ A, A = areaF (clipTo xs HI LO xs.length) := ⟨_, rfl⟩
                obtain ⟨A3, hA3⟩ : ∃ A, A = areaF xs := ⟨_, rfl⟩
                rw [← hA1] at HA1 HGP mA dA f4
                rw [← hA2] at HA2 HGP mA dA f4
                rw [← hA3] at HA3 HGP f4
                clear e6 e7 e8 hL1 hL2 hne ab1 ab2 f1 f2 f3 hA1 hA2 hA3
                go_wp2_with fail
                refine HA1.out.mono ?_
                rintro e v9 ⟨rfl, hv9⟩
                subst hv9
                go_wp2_with fail
                refine HA2.out.mono ?_
                rintro e v8 ⟨rfl, hv8⟩
                subst hv8
                go_wp2_with fail
                refine HA3.out.mono ?_
                rintro e v7 ⟨rfl, hv7⟩
                subst hv7
                go_wp2_with fail
                refine HGP.out.mono ?_
                rintro e v6 ⟨rfl, hv6⟩
                subst hv6
                go_wp2_with fail
                go_ret
                exact ⟨by first | rfl | exact ret_bool f4, HB7.out⟩
  · go_wp2_with fail
    refine (b10LongYes a1 a2 n1 n2 ca1 ca2 hsz w).mono ?_
    rintro e w0 ⟨rfl, rfl⟩
    go_wp2_with fail
    go_ret
    exact ⟨rfl, Below.refl _ _⟩
end Go.Proofs.Ytkpjhoiaegioeaa
