/- Nets, the law: walked. (Written by mknnl.py.) -/
import Derived.Test.YtkjljajjjhfklaaNj27
namespace Go.Proofs.Ytkjljajjjhfklaa
open Go.RowKit Go.Fl
theorem NAt.c0 {W : World} {b : Nat} {sa fa : Option Addr} {sc fc n0 f0 : Nat} {ps : List Sp} {fs : List (List Int)} (h : NAt W b sa fa sc fc n0 f0 ps fs) : W.cell? ⟨b, 0, none⟩ = some (.slice sa n0 sc) := (h.own.cell 0).trans rfl
theorem NAt.c1 {W : World} {b : Nat} {sa fa : Option Addr} {sc fc n0 f0 : Nat} {ps : List Sp} {fs : List (List Int)} (h : NAt W b sa fa sc fc n0 f0 ps fs) : W.cell? ⟨b, 1, none⟩ = some (.slice fa f0 fc) := (h.own.cell 1).trans rfl
theorem NAt.heads {W : World} {b : Nat} {sa fa : Option Addr} {sc fc n0 f0 : Nat} {ps : List Sp} {fs : List (List Int)} (h : NAt W b sa fa sc fc n0 f0 ps fs) (h0 : 0 < f0) : ∃ fb fo, fa = some ⟨fb, fo, none⟩ ∧ ∀ i, i < f0 → ∃ ai ci, W.cell? ⟨fb, fo + i, none⟩ = some (.slice ai (fAt fs i).length ci) := by
  obtain ⟨lo, hi, hn, _⟩ := h.net
  obtain ⟨fb, fo, e, _, _, hc⟩ := hn.net.facets (by rw [h.fl]; exact h0)
  exact ⟨fb, fo, e, fun i hi => by
    obtain ⟨ai, ci, hc1, _⟩ := hc i (by rw [h.fl]; exact hi)
    exact ⟨ai, ci, hc1⟩⟩
theorem NAt.spots {W : World} {b : Nat} {sa fa : Option Addr} {sc fc n0 f0 : Nat} {ps : List Sp} {fs : List (List Int)} (h : NAt W b sa fa sc fc n0 f0 ps fs) (h0 : 0 < n0) (hf : ps.all finSp = true) : ∃ sb so, sa = some ⟨sb, so, none⟩ ∧ ∀ i, i < n0 → W.cell? ⟨sb, so + i * 3, none⟩ = some (.float .f32 (pAt ps i).1) ∧ W.cell? ⟨sb, so + i * 3 + 1, none⟩ = some (.float .f32 (pAt ps i).2.1) ∧ W.cell? ⟨sb, so + i * 3 + 2, none⟩ = some (.float .f32 (pAt ps i).2.2) := by
  obtain ⟨lo, hi, hn, _⟩ := h.net
  obtain ⟨sb, so, e, _, _, hc⟩ := hn.net.spots (by rw [h.pl]; exact h0)
  refine ⟨sb, so, e, fun i hi => ?_⟩
  obtain ⟨x, y, z, c1, c2, c3, hs⟩ := hc i (by rw [h.pl]; exact hi)
  obtain ⟨h1, h2, h3⟩ := hs
  have hfs := all_fin hf (show i < ps.length by rw [h.pl]; exact hi)
  simp only [finSp, Bool.and_eq_true] at hfs
  obtain ⟨rfl, _⟩ := fin_can h1 hfs.1.1
  obtain ⟨rfl, _⟩ := fin_can h2 hfs.1.2
  obtain ⟨rfl, _⟩ := fin_can h3 hfs.2
  exact ⟨c1, c2, c3⟩
theorem sumTo_mono (fs : List (List Int)) (i : Nat) : ∀ d, sumTo fs i ≤ sumTo fs (i + d)
  | 0 => Nat.le_refl _
  | d + 1 => Nat.le_trans (sumTo_mono fs i d) (by show sumTo fs (i + d) ≤ sumTo fs (i + d) + (fAt fs (i + d)).length; omega)
theorem eta3 (p : Sp) : ∃ x y z, p = (x, y, z) := ⟨p.1, p.2.1, p.2.2, rfl⟩
theorem ownBelow {W W' : World} {ma : Option Addr} {xs : List Sp} (h : ∃ lo, OwnP W lo W.heap.size ma xs) (hb : Below W.heap.size W W') : ∃ lo, OwnP W' lo W'.heap.size ma xs := by
  obtain ⟨lo, ho⟩ := h
  exact ⟨lo, (ho.far (Far.below hb (Nat.le_refl _))).mono (Nat.le_refl _) hb.size⟩
theorem ezL_fin {ps : List Sp} {fs : List (List Int)} (h : ShpF ps.length fs) (hb : AllB 3 ps) : (ezL ps fs 0).all finSp = true := List.all_eq_true.2 fun p hp => by
  obtain ⟨i, hi, rfl⟩ := List.mem_map.1 hp
  exact (ezP_zero h hb (List.mem_range.1 hi)).1
theorem codeBelow {W W' : World} {P n : Nat} {a : Option Addr} (h : CodeAt W P a n) (hP : P ≤ W.heap.size) (hb : Below W.heap.size W W') : CodeAt W' P a n := h.far (Far.below hb hP)
set_option maxHeartbeats 16000000 in
set_option maxRecDepth 100000 in
theorem lawN (a1 a2 : Option Addr) (n1 n2 ca1 ca2 : Nat) (w : World) (h1 : CodeAt w w.heap.size a1 n1) (h2 : CodeAt w w.heap.size a2 n2) :
    Calls Try.prog 3 #[.slice a1 n1 ca1, .slice a2 n2 ca2] w fun e w' => e = .returned (.bool true) ∧ Below w.heap.size w w' := by
  have H1 := Lib.hid h1
  have H2 := Lib.hid h2
  clear h1 h2
  go_enter Try.func3, Try.ntmps3
  by_cases hsz : n1 ≤ 48 ∧ n2 ≤ 48
  · obtain ⟨hn1, hn2⟩ := hsz
    have dz : ∀ w : World, w.drewN 0 = w := World.drewN_zero
    go_wp2_with fail
    refine (r8LongNo a1 a2 n1 n2 ca1 ca2 hn1 hn2 w).mono ?_
    rintro e w0 ⟨rfl, hw0⟩
    subst hw0
    go_wp2_with fail
    refine (r8NetN a1 n1 ca1 hn1 w0 H1.out).mono ?_
    rintro e w1 ⟨⟨sa, fa, sc, fc, ps, fs, rfl, hN, hSh, hB3⟩, hb⟩
    unfold netV
    have HC : Hid (CodeAt w1 w0.heap.size a2 n2) := Lib.hid (codeBelow H2.out (Nat.le_refl _) hb)
    have HW : Hid (Below w0.heap.size w0 w1) := Lib.hid hb
    have HZ : Hid (w0.heap.size ≤ w1.heap.size) := Lib.hid hb.size
    have hF := hSh.f
    obtain ⟨hl4, hl16, hf1, hf9⟩ := hSh.len
    obtain ⟨C, B, S, hNu⟩ := hF.nums
    have hok : OkNet ps fs (colA fs) (colB fs) := okB_net hF.ok hB3.isFin
    have hokR : OkNet (rnP ps fs) (rnF fs ps.length) (colA (rnF fs ps.length)) (colB (rnF fs ps.length)) := okB_net (by rw [rnP_len]; exact hF.rnd) (rnP_SB hF hB3).isFin
    have hokB : OkNet ps (fs.map List.reverse) (colA (fs.map List.reverse)) (colB (fs.map List.reverse)) := okB_net hF.bk hB3.isFin
    have hB4 : AllB 4 ps := fun i => (hB3 i).mono (by decide) (by decide)
    have HS5 := Lib.hid (NSm.mk hok)
    have HS12 := Lib.hid (NSm.mk hokR)
    have HS14 := Lib.hid (NSm.mk hokB)
    have HF := Lib.hid hF
    have HB3 := Lib.hid hB3
    have HB4 := Lib.hid hB4
    have HNu := Lib.hid hNu
    have HR4 := Lib.hid (rnP_SB hF hB3)
    have HMF : Hid (∀ j, j < fs.length → SB (mid ps (fAt fs j)) 0 3) := Lib.hid fun j hj => mid_SB (by decide) (by decide) hB3 (by have := ok_len hF.ok j hj; omega) (by have := ok_len hF.ok j hj; omega)
    have HM := Lib.hid (mids_SB (b := 3) (by decide) (by decide) hB3 (ok_len hF.ok))
    obtain ⟨np, hnp⟩ : ∃ n, n = ps.length := ⟨_, rfl⟩
    obtain ⟨nf, hnf⟩ : ∃ n, n = fs.length := ⟨_, rfl⟩
    have HNP := Lib.hid hnp
    have HNF := Lib.hid hnf
    rw [← hnp] at hl4 hl16
    rw [← hnf] at hf1 hf9
    rw [← hnp, ← hnf]
    rw [← hnf] at HMF
    have hrr : (fs.map List.reverse).map List.reverse = fs := by simp [List.map_map, Function.comp_def]
    have HRR := Lib.hid hrr
    obtain ⟨nr, hnr⟩ : ∃ n, n = np + nf + C := ⟨_, rfl⟩
    have HNR := Lib.hid hnr
    clear hnr
    clear hb hnp hnf hF hok hokR hokB hB3 hB4 hSh hNu hrr
    have N50 := (NAt.new hN HNP.out.symm HNF.out.symm : NAt (w1.alloc (.cells #[.slice sa np sc, .slice fa nf fc] 27)) w1.heap.size _ _ _ _ _ _ _ _)
    have hb : Below w1.heap.size w1 (w1.alloc (.cells #[.slice sa np sc, .slice fa nf fc] 27)) := (Below.refl _ _).alloc (Nat.le_refl _) _
    replace HC := Lib.hid (codeBelow HC.out HZ.out hb)
    replace HW := Lib.hid (HW.out.trans (hb.mono HW.out.size))
    replace HZ := Lib.hid (Nat.le_trans HZ.out hb.size)
    clear hb
    have N5 := Lib.hid N50
    clear N50
    as_aux_lemma =>
    clear hN
    have c05 := N5.out.c0
    have c15 := N5.out.c1
    go_wp2_with fail
    refine (edgesA N5.out HS5.out HNu.out.ed).mono ?_
    rintro e w2 ⟨⟨ea, ec, rfl⟩, hb⟩
    clear c05 c15
    replace N5 := Lib.hid (N5.out.below hb)
    replace HC := Lib.hid (codeBelow HC.out HZ.out hb)
    replace HW := Lib.hid (HW.out.trans (hb.mono HW.out.size))
    replace HZ := Lib.hid (Nat.le_trans HZ.out hb.size)
    clear hb
    have c05 := N5.out.c0
    have c15 := N5.out.c1
    go_wp2_with fail
    refine (bordersA N5.out HS5.out HNu.out.bo).mono ?_
    rintro e w3 ⟨⟨oa, oc, rfl⟩, hb⟩
    clear c05 c15
    replace N5 := Lib.hid (N5.out.below hb)
    replace HC := Lib.hid (codeBelow HC.out HZ.out hb)
    replace HW := Lib.hid (HW.out.trans (hb.mono HW.out.size))
    replace HZ := Lib.hid (Nat.le_trans HZ.out hb.size)
    clear hb
    have c05 := N5.out.c0
    have c15 := N5.out.c1
    go_wp2_with fail
    refine (eulerA N5.out HS5.out (X := (np : Int) - (C : Int) + (nf : Int)) (by rw [HNu.out.fi])).mono ?_
    rintro e w4 ⟨rfl, hb⟩
    clear c05 c15
    replace N5 := Lib.hid (N5.out.below hb)
    replace HC := Lib.hid (codeBelow HC.out HZ.out hb)
    replace HW := Lib.hid (HW.out.trans (hb.mono HW.out.size))
    replace HZ := Lib.hid (Nat.le_trans HZ.out hb.size)
    clear hb
    have c05 := N5.out.c0
    have c15 := N5.out.c1
    go_wp2_with fail
    refine (roundA N5.out HS5.out HS12.out.v (n1 := nr) (f1 := S) (by rw [rnP_len]; unfold rnK; rw [HNu.out.fi, ← HNP.out, ← HNF.out, HNR.out]) HNu.out.rf).mono ?_
    rintro e w5 ⟨⟨ra, rb, rc, rd, rfl, hR⟩, hb⟩
    clear c05 c15
    replace N5 := Lib.hid (N5.out.below hb)
    replace HC := Lib.hid (codeBelow HC.out HZ.out hb)
    replace HW := Lib.hid (HW.out.trans (hb.mono HW.out.size))
    replace HZ := Lib.hid (Nat.le_trans HZ.out hb.size)
    clear hb
    have N120 := (NAt.new hR (by rw [rnP_len]; unfold rnK; rw [HNu.out.fi, ← HNP.out, ← HNF.out, HNR.out]) HNu.out.rf : NAt (w5.alloc (.cells #[.slice ra nr rc, .slice rb S rd] 27)) w5.heap.size _ _ _ _ _ _ _ _)
    have hb : Below w5.heap.size w5 (w5.alloc (.cells #[.slice ra nr rc, .slice rb S rd] 27)) := (Below.refl _ _).alloc (Nat.le_refl _) _
    replace N5 := Lib.hid (N5.out.below hb)
    replace HC := Lib.hid (codeBelow HC.out HZ.out hb)
    replace HW := Lib.hid (HW.out.trans (hb.mono HW.out.size))
    replace HZ := Lib.hid (Nat.le_trans HZ.out hb.size)
    clear hb
    have N12 := Lib.hid N120
    clear N120
    as_aux_lemma =>
    clear hR
    have c05 := N5.out.c0
    have c15 := N5.out.c1
    go_wp2_with fail
    refine (backA N5.out HS5.out).mono ?_
    rintro e w6 ⟨⟨ba, bb, bc, bd, rfl, hR⟩, hb⟩
    clear c05 c15
    replace N5 := Lib.hid (N5.out.below hb)
    replace N12 := Lib.hid (N12.out.below hb)
    replace HC := Lib.hid (codeBelow HC.out HZ.out hb)
    replace HW := Lib.hid (HW.out.trans (hb.mono HW.out.size))
    replace HZ := Lib.hid (Nat.le_trans HZ.out hb.size)
    clear hb
    have N140 := (NAt.new hR HNP.out.symm (by rw [List.length_map]; exact HNF.out.symm) : NAt (w6.alloc (.cells #[.slice ba np bc, .slice bb nf bd] 27)) w6.heap.size _ _ _ _ _ _ _ _)
    have hb : Below w6.heap.size w6 (w6.alloc (.cells #[.slice ba np bc, .slice bb nf bd] 27)) := (Below.refl _ _).alloc (Nat.le_refl _) _
    replace N5 := Lib.hid (N5.out.below hb)
    replace N12 := Lib.hid (N12.out.below hb)
    replace HC := Lib.hid (codeBelow HC.out HZ.out hb)
    replace HW := Lib.hid (HW.out.trans (hb.mono HW.out.size))
    replace HZ := Lib.hid (Nat.le_trans HZ.out hb.size)
    clear hb
    have N14 := Lib.hid N140
    clear N140
    as_aux_lemma =>
    clear hR
    have c014 := N14.out.c0
    have c114 := N14.out.c1
    go_wp2_with fail
    refine (backA N14.out HS14.out).mono ?_
    rintro e w7 ⟨⟨ga, gb, gc, gd, rfl, hR⟩, hb⟩
    clear c014 c114
    replace N5 := Lib.hid (N5.out.below hb)
    replace N12 := Lib.hid (N12.out.below hb)
    replace N14 := Lib.hid (N14.out.below hb)
    replace HC := Lib.hid (codeBelow HC.out HZ.out hb)
    replace HW := Lib.hid (HW.out.trans (hb.mono HW.out.size))
    replace HZ := Lib.hid (Nat.le_trans HZ.out hb.size)
    clear hb
    have N160 := (NAt.new (by rw [HRR.out] at hR; exact hR) HNP.out.symm HNF.out.symm : NAt (w7.alloc (.cells #[.slice ga np gc, .slice gb nf gd] 27)) w7.heap.size _ _ _ _ _ _ _ _)
    have hb : Below w7.heap.size w7 (w7.alloc (.cells #[.slice ga np gc, .slice gb nf gd] 27)) := (Below.refl _ _).alloc (Nat.le_refl _) _
    replace N5 := Lib.hid (N5.out.below hb)
    replace N12 := Lib.hid (N12.out.below hb)
    replace N14 := Lib.hid (N14.out.below hb)
    replace HC := Lib.hid (codeBelow HC.out HZ.out hb)
    replace HW := Lib.hid (HW.out.trans (hb.mono HW.out.size))
    replace HZ := Lib.hid (Nat.le_trans HZ.out hb.size)
    clear hb
    have N16 := Lib.hid N160
    clear N160
    as_aux_lemma =>
    clear hR
    have c016 := N16.out.c0
    have c116 := N16.out.c1
    have c05 := N5.out.c0
    have c15 := N5.out.c1
    go_wp2_with fail
    refine (sameA N16.out N5.out HS5.out).mono ?_
    rintro e w8 ⟨rfl, hb⟩
    clear c016 c116
    clear c05 c15
    replace N5 := Lib.hid (N5.out.below hb)
    replace N12 := Lib.hid (N12.out.below hb)
    replace N14 := Lib.hid (N14.out.below hb)
    replace N16 := Lib.hid (N16.out.below hb)
    replace HC := Lib.hid (codeBelow HC.out HZ.out hb)
    replace HW := Lib.hid (HW.out.trans (hb.mono HW.out.size))
    replace HZ := Lib.hid (Nat.le_trans HZ.out hb.size)
    clear hb
    have hBC := HNu.out.le
    obtain ⟨fb, fo, rfl, _⟩ := N5.out.heads (by omega)
    obtain ⟨W8, hW8⟩ : ∃ x, x = w8 := ⟨_, rfl⟩
    rw [← hW8] at N5 N12 N14 N16 HC HW HZ
    go_wp2_with fail
    rw [← hW8]
    clear hW8
    go_loopw [18, 19] (fun s f wr => ∃ i : Nat, i ≤ nf ∧ s = .int .i64 ((sumTo fs i : Nat) : Int) ∧ f = .int .i64 (i : Int) ∧ wr = W8) (fun _ f _ => nf - (intOf f).toNat)
    case atStart => exact ⟨0, by omega, rfl, rfl, rfl⟩
    case round => as_aux_lemma =>
      obtain ⟨i, hi, rfl, rfl, rfl⟩ := hrel
      have c1 := N5.out.c1
      have i0 : (0 : Int) ≤ (i : Int) := by omega
      by_cases hlt : i < nf
      · obtain ⟨fb', fo', e, hc⟩ := N5.out.heads (by omega)
        cases e
        obtain ⟨ai, ci, hci⟩ := hc i hlt
        have hl8 := ((HS5.out.ok).facets i (by rw [← HNF.out]; exact hlt)).2.1
        have hsm : sumTo fs i ≤ 2048 := by
          have h1 := sumTo_mono fs i (fs.length - i)
          rw [show i + (fs.length - i) = fs.length by rw [← HNF.out]; omega] at h1
          exact Nat.le_trans h1 (OkNet.sum HS5.out.ok)
        have hst : sumTo fs (i + 1) = sumTo fs i + (fAt fs i).length := rfl
        have HST := Lib.hid hst
        have k1 : (i : Int) < (nf : Int) := by omega
        generalize (fAt fs i).length = L at *
        generalize hA : sumTo fs i = A at *
        clear hst hA hc
        go_wp2_with fail
        refine ⟨⟨i + 1, by omega, by rw [HST.out]; go_num, by go_num, trivial⟩, by simp [intOf]; omega⟩
      · have hin : nf = i := by omega
        subst hin
        have hsS : sumTo fs nf = S := by rw [HNF.out]; exact HNu.out.sm
        rw [hsS]
        clear hsS
        have hsi : 2 * (C : Int) - (B : Int) / 2 = (S : Int) := by have := HNu.out.si; omega
        have hnr : (np : Int) + (C : Int) + (nf : Int) = (nr : Int) := by have := HNR.out; omega
        have hSb : S ≤ 2048 := by
          rw [← HNu.out.sm]
          exact OkNet.sum HS5.out.ok
        have hCb : C ≤ 2048 := by have := HNu.out.si; omega
        have hBb : B ≤ 4096 := by omega
        have hl1 := N12.out.c0
        have hl2 := N12.out.c1
        have hl3 := N5.out.c0

        go_wp2_with fail
        refine (eulerA N12.out HS12.out (X := (np : Int) - (C : Int) + (nf : Int)) (by have e := HNu.out.eu; have h1 := HNP.out; have h2 := HNF.out; rw [HNR.out]; omega)).mono ?_
        rintro e w9 ⟨rfl, hb⟩
        replace N5 := Lib.hid (N5.out.below hb)
        replace N12 := Lib.hid (N12.out.below hb)
        replace N14 := Lib.hid (N14.out.below hb)
        replace N16 := Lib.hid (N16.out.below hb)
        replace HC := Lib.hid (codeBelow HC.out HZ.out hb)
        replace HW := Lib.hid (HW.out.trans (hb.mono HW.out.size))
        replace HZ := Lib.hid (Nat.le_trans HZ.out hb.size)
        clear hb
        clear hl1 hl2 hl3 c1
        have c012 := N12.out.c0
        have c112 := N12.out.c1
        go_wp2_with fail
        refine (bordersA N12.out HS12.out HNu.out.rb).mono ?_
        rintro e w10 ⟨⟨ta, tc, rfl⟩, hb⟩
        clear c012 c112
        replace N5 := Lib.hid (N5.out.below hb)
        replace N12 := Lib.hid (N12.out.below hb)
        replace N14 := Lib.hid (N14.out.below hb)
        replace N16 := Lib.hid (N16.out.below hb)
        replace HC := Lib.hid (codeBelow HC.out HZ.out hb)
        replace HW := Lib.hid (HW.out.trans (hb.mono HW.out.size))
        replace HZ := Lib.hid (Nat.le_trans HZ.out hb.size)
        clear hb
        obtain ⟨ok5, b5, bd5⟩ := area_ok HS5.out.ok HB4.out
        obtain ⟨ok14, b14, bd14⟩ := area_ok HS14.out.ok HB4.out
        obtain ⟨ok12, b12, bd12⟩ := area_ok HS12.out.ok HR4.out
        obtain ⟨r5, hr5⟩ : ∃ r, areaV ps fs = r := ⟨_, rfl⟩
        obtain ⟨r14, hr14⟩ : ∃ r, areaV ps (fs.map List.reverse) = r := ⟨_, rfl⟩
        obtain ⟨r12, hr12⟩ : ∃ r, areaV (rnP ps fs) (rnF fs ps.length) = r := ⟨_, rfl⟩
        rw [hr5] at bd5
        rw [hr14] at bd14
        rw [hr12] at bd12
        have ng5 := bd5.notNeg
        have ng14 := bd14.notNeg
        have ng12 := bd12.notNeg
        have HA5 := Lib.hid (And.intro ok5 (And.intro bd5.n hr5))
        have HA14 := Lib.hid (And.intro ok14 (And.intro bd14.n hr14))
        have HA12 := Lib.hid (And.intro ok12 (And.intro bd12.n hr12))
        clear ok5 ok14 ok12 bd5 bd14 bd12 hr5 hr14 hr12
        obtain ⟨q, hq⟩ : ∃ q : Bool, q = ((B : Int) == 0) := ⟨_, rfl⟩
        have HQ5 : Hid (volO ps fs = q) := Lib.hid (by rw [vol_ok HS5.out.ok HB4.out, HNu.out.bo, hq, Bool.eq_iff_iff]; simp)
        have HQ14 : Hid (volO ps (fs.map List.reverse) = q) := Lib.hid (by rw [← HQ5.out, vol_ok HS5.out.ok HB4.out, vol_ok HS14.out.ok HB4.out, Bool.eq_iff_iff]; simp only [decide_eq_true_eq]; exact HF.out.bd)
        have hq2 := hq.symm
        clear hq
        have c05 := N5.out.c0
        have c15 := N5.out.c1
        go_wp2_with fail
        refine (areaA N5.out HS5.out HA5.out.1 HA5.out.2.1 HA5.out.2.2).mono ?_
        rintro e w11 ⟨rfl, hb⟩
        clear c05 c15
        replace N5 := Lib.hid (N5.out.below hb)
        replace N12 := Lib.hid (N12.out.below hb)
        replace N14 := Lib.hid (N14.out.below hb)
        replace N16 := Lib.hid (N16.out.below hb)
        replace HC := Lib.hid (codeBelow HC.out HZ.out hb)
        replace HW := Lib.hid (HW.out.trans (hb.mono HW.out.size))
        replace HZ := Lib.hid (Nat.le_trans HZ.out hb.size)
        clear hb
        have c014 := N14.out.c0
        have c114 := N14.out.c1
        go_wp2_with fail
        refine (areaA N14.out HS14.out HA14.out.1 HA14.out.2.1 HA14.out.2.2).mono ?_
        rintro e w12 ⟨rfl, hb⟩
        clear c014 c114
        replace N5 := Lib.hid (N5.out.below hb)
        replace N12 := Lib.hid (N12.out.below hb)
        replace N14 := Lib.hid (N14.out.below hb)
        replace N16 := Lib.hid (N16.out.below hb)
        replace HC := Lib.hid (codeBelow HC.out HZ.out hb)
        replace HW := Lib.hid (HW.out.trans (hb.mono HW.out.size))
        replace HZ := Lib.hid (Nat.le_trans HZ.out hb.size)
        clear hb
        have c05 := N5.out.c0
        have c15 := N5.out.c1
        go_wp2_with fail
        refine (volA N5.out HS5.out HQ5.out).mono ?_
        rintro e w13 ⟨⟨v5, rfl, _⟩, hb⟩
        clear c05 c15
        replace N5 := Lib.hid (N5.out.below hb)
        replace N12 := Lib.hid (N12.out.below hb)
        replace N14 := Lib.hid (N14.out.below hb)
        replace N16 := Lib.hid (N16.out.below hb)
        replace HC := Lib.hid (codeBelow HC.out HZ.out hb)
        replace HW := Lib.hid (HW.out.trans (hb.mono HW.out.size))
        replace HZ := Lib.hid (Nat.le_trans HZ.out hb.size)
        clear hb
        have c014 := N14.out.c0
        have c114 := N14.out.c1
        go_wp2_with fail
        refine (volA N14.out HS14.out HQ14.out).mono ?_
        rintro e w14 ⟨⟨v14, rfl, _⟩, hb⟩
        clear c014 c114
        replace N5 := Lib.hid (N5.out.below hb)
        replace N12 := Lib.hid (N12.out.below hb)
        replace N14 := Lib.hid (N14.out.below hb)
        replace N16 := Lib.hid (N16.out.below hb)
        replace HC := Lib.hid (codeBelow HC.out HZ.out hb)
        replace HW := Lib.hid (HW.out.trans (hb.mono HW.out.size))
        replace HZ := Lib.hid (Nat.le_trans HZ.out hb.size)
        clear hb
        have c012 := N12.out.c0
        have c112 := N12.out.c1
        go_wp2_with fail
        refine (areaA N12.out HS12.out HA12.out.1 HA12.out.2.1 HA12.out.2.2).mono ?_
        rintro e w15 ⟨rfl, hb⟩
        clear c012 c112
        replace N5 := Lib.hid (N5.out.below hb)
        replace N12 := Lib.hid (N12.out.below hb)
        replace N14 := Lib.hid (N14.out.below hb)
        replace N16 := Lib.hid (N16.out.below hb)
        replace HC := Lib.hid (codeBelow HC.out HZ.out hb)
        replace HW := Lib.hid (HW.out.trans (hb.mono HW.out.size))
        replace HZ := Lib.hid (Nat.le_trans HZ.out hb.size)
        clear hb
        go_upto_region 29 with fail
        clear ng5 ng14 ng12 hq2 hsi hnr
        go_cut [35, 36] from 293 to 300 (fun u35 u36 wx => ∃ ma mc, u35 = .slice ma nf mc ∧ u36 = .bool true ∧ Hid (Below w15.heap.size w15 wx) ∧ Hid (∃ lo, OwnP wx lo wx.heap.size ma (midsTo ps fs fs.length)))
        case first => as_aux_lemma =>
          have c05 := N5.out.c0
          have c15 := N5.out.c1
          have hbd : Below w15.heap.size w15 w15.drew := below_dr (Below.refl _ _) 1
          have ND := Lib.hid (N5.out.below hbd)
          have HBD := Lib.hid hbd
          clear hbd
          go_region_law (first
            | (go_simp; go_at_call 15; refine (r8At w0.heap.size a2 n2 ca2 0 8 hn2 (by decide) (by decide) (by decide) w15.drew HC.out).mono ?_; rintro e w90 ⟨⟨k0, rfl, hk0⟩, rfl⟩; have hk0' : (k0 : Int) < 8 := (by omega); have hwk : IntKind.i64.wrap (1 + (k0 : Int)) = 1 + (k0 : Int) := (by rw [IntKind.wrap_i64]; omega))
            | (go_simp; go_at_call 14; refine (sharedA ND.out HS5.out HM.out.isFin (by first | omega | (rw [hwk]; omega))).mono ?_; rintro e w30 ⟨⟨ma, mc, rfl, hO⟩, hb0⟩; have hb := HBD.out.trans (hb0.mono HBD.out.size); have HO := Lib.hid hO; clear hO hb0))
          all_goals (go_wp2_with fail)
          all_goals go_meet
          all_goals exact ⟨ma, mc, rfl, rfl, Lib.hid hb, Lib.hid ⟨_, HO.out⟩⟩
        case rest => as_aux_lemma =>
        obtain ⟨ma, mc, rfl, rfl, HBc, HO⟩ := hcut
        have hb := HBc.out
        replace N5 := Lib.hid (N5.out.below hb)
        replace N12 := Lib.hid (N12.out.below hb)
        replace N14 := Lib.hid (N14.out.below hb)
        replace N16 := Lib.hid (N16.out.below hb)
        replace HC := Lib.hid (codeBelow HC.out HZ.out hb)
        replace HW := Lib.hid (HW.out.trans (hb.mono HW.out.size))
        replace HZ := Lib.hid (Nat.le_trans HZ.out hb.size)
        clear hb HBc
        have hkf : 1 ≤ nf ∧ nf ≤ 1000 := by omega
        have c05 := N5.out.c0
        have c15 := N5.out.c1
        go_wp2_with fail
        refine (r8At1 w0.heap.size a2 n2 ca2 1 nf hn2 (by decide) (by omega) (by omega) _ HC.out).mono ?_
        rintro e w16 ⟨⟨f, rfl, hf⟩, hz0⟩
        clear c05 c15
        subst hz0
        obtain ⟨mx, my, mz, hm⟩ := eta3 (mid ps (fAt fs f))
        have HMX := Lib.hid hm
        have HF0 := Lib.hid hf
        clear hm hf
        have c05 := N5.out.c0
        have c15 := N5.out.c1
        go_wp2_with fail
        refine (pointA N5.out HS5.out HF0.out (HMF.out f HF0.out).isFin HMX.out).mono ?_
        rintro e w17 ⟨rfl, hb⟩
        clear c05 c15
        replace N5 := Lib.hid (N5.out.below hb)
        replace N12 := Lib.hid (N12.out.below hb)
        replace N14 := Lib.hid (N14.out.below hb)
        replace N16 := Lib.hid (N16.out.below hb)
        replace HC := Lib.hid (codeBelow HC.out HZ.out hb)
        replace HW := Lib.hid (HW.out.trans (hb.mono HW.out.size))
        replace HZ := Lib.hid (Nat.le_trans HZ.out hb.size)
        replace HO := Lib.hid (ownBelow HO.out hb)
        clear hb
        have hb : Below w17.heap.size w17 (w17.alloc (.cells #[.float .f32 mx, .float .f32 my, .float .f32 mz] 46)) := (Below.refl _ _).alloc (Nat.le_refl _) _
        replace N5 := Lib.hid (N5.out.below hb)
        replace N12 := Lib.hid (N12.out.below hb)
        replace N14 := Lib.hid (N14.out.below hb)
        replace N16 := Lib.hid (N16.out.below hb)
        replace HC := Lib.hid (codeBelow HC.out HZ.out hb)
        replace HW := Lib.hid (HW.out.trans (hb.mono HW.out.size))
        replace HZ := Lib.hid (Nat.le_trans HZ.out hb.size)
        replace HO := Lib.hid (ownBelow HO.out hb)
        clear hb
        have H38 := Lib.hid (show OwnC (w17.alloc (.cells #[.float .f32 mx, .float .f32 my, .float .f32 mz] 46)) w17.heap.size #[.float .f32 mx, .float .f32 my, .float .f32 mz] 46 from OwnC.new rfl)
        have c05 := N5.out.c0
        have c15 := N5.out.c1
        go_wp2_with fail
        refine (easeA N5.out HS5.out (ez_ok HF.out HB3.out)).mono ?_
        rintro e w18 ⟨⟨za, zb, zc, zd, rfl, hR⟩, hb⟩
        clear c05 c15
        replace N5 := Lib.hid (N5.out.below hb)
        replace N12 := Lib.hid (N12.out.below hb)
        replace N14 := Lib.hid (N14.out.below hb)
        replace N16 := Lib.hid (N16.out.below hb)
        replace HC := Lib.hid (codeBelow HC.out HZ.out hb)
        replace HW := Lib.hid (HW.out.trans (hb.mono HW.out.size))
        replace HZ := Lib.hid (Nat.le_trans HZ.out hb.size)
        replace HO := Lib.hid (ownBelow HO.out hb)
        replace H38 := Lib.hid (H38.out.below hb H38.out.lt)
        clear hb
        have N400 := (NAt.new hR (by rw [ezL_len]; exact HNP.out.symm) HNF.out.symm : NAt (w18.alloc (.cells #[.slice za np zc, .slice zb nf zd] 27)) w18.heap.size _ _ _ _ _ _ _ _)
        have hb : Below w18.heap.size w18 (w18.alloc (.cells #[.slice za np zc, .slice zb nf zd] 27)) := (Below.refl _ _).alloc (Nat.le_refl _) _
        replace N5 := Lib.hid (N5.out.below hb)
        replace N12 := Lib.hid (N12.out.below hb)
        replace N14 := Lib.hid (N14.out.below hb)
        replace N16 := Lib.hid (N16.out.below hb)
        replace HC := Lib.hid (codeBelow HC.out HZ.out hb)
        replace HW := Lib.hid (HW.out.trans (hb.mono HW.out.size))
        replace HZ := Lib.hid (Nat.le_trans HZ.out hb.size)
        replace HO := Lib.hid (ownBelow HO.out hb)
        replace H38 := Lib.hid (H38.out.below hb H38.out.lt)
        clear hb
        have N40 := Lib.hid N400
        clear N400
        as_aux_lemma =>
        clear hR
        have hkp : 1 ≤ np ∧ np ≤ 1000 := by omega
        have c05 := N5.out.c0
        have c15 := N5.out.c1
        go_wp2_with fail
        refine (r8At1 w0.heap.size a2 n2 ca2 2 np hn2 (by decide) (by omega) (by omega) _ HC.out).mono ?_
        rintro e w19 ⟨⟨v, rfl, hv⟩, hz0⟩
        clear c05 c15
        subst hz0
        have HV0 := Lib.hid hv
        obtain ⟨E, hE⟩ : ∃ E, (faI fs v fs.length).length = E := ⟨_, rfl⟩
        have hE1 : 1 ≤ E := by
          rw [← hE]
          exact HF.out.one v (by rw [← HNP.out]; exact hv)
        have HE := Lib.hid hE
        clear hv hE
        have c05 := N5.out.c0
        have c15 := N5.out.c1
        go_wp2_with fail
        refine (atA N5.out HS5.out HV0.out HE.out).mono ?_
        rintro e w20 ⟨⟨ya, yc, rfl⟩, hb⟩
        clear c05 c15
        replace N5 := Lib.hid (N5.out.below hb)
        replace N12 := Lib.hid (N12.out.below hb)
        replace N14 := Lib.hid (N14.out.below hb)
        replace N16 := Lib.hid (N16.out.below hb)
        replace N40 := Lib.hid (N40.out.below hb)
        replace HC := Lib.hid (codeBelow HC.out HZ.out hb)
        replace HW := Lib.hid (HW.out.trans (hb.mono HW.out.size))
        replace HZ := Lib.hid (Nat.le_trans HZ.out hb.size)
        replace HO := Lib.hid (ownBelow HO.out hb)
        replace H38 := Lib.hid (H38.out.below hb H38.out.lt)
        clear hb
        go_upto_region 35 with fail
        go_cut [372] from 328 to 372 (fun u wx => u = .bool false ∧ Hid (Below w20.heap.size w20 wx))
        case first => as_aux_lemma =>
          have c05 := N5.out.c0
          have c15 := N5.out.c1
          have c040 := N40.out.c0
          have x0 := H38.out.cell 0
          have x1 := H38.out.cell 1
          have x2 := H38.out.cell 2
          simp at x0 x1 x2
          have hbd : Below w20.heap.size w20 w20.drew := below_dr (Below.refl _ _) 1
          have HBD := Lib.hid hbd
          clear hbd
          have hf0 : (0 : Int) ≤ (f : Int) := by omega
          have hf1' : (f : Int) < (nf : Int) := by have := HF0.out; omega
          have hE2 : decide ((E : Int) < 1) = false := by simp; omega
          obtain ⟨lo, ho⟩ := HO.out
          have hml : (midsTo ps fs fs.length).length = nf := by rw [midsTo_len]; exact HNF.out.symm
          obtain ⟨mb, mo, hma, _, _, hmc⟩ := ho.reads (by rw [hml]; omega)
          subst hma
          obtain ⟨x, y, z, m0, m1, m2, hx, hy, hz⟩ := hmc f (by rw [hml]; exact HF0.out)
          have hmid : pAt (midsTo ps fs fs.length) f = (mx, my, mz) := by
            have hl : f < fs.length := by rw [← HNF.out]; exact HF0.out
            unfold pAt midsTo
            rw [List.getD_eq_getElem?_getD, List.getElem?_map, List.getElem?_range hl]
            exact HMX.out
          have hbm := HMF.out f HF0.out
          rw [hmid] at hx hy hz
          rw [HMX.out] at hbm
          obtain ⟨rfl, hx'⟩ := fin_can hx hbm.x.isFin
          obtain ⟨rfl, hy'⟩ := fin_can hy hbm.y.isFin
          obtain ⟨rfl, hz'⟩ := fin_can hz hbm.z.isFin
          have HSS : Hid (Calls Try.prog 19 #[.agg #[.float .f32 x, .float .f32 y, .float .f32 z], .agg #[.float .f32 x, .float .f32 y, .float .f32 z]] w20.drew fun e w' => e = .returned (.bool true) ∧ Below w20.drew.heap.size w20.drew w') := Lib.hid (sameSpotN ⟨hx', hy', hz'⟩ _)
          clear hmc hmid hbm hx hy hz hml ho
          have HKS : Hid (∀ W', Below w20.heap.size w20 W' → (fun W => W.cell? ⟨w1.heap.size, 0, none⟩ = some (.slice sa np sc) ∧ W.cell? ⟨w1.heap.size, 1, none⟩ = some (.slice (some ⟨fb, fo, none⟩) nf fc) ∧ W.cell? ⟨w18.heap.size, 0, none⟩ = some (.slice za np zc) ∧ W.cell? ⟨w17.heap.size, 0, none⟩ = some (.float .f32 x) ∧ W.cell? ⟨w17.heap.size, 1, none⟩ = some (.float .f32 y) ∧ W.cell? ⟨w17.heap.size, 2, none⟩ = some (.float .f32 z) ∧ W.cell? ⟨mb, mo + f * 3, none⟩ = some (.float .f32 x) ∧ W.cell? ⟨mb, mo + f * 3 + 1, none⟩ = some (.float .f32 y) ∧ W.cell? ⟨mb, mo + f * 3 + 2, none⟩ = some (.float .f32 z)) W') := Lib.hid fun W' hW => ⟨keep_cell hW c05, keep_cell hW c15, keep_cell hW c040, keep_cell hW x0, keep_cell hW x1, keep_cell hW x2, keep_cell hW m0, keep_cell hW m1, keep_cell hW m2⟩
          go_region_held3 (fun W => W.cell? ⟨w1.heap.size, 0, none⟩ = some (.slice sa np sc) ∧ W.cell? ⟨w1.heap.size, 1, none⟩ = some (.slice (some ⟨fb, fo, none⟩) nf fc) ∧ W.cell? ⟨w18.heap.size, 0, none⟩ = some (.slice za np zc) ∧ W.cell? ⟨w17.heap.size, 0, none⟩ = some (.float .f32 x) ∧ W.cell? ⟨w17.heap.size, 1, none⟩ = some (.float .f32 y) ∧ W.cell? ⟨w17.heap.size, 2, none⟩ = some (.float .f32 z) ∧ W.cell? ⟨mb, mo + f * 3, none⟩ = some (.float .f32 x) ∧ W.cell? ⟨mb, mo + f * 3 + 1, none⟩ = some (.float .f32 y) ∧ W.cell? ⟨mb, mo + f * 3 + 2, none⟩ = some (.float .f32 z)) (first | exact HKS.out _ hBk | go_keep) ((go_at_call 19; refine HSS.out.mono ?_; rintro e w30 ⟨rfl, hb0⟩; have hBk := HBD.out.trans (hb0.mono HBD.out.size)))
          go_wp2_with fail
          go_meet
          exact ⟨rfl, Lib.hid hBk⟩
        case rest => as_aux_lemma =>
        obtain ⟨rfl, HBc⟩ := hcut
        have hb := HBc.out
        replace N5 := Lib.hid (N5.out.below hb)
        replace N12 := Lib.hid (N12.out.below hb)
        replace N14 := Lib.hid (N14.out.below hb)
        replace N16 := Lib.hid (N16.out.below hb)
        replace N40 := Lib.hid (N40.out.below hb)
        replace HC := Lib.hid (codeBelow HC.out HZ.out hb)
        replace HW := Lib.hid (HW.out.trans (hb.mono HW.out.size))
        replace HZ := Lib.hid (Nat.le_trans HZ.out hb.size)
        replace HO := Lib.hid (ownBelow HO.out hb)
        replace H38 := Lib.hid (H38.out.below hb H38.out.lt)
        clear hb HBc
        obtain ⟨s5, o5, hsa, _⟩ := N5.out.spots (by omega) HB3.out.isFin
        subst hsa
        obtain ⟨s4, o4, hza, _⟩ := N40.out.spots (by omega) (ezL_fin HF.out HB3.out)
        subst hza
        have c05 := N5.out.c0
        have c040 := N40.out.c0
        go_wp2_with fail
        go_loopw [45] (fun iv wr => ∃ i : Nat, i ≤ np ∧ iv = .int .i64 (i : Int) ∧ Hid (Below wc.heap.size wc wr)) (fun iv _ => np - (intOf iv).toNat)
        case atStart => exact ⟨0, by omega, rfl, Lib.hid (Below.refl _ _)⟩
        case round => as_aux_lemma =>
          obtain ⟨i, hi, rfl, HL⟩ := hrel
          have d05 := (N5.out.below HL.out).c0
          have d040 := (N40.out.below HL.out).c0
          by_cases hlt : i < np
          · obtain ⟨s5', o5', e5, hc5⟩ := (N5.out.below HL.out).spots (by omega) HB3.out.isFin
            obtain ⟨s4', o4', e4, hc4⟩ := (N40.out.below HL.out).spots (by omega) (ezL_fin HF.out HB3.out)
            cases e5
            cases e4
            have hip : i < ps.length := by rw [← HNP.out]; exact hlt
            obtain ⟨p0, p1, p2⟩ := hc5 i hlt
            obtain ⟨q0, q1, q2⟩ := hc4 i hlt
            rw [ezL_at hip] at q0 q1 q2
            have hng := (ezP_zero HF.out HB3.out hip).2
            clear hc5 hc4
            generalize (ezP ps fs 0 i).1 = x4 at *
            generalize (ezP ps fs 0 i).2.1 = y4 at *
            generalize (ezP ps fs 0 i).2.2 = z4 at *
            generalize (pAt ps i).1 = x5 at *
            generalize (pAt ps i).2.1 = y5 at *
            generalize (pAt ps i).2.2 = z5 at *
            have hap := apart_no hng
            have HAP : Hid (Calls Try.prog 20 #[.agg #[.float .f32 x4, .float .f32 y4, .float .f32 z4], .agg #[.float .f32 x5, .float .f32 y5, .float .f32 z5]] wr.drew fun e w' => e = .returned (.float .f64 (apartF x4 y4 z4 x5 y5 z5)) ∧ Below wr.drew.heap.size wr.drew w') := Lib.hid (r8ApartN hng _)
            have HBD : Hid (Below wr.heap.size wr wr.drew) := Lib.hid (below_dr (Below.refl _ _) 1)
            have i0 : (0 : Int) ≤ (i : Int) := by omega
            have i1 : (i : Int) < (np : Int) := by omega
            generalize apartF x4 y4 z4 x5 y5 z5 = AP at *
            clear hng
            go_upto_region 40 with fail
            go_region_held3 (fun W => W.cell? ⟨w1.heap.size, 0, none⟩ = some (.slice (some ⟨s5, o5, none⟩) np sc) ∧ W.cell? ⟨w18.heap.size, 0, none⟩ = some (.slice (some ⟨s4, o4, none⟩) np zc) ∧ W.cell? ⟨s4, o4 + i * 3, none⟩ = some (.float .f32 x4) ∧ W.cell? ⟨s4, o4 + i * 3 + 1, none⟩ = some (.float .f32 y4) ∧ W.cell? ⟨s4, o4 + i * 3 + 2, none⟩ = some (.float .f32 z4) ∧ W.cell? ⟨s5, o5 + i * 3, none⟩ = some (.float .f32 x5) ∧ W.cell? ⟨s5, o5 + i * 3 + 1, none⟩ = some (.float .f32 y5) ∧ W.cell? ⟨s5, o5 + i * 3 + 2, none⟩ = some (.float .f32 z5)) (first | go_keep | exact ⟨keep_cell hBk d05, keep_cell hBk d040, keep_cell hBk q0, keep_cell hBk q1, keep_cell hBk q2, keep_cell hBk p0, keep_cell hBk p1, keep_cell hBk p2⟩) ((go_at_call 20; refine HAP.out.mono ?_; rintro e w30 ⟨rfl, hb0⟩; have hBk := HBD.out.trans (hb0.mono HBD.out.size)))
            all_goals (go_wp2_with fail)
            all_goals exact ⟨⟨i + 1, by omega, by go_num, Lib.hid (HL.out.trans (hBk.mono HL.out.size))⟩, by simp [intOf]; omega⟩
          · have hin : np = i := by omega
            subst hin
            have hb := HL.out
            replace N5 := Lib.hid (N5.out.below hb)
            replace N12 := Lib.hid (N12.out.below hb)
            replace N14 := Lib.hid (N14.out.below hb)
            replace N16 := Lib.hid (N16.out.below hb)
            replace N40 := Lib.hid (N40.out.below hb)
            replace HC := Lib.hid (codeBelow HC.out HZ.out hb)
            replace HW := Lib.hid (HW.out.trans (hb.mono HW.out.size))
            replace HZ := Lib.hid (Nat.le_trans HZ.out hb.size)
            replace HO := Lib.hid (ownBelow HO.out hb)
            replace H38 := Lib.hid (H38.out.below hb H38.out.lt)
            clear hb HL d05 d040 c05 c040
            have c05 := N5.out.c0
            clear N5 N12 N14 N16 N40 HO H38 HS5 HS12 HS14 HF HB3 HB4 HNu HR4 HM HMF HNP HNF HNR HRR HA5 HA14 HA12 HQ5 HQ14 HMX HF0 HV0 HE
            go_wp2_with fail
            refine (r8At w0.heap.size a2 n2 ca2 3 8 hn2 (by decide) (by decide) (by decide) _ HC.out).mono ?_
            rintro e w21 ⟨⟨k, rfl, hk⟩, hz0⟩
            subst hz0
            have hBF := boxFa hk
            obtain ⟨W, SZ, SK, OP, LS, W6, SZ6, SK6, OP6, SIX, TWO, THR, SM, SM5, SKN, NG, hBN⟩ := boxNums hBF
            have HBF := Lib.hid hBF
            have HBN := Lib.hid hBN
            have hk' : (k : Int) < 8 := by omega
            have q1 := hBN.q
            have q2 := hBN.qd
            clear hBF hBN hk c05
            go_wp2_with fail
            refine (boxCall HBF.out HBN.out.w _).mono ?_
            rintro e w22 ⟨⟨xa, xb, xc, xd, rfl, hR⟩, hb⟩
            replace HC := Lib.hid (codeBelow HC.out HZ.out hb)
            replace HW := Lib.hid (HW.out.trans (hb.mono HW.out.size))
            replace HZ := Lib.hid (Nat.le_trans HZ.out hb.size)
            clear hb
            have N470 := (NAt.new hR (bxP_len k) rfl : NAt (w22.alloc (.cells #[.slice xa 8 xc, .slice xb 6 xd] 27)) w22.heap.size _ _ _ _ _ _ _ _)
            have hb : Below w22.heap.size w22 (w22.alloc (.cells #[.slice xa 8 xc, .slice xb 6 xd] 27)) := (Below.refl _ _).alloc (Nat.le_refl _) _
            replace HC := Lib.hid (codeBelow HC.out HZ.out hb)
            replace HW := Lib.hid (HW.out.trans (hb.mono HW.out.size))
            replace HZ := Lib.hid (Nat.le_trans HZ.out hb.size)
            clear hb
            have N47 := Lib.hid N470
            clear N470
            as_aux_lemma =>
            clear hR q1 q2
            have c047 := N47.out.c0
            have c147 := N47.out.c1
            go_wp2_with fail
            refine (volT' N47.out (bx_net HBF.out) (bxSz HBF.out HBN.out.sz).1 (bxSz HBF.out HBN.out.sz).2).mono ?_
            rintro e w23 ⟨rfl, hb⟩
            clear c047 c147
            replace N47 := Lib.hid (N47.out.below hb)
            replace HC := Lib.hid (codeBelow HC.out HZ.out hb)
            replace HW := Lib.hid (HW.out.trans (hb.mono HW.out.size))
            replace HZ := Lib.hid (Nat.le_trans HZ.out hb.size)
            clear hb
            have c047 := N47.out.c0
            have c147 := N47.out.c1
            go_wp2_with fail
            refine (areaA N47.out (bx_net HBF.out) (bxSk HBF.out HBN.out.sk).1.1 (bxSk HBF.out HBN.out.sk).2 (bxSk HBF.out HBN.out.sk).1.2).mono ?_
            rintro e w24 ⟨rfl, hb⟩
            clear c047 c147
            replace N47 := Lib.hid (N47.out.below hb)
            replace HC := Lib.hid (codeBelow HC.out HZ.out hb)
            replace HW := Lib.hid (HW.out.trans (hb.mono HW.out.size))
            replace HZ := Lib.hid (Nat.le_trans HZ.out hb.size)
            clear hb
            have c047 := N47.out.c0
            have c147 := N47.out.c1
            go_wp2_with fail
            refine (roundA N47.out (bx_net HBF.out) (by rw [bxP_len]; exact (bx_rnd HBF.out).v) (bxRl k).1 (bxRl k).2).mono ?_
            rintro e w25 ⟨⟨ya, yb, yc, yd, rfl, hR⟩, hb⟩
            clear c047 c147
            replace N47 := Lib.hid (N47.out.below hb)
            replace HC := Lib.hid (codeBelow HC.out HZ.out hb)
            replace HW := Lib.hid (HW.out.trans (hb.mono HW.out.size))
            replace HZ := Lib.hid (Nat.le_trans HZ.out hb.size)
            clear hb
            have N530 := (NAt.new (by rw [bxP_len] at hR; exact hR) (bxRl k).1 (by have := (bxRl k).2; rw [bxP_len] at this; exact this) : NAt (w25.alloc (.cells #[.slice ya 26 yc, .slice yb 24 yd] 27)) w25.heap.size _ _ _ _ _ _ _ _)
            have hb : Below w25.heap.size w25 (w25.alloc (.cells #[.slice ya 26 yc, .slice yb 24 yd] 27)) := (Below.refl _ _).alloc (Nat.le_refl _) _
            replace N47 := Lib.hid (N47.out.below hb)
            replace HC := Lib.hid (codeBelow HC.out HZ.out hb)
            replace HW := Lib.hid (HW.out.trans (hb.mono HW.out.size))
            replace HZ := Lib.hid (Nat.le_trans HZ.out hb.size)
            clear hb
            have N53 := Lib.hid N530
            clear N530
            as_aux_lemma =>
            clear hR
            have c053 := N53.out.c0
            have c153 := N53.out.c1
            go_wp2_with fail
            refine (volT' N53.out (bx_rnd HBF.out) (bxLs HBF.out HBN.out.ls).1 (bxLs HBF.out HBN.out.ls).2).mono ?_
            rintro e w26 ⟨rfl, hb⟩
            clear c053 c153
            replace N47 := Lib.hid (N47.out.below hb)
            replace N53 := Lib.hid (N53.out.below hb)
            replace HC := Lib.hid (codeBelow HC.out HZ.out hb)
            replace HW := Lib.hid (HW.out.trans (hb.mono HW.out.size))
            replace HZ := Lib.hid (Nat.le_trans HZ.out hb.size)
            clear hb
            have c047 := N47.out.c0
            have c147 := N47.out.c1
            go_wp2_with fail
            refine (backA N47.out (bx_net HBF.out)).mono ?_
            rintro e w27 ⟨⟨ua, ub, uc, ud, rfl, hR⟩, hb⟩
            clear c047 c147
            replace N47 := Lib.hid (N47.out.below hb)
            replace N53 := Lib.hid (N53.out.below hb)
            replace HC := Lib.hid (codeBelow HC.out HZ.out hb)
            replace HW := Lib.hid (HW.out.trans (hb.mono HW.out.size))
            replace HZ := Lib.hid (Nat.le_trans HZ.out hb.size)
            clear hb
            have N570 := (NAt.new hR (bxP_len k) rfl : NAt (w27.alloc (.cells #[.slice ua 8 uc, .slice ub 6 ud] 27)) w27.heap.size _ _ _ _ _ _ _ _)
            have hb : Below w27.heap.size w27 (w27.alloc (.cells #[.slice ua 8 uc, .slice ub 6 ud] 27)) := (Below.refl _ _).alloc (Nat.le_refl _) _
            replace N47 := Lib.hid (N47.out.below hb)
            replace N53 := Lib.hid (N53.out.below hb)
            replace HC := Lib.hid (codeBelow HC.out HZ.out hb)
            replace HW := Lib.hid (HW.out.trans (hb.mono HW.out.size))
            replace HZ := Lib.hid (Nat.le_trans HZ.out hb.size)
            clear hb
            have N57 := Lib.hid N570
            clear N570
            as_aux_lemma =>
            clear hR
            have c057 := N57.out.c0
            have c157 := N57.out.c1
            go_wp2_with fail
            refine (volT' N57.out (bx_back HBF.out) (bxOp HBF.out HBN.out.op).1 (bxOp HBF.out HBN.out.op).2).mono ?_
            rintro e w28 ⟨rfl, hb⟩
            clear c057 c157
            replace N47 := Lib.hid (N47.out.below hb)
            replace N53 := Lib.hid (N53.out.below hb)
            replace N57 := Lib.hid (N57.out.below hb)
            replace HC := Lib.hid (codeBelow HC.out HZ.out hb)
            replace HW := Lib.hid (HW.out.trans (hb.mono HW.out.size))
            replace HZ := Lib.hid (Nat.le_trans HZ.out hb.size)
            clear hb
            clear N47 N53 N57
            go_wp2_with fail
            refine (r8At w0.heap.size a2 n2 ca2 4 4 hn2 (by decide) (by decide) (by decide) _ HC.out).mono ?_
            rintro e w29 ⟨⟨gm, rfl, hgm⟩, hz0⟩
            subst hz0
            have hgm' : (gm : Int) < 4 := by omega
            go_wp2_with fail
            refine (r8At w0.heap.size a2 n2 ca2 5 4 hn2 (by decide) (by decide) (by decide) _ HC.out).mono ?_
            rintro e w30 ⟨⟨gn, rfl, hgn⟩, hz0⟩
            subst hz0
            have hgn' : (gn : Int) < 4 := by omega
            obtain ⟨GN, hGN⟩ : ∃ x, (gn + 1 + 1) * (gm + 1 + 1) = x := ⟨_, rfl⟩
            obtain ⟨GF, hGF⟩ : ∃ x, (gm + 1) * (gn + 1) = x := ⟨_, rfl⟩
            have HGN := Lib.hid hGN
            have HGF := Lib.hid hGF
            have HGm := Lib.hid hgm
            have HGn := Lib.hid hgn
            clear hGN hGF hgm hgn
            go_wp2_with fail
            refine (gridCall gm gn HGm.out HGn.out HGN.out HGF.out (x := 1 + (gm : Int)) (y := 1 + (gn : Int)) (by omega) (by omega) _).mono ?_
            rintro e w31 ⟨⟨ta, tb, tc, td, rfl, hR⟩, hb⟩
            replace HC := Lib.hid (codeBelow HC.out HZ.out hb)
            replace HW := Lib.hid (HW.out.trans (hb.mono HW.out.size))
            replace HZ := Lib.hid (Nat.le_trans HZ.out hb.size)
            clear hb
            have N610 := (NAt.new hR (gridP_len _ _) (by rw [gridF_len]; exact HGF.out) : NAt (w31.alloc (.cells #[.slice ta GN tc, .slice tb GF td] 27)) w31.heap.size _ _ _ _ _ _ _ _)
            have hb : Below w31.heap.size w31 (w31.alloc (.cells #[.slice ta GN tc, .slice tb GF td] 27)) := (Below.refl _ _).alloc (Nat.le_refl _) _
            replace HC := Lib.hid (codeBelow HC.out HZ.out hb)
            replace HW := Lib.hid (HW.out.trans (hb.mono HW.out.size))
            replace HZ := Lib.hid (Nat.le_trans HZ.out hb.size)
            clear hb
            have N61 := Lib.hid N610
            clear N610
            as_aux_lemma =>
            clear hR
            obtain ⟨FL, FL6, FI, hNS, hFA, hFN, hF1, hF2, hF3, hF4⟩ := gridNums HGm.out HGn.out HGN.out HGF.out
            have HNS := Lib.hid hNS
            have HFA := Lib.hid hFA
            have HFN := Lib.hid hFN
            have HF4 := Lib.hid hF4
            clear hNS hFA hFN hF4
            have c061 := N61.out.c0
            have c161 := N61.out.c1
            go_wp2_with fail
            refine (areaA N61.out HNS.out HFA.out.1 HFN.out HFA.out.2).mono ?_
            rintro e w32 ⟨rfl, hb⟩
            clear c061 c161
            replace N61 := Lib.hid (N61.out.below hb)
            replace HC := Lib.hid (codeBelow HC.out HZ.out hb)
            replace HW := Lib.hid (HW.out.trans (hb.mono HW.out.size))
            replace HZ := Lib.hid (Nat.le_trans HZ.out hb.size)
            clear hb
            have c061 := N61.out.c0
            have c161 := N61.out.c1
            have s1 := HBN.out.cw
            have s2 := HBN.out.cwd
            have s3 := HBN.out.cz
            have s4 := HBN.out.czd
            have s5 := HBN.out.ck
            have s6 := HBN.out.ckd
            have s7 := HBN.out.co
            have s8 := HBN.out.cod
            have t1 := HBN.out.m6
            have t2 := HBN.out.m6d
            have t3 := HBN.out.m2
            have t4 := HBN.out.m2d
            have t5 := HBN.out.m3
            have t6 := HBN.out.m3d
            have t7 := HBN.out.a1
            have t8 := HBN.out.a1d
            have t9 := HBN.out.a2
            have v1 := HBN.out.a2d
            have v2 := HBN.out.m5
            have v3 := HBN.out.m5d
            have v4 := HBN.out.ng
            have v5 := HBN.out.o1
            have v6 := HBN.out.o2
            obtain ⟨⟨g1a, g1b⟩, g1⟩ := gapE HBN.out.g1
            obtain ⟨⟨g2a, g2b⟩, g2⟩ := gapE HBN.out.g2
            obtain ⟨⟨g3a, g3b⟩, g3⟩ := gapE HBN.out.g3
            obtain ⟨⟨g4a, g4b⟩, g4⟩ := gapE HF4.out
            have HQ1 := Lib.hid (r8GapN g1a g1b)
            have HQ2 := Lib.hid (r8GapN g2a g2b)
            have HQ3 := Lib.hid (r8GapN g3a g3b)
            have HQ4 := Lib.hid (r8GapN g4a g4b)
            clear g1a g1b g2a g2b g3a g3b g4a g4b
            generalize gapM OP6 NG = G1 at *
            generalize gapM SZ6 SIX = G2 at *
            generalize gapM SK6 SKN = G3 at *
            generalize gapM FL6 FI = G4 at *
            go_wp2_with fail
            refine (HQ1.out _).mono ?_
            rintro e w90 ⟨rfl, hz0⟩
            subst hz0
            go_wp2_with fail
            refine (HQ2.out _).mono ?_
            rintro e w91 ⟨rfl, hz0⟩
            subst hz0
            go_wp2_with fail
            refine (HQ3.out _).mono ?_
            rintro e w92 ⟨rfl, hz0⟩
            subst hz0
            go_wp2_with fail
            refine (HQ4.out _).mono ?_
            rintro e w93 ⟨rfl, hz0⟩
            subst hz0
            go_wp2_with fail
            go_ret
            exact ⟨rfl, HW.out⟩
  · go_wp2_with fail
    refine (r8LongYes a1 a2 n1 n2 ca1 ca2 hsz w).mono ?_
    rintro e w0 ⟨rfl, hw0⟩
    subst hw0
    go_wp2_with fail
    go_ret
    exact ⟨rfl, Below.refl _ _⟩
end Go.Proofs.Ytkjljajjjhfklaa
