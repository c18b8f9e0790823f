/- An outline whose loops are turned: BackLoops, MoveOutline, the program's. (Written by mkgtu.py.) -/
import Derived.Test.YtgghhnglnklmbaaGRv
import Derived.Test.YtgghhnglnklmbaaQApp
namespace Go.Fl
open Go.RowKit
theorem OL.wide {w : World} {lo hi : Nat} {ao : Option Addr} {nm : ByteArray} {ls : List (List Cx)} {kls : List (List Zp)} (h : OL w lo hi ao nm ls kls) (hh : hi ≤ w.heap.size) : OL w lo w.heap.size ao nm ls kls :=
  ⟨h.ok, h.sl.mono (Nat.le_refl _) hh, h.len, h.q, Nat.le_refl _⟩
end Go.Fl
namespace Go.Proofs.Ytgghhnglnklmbaa
open Go.RowKit Go.Fl

set_option maxHeartbeats 4000000 in
set_option maxRecDepth 100000 in
theorem turnedBack (lo hi : Nat) (ao : Option Addr) (c : Nat) (nm : ByteArray) (ls : List (List Cx)) (kls kls' : List (List Zp))  (w : World) (h : OL w lo hi ao nm ls kls) (hkl : kls'.length = kls.length)
    (hof : ∀ i, i < ls.length → ∀ (g cp : Nat) (W : World), OwnC1 W g (lpAt ls i) → w.heap.size ≤ g → Below w.heap.size w W → Calls Try.prog 24 #[.slice (some ⟨g, 0, none⟩) (lpAt ls i).length cp] W fun e W' => e = .returned (.slice (some ⟨g, 0, none⟩) (lpAt ls i).length cp) ∧ (∃ l', l'.length = (lpAt ls i).length ∧ OwnC1 W' g l' ∧ PtsQ l' (kAt kls' i) 5 ∧ okLoop l' = true) ∧ Only (fun c => c = g) W W') :
    Calls Try.prog 23 #[.agg #[.string nm, .slice ao ls.length c], .func (.func 24) #[] #[]] w fun e w' => (∃ ao' cap', e = .returned (.tuple #[.agg #[.string nm, .slice ao' ls.length cap'], .bool true]) ∧ ∃ ls', ls'.length = ls.length ∧ OL w' (w.heap.size + 2) w'.heap.size ao' nm ls' kls') ∧ Below w.heap.size w w' := by
  obtain ⟨wA, hwA⟩ : ∃ x : World, x = (w.alloc (.cells #[.string nm, .slice ao ls.length c] 26)).alloc (.cells #[.string ⟨#[]⟩, .slice none 0 0] 26) := ⟨_, rfl⟩
  have hBA : Below w.heap.size w wA := by rw [hwA]; exact (Below.alloc (Below.refl _ _) (Nat.le_refl _) _).alloc (by simp) _
  have zA : wA.heap.size = w.heap.size + 2 := by rw [hwA]; simp
  have HO := Lib.hid (h.below hBA h.top)
  have HB := Lib.hid hBA
  have HV := Lib.hid (validOutline lo hi ao c nm ls h.short.1 (by have := h.short.2.1; omega) h.short.2.2.2 _ HO.out.sl HO.out.top)
  have HOK := Lib.hid (decide_eq_true h.ok)
  have HOC := Lib.hid (show OwnC wA w.heap.size #[.string nm, .slice ao ls.length c] 26 by rw [hwA]; exact (OwnC.new rfl).alloc _)
  have HRC := Lib.hid (show OwnC wA (w.heap.size + 1) #[.string ⟨#[]⟩, .slice none 0 0] 26 by rw [hwA]; exact OwnC.new (by simp))
  have HOF := Lib.hid hof
  have HSH := Lib.hid h.short
  have HLEN := Lib.hid h.len
  have HKL := Lib.hid hkl
  have HNM := Lib.hid h.ok.1
  have hl4 := h.short.2.1
  have hl1 := h.short.2.2.1
  have htop := h.top
  clear h hof hBA hkl
  go_enter Try.func23, Try.ntmps23
  go_wp2_with fail
  rw [← hwA]
  clear hwA
  refine HV.out.mono ?_
  rintro e w1 ⟨rfl, hb1⟩
  rw [HOK.out]
  have z1 := hb1.size
  have HO1 := Lib.hid (HO.out.below hb1 HO.out.top)
  have HB1 := Lib.hid (HB.out.trans (hb1.mono (by omega)))
  have HOC1 := Lib.hid (HOC.out.below hb1 (by omega))
  have HRC1 := Lib.hid (HRC.out.below hb1 (by omega))
  have c0 := HOC1.out.cell 0
  have c1 := HOC1.out.cell 1
  simp at c0 c1
  clear hb1
  obtain ⟨P, hP⟩ : ∃ P, P = w1.heap.size := ⟨_, rfl⟩
  have HAL := Lib.hid (show Below w1.heap.size w1 (w1.alloc (.cells #[.string nm, .slice none 0 0] 26)) from Below.alloc (Below.refl _ _) (Nat.le_refl _) _)
  have c0A := keep_cell HAL.out c0
  have c1A := keep_cell HAL.out c1
  have HOA := Lib.hid (HO1.out.below HAL.out HO1.out.top)
  have HBA := Lib.hid (HB1.out.trans (HAL.out.mono HB1.out.size))
  have HOCA := Lib.hid (HOC1.out.below HAL.out (by omega))
  have HRCA := Lib.hid (HRC1.out.below HAL.out (by omega))
  have HPA := Lib.hid (show OwnC (w1.alloc (.cells #[.string nm, .slice none 0 0] 26)) P #[.string nm, .slice none 0 0] 26 by rw [hP]; exact OwnC.new rfl)
  have HZA := Lib.hid (show (w1.alloc (.cells #[.string nm, .slice none 0 0] 26)).heap.size = P + 1 by rw [hP]; simp)
  have hPw : w.heap.size + 2 ≤ P := by omega
  clear HAL c0A
  go_wp2_with fail
  rw [← hP]
  clear hP
  go_loopw [19] (fun i wr => ∃ (k cap : Nat) (ao' : Option Addr) (ls' : List (List Cx)), k ≤ ls.length ∧ i = .int .i64 k ∧ Hid (ls'.length = k) ∧ Hid (∀ i, i < k → PtsQ (lpAt ls' i) (kAt kls' i) 5 ∧ okLoop (lpAt ls' i) = true) ∧ Hid (OwnC wr P #[.string nm, .slice ao' k cap] 26) ∧ Hid (LsAt wr 58 (P + 1) wr.heap.size ao' cap ls') ∧ P + 1 ≤ wr.heap.size ∧ Hid (OL wr lo hi ao nm ls kls) ∧ Hid (OwnC wr w.heap.size #[.string nm, .slice ao ls.length c] 26) ∧ Hid (OwnC wr (w.heap.size + 1) #[.string ⟨#[]⟩, .slice none 0 0] 26) ∧ Hid (Below w.heap.size w wr)) (fun i _ => ls.length - (intOf i).toNat)
  case atStart => exact ⟨0, 0, none, [], by omega, rfl, Lib.hid rfl, Lib.hid (fun i h => absurd h (Nat.not_lt_zero _)), HPA, Lib.hid (LsAt.nil _ _ _ _), by have := HZA.out; omega, HOA, HOCA, HRCA, HBA⟩
  case round =>
    obtain ⟨k, cap, ao', ls', hk, rfl, HL, HQ, HP, HLS, hz, HOL, HOCr, HRCr, HW⟩ := hrel
    have hP1 := HP.out.cell 1
    have fP1 := HP.out.free 1
    simp at hP1
    by_cases hlt : k < ls.length
    · obtain ⟨wo, hwo⟩ : ∃ x : World, x = wr := ⟨_, rfl⟩
      subst hwo
      obtain ⟨b, rfl, hb1, hb2, hc⟩ := HOL.out.sl (by omega)
      obtain ⟨ai, ci, d1, hs1'⟩ := hc k hlt
      have HSL := Lib.hid hs1'
      have hlp := HOL.out.loop hlt
      have HCLO := Lib.hid (fun n0 => cloneC lo hi ai ci (lpAt ls k) (by omega) (by omega) (wo.drewN n0) (HSL.out.far ((Far.refl _ _ _).drewN n0)) (by show hi ≤ wo.heap.size; exact HOL.out.top))
      have HOFK := Lib.hid (HOF.out k hlt)
      obtain ⟨L, hL⟩ : ∃ L, L = (lpAt ls k).length := ⟨_, rfl⟩
      rw [← hL] at HCLO d1 HOFK hlp
      have hL64 : L ≤ 64 := hlp.2.2
      have HLL := Lib.hid hL
      have k0 : (0 : Int) ≤ (k : Int) := by omega
      have k1 : (k : Int) < (ls.length : Int) := by omega
      have hk4 : k ≤ 4 := by omega
      clear hc hs1' hlp hL c0 c1 c1A
      go_wp2_with fail
      go_region_law (first
        | (go_simp; go_at_call 44; refine (HCLO.out 1).mono ?_; rintro e w5 ⟨⟨g5, c5, rfl, hg5, ho5⟩, hb5⟩; have hg5' : wo.heap.size ≤ g5 := hg5; have HB5 := Lib.hid (show Below wo.heap.size wo w5 from (below_dr (Below.refl wo.heap.size wo) 1).trans hb5); have HO5 := Lib.hid ho5; have z5 := HB5.out.size; have lt5 := ho5.1.lt; have dP5 := (HB5.out.cell (p := ⟨P, 1, none⟩) (show P < wo.heap.size by omega)).trans hP1; clear hg5 ho5 hb5)
        | (go_simp; go_at_call 24; refine (HOFK.out g5 c5 w5 HO5.out (by omega) (HW.out.trans (HB5.out.mono (by omega)))).mono ?_; rintro e w6 ⟨rfl, ⟨l6, hl6, ho6, hq6, hok6⟩, hon6⟩; have HL6 := Lib.hid hl6; have HO6 := Lib.hid ho6; have HQ6 := Lib.hid hq6; have HOK6 := Lib.hid hok6; have HB6 := Lib.hid (show Below wo.heap.size wo w6 from HB5.out.trans (hon6.below fun c hc => by omega)); have z6 : w6.heap.size = w5.heap.size := hon6.size; have dP6 := (HB6.out.cell (p := ⟨P, 1, none⟩) (show P < wo.heap.size by omega)).trans hP1; have n6 : P < w6.heap.size := (by omega); have n6' : ¬ P = w6.heap.size := (by omega); have dP7 := keep_cell (Below.alloc (Below.refl w6.heap.size w6) (Nat.le_refl _) (.cells #[.slice (some ⟨g5, 0, none⟩) L c5] 58)) dP6; have HLS6 := Lib.hid (LsAt.far HLS.out (Far.below HB6.out (Nat.le_refl _))); clear hl6 ho6 hq6 hok6 hon6)
        | (refine step_appL rfl (.tmp 24) (.tmp 29) 24 rfl 58 (.slice none 0 0) 24 Try.underlying24 infoSl rfl (by decide) w6 (P + 1) wo.heap.size ao' cap k ls' g5 c5 L w6.heap.size l6 (by simp [Act.eval]) HL.out.symm (by simp [Act.eval]) rfl HLS6.out HO6.out HL6.out.symm hg5' hz (by omega) (by omega) (by have := HL.out; omega) ?_ _ rfl; intro ao8 cap8 w8 hl8 hb8 hz8; have HL8 := Lib.hid hl8; have HB8 := Lib.hid hb8; have g8 := (hb8.frozen (p := ⟨P, 1, none⟩) (by show P < P + 1; omega)).trans ((HB6.out.frozen (p := ⟨P, 1, none⟩) (show P < wo.heap.size by omega)).trans fP1); have d8 := (hb8.cell (p := ⟨P, 1, none⟩) (by show P < P + 1; omega)).trans dP6; clear hl8 hb8))
      all_goals
        go_wp2_with fail
        have hB68 : Below (P + 1) wo w8 := (HB6.out.mono hz).trans HB8.out
        have hP8 : OwnC w8 P #[.string nm, .slice ao' k cap] 26 := HP.out.below hB68 (by omega)
        refine ⟨⟨k + 1, cap8, ao8, ls' ++ [l6], by omega, by go_num, Lib.hid (by rw [List.length_append, HL.out]; rfl), Lib.hid (fun i hi => ?_), Lib.hid ((hP8.set 1 _).congr (by simp)), ?_, by simp; omega, Lib.hid ((HOL.out.below (hB68.mono (show hi ≤ P + 1 by omega)) (Nat.le_refl _)).far ((Far.refl lo hi w8).set ⟨P, 1, none⟩ (.slice ao8 (k + 1) cap8) (.inr (by show hi ≤ P; omega))) (by simp)), Lib.hid ((HOCr.out.below hB68 (by omega)).other _ _ (by show w.heap.size ≠ P; omega)), Lib.hid ((HRCr.out.below hB68 (by omega)).other _ _ (by show w.heap.size + 1 ≠ P; omega)), Lib.hid ((HW.out.trans (hB68.mono (by omega))).setCell (by show w.heap.size ≤ P; omega) _)⟩, by simp [intOf]; omega⟩
        · by_cases e : i < k
          · rw [lpAt_app ls' l6 (by rw [HL.out]; exact e)]
            exact HQ.out i e
          · have e2 : i = ls'.length := by rw [HL.out]; omega
            subst e2
            rw [lpAt_last]
            have e3 := HL.out
            rw [e3]
            exact ⟨HQ6.out, HOK6.out⟩
        · have := LsAt.far HL8.out ((Far.refl (P + 1) w8.heap.size w8).set ⟨P, 1, none⟩ (.slice ao8 (k + 1) cap8) (.inl (by show P < P + 1; omega)))
          exact Lib.hid (by simpa using this)
    · have hkn : k = ls.length := by omega
      have k1 : ¬ (k : Int) < (ls.length : Int) := by omega
      have hP0 := HP.out.cell 0
      simp at hP0
      have hOL' : OL wr (w.heap.size + 2) wr.heap.size ao' nm ls' kls' := ⟨⟨HNM.out, by rw [HL.out, hkn]; exact hl1, by rw [HL.out, hkn]; exact hl4, List.all_eq_true.2 fun l hl => by
          obtain ⟨i, hi, rfl⟩ := List.getElem_of_mem hl
          have e : lpAt ls' i = ls'[i] := by simp [lpAt, hi]
          rw [← e]; exact (HQ.out i (by rw [← HL.out]; exact hi)).2⟩, (HLS.out.slL).mono (by omega) (Nat.le_refl _), by rw [HKL.out, HLEN.out, HL.out, hkn], fun i hi => (HQ.out i (by rw [← HL.out]; exact hi)).1, Nat.le_refl _⟩
      have HOL' := Lib.hid hOL'
      have HV2 := Lib.hid (validOutline (w.heap.size + 2) wr.heap.size ao' cap nm ls' hOL'.short.1 (by have := hOL'.short.2.1; omega) hOL'.short.2.2.2 wr hOL'.sl (Nat.le_refl _))
      have HOK2 := Lib.hid (decide_eq_true hOL'.ok)
      rw [HL.out] at HV2
      have HKN := Lib.hid hkn
      have hzw := HW.out.size
      clear hOL' hkn c0 c1 c1A
      go_wp2_with fail
      refine HV2.out.mono ?_
      rintro e w3 ⟨rfl, hb3⟩
      rw [HOK2.out]
      have z3 := hb3.size
      have e0 := keep_cell hb3 hP0
      have e1 := keep_cell hb3 hP1
      have HR3 := Lib.hid (HRCr.out.below hb3 (by omega))
      have HOL3 := Lib.hid (HOL'.out.below hb3 (Nat.le_refl _))
      have HW3 := Lib.hid (HW.out.trans (hb3.mono hzw))
      have r0 := HR3.out.cell 0
      have r1 := HR3.out.cell 1
      have f0 := HR3.out.free 0
      have f1 := HR3.out.free 1
      simp at r0 r1
      clear hb3 hP0 hP1 fP1
      go_wp2_with fail
      have v2 := res_two HR3.out (.string nm) (.slice ao' k cap)
      have q0 := v2.1
      have q1 := v2.2
      refine bodyPost_ret (v := .tuple #[.agg #[.string nm, .slice ao' k cap], .bool true]) (by simp [results, Try.results23, go_sem, q0, q1]) rfl ⟨⟨ao', cap, by rw [← HKN.out], ls', by rw [HL.out, HKN.out], ?_⟩, ?_⟩
      · exact (HOL3.out.far (((Far.refl (w.heap.size + 2) wr.heap.size w3).set ⟨w.heap.size + 1, 0, none⟩ (.string nm) (.inl (by show w.heap.size + 1 < w.heap.size + 2; omega))).set ⟨w.heap.size + 1, 1, none⟩ (.slice ao' k cap) (.inl (by show w.heap.size + 1 < w.heap.size + 2; omega))) (by simp)).wide (by simp; omega)
      · exact (HW3.out.setCell (by show w.heap.size ≤ w.heap.size + 1; omega) _).setCell (by show w.heap.size ≤ w.heap.size + 1; omega) _
set_option maxHeartbeats 4000000 in
set_option maxRecDepth 100000 in
theorem turnedMove (lo hi : Nat) (ao : Option Addr) (c : Nat) (nm : ByteArray) (ls : List (List Cx)) (kls kls' : List (List Zp)) (B : Nat) (w : World) (h : OL w lo hi ao nm ls kls) (hkl : kls'.length = kls.length)
    (hof : ∀ i, i < ls.length → ∀ (g cp : Nat) (W : World), OwnC1 W g (lpAt ls i) → w.heap.size ≤ g → Below w.heap.size w W → Calls Try.prog 38 #[.slice (some ⟨g, 0, none⟩) (lpAt ls i).length cp, .pointer (some ⟨B, 0, none⟩)] W fun e W' => e = .returned (.slice (some ⟨g, 0, none⟩) (lpAt ls i).length cp) ∧ (∃ l', l'.length = (lpAt ls i).length ∧ OwnC1 W' g l' ∧ PtsQ l' (kAt kls' i) 5 ∧ okLoop l' = true) ∧ Only (fun c => c = g) W W') :
    Calls Try.prog 23 #[.agg #[.string nm, .slice ao ls.length c], .func (.func 38) #[] #[.pointer (some ⟨B, 0, none⟩)]] w fun e w' => (∃ ao' cap', e = .returned (.tuple #[.agg #[.string nm, .slice ao' ls.length cap'], .bool true]) ∧ ∃ ls', ls'.length = ls.length ∧ OL w' (w.heap.size + 2) w'.heap.size ao' nm ls' kls') ∧ Below w.heap.size w w' := by
  obtain ⟨wA, hwA⟩ : ∃ x : World, x = (w.alloc (.cells #[.string nm, .slice ao ls.length c] 26)).alloc (.cells #[.string ⟨#[]⟩, .slice none 0 0] 26) := ⟨_, rfl⟩
  have hBA : Below w.heap.size w wA := by rw [hwA]; exact (Below.alloc (Below.refl _ _) (Nat.le_refl _) _).alloc (by simp) _
  have zA : wA.heap.size = w.heap.size + 2 := by rw [hwA]; simp
  have HO := Lib.hid (h.below hBA h.top)
  have HB := Lib.hid hBA
  have HV := Lib.hid (validOutline lo hi ao c nm ls h.short.1 (by have := h.short.2.1; omega) h.short.2.2.2 _ HO.out.sl HO.out.top)
  have HOK := Lib.hid (decide_eq_true h.ok)
  have HOC := Lib.hid (show OwnC wA w.heap.size #[.string nm, .slice ao ls.length c] 26 by rw [hwA]; exact (OwnC.new rfl).alloc _)
  have HRC := Lib.hid (show OwnC wA (w.heap.size + 1) #[.string ⟨#[]⟩, .slice none 0 0] 26 by rw [hwA]; exact OwnC.new (by simp))
  have HOF := Lib.hid hof
  have HSH := Lib.hid h.short
  have HLEN := Lib.hid h.len
  have HKL := Lib.hid hkl
  have HNM := Lib.hid h.ok.1
  have hl4 := h.short.2.1
  have hl1 := h.short.2.2.1
  have htop := h.top
  clear h hof hBA hkl
  go_enter Try.func23, Try.ntmps23
  go_wp2_with fail
  rw [← hwA]
  clear hwA
  refine HV.out.mono ?_
  rintro e w1 ⟨rfl, hb1⟩
  rw [HOK.out]
  have z1 := hb1.size
  have HO1 := Lib.hid (HO.out.below hb1 HO.out.top)
  have HB1 := Lib.hid (HB.out.trans (hb1.mono (by omega)))
  have HOC1 := Lib.hid (HOC.out.below hb1 (by omega))
  have HRC1 := Lib.hid (HRC.out.below hb1 (by omega))
  have c0 := HOC1.out.cell 0
  have c1 := HOC1.out.cell 1
  simp at c0 c1
  clear hb1
  obtain ⟨P, hP⟩ : ∃ P, P = w1.heap.size := ⟨_, rfl⟩
  have HAL := Lib.hid (show Below w1.heap.size w1 (w1.alloc (.cells #[.string nm, .slice none 0 0] 26)) from Below.alloc (Below.refl _ _) (Nat.le_refl _) _)
  have c0A := keep_cell HAL.out c0
  have c1A := keep_cell HAL.out c1
  have HOA := Lib.hid (HO1.out.below HAL.out HO1.out.top)
  have HBA := Lib.hid (HB1.out.trans (HAL.out.mono HB1.out.size))
  have HOCA := Lib.hid (HOC1.out.below HAL.out (by omega))
  have HRCA := Lib.hid (HRC1.out.below HAL.out (by omega))
  have HPA := Lib.hid (show OwnC (w1.alloc (.cells #[.string nm, .slice none 0 0] 26)) P #[.string nm, .slice none 0 0] 26 by rw [hP]; exact OwnC.new rfl)
  have HZA := Lib.hid (show (w1.alloc (.cells #[.string nm, .slice none 0 0] 26)).heap.size = P + 1 by rw [hP]; simp)
  have hPw : w.heap.size + 2 ≤ P := by omega
  clear HAL c0A
  go_wp2_with fail
  rw [← hP]
  clear hP
  go_loopw [19] (fun i wr => ∃ (k cap : Nat) (ao' : Option Addr) (ls' : List (List Cx)), k ≤ ls.length ∧ i = .int .i64 k ∧ Hid (ls'.length = k) ∧ Hid (∀ i, i < k → PtsQ (lpAt ls' i) (kAt kls' i) 5 ∧ okLoop (lpAt ls' i) = true) ∧ Hid (OwnC wr P #[.string nm, .slice ao' k cap] 26) ∧ Hid (LsAt wr 58 (P + 1) wr.heap.size ao' cap ls') ∧ P + 1 ≤ wr.heap.size ∧ Hid (OL wr lo hi ao nm ls kls) ∧ Hid (OwnC wr w.heap.size #[.string nm, .slice ao ls.length c] 26) ∧ Hid (OwnC wr (w.heap.size + 1) #[.string ⟨#[]⟩, .slice none 0 0] 26) ∧ Hid (Below w.heap.size w wr)) (fun i _ => ls.length - (intOf i).toNat)
  case atStart => exact ⟨0, 0, none, [], by omega, rfl, Lib.hid rfl, Lib.hid (fun i h => absurd h (Nat.not_lt_zero _)), HPA, Lib.hid (LsAt.nil _ _ _ _), by have := HZA.out; omega, HOA, HOCA, HRCA, HBA⟩
  case round =>
    obtain ⟨k, cap, ao', ls', hk, rfl, HL, HQ, HP, HLS, hz, HOL, HOCr, HRCr, HW⟩ := hrel
    have hP1 := HP.out.cell 1
    have fP1 := HP.out.free 1
    simp at hP1
    by_cases hlt : k < ls.length
    · obtain ⟨wo, hwo⟩ : ∃ x : World, x = wr := ⟨_, rfl⟩
      subst hwo
      obtain ⟨b, rfl, hb1, hb2, hc⟩ := HOL.out.sl (by omega)
      obtain ⟨ai, ci, d1, hs1'⟩ := hc k hlt
      have HSL := Lib.hid hs1'
      have hlp := HOL.out.loop hlt
      have HCLO := Lib.hid (fun n0 => cloneC lo hi ai ci (lpAt ls k) (by omega) (by omega) (wo.drewN n0) (HSL.out.far ((Far.refl _ _ _).drewN n0)) (by show hi ≤ wo.heap.size; exact HOL.out.top))
      have HOFK := Lib.hid (HOF.out k hlt)
      obtain ⟨L, hL⟩ : ∃ L, L = (lpAt ls k).length := ⟨_, rfl⟩
      rw [← hL] at HCLO d1 HOFK hlp
      have hL64 : L ≤ 64 := hlp.2.2
      have HLL := Lib.hid hL
      have k0 : (0 : Int) ≤ (k : Int) := by omega
      have k1 : (k : Int) < (ls.length : Int) := by omega
      have hk4 : k ≤ 4 := by omega
      clear hc hs1' hlp hL c0 c1 c1A
      go_wp2_with fail
      go_region_law (first
        | (go_simp; go_at_call 44; refine (HCLO.out 1).mono ?_; rintro e w5 ⟨⟨g5, c5, rfl, hg5, ho5⟩, hb5⟩; have hg5' : wo.heap.size ≤ g5 := hg5; have HB5 := Lib.hid (show Below wo.heap.size wo w5 from (below_dr (Below.refl wo.heap.size wo) 1).trans hb5); have HO5 := Lib.hid ho5; have z5 := HB5.out.size; have lt5 := ho5.1.lt; have dP5 := (HB5.out.cell (p := ⟨P, 1, none⟩) (show P < wo.heap.size by omega)).trans hP1; clear hg5 ho5 hb5)
        | (go_simp; go_at_call 38; refine (HOFK.out g5 c5 w5 HO5.out (by omega) (HW.out.trans (HB5.out.mono (by omega)))).mono ?_; rintro e w6 ⟨rfl, ⟨l6, hl6, ho6, hq6, hok6⟩, hon6⟩; have HL6 := Lib.hid hl6; have HO6 := Lib.hid ho6; have HQ6 := Lib.hid hq6; have HOK6 := Lib.hid hok6; have HB6 := Lib.hid (show Below wo.heap.size wo w6 from HB5.out.trans (hon6.below fun c hc => by omega)); have z6 : w6.heap.size = w5.heap.size := hon6.size; have dP6 := (HB6.out.cell (p := ⟨P, 1, none⟩) (show P < wo.heap.size by omega)).trans hP1; have n6 : P < w6.heap.size := (by omega); have n6' : ¬ P = w6.heap.size := (by omega); have dP7 := keep_cell (Below.alloc (Below.refl w6.heap.size w6) (Nat.le_refl _) (.cells #[.slice (some ⟨g5, 0, none⟩) L c5] 58)) dP6; have HLS6 := Lib.hid (LsAt.far HLS.out (Far.below HB6.out (Nat.le_refl _))); clear hl6 ho6 hq6 hok6 hon6)
        | (refine step_appL rfl (.tmp 24) (.tmp 29) 24 rfl 58 (.slice none 0 0) 24 Try.underlying24 infoSl rfl (by decide) w6 (P + 1) wo.heap.size ao' cap k ls' g5 c5 L w6.heap.size l6 (by simp [Act.eval]) HL.out.symm (by simp [Act.eval]) rfl HLS6.out HO6.out HL6.out.symm hg5' hz (by omega) (by omega) (by have := HL.out; omega) ?_ _ rfl; intro ao8 cap8 w8 hl8 hb8 hz8; have HL8 := Lib.hid hl8; have HB8 := Lib.hid hb8; have g8 := (hb8.frozen (p := ⟨P, 1, none⟩) (by show P < P + 1; omega)).trans ((HB6.out.frozen (p := ⟨P, 1, none⟩) (show P < wo.heap.size by omega)).trans fP1); have d8 := (hb8.cell (p := ⟨P, 1, none⟩) (by show P < P + 1; omega)).trans dP6; clear hl8 hb8))
      all_goals
        go_wp2_with fail
        have hB68 : Below (P + 1) wo w8 := (HB6.out.mono hz).trans HB8.out
        have hP8 : OwnC w8 P #[.string nm, .slice ao' k cap] 26 := HP.out.below hB68 (by omega)
        refine ⟨⟨k + 1, cap8, ao8, ls' ++ [l6], by omega, by go_num, Lib.hid (by rw [List.length_append, HL.out]; rfl), Lib.hid (fun i hi => ?_), Lib.hid ((hP8.set 1 _).congr (by simp)), ?_, by simp; omega, Lib.hid ((HOL.out.below (hB68.mono (show hi ≤ P + 1 by omega)) (Nat.le_refl _)).far ((Far.refl lo hi w8).set ⟨P, 1, none⟩ (.slice ao8 (k + 1) cap8) (.inr (by show hi ≤ P; omega))) (by simp)), Lib.hid ((HOCr.out.below hB68 (by omega)).other _ _ (by show w.heap.size ≠ P; omega)), Lib.hid ((HRCr.out.below hB68 (by omega)).other _ _ (by show w.heap.size + 1 ≠ P; omega)), Lib.hid ((HW.out.trans (hB68.mono (by omega))).setCell (by show w.heap.size ≤ P; omega) _)⟩, by simp [intOf]; omega⟩
        · by_cases e : i < k
          · rw [lpAt_app ls' l6 (by rw [HL.out]; exact e)]
            exact HQ.out i e
          · have e2 : i = ls'.length := by rw [HL.out]; omega
            subst e2
            rw [lpAt_last]
            have e3 := HL.out
            rw [e3]
            exact ⟨HQ6.out, HOK6.out⟩
        · have := LsAt.far HL8.out ((Far.refl (P + 1) w8.heap.size w8).set ⟨P, 1, none⟩ (.slice ao8 (k + 1) cap8) (.inl (by show P < P + 1; omega)))
          exact Lib.hid (by simpa using this)
    · have hkn : k = ls.length := by omega
      have k1 : ¬ (k : Int) < (ls.length : Int) := by omega
      have hP0 := HP.out.cell 0
      simp at hP0
      have hOL' : OL wr (w.heap.size + 2) wr.heap.size ao' nm ls' kls' := ⟨⟨HNM.out, by rw [HL.out, hkn]; exact hl1, by rw [HL.out, hkn]; exact hl4, List.all_eq_true.2 fun l hl => by
          obtain ⟨i, hi, rfl⟩ := List.getElem_of_mem hl
          have e : lpAt ls' i = ls'[i] := by simp [lpAt, hi]
          rw [← e]; exact (HQ.out i (by rw [← HL.out]; exact hi)).2⟩, (HLS.out.slL).mono (by omega) (Nat.le_refl _), by rw [HKL.out, HLEN.out, HL.out, hkn], fun i hi => (HQ.out i (by rw [← HL.out]; exact hi)).1, Nat.le_refl _⟩
      have HOL' := Lib.hid hOL'
      have HV2 := Lib.hid (validOutline (w.heap.size + 2) wr.heap.size ao' cap nm ls' hOL'.short.1 (by have := hOL'.short.2.1; omega) hOL'.short.2.2.2 wr hOL'.sl (Nat.le_refl _))
      have HOK2 := Lib.hid (decide_eq_true hOL'.ok)
      rw [HL.out] at HV2
      have HKN := Lib.hid hkn
      have hzw := HW.out.size
      clear hOL' hkn c0 c1 c1A
      go_wp2_with fail
      refine HV2.out.mono ?_
      rintro e w3 ⟨rfl, hb3⟩
      rw [HOK2.out]
      have z3 := hb3.size
      have e0 := keep_cell hb3 hP0
      have e1 := keep_cell hb3 hP1
      have HR3 := Lib.hid (HRCr.out.below hb3 (by omega))
      have HOL3 := Lib.hid (HOL'.out.below hb3 (Nat.le_refl _))
      have HW3 := Lib.hid (HW.out.trans (hb3.mono hzw))
      have r0 := HR3.out.cell 0
      have r1 := HR3.out.cell 1
      have f0 := HR3.out.free 0
      have f1 := HR3.out.free 1
      simp at r0 r1
      clear hb3 hP0 hP1 fP1
      go_wp2_with fail
      have v2 := res_two HR3.out (.string nm) (.slice ao' k cap)
      have q0 := v2.1
      have q1 := v2.2
      refine bodyPost_ret (v := .tuple #[.agg #[.string nm, .slice ao' k cap], .bool true]) (by simp [results, Try.results23, go_sem, q0, q1]) rfl ⟨⟨ao', cap, by rw [← HKN.out], ls', by rw [HL.out, HKN.out], ?_⟩, ?_⟩
      · exact (HOL3.out.far (((Far.refl (w.heap.size + 2) wr.heap.size w3).set ⟨w.heap.size + 1, 0, none⟩ (.string nm) (.inl (by show w.heap.size + 1 < w.heap.size + 2; omega))).set ⟨w.heap.size + 1, 1, none⟩ (.slice ao' k cap) (.inl (by show w.heap.size + 1 < w.heap.size + 2; omega))) (by simp)).wide (by simp; omega)
      · exact (HW3.out.setCell (by show w.heap.size ≤ w.heap.size + 1; omega) _).setCell (by show w.heap.size ≤ w.heap.size + 1; omega) _
end Go.Proofs.Ytgghhnglnklmbaa
