/- The reference's l07Begin: an outline read in front of a text. -/
import Derived.Test.YtenamfkggeeacaaOTaken
import Derived.Test.YtenamfkggeeacaaORd
namespace Go.Proofs.Ytenamfkggeeacaa
open Go.RowKit Go.Fl

theorem w64_id (y : Int) (h1 : 0 ≤ y) (h2 : y < 9223372036854775808) : wrap64 y = y := by unfold wrap64; omega
theorem wi64_id (y : Int) (h1 : 0 ≤ y) (h2 : y < 9223372036854775808) : IntKind.i64.wrap y = y := by rw [IntKind.wrap_i64]; omega
theorem bN_ext (s : ByteArray) (a b i : Nat) (hb : b ≤ s.size) (hi : a + i < b) : bN (s.extract a b) i = bN s (a + i) := by
  have h1 : i < (s.extract a b).size := by rw [ByteArray.size_extract]; omega
  rw [bN_lt h1, bN_lt (show a + i < s.size by omega)]
  congr 1
  rw [ByteArray.getElem_extract]
theorem w32_ext (s : ByteArray) (a b : Nat) (hb : b ≤ s.size) (h : a + 4 ≤ b) : w32 (s.extract a b) 0 = w32 s a := by
  simp only [w32, Nat.zero_add]
  rw [bN_ext s a b 0 hb (by omega), bN_ext s a b 1 hb (by omega), bN_ext s a b 2 hb (by omega), bN_ext s a b 3 hb (by omega), Nat.add_zero]

set_option maxHeartbeats 8000000 in
set_option maxRecDepth 100000 in
theorem l07Begin (s : ByteArray) (hs : s.size ≤ 1048576) (w : World) :
    Calls Try.prog 15 #[.string s] w (RetO s w) := by
  have R0 : OwnC (w.alloc (.cells #[.string ⟨#[]⟩, .slice none 0 0] 24)) w.heap.size #[.string ⟨#[]⟩, .slice none 0 0] 24 := OwnC.new rfl
  have HR0 := Lib.hid R0
  have HB0 := Lib.hid (show Below w.heap.size w (w.alloc (.cells #[.string ⟨#[]⟩, .slice none 0 0] 24)) from Below.alloc (Below.refl _ _) (Nat.le_refl _) _)
  clear R0
  go_enter Try.func15, Try.ntmps15
  by_cases h5 : s.size < 5
  · have h5' : (s.size : Int) < 5 := by omega
    have hno : ¬ Rd s := fun h => by have := h.1.1; omega
    have HNO := Lib.hid hno
    clear hno
    go_wp2_with fail
    refine bodyPost_ret (v := .tuple #[.agg #[.string ⟨#[]⟩, .slice none 0 0], .int .i64 0]) (by simp [results, Try.results15, go_sem]) rfl (RetO.none HNO.out ?_)
    exact HB0.out
  · have h5' : ¬ (s.size : Int) < 5 := by omega
    have h4 : 4 < s.size := by omega
    have h4' : (4 : Int) < (s.size : Int) := by omega
    have hb4 := bN_lt h4
    have hP255 := bN_le s 4
    obtain ⟨P, hP⟩ : ∃ P, P = pName s := ⟨_, rfl⟩
    obtain ⟨A, hA⟩ : ∃ A, A = 5 + P := ⟨_, rfl⟩
    obtain ⟨B, hB⟩ : ∃ B, B = A + 1 := ⟨_, rfl⟩
    have hPb : P = bN s 4 := hP
    have p0 : wrap64 ((s[4].toNat : Nat) : Int) = (P : Int) := by rw [← hb4, hPb]; exact w64_id _ (by omega) (by omega)
    have p1 : wrap64 (5 + (P : Int)) = (A : Int) := by rw [w64_id _ (by omega) (by omega)]; omega
    have p2 : wrap64 ((A : Int) + 1) = (B : Int) := by rw [w64_id _ (by omega) (by omega)]; omega
    have HP := Lib.hid hP
    have HA := Lib.hid hA
    have HB := Lib.hid hB
    have hA5 : 5 ≤ A := by omega
    have hBl : B ≤ 261 := by omega
    have hAB : A < B := by omega
    have hB1 : B ≤ A + 1 := by omega
    clear hb4 hPb hP hA hB
    have a5 : (5 : Int) ≤ (A : Int) := by omega
    by_cases h6 : s.size < B
    · have h6' : (s.size : Int) < (B : Int) := by omega
      have hno : ¬ Rd s := fun h => by
        have := h.1.1
        have e1 := HP.out
        have e2 := HA.out
        have e3 := HB.out
        omega
      have HNO := Lib.hid hno
      clear hno
      go_wp2_with fail
      refine bodyPost_ret (v := .tuple #[.agg #[.string ⟨#[]⟩, .slice none 0 0], .int .i64 0]) (by simp [results, Try.results15, go_sem]) rfl (RetO.none HNO.out ?_)
      exact HB0.out
    · have h6' : ¬ (s.size : Int) < (B : Int) := by omega
      have a6 : (A : Int) ≤ (s.size : Int) := by omega
      have a7 : A < s.size := by omega
      have a8 : (A : Int) < (s.size : Int) := by omega
      obtain ⟨c, hc⟩ : ∃ c, c = bN s A := ⟨_, rfl⟩
      have hc255 : c ≤ 255 := by rw [hc]; exact bN_le _ _
      have p3 : wrap64 ((s[A].toNat : Nat) : Int) = (c : Int) := by rw [← bN_lt a7, ← hc]; exact w64_id _ (by omega) (by omega)
      have HC := Lib.hid (show c = pLoops s from by rw [hc, HA.out, HP.out]; rfl)
      have HQ0 := Lib.hid (show B = qAt s 0 from by rw [HB.out, HA.out, HP.out]; simp only [qAt]; omega)
      obtain ⟨nm, hnm⟩ : ∃ nm, nm = s.extract 5 A := ⟨_, rfl⟩
      have HN := Lib.hid (show nm = pNm s from by rw [hnm, HA.out, HP.out]; rfl)
      have hx5 : s.extract 5 A = nm := hnm.symm
      clear hnm
      have HPN := Lib.hid (show 6 + pName s ≤ s.size from by rw [← HP.out]; have := HA.out; have := HB.out; omega)
      clear hc
      have hB6 : B ≤ s.size := by omega
      go_wp2_with fail
      clear p0 p1 p2 p3 hx5
      go_loopw [4, 6, 7, 8] (fun t i _ _ wr => ∃ (k r a cap : Nat) (ao : Option Addr), k + r = c ∧ i = .int .i64 (r : Nat) ∧ t = .int .i64 (a : Nat) ∧ Hid (a = qAt s k) ∧ a ≤ s.size ∧ Hid (OwnC wr w.heap.size #[.string ⟨#[]⟩, .slice none 0 0] 24) ∧
        Hid (OwnC wr (w.heap.size + 1) #[.string nm, .slice ao k cap] 24) ∧ Hid (LsAt wr 40 (w.heap.size + 2) wr.heap.size ao cap (pLps s k)) ∧ Hid (∀ i, i < k → pFits s i) ∧ Hid (Below w.heap.size w wr) ∧ w.heap.size + 2 ≤ wr.heap.size) (fun _ i _ _ _ => (intOf i).toNat)
      case atStart =>
        refine ⟨0, c, B, 0, none, by omega, by first | rfl | go_num, by first | rfl | go_num, HQ0, hB6, ?_, ?_, LsAt.nil _ _ _ _, Lib.hid (fun i hi => absurd hi (Nat.not_lt_zero _)), ?_, ?_⟩
        · exact Lib.hid (HR0.out.alloc _)
        · exact Lib.hid (show OwnC ((w.alloc (.cells #[.string ⟨#[]⟩, .slice none 0 0] 24)).alloc (.cells #[.string nm, .slice none 0 0] 24)) (w.heap.size + 1) _ _ from OwnC.new (by simp))
        · exact Lib.hid (HB0.out.alloc (by simp) _)
        · simp <;> omega
      case round =>
        obtain ⟨k, r, a, cap, ao, hkr, rfl, rfl, HQ, ha, HR, HO, HL, HF, HW, hz⟩ := hrel
        obtain ⟨wo, hwo⟩ : ∃ x : World, x = wr := ⟨_, rfl⟩
        subst hwo
        by_cases hr : 0 < r
        · have r0 : (0 : Int) < (r : Int) := by omega
          obtain ⟨D, hD⟩ : ∃ D, D = a + 1 := ⟨_, rfl⟩
          have u1 : (a : Int) + 1 = (D : Int) := by omega
          by_cases h7 : s.size < D
          · have h7' : (s.size : Int) < (D : Int) := Int.ofNat_lt.2 h7
            have hno : ¬ Rd s := fun h => by
              have := h.1.2.1 k (by have := HC.out; omega)
              have e1 := HQ.out
              unfold pFits at this
              omega
            have HNO := Lib.hid hno
            have f0 := HR.out.free 0
            have f1 := HR.out.free 1
            have g0 := HR.out.cell 0
            have g1 := HR.out.cell 1
            simp at g0 g1
            clear hno hD
            go_wp2_with fail
            have v2 := res_two HR.out (.string ⟨#[]⟩) (.slice none 0 0)
            have q0 := v2.1
            have q1 := v2.2
            clear v2
            refine bodyPost_ret (v := .tuple #[.agg #[.string ⟨#[]⟩, .slice none 0 0], .int .i64 0]) (by simp [results, Try.results15, go_sem, q0, q1]) rfl (RetO.none HNO.out ?_)
            exact (HW.out.setCell (Nat.le_refl _) _).setCell (Nat.le_refl _) _
          · have h7' : ¬ (s.size : Int) < (D : Int) := fun h => h7 (Int.ofNat_lt.1 h)
            have a9 : a < s.size := by omega
            have a9' : (a : Int) < (s.size : Int) := by omega
            obtain ⟨m, hm⟩ : ∃ m, m = bN s a := ⟨_, rfl⟩
            have hm255 : m ≤ 255 := by rw [hm]; exact bN_le _ _
            have P4 : Hid (s[a].toNat = m) := Lib.hid <| by rw [← bN_lt a9, ← hm]
            obtain ⟨E8, hE8⟩ : ∃ E8, E8 = 8 * m := ⟨_, rfl⟩
            obtain ⟨F, hF⟩ : ∃ F, F = D + E8 := ⟨_, rfl⟩
            have p5 : 8 * (m : Int) = (E8 : Int) := by omega
            have p6 : (D : Int) + (E8 : Int) = (F : Int) := by omega
            have HM := Lib.hid (show m = bN s (qAt s k) from by rw [hm, HQ.out])
            by_cases h8 : s.size < F
            · have h8' : (s.size : Int) < (F : Int) := Int.ofNat_lt.2 h8
              have hno : ¬ Rd s := fun h => by
                have := h.1.2.1 k (by have := HC.out; omega)
                have e1 := HQ.out
                have e2 := HM.out
                unfold pFits at this
                omega
              have HNO := Lib.hid hno
              have f0 := HR.out.free 0
              have f1 := HR.out.free 1
              have g0 := HR.out.cell 0
              have g1 := HR.out.cell 1
              simp at g0 g1
              clear hno hD hE8 hF hm
              have p4 := P4.out
              have p4 := P4.out
              go_wp2_with fail
              have v2 := res_two HR.out (.string ⟨#[]⟩) (.slice none 0 0)
              have q0 := v2.1
              have q1 := v2.2
              clear v2
              refine bodyPost_ret (v := .tuple #[.agg #[.string ⟨#[]⟩, .slice none 0 0], .int .i64 0]) (by simp [results, Try.results15, go_sem, q0, q1]) rfl (RetO.none HNO.out ?_)
              exact (HW.out.setCell (Nat.le_refl _) _).setCell (Nat.le_refl _) _
            · have h8' : ¬ (s.size : Int) < (F : Int) := fun h => h8 (Int.ofNat_lt.1 h)
              have HD := Lib.hid hD
              have HF8 := Lib.hid (show F = D + 8 * m from by omega)
              have hD1 : D ≤ s.size := by omega
              clear hD hE8 hF hm
              have p4 := P4.out
              go_wp2_with fail
              clear u1 p4 p5 p6
              have HR5 := Lib.hid (OwnC.alloc HR.out (.cells #[] 41))
              have HO5 := Lib.hid (OwnC.alloc HO.out (.cells #[] 41))
              have HL5 := Lib.hid (LsAt.far HL.out ((Far.refl (w.heap.size + 2) wo.heap.size wo).alloc (.cells #[] 41) (Nat.le_refl _)))
              have HB5 := Lib.hid (Below.alloc HW.out (by omega) (.cells #[] 41))
              have HQ5 := Lib.hid (ORow.new wo 41 1)
              have HPK := Lib.hid (show pFits s k from by
                have e1 := HQ.out
                have e2 := HM.out
                have e3 := HD.out
                have e4 := HF8.out
                unfold pFits
                rw [← e2, ← e1]
                omega)
              have HDQ := Lib.hid (show D = qAt s k + 1 from by rw [← HQ.out]; exact HD.out)
              have hFs : F ≤ s.size := by omega
              go_loopw [4, 7, 8] (fun t i s8 wi => ∃ (q z a' bl cp : Nat), q + z = m ∧ i = .int .i64 (z : Nat) ∧ t = .int .i64 (a' : Nat) ∧ Hid (a' = D + 8 * q) ∧ a' ≤ s.size ∧ s8 = .slice (some ⟨bl, 0, none⟩) q cp ∧ Hid (OwnC wi w.heap.size #[.string ⟨#[]⟩, .slice none 0 0] 24) ∧
                Hid (OwnC wi (w.heap.size + 1) #[.string nm, .slice ao k cap] 24) ∧ Hid (LsAt wi 40 (w.heap.size + 2) wo.heap.size ao cap (pLps s k)) ∧ Hid (ORow wi 41 1 bl cp q ((pPts s k q).map cV)) ∧ wo.heap.size ≤ bl ∧ Hid (Below w.heap.size w wi) ∧ wo.heap.size ≤ wi.heap.size) (fun _ i _ _ => (intOf i).toNat)
              case atStart =>
                exact ⟨0, m, D, wo.heap.size, 0, by omega, by first | rfl | go_num, by first | rfl | go_num | (have := HD.out; go_num), Lib.hid (by omega), hD1, rfl, HR5, HO5, HL5, HQ5, Nat.le_refl _, HB5, by simp⟩
              case round =>
                obtain ⟨q, z, a', bl, cp, hqz, rfl, rfl, HA', ha', rfl, HR, HO, HL, HQR, hbl, HW, hzi⟩ := hrel
                by_cases hz0 : 0 < z
                · obtain ⟨z, rfl⟩ : ∃ z', z = z' + 1 := ⟨z - 1, by omega⟩
                  obtain ⟨x4, hx4⟩ : ∃ x, x = a' + 4 := ⟨_, rfl⟩
                  obtain ⟨x8, hx8⟩ : ∃ x, x = a' + 8 := ⟨_, rfl⟩
                  have hfit : x8 ≤ s.size := by
                    have e1 := HA'.out
                    have e2 := HF8.out
                    omega
                  have w1 : w32 (s.extract a' x4) 0 = w32 s a' := w32_ext s a' x4 (by omega) (by omega)
                  have w2 : w32 (s.extract x4 x8) 0 = w32 s (a' + 4) := by rw [w32_ext s x4 x8 (by omega) (by omega), hx4]
                  have z1 : 4 ≤ (s.extract a' x4).size := by rw [ByteArray.size_extract]; omega
                  have z2 : 4 ≤ (s.extract x4 x8).size := by rw [ByteArray.size_extract]; omega
                  obtain ⟨Y1, hY1⟩ : ∃ y, y = s.extract a' x4 := ⟨_, rfl⟩
                  obtain ⟨Y2, hY2⟩ : ∃ y, y = s.extract x4 x8 := ⟨_, rfl⟩
                  rw [← hY1] at w1 z1
                  rw [← hY2] at w2 z2
                  have y1 : s.extract a' x4 = Y1 := hY1.symm
                  have y2 : s.extract x4 x8 = Y2 := hY2.symm
                  clear hY1 hY2
                  have HW1 := Lib.hid w1
                  have HW2 := Lib.hid w2
                  have HX8 := Lib.hid hx8
                  have HCS : Hid ((pPts s k (q + 1)).map cV = (pPts s k q).map cV ++ [.complex .f32 (w32 s a') (w32 s (a' + 4))]) := Lib.hid (by
                    rw [pPts_succ, List.map_append, HA'.out, HDQ.out]
                    rfl)
                  have v4 : (a' : Int) + 4 = (x4 : Int) := by omega
                  have v8 : (a' : Int) + 8 = (x8 : Int) := by omega
                  have b1 : (a' : Int) ≤ (x4 : Int) := by omega
                  have b2 : (x4 : Int) ≤ (x8 : Int) := by omega
                  have b3 : (x8 : Int) ≤ (s.size : Int) := by omega
                  have b4 : (x4 : Int) ≤ (s.size : Int) := by omega
                  have b5 : (0 : Int) ≤ (a' : Int) := by omega
                  have b6 : (0 : Int) ≤ (x4 : Int) := by omega
                  have hz0' : (0 : Int) < ((z + 1 : Nat) : Int) := by omega
                  have L4 := Lib.hid (wi64_id (x4 : Int) (by omega) (by omega))
                  have L8 := Lib.hid (wi64_id (x8 : Int) (by omega) (by omega))
                  clear w1 w2 hx4 hx8
                  go_wp2_with fail
                  have vw4 := L4.out
                  have vw8 := L8.out
                  go_region_law (first
                    | (go_simp; go_at_call 21; first | (with_reducible refine (l07Read Y1 z1 _).mono ?_; rintro e wk ⟨rfl, n1, rfl⟩; rw [HW1.out]) | (with_reducible refine (l07Read Y2 z2 _).mono ?_; rintro e wk ⟨rfl, n2, rfl⟩; rw [HW2.out]))
                    | (refine step_appB rfl (.tmp 67) (.tmp 82) 40 rfl 41 (.complex .f32 0 0) 8 Try.underlying40 infoCx rfl (by decide) bl cp q _ (by simp [Act.eval]) (HQR.out.below (below_dr (Below.alloc (Below.refl _ _) (Nat.le_refl _) _) _) HQR.out.lt) wr.heap.size 1 1 [.complex .f32 (w32 s a') (w32 s (a' + 4))] (by simp [Act.eval]) rfl (fun j u h => news_new wr _ _ j u h) (by simp [Value.oneCell']) (by decide) (by omega) wo.heap.size hbl (by simp; omega) ?_; intro b8 cp8 w8 hr8 hb8 hg8; have HR8 := Lib.hid (own_grew (OwnC.drewN (HR.out.alloc _) _) hg8 (by omega)); have HO8 := Lib.hid (own_grew (OwnC.drewN (HO.out.alloc _) _) hg8 (by omega)); have HL8 := Lib.hid (LsAt.far HL.out ((((Far.refl (w.heap.size + 2) wo.heap.size wr).alloc _ hzi).drewN _).trans (hg8.far (by simp; omega) (.inl hbl)))); have HB8 := Lib.hid ((below_dr (Below.alloc HW.out (by omega) _) _).trans (hg8.below (by omega) (by simp; omega))); have z8 := hg8.size; have HQ8 := Lib.hid hr8; clear hr8 hg8))
                  all_goals
                    clear vw4 vw8
                    go_wp2_with fail
                    refine ⟨⟨q + 1, z, x8, b8, cp8, by omega, rfl, rfl, Lib.hid (by have e1 := HX8.out; have e2 := HA'.out; omega), hfit, rfl, HR8, HO8, HL8, ?_, hb8, HB8, ?_⟩, by simp [intOf]⟩
                    · rw [HCS.out]; exact HQ8
                    · have : wr.heap.size ≤ w8.heap.size := Nat.le_trans (by simp) z8
                      omega
                · have hzz : z = 0 := by omega
                  subst hzz
                  have hqm : q = m := by omega
                  subst hqm
                  have d1 := HO.out.cell 1
                  have f1 := HO.out.free 1
                  simp at d1
                  have hk1 : (pLps s k).length ≤ 1000 := by rw [pLps_len]; omega
                  have hlw := HQR.out.lt
                  have hl2 := pPts_len s k q
                  have HPP : Hid (pLps s (k + 1) = pLps s k ++ [pPts s k q]) := Lib.hid (by rw [pLps_succ, HM.out])
                  have HLL := Lib.hid (pLps_len s k)
                  have HL2 := Lib.hid hl2
                  obtain ⟨r, rfl⟩ : ∃ r', r = r' + 1 := ⟨r - 1, by omega⟩
                  clear hl2
                  go_wp2_with (at_builtin; refine wpList_appL rfl _ _ _ rfl 40 (.slice none 0 0) 24 Try.underlying22 infoSl rfl (by decide) wr (w.heap.size + 2) wo.heap.size ao cap k (pLps s k) bl cp q _ (pPts s k q) rfl HLL.out.symm rfl rfl HL.out (OwnC1.row HQR.out HL2.out.symm) HL2.out.symm hbl hz hlw hzi hk1 ?_; intro ao8 cap8 w8 hl8 hb8 hz8; have HL8 := Lib.hid hl8; have HB8 := Lib.hid hb8; have d8 : w8.cell? ⟨w.heap.size + 1, 1, none⟩ = some (.slice ao k cap) := (hb8.cell (p := ⟨w.heap.size + 1, 1, none⟩) (by show w.heap.size + 1 < w.heap.size + 2; omega)).trans d1; have f8 : w8.frozen? ⟨w.heap.size + 1, 1, none⟩ = false := OwnC.free (HO.out.below hb8 (by omega)) 1; clear hl8 hb8)
                  have HR8 := HR.out.below HB8.out (by omega)
                  have HO8 := HO.out.below HB8.out (by omega)
                  refine ⟨⟨k + 1, r, a', cap8, ao8, by omega, by go_num, rfl, ?_, ha', ?_, ?_, ?_, ?_, ?_, ?_⟩, by simp [intOf]⟩
                  · refine Lib.hid ?_
                    have e1 := HA'.out
                    have e2 := HDQ.out
                    have e3 := HM.out
                    simp only [qAt]
                    rw [← e3]
                    omega
                  · exact Lib.hid (OwnC.other HR8 _ _ (by simp))
                  · exact Lib.hid ((HO8.set 1 _).congr (by simp))
                  · rw [HPP.out]
                    have := LsAt.far HL8.out ((Far.refl (w.heap.size + 2) w8.heap.size w8).set ⟨w.heap.size + 1, 1, none⟩ (.slice ao8 (k + 1) cap8) (.inl (by show w.heap.size + 1 < _; omega)))
                    simpa using Lib.hid this
                  · refine Lib.hid (fun i hi => ?_)
                    rcases Nat.lt_succ_iff_lt_or_eq.1 hi with h1 | rfl
                    · exact HF.out i h1
                    · exact HPK.out
                  · exact Lib.hid ((HW.out.trans (HB8.out.mono (by omega))).setCell (by show w.heap.size ≤ w.heap.size + 1; omega) _)
                  · simp; omega
        · have hrr : r = 0 := by omega
          subst hrr
          have hkc : k = c := by omega
          subst hkc
          obtain ⟨A2, hA2⟩ : ∃ x, x = a + 2 := ⟨_, rfl⟩
          have v2 : (a : Int) + 2 = (A2 : Int) := by omega
          have L2 := Lib.hid (wi64_id (A2 : Int) (by omega) (by omega))
          have L2' := Lib.hid (w64_id (A2 : Int) (by omega) (by omega))
          have f0 := HR.out.free 0
          have f1 := HR.out.free 1
          have g0 := HR.out.cell 0
          have g1 := HR.out.cell 1
          simp at g0 g1
          have HA2 := Lib.hid (show A2 = qAt s (pLoops s) + 2 from by rw [hA2, HQ.out, HC.out])
          by_cases h9 : s.size < A2
          · have h9' : (s.size : Int) < (A2 : Int) := Int.ofNat_lt.2 h9
            have hno : ¬ Rd s := fun h => by
              have h1 := h.1.2.2
              rw [← HA2.out] at h1
              exact absurd h1 (Nat.not_le.2 h9)
            have HNO := Lib.hid hno
            clear hno hA2
            clear hkr hr
            go_wp2_with fail
            have hi0 : IntKind.i64.wrap (A2 : Int) = (A2 : Int) := L2.out
            first | go_region_law fail | fail
            all_goals
              clear hi0
              go_wp2_with fail
              have v2 := res_two HR.out (.string ⟨#[]⟩) (.slice none 0 0)
              have q0 := v2.1
              have q1 := v2.2
              clear v2
              refine bodyPost_ret (v := .tuple #[.agg #[.string ⟨#[]⟩, .slice none 0 0], .int .i64 0]) (by simp [results, Try.results15, go_sem, q0, q1]) rfl (RetO.none HNO.out ?_)
              exact ((HW.out.setCell (Nat.le_refl _) _).setCell (Nat.le_refl _) _).drew
          · have h9' : ¬ (s.size : Int) < (A2 : Int) := fun h => h9 (Int.ofNat_lt.1 h)
            have a9 : (A2 : Int) ≤ (s.size : Int) := Int.not_lt.1 h9'
            have a0 : (0 : Int) ≤ (A2 : Int) := Int.natCast_nonneg _
            clear hA2 hkr hr
            have hkc := HC.out
            have hnp := HN.out
            subst hkc
            subst hnp
            have hPO : POk s := ⟨HPN.out, HF.out, by rw [← HA2.out]; exact Nat.le_of_not_lt h9⟩
            have HPO := Lib.hid hPO
            have HLn := Lib.hid (pLps_len s (pLoops s))
            have hsh := pLps_short s (pLoops s)
            have hnm9 : (pNm s).size ≤ 1048576 := by rw [pNm, ByteArray.size_extract]; omega
            have hlen : (pLps s (pLoops s)).length ≤ 1048576 := by rw [pLps_len]; omega
            have HIS := Lib.hid (fun n0 => l07Is (w.heap.size + 2) wo.heap.size (w.heap.size + 1) ao cap (pNm s) (pLps s (pLoops s)) hnm9 hlen hsh (wo.drewN n0)
              (by have := (OwnC.drewN HO.out n0).cell 0; simpa using this) (by have := (OwnC.drewN HO.out n0).cell 1; simpa [HLn.out] using this) (LsAt.slL (LsAt.far HL.out ((Far.refl (w.heap.size + 2) wo.heap.size wo).drewN n0))))
            clear hPO hnm9 hlen hsh
            by_cases hok : okOut (pNm s) (pLps s (pLoops s))
            · have HD := Lib.hid (decide_eq_true hok)
              have HRD := Lib.hid (show Rd s ↔ _ from ⟨fun h => h.2.2, fun h => ⟨HPO.out, hok, h⟩⟩)
              have HST := Lib.hid (fun n0 => (l07Store (w.heap.size + 2) wo.heap.size (w.heap.size + 1) ao cap (pNm s) (pLps s (pLoops s)) hok (pLps_sm s (pLoops s)) (wo.drewN n0)
                (by have := (OwnC.drewN HO.out n0).cell 0; simpa using this) (by have := (OwnC.drewN HO.out n0).cell 1; simpa [HLn.out] using this) (LsAt.slL (LsAt.far HL.out ((Far.refl (w.heap.size + 2) wo.heap.size wo).drewN n0))) (by simp)).mono
                (fun e w' h => (⟨h.1, (below_dr (Below.refl _ wo) n0).trans h.2⟩ : e = Ending.returned (.string ⟨(stoB (pNm s) (pLps s (pLoops s))).toArray⟩) ∧ Below wo.heap.size wo w')))
              obtain ⟨S, hS⟩ : ∃ S : ByteArray, S = ⟨(stoB (pNm s) (pLps s (pLoops s))).toArray⟩ := ⟨_, rfl⟩
              rw [← hS] at HRD HST
              obtain ⟨Y, hY⟩ : ∃ Y : ByteArray, Y = s.extract 0 A2 := ⟨_, rfl⟩
              have hy : s.extract 0 A2 = Y := hY.symm
              have HY := Lib.hid hy
              clear hok hS hY
              cases hcm : (S.toList == Y.toList)
              · have hno : ¬ Rd s := fun h => by
                  have := HRD.out.1 h
                  rw [← HA2.out, HY.out] at this
                  rw [← this] at hcm
                  simp at hcm
                have HNO := Lib.hid hno
                clear hno
                go_wp2_with fail
                have hi0 : IntKind.i64.wrap (A2 : Int) = (A2 : Int) := L2.out
                first | go_region_law (first
                  | (go_simp; go_at_call 22; refine (HIS.out _).mono ?_; rintro e wk ⟨rfl, n1, rfl⟩; rw [HD.out])
                  | (go_simp; go_at_call 23; refine (HST.out _).mono ?_; rintro e wk ⟨rfl, hbl⟩; have HBL := Lib.hid hbl; have k0 := OwnC.free (HR.out.below hbl HR.out.lt) 0; have k1 := OwnC.free (HR.out.below hbl HR.out.lt) 1; have o0 := keep_cell hbl ((HO.out.cell 0).trans rfl); have o1 := keep_cell hbl ((HO.out.cell 1).trans rfl); have r0 := keep_cell hbl g0; have r1 := keep_cell hbl g1; clear hbl)) | fail
                all_goals
                  clear hi0
                  go_wp2_with fail
                  have hob := HR.out.below HBL.out HR.out.lt
                  have v2 := res_two hob (.string ⟨#[]⟩) (.slice none 0 0)
                  have q0 := v2.1
                  have q1 := v2.2
                  clear v2
                  refine bodyPost_ret (v := .tuple #[.agg #[.string ⟨#[]⟩, .slice none 0 0], .int .i64 0]) (by simp [results, Try.results15, go_sem, q0, q1]) rfl (RetO.none HNO.out ?_)
                  exact (((HW.out.trans (HBL.out.mono (by omega))).setCell (Nat.le_refl _) _).setCell (Nat.le_refl _) _)
              · have hst : S.toList = Y.toList := eq_of_beq hcm
                have hyes : Rd s := HRD.out.2 (by
                  rw [← HA2.out, HY.out]
                  rw [ByteArray.toList_eq, ByteArray.toList_eq] at hst
                  exact ByteArray.ext (Array.toList_inj.1 hst))
                have HYES := Lib.hid hyes
                clear hst hyes
                go_wp2_with fail
                have hi0 : IntKind.i64.wrap (A2 : Int) = (A2 : Int) := L2.out
                first | go_region_law (first
                  | (go_simp; go_at_call 22; refine (HIS.out _).mono ?_; rintro e wk ⟨rfl, n1, rfl⟩; rw [HD.out])
                  | (go_simp; go_at_call 23; refine (HST.out _).mono ?_; rintro e wk ⟨rfl, hbl⟩; have HBL := Lib.hid hbl; have k0 := OwnC.free (HR.out.below hbl HR.out.lt) 0; have k1 := OwnC.free (HR.out.below hbl HR.out.lt) 1; have o0 := keep_cell hbl ((HO.out.cell 0).trans rfl); have o1 := keep_cell hbl ((HO.out.cell 1).trans rfl); have r0 := keep_cell hbl g0; have r1 := keep_cell hbl g1; clear hbl)) | fail
                all_goals
                  clear hi0
                  go_wp2_with fail
                  have hob := (HR.out.below HBL.out HR.out.lt)
                  have v2 := res_two hob (.string (pNm s)) (.slice ao (pLoops s) cap)
                  have q0 := v2.1
                  have q1 := v2.2
                  clear v2
                  refine bodyPost_ret (v := .tuple #[.agg #[.string (pNm s), .slice ao (pLoops s) cap], .int .i64 (A2 : Nat)]) (by simp [results, Try.results15, go_sem, q0, q1]) rfl ⟨⟨ao, cap, _, _, A2, .inl ⟨HYES.out, rfl, rfl, HA2.out⟩, by rw [HLn.out], ?_⟩, ?_⟩
                  · have f1 := LsAt.far HL.out (Far.below HBL.out (Nat.le_refl _))
                    have f2 := LsAt.far f1 (((Far.refl (w.heap.size + 2) wo.heap.size wk).set ⟨w.heap.size, 0, none⟩ (.string (pNm s)) (.inl (by show w.heap.size < _; omega))).set ⟨w.heap.size, 1, none⟩ (.slice ao (pLoops s) cap) (.inl (by show w.heap.size < _; omega)))
                    have zA := HBL.out.size
                    refine LsAt.mono (LsAt.low ?_ (show w.heap.size ≤ w.heap.size + 2 by omega)) (show wo.heap.size ≤ _ by simp; omega)
                    exact f2
                  · have hfin := ((HW.out.trans (HBL.out.mono (by omega))).setCell (p := ⟨w.heap.size, 0, none⟩) (Nat.le_refl _) (.string (pNm s))).setCell (p := ⟨w.heap.size, 1, none⟩) (Nat.le_refl _) (.slice ao (pLoops s) cap)
                    exact hfin
            · have HNO := Lib.hid (fun h => hok (Rd.ok h) : ¬ Rd s)
              have HD := Lib.hid (decide_eq_false hok)
              clear hok
              go_wp2_with fail
              have hi0 : IntKind.i64.wrap (A2 : Int) = (A2 : Int) := L2.out
              first | go_region_law (go_simp; go_at_call 22; refine (HIS.out _).mono ?_; rintro e wk ⟨rfl, n1, rfl⟩; rw [HD.out]) | fail
              all_goals
                clear hi0
                go_wp2_with fail
                have v2 := res_two HR.out (.string ⟨#[]⟩) (.slice none 0 0)
                have q0 := v2.1
                have q1 := v2.2
                clear v2
                refine bodyPost_ret (v := .tuple #[.agg #[.string ⟨#[]⟩, .slice none 0 0], .int .i64 0]) (by simp [results, Try.results15, go_sem, q0, q1]) rfl (RetO.none HNO.out ?_)
                exact below_dr ((HW.out.setCell (Nat.le_refl _) _).setCell (Nat.le_refl _) _) _
end Go.Proofs.Ytenamfkggeeacaa
