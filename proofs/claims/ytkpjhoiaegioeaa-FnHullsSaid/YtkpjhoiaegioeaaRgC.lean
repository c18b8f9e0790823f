/- impl.cutCorners walked. (Written by mkrgc.py.) -/
import Derived.Test.YtkpjhoiaegioeaaRgB
namespace Go.Proofs.Ytkpjhoiaegioeaa
open Go.RowKit Go.Fl

set_option maxHeartbeats 4000000 in
set_option maxRecDepth 100000 in
theorem cutClosed {xs : List Cx} {ks : List Zp} {e B : Nat} {j : Int} (lo hi : Nat) (ao : Option Addr) (c s n : Nat) (h : PL xs ks e B) (hB : B ≤ 4096) (hn : xs.length = n) (hn2 : 2 ≤ n) (hn64 : n ≤ 64) (hs : Q .f32 s j 4) (h0 : 0 ≤ j) (h1 : j ≤ 8) (he : e ≤ 100) (w : World) (hsl : SlC w lo hi ao xs) (htop : hi ≤ w.heap.size) :
    Calls Try.prog 44 #[.slice ao n c, .bool true, .float .f32 s] w fun x w' => (∃ b cap m, x = .returned (.slice (some ⟨b, 0, none⟩) m cap) ∧ m = 2 * n ∧ w.heap.size ≤ b ∧ OwnC1 w' b (cutF xs true s)) ∧ Below w.heap.size w w' := by
  have HPL := Lib.hid h
  have HN := Lib.hid hn
  have HS := Lib.hid hsl
  have HQ := Lib.hid hs
  obtain ⟨bS, hao, hb1, hb2, hc⟩ := hsl (by omega)
  have HCELL := Lib.hid (fun i (hi : i < n) => hc i (by omega))
  have n1 : (n : Int) ≤ 64 := by omega
  have n2 : (2 : Int) ≤ (n : Int) := by omega
  have n3 : (0 : Int) < (n : Int) := by omega
  have n0 : ¬ n = 0 := by omega
  have hbw : bS < w.heap.size := by omega
  have hbn : ¬ bS = w.heap.size := by omega
  clear h hn hsl hc hs
  subst hao
  go_enter Try.func44, Try.ntmps44
  go_wp2_with fail
  go_loopw [7, 24] (fun o i wr => ∃ (k b cap m : Nat), k ≤ n ∧ Hid (m = 2 * k) ∧ m ≤ 140 ∧ i = .int .i64 k ∧ o = .slice (some ⟨b, 0, none⟩) m cap ∧ w.heap.size ≤ b ∧ Hid (ORow wr 26 1 b cap m ((pairL (cutVF xs s) (cutMF xs s) k).map cV)) ∧ Hid (Below w.heap.size w wr)) (fun _ i _ => n - (intOf i).toNat)
  case atStart => exact ⟨0, w.heap.size, 0, 0, by omega, Lib.hid rfl, by omega, rfl, rfl, Nat.le_refl _, Lib.hid (ORow.new _ _ _), Lib.hid (Below.alloc (Below.refl _ _) (Nat.le_refl _) _)⟩
  case round =>
    obtain ⟨k, b, cap, m, hk, HM, hm140, rfl, rfl, hb, HR, HB⟩ := hrel
    by_cases hlt : k < n
    · have hcell := (HB.out.cell (p := ⟨bS, k, none⟩) (by show bS < w.heap.size; omega)).trans (HCELL.out k hlt)
      have k0 : (0 : Int) ≤ (k : Int) := by omega
      have k1 : (k : Int) < (n : Int) := by omega
      have HSW := Lib.hid (HS.out.far (Far.below HB.out htop))
      go_wp2_with fail
      refine (nbrClosed lo hi _ c xs n k (nx n k) 1 HN.out (by omega) hlt (nx_lt hlt) (by decide) (by decide) (tm_nx hlt) _ HSW.out).mono ?_
      rintro e1 w1 ⟨rfl, rfl⟩
      clear hcell
      · skip
        have hl1 := HN.out
        obtain ⟨pa, la⟩ := HPL.out.pt k (by omega)
        obtain ⟨pb, lb⟩ := HPL.out.pt (nx n k) (by rw [HN.out]; exact nx_lt hlt)
        have l4 : ∀ p : Zp, low p B → low p 4194304 := fun p hp => hp.mono (by omega)
        have ld := low.sub lb la (C := 65536) (by omega)
        have pd := pb.minus pa (l4 _ lb) (l4 _ la)
        have ps := pd.scale HQ.out ld (by omega) (by omega)
        have lsc := ld.mul (j := j) (c := 8) (C := 4194304) (by omega) (by omega)
        have PA := Lib.hid pa
        have PB := Lib.hid pb
        have PD := Lib.hid pd
        have PS := Lib.hid ps
        have LA := Lib.hid la
        have LB := Lib.hid lb
        have LD := Lib.hid ld
        have LS := Lib.hid lsc
        have L4 := Lib.hid l4
        clear pa la pb lb l4 ld pd ps lsc hl1
        go_wp2_with fail
        refine (minusR PB.out PA.out (L4.out _ LB.out) (L4.out _ LA.out) _).mono ?_
        rintro e1 w1 ⟨rfl, rfl⟩
        go_wp2_with fail
        refine (scaledR PD.out HQ.out LD.out (by omega) (by omega) _).mono ?_
        rintro e1 w1 ⟨rfl, rfl⟩
        go_wp2_with fail
        refine (plusR (PA.out.shift 4 (by omega)) PS.out (LA.out.mul (c := 16) (by decide) (by omega)) LS.out _).mono ?_
        rintro e1 w1 ⟨rfl, rfl⟩
        go_wp2_with fail
        refine (minusR (PB.out.shift 4 (by omega)) PS.out (LB.out.mul (c := 16) (by decide) (by omega)) LS.out _).mono ?_
        rintro e1 w1 ⟨rfl, rfl⟩
        have hm := HM.out
        have hbl := HR.out.lt
        have hzw := HB.out.size
        have EQ := Lib.hid (show pairL (cutVF xs s) (cutMF xs s) (k + 1) = pairL (cutVF xs s) (cutMF xs s) k ++ [plusF (cAt xs k) (scaleF (minusF (cAt xs (nx n k)) (cAt xs k)) s), minusF (cAt xs (nx n k)) (scaleF (minusF (cAt xs (nx n k)) (cAt xs k)) s)] by rw [pairL_succ, show cutVF xs s k = plusF (cAt xs k) (scaleF (minusF (cAt xs (nx n k)) (cAt xs k)) s) by unfold cutVF; rw [HN.out], show cutMF xs s k = minusF (cAt xs (nx n k)) (scaleF (minusF (cAt xs (nx n k)) (cAt xs k)) s) by unfold cutMF; rw [HN.out]])
        clear hbl hm
        unfold cV
        go_wp2_with (first | (at_builtin; refine wpList_appC rfl _ _ rfl w1 _ [plusF (cAt xs k) (scaleF (minusF (cAt xs (nx n k)) (cAt xs k)) s), minusF (cAt xs (nx n k)) (scaleF (minusF (cAt xs (nx n k)) (cAt xs k)) s)] rfl (by simp) (by simp) _ _ _ _ _ _ _ _ rfl rfl rfl rfl HR.out (by omega) ?_; intro b6 cap6 w6 hr6 hbb6 hgr6; have HR6 := Lib.hid hr6; have HB6 := Lib.hid hbb6; have HG6 := Lib.hid hgr6; clear hr6 hbb6 hgr6))
        have hb6 := HB6.out
        have hm := HM.out
        have hgB := HG6.out.below (B := w.heap.size) hb hzw
        refine ⟨⟨k + 1, b6, cap6, m + 2, by omega, Lib.hid (by omega), by omega, by go_num, rfl, by omega, Lib.hid (by rw [EQ.out]; exact HR6.out), Lib.hid (HB.out.trans hgB)⟩, by simp [intOf]; omega⟩
    · have k1 : ¬ (k : Int) < (n : Int) := by omega
      go_wp2_with fail
      go_ret
      have hkn : k = n := by omega
      subst hkn
      have hzw := HB.out.size
      refine ⟨⟨b, cap, m, rfl, HM.out, hb, ?_⟩, HB.out⟩
      have hm := HM.out
      have h9 := OwnC1.row HR.out (by rw [pairL_len]; exact hm)
      unfold cutF cutA
      rw [HN.out]
      exact h9

set_option maxHeartbeats 4000000 in
set_option maxRecDepth 100000 in
theorem cutOpen {xs : List Cx} {ks : List Zp} {e B : Nat} {j : Int} (lo hi : Nat) (ao : Option Addr) (c s n : Nat) (h : PL xs ks e B) (hB : B ≤ 4096) (hn : xs.length = n) (hn2 : 2 ≤ n) (hn64 : n ≤ 64) (hs : Q .f32 s j 4) (h0 : 0 ≤ j) (h1 : j ≤ 8) (he : e ≤ 100) (w : World) (hsl : SlC w lo hi ao xs) (htop : hi ≤ w.heap.size) :
    Calls Try.prog 44 #[.slice ao n c, .bool false, .float .f32 s] w fun x w' => (∃ b cap m, x = .returned (.slice (some ⟨b, 0, none⟩) m cap) ∧ m = 2 * n ∧ w.heap.size ≤ b ∧ OwnC1 w' b (cutF xs false s)) ∧ Below w.heap.size w w' := by
  have HPL := Lib.hid h
  have HN := Lib.hid hn
  have HS := Lib.hid hsl
  have HQ := Lib.hid hs
  obtain ⟨bS, hao, hb1, hb2, hc⟩ := hsl (by omega)
  have HCELL := Lib.hid (fun i (hi : i < n) => hc i (by omega))
  have n1 : (n : Int) ≤ 64 := by omega
  have n2 : (2 : Int) ≤ (n : Int) := by omega
  have n3 : (0 : Int) < (n : Int) := by omega
  have n0 : ¬ n = 0 := by omega
  have hbw : bS < w.heap.size := by omega
  have hbn : ¬ bS = w.heap.size := by omega
  clear h hn hsl hc hs
  subst hao
  go_enter Try.func44, Try.ntmps44
  have c0 := HCELL.out 0 (by omega)
  have HR0 := Lib.hid (ORow.new w 26 1)
  have HB0 := Lib.hid (show Below w.heap.size w (w.alloc (.cells #[] 26)) from Below.alloc (Below.refl _ _) (Nat.le_refl _) _)
  have hz0 : (w.alloc (.cells #[] 26)).heap.size = w.heap.size + 1 := by simp
  have HZ0 := Lib.hid hz0
  clear hz0
  unfold cV at c0
  obtain ⟨F0, hF0⟩ : ∃ F0 : Nat, F0 = 0 := ⟨_, rfl⟩
  have HF0 := Lib.hid hF0
  have HR00 := Lib.hid (show ORow (w.alloc (.cells #[] 26)) 26 1 w.heap.size 0 0 (([] : List Cx).map cV) from HR0.out)
  clear hF0 HR0
  go_wp2_with (first | (at_builtin; refine wpList_appC rfl _ _ rfl _ _ [cAt xs 0] rfl (by simp) (by simp) _ _ _ _ _ _ _ _ rfl rfl rfl (by simp) HR00.out (by omega) ?_; intro b6 cap6 w6 hr6 hbb6 hgr6; have HR6 := Lib.hid hr6; have HB6 := Lib.hid hbb6; have HG6 := Lib.hid hgr6; clear hr6 hbb6 hgr6))
  have hbb6 := HB6.out
  have hgB6 := HG6.out.below (B := w.heap.size) (Nat.le_refl _) (by rw [HZ0.out]; omega)
  have HBL6 := Lib.hid (HB0.out.trans hgB6)
  rw [HZ0.out] at hbb6
  clear hgB6
  go_loopw [7, 24] (fun o i wr => ∃ (k q b cap m : Nat), k ≤ n ∧ Hid (q = min k (n - 1)) ∧ Hid (m = 2 * q + 1) ∧ m ≤ 140 ∧ i = .int .i64 k ∧ o = .slice (some ⟨b, 0, none⟩) m cap ∧ w.heap.size ≤ b ∧ Hid (ORow wr 26 1 b cap m ((cAt xs 0 :: pairL (cutVF xs s) (cutMF xs s) q).map cV)) ∧ Hid (Below w.heap.size w wr)) (fun _ i _ => n - (intOf i).toNat)
  case atStart => exact ⟨0, 0, b6, cap6, 1, by omega, Lib.hid (by omega), Lib.hid rfl, by omega, rfl, rfl, by omega, Lib.hid (show ORow w6 26 1 b6 cap6 1 ((cAt xs 0 :: pairL (cutVF xs s) (cutMF xs s) 0).map cV) from HR6.out), HBL6⟩
  case round =>
    clear HB6 HR6 HG6 hbb6 HBL6 c0
    obtain ⟨k, q, b, cap, m, hk, HQK, HM, hm140, rfl, rfl, hb, HR, HB⟩ := hrel
    by_cases hlt : k < n
    · have hcell := (HB.out.cell (p := ⟨bS, k, none⟩) (by show bS < w.heap.size; omega)).trans (HCELL.out k hlt)
      have k0 : (0 : Int) ≤ (k : Int) := by omega
      have k1 : (k : Int) < (n : Int) := by omega
      have HSW := Lib.hid (HS.out.far (Far.below HB.out htop))
      by_cases hl2 : k + 1 < n
      · have hnx : nx n k = k + 1 := by unfold nx; rw [if_neg (by omega)]
        have HNX := Lib.hid hnx
        have HNI := Lib.hid (show (k : Int) + 1 = (nx n k : Nat) by rw [hnx]; omega)
        have hqk : q = k := by have := HQK.out; omega
        clear hnx
        go_wp2_with fail
        refine (nbrOpen lo hi _ c xs n k (nx n k) 1 HN.out (by omega) hlt (nx_lt hlt) (by decide) (by decide) HNI.out _ HSW.out).mono ?_
        rintro e1 w1 ⟨rfl, rfl⟩
        clear hcell
        have hl1 := HN.out
        obtain ⟨pa, la⟩ := HPL.out.pt k (by omega)
        obtain ⟨pb, lb⟩ := HPL.out.pt (nx n k) (by rw [HN.out]; exact nx_lt hlt)
        have l4 : ∀ p : Zp, low p B → low p 4194304 := fun p hp => hp.mono (by omega)
        have ld := low.sub lb la (C := 65536) (by omega)
        have pd := pb.minus pa (l4 _ lb) (l4 _ la)
        have ps := pd.scale HQ.out ld (by omega) (by omega)
        have lsc := ld.mul (j := j) (c := 8) (C := 4194304) (by omega) (by omega)
        have PA := Lib.hid pa
        have PB := Lib.hid pb
        have PD := Lib.hid pd
        have PS := Lib.hid ps
        have LA := Lib.hid la
        have LB := Lib.hid lb
        have LD := Lib.hid ld
        have LS := Lib.hid lsc
        have L4 := Lib.hid l4
        clear pa la pb lb l4 ld pd ps lsc hl1
        go_wp2_with fail
        refine (minusR PB.out PA.out (L4.out _ LB.out) (L4.out _ LA.out) _).mono ?_
        rintro e1 w1 ⟨rfl, rfl⟩
        go_wp2_with fail
        refine (scaledR PD.out HQ.out LD.out (by omega) (by omega) _).mono ?_
        rintro e1 w1 ⟨rfl, rfl⟩
        go_wp2_with fail
        refine (plusR (PA.out.shift 4 (by omega)) PS.out (LA.out.mul (c := 16) (by decide) (by omega)) LS.out _).mono ?_
        rintro e1 w1 ⟨rfl, rfl⟩
        go_wp2_with fail
        refine (minusR (PB.out.shift 4 (by omega)) PS.out (LB.out.mul (c := 16) (by decide) (by omega)) LS.out _).mono ?_
        rintro e1 w1 ⟨rfl, rfl⟩
        have hm := HM.out
        have hbl := HR.out.lt
        have hzw := HB.out.size
        subst hqk
        have EQ := Lib.hid (show cAt xs 0 :: pairL (cutVF xs s) (cutMF xs s) (q + 1) = (cAt xs 0 :: pairL (cutVF xs s) (cutMF xs s) q) ++ [plusF (cAt xs q) (scaleF (minusF (cAt xs (nx n q)) (cAt xs q)) s), minusF (cAt xs (nx n q)) (scaleF (minusF (cAt xs (nx n q)) (cAt xs q)) s)] by rw [pairL_succ, show cutVF xs s q = plusF (cAt xs q) (scaleF (minusF (cAt xs (nx n q)) (cAt xs q)) s) by unfold cutVF; rw [HN.out], show cutMF xs s q = minusF (cAt xs (nx n q)) (scaleF (minusF (cAt xs (nx n q)) (cAt xs q)) s) by unfold cutMF; rw [HN.out]]; rfl)
        clear hbl hm
        unfold cV
        go_wp2_with (first | (at_builtin; refine wpList_appC rfl _ _ rfl w1 _ [plusF (cAt xs q) (scaleF (minusF (cAt xs (nx n q)) (cAt xs q)) s), minusF (cAt xs (nx n q)) (scaleF (minusF (cAt xs (nx n q)) (cAt xs q)) s)] rfl (by simp) (by simp) _ _ _ _ _ _ _ _ rfl rfl rfl rfl HR.out (by omega) ?_; intro b6 cap6 w6 hr6 hbb6 hgr6; have HR6 := Lib.hid hr6; have HB6 := Lib.hid hbb6; have HG6 := Lib.hid hgr6; clear hr6 hbb6 hgr6))
        have hb6 := HB6.out
        have hm := HM.out
        have hgB := HG6.out.below (B := w.heap.size) hb hzw
        refine ⟨⟨q + 1, q + 1, b6, cap6, m + 2, by omega, Lib.hid (by omega), Lib.hid (by omega), by omega, by go_num, rfl, by omega, Lib.hid (by rw [EQ.out]; exact HR6.out), Lib.hid (HB.out.trans hgB)⟩, by simp [intOf]; omega⟩
      · go_wp2_with fail
        refine (nbrNone _ c n k 1 (by omega) hlt (by decide) (by decide) (.inr (by omega)) _).mono ?_
        rintro e1 w1 ⟨rfl, rfl⟩
        clear hcell
        go_wp2_with fail
        have hq := HQK.out
        refine ⟨⟨k + 1, q, b, cap, m, by omega, Lib.hid (by omega), HM, hm140, by go_num, rfl, hb, HR, HB⟩, by simp [intOf]; omega⟩
    · have k1 : ¬ (k : Int) < (n : Int) := by omega
      have hkn : k = n := by omega
      subst hkn
      obtain ⟨L, hL⟩ : ∃ L, L = k - 1 := ⟨_, rfl⟩
      have hLI : (k : Int) - 1 = (L : Int) := by omega
      have hl0 : (0 : Int) ≤ (L : Int) := by omega
      have hl1 : (L : Int) < (k : Int) := by omega
      have hcell := (HB.out.cell (p := ⟨bS, L, none⟩) (by show bS < w.heap.size; omega)).trans (HCELL.out L (by omega))
      unfold cV at hcell
      have HLL := Lib.hid hL
      have hzw := HB.out.size
      have hbw2 : bS < wr.heap.size := by omega
      clear hL
      go_wp2_with (first | (at_builtin; refine wpList_appC rfl _ _ rfl _ _ [cAt xs L] rfl (by simp) (by simp) _ _ _ _ _ _ _ _ rfl rfl rfl rfl HR.out (by omega) ?_; intro b6 cap6 w6 hr6 hbb6 hgr6; have HR6 := Lib.hid hr6; have HB6 := Lib.hid hbb6; have HG6 := Lib.hid hgr6; clear hr6 hbb6 hgr6))
      go_ret
      have hq := HQK.out
      have hm := HM.out
      have hL := HLL.out
      have hb6 := HB6.out
      have hgB := HG6.out.below (B := w.heap.size) hb hzw
      have hq2 : q = k - 1 := by omega
      refine ⟨⟨b6, cap6, m + 1, rfl, by omega, by omega, ?_⟩, HB.out.trans hgB⟩
      have h9 := OwnC1.row HR6.out (by simp [pairL_len]; omega)
      unfold cutF cutA
      rw [HN.out]
      rw [hL, hq2] at h9
      exact h9
end Go.Proofs.Ytkpjhoiaegioeaa
