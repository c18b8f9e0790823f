/- impl.CubicOnce walked. (Written by mkrgf.py.) -/
import Derived.Test.YtkpjhoiaegioeaaRgE
namespace Go.Fl
open Ieee Go.RowKit
/-- the one sharp place, or none -/
def ShAt (w : World) (lo hi n : Nat) (a : Option Addr) (L : Nat) (sh : Option Nat) : Prop :=
  (sh = none ∧ L = 0) ∨ ∃ (x b : Nat), sh = some x ∧ x < n ∧ L = 1 ∧ a = some ⟨b, 0, none⟩ ∧ lo ≤ b ∧ b < hi ∧ w.cell? ⟨b, 0, none⟩ = some (.int .i64 x)
theorem ShAt.far {w w' : World} {lo hi n : Nat} {a : Option Addr} {L : Nat} {sh : Option Nat} (h : ShAt w lo hi n a L sh) (hf : Far lo hi w w') : ShAt w' lo hi n a L sh := by
  rcases h with h | ⟨x, b, h1, h2, h3, h4, h5, h6, h7⟩
  · exact .inl h
  · exact .inr ⟨x, b, h1, h2, h3, h4, h5, h6, (hf.cell h5 h6).trans h7⟩
def isSh (sh : Option Nat) (i : Nat) : Bool := sh == some i
def cubVF (xs : List Cx) (closed : Bool) (sh : Option Nat) (i : Nat) : Cx :=
  if (closed || (decide (0 < i) && decide (i + 1 < xs.length))) && !isSh sh i then plusF (scaleF (cAt xs i) 1061158912) (scaleF (plusF (cAt xs (pv xs.length i)) (cAt xs (nx xs.length i))) 1040187392) else cAt xs i
def cubMF (xs : List Cx) (i : Nat) : Cx := scaleF (plusF (cAt xs i) (cAt xs (nx xs.length i))) 1056964608
def cubF (xs : List Cx) (closed : Bool) (sh : Option Nat) : List Cx := ringL (cubVF xs closed sh) (cubMF xs) closed xs.length
def cubVZ (ks : List Zp) (closed : Bool) (sh : Option Nat) (i : Nat) : Zp :=
  if (closed || (decide (0 < i) && decide (i + 1 < ks.length))) && !isSh sh i then addZ (mulZ (zAt ks i) 6) (mulZ (addZ (zAt ks (pv ks.length i)) (zAt ks (nx ks.length i))) 1) else mulZ (zAt ks i) 8
def cubMZ (ks : List Zp) (i : Nat) : Zp := mulZ (addZ (zAt ks i) (zAt ks (nx ks.length i))) 4
def cubZ (ks : List Zp) (closed : Bool) (sh : Option Nat) : List Zp := ringL (cubVZ ks closed sh) (cubMZ ks) closed ks.length
theorem q75 : Q .f32 1061158912 6 3 := ⟨by decide +kernel, by decide +kernel, by decide⟩
theorem q125 : Q .f32 1040187392 1 3 := ⟨by decide +kernel, by decide +kernel, by decide⟩
theorem q50 : Q .f32 1056964608 4 3 := ⟨by decide +kernel, by decide +kernel, by decide⟩
theorem cub_PL {xs : List Cx} {ks : List Zp} {e B : Nat} {closed : Bool} {sh : Option Nat} (h : PL xs ks e B) (hB : B ≤ 4096) (he : e ≤ 100) (hn : 0 < xs.length) : PL (cubF xs closed sh) (cubZ ks closed sh) (e + 3) (8 * B) := by
  have hl := h.len
  unfold cubF cubZ
  rw [hl]
  have l4 : ∀ p : Zp, low p B → low p 4194304 := fun p hp => hp.mono (by omega)
  refine ringL_PL hn (fun i hi => ?_) (fun i hi _ => ?_)
  · unfold cubVF cubVZ
    rw [hl]
    obtain ⟨pa, la⟩ := h.pt i hi
    split
    · obtain ⟨pb, lb⟩ := h.pt _ (pv_lt hi)
      obtain ⟨pc, lc⟩ := h.pt _ (nx_lt hi)
      have l1 := la.mul (j := 6) (c := 6) (C := 6 * B) (by decide) (by omega)
      have l2 := (low.add lb lc (C := 2 * B) (Nat.le_refl _)).mul (j := 1) (c := 1) (C := 2 * B) (by decide) (by omega)
      refine ⟨(pa.scale q75 (la.mono (by omega)) (by decide) (by omega)).plus ((pb.plus pc (l4 _ lb) (l4 _ lc)).scale q125 (low.add lb lc (by omega)) (by decide) (by omega)) (l1.mono (by omega)) (l2.mono (by omega)), ?_, ?_⟩
      · have a := l1.1; have b := l2.1
        show (_ + _ : Int).natAbs ≤ _
        omega
      · have a := l1.2; have b := l2.2
        show (_ + _ : Int).natAbs ≤ _
        omega
    · exact ⟨pa.shift 3 (by omega), la.mul (c := 8) (by decide) (by omega)⟩
  · unfold cubMF cubMZ
    rw [hl]
    obtain ⟨pa, la⟩ := h.pt i hi
    obtain ⟨pc, lc⟩ := h.pt _ (nx_lt hi)
    exact ⟨(pa.plus pc (l4 _ la) (l4 _ lc)).scale q50 (low.add la lc (by omega)) (by decide) (by omega), (low.add la lc (C := 2 * B) (Nat.le_refl _)).mul (c := 4) (by decide) (by omega)⟩
end Go.Fl
namespace Go.Proofs.Ytkpjhoiaegioeaa
open Go.RowKit Go.Fl

set_option maxHeartbeats 1000000 in
theorem indexSh (lo hi n : Nat) (a : Option Addr) (L c : Nat) (sh : Option Nat) (i : Nat) (hi' : i ≤ 1048576) (w : World) (h : ShAt w lo hi n a L sh) :
    Calls Try.prog 68 #[.slice a L c, .int .i64 i] w fun e w' => (∃ r, e = .returned (.int .i64 r) ∧ decide (0 ≤ r) = isSh sh i) ∧ w' = w := by
  rcases h with ⟨rfl, rfl⟩ | ⟨x, b, rfl, hx, rfl, rfl, h5, h6, h7⟩
  · go_enter Try.func68, Try.ntmps68
    go_wp2_with fail
    refine wp_loop_rounds 1 ?_
    rw [rounds_succ]
    go_wp2_with fail
    go_ret
    exact ⟨⟨_, rfl, rfl⟩, rfl⟩
  · obtain ⟨K, hK⟩ : ∃ K, K = 1 := ⟨_, rfl⟩
    have HK := Lib.hid hK
    rw [← hK]
    have hK1 : (K : Int) ≤ 1 := by omega
    clear hK
    go_enter Try.func68, Try.ntmps68
    go_wp2_with fail
    go_loopw [8] (fun i' wr => ∃ k : Nat, k ≤ K ∧ i' = .int .i64 k ∧ Hid (wr = w) ∧ Hid (k = 0 ∨ x ≠ i)) (fun i' _ => K - (intOf i').toNat)
    case atStart => exact ⟨0, by omega, rfl, Lib.hid rfl, Lib.hid (.inl rfl)⟩
    case round =>
      obtain ⟨k, hk, rfl, HW, HA⟩ := hrel
      have := HW.out
      subst this
      by_cases hlt : k < K
      · have hk0 : k = 0 := by have := HK.out; omega
        subst hk0
        have k1 : (0 : Int) < (K : Int) := by omega
        by_cases he : x = i
        · subst he
          go_wp2_with fail
          go_ret
          exact ⟨⟨_, rfl, by simp [isSh]⟩, rfl⟩
        · have he2 : ¬ (i : Int) = (x : Int) := by omega
          have he3 : ¬ i = x := by omega
          have HE := Lib.hid he
          clear he
          go_wp2_with fail
          go_roundw
          case rel => exact ⟨1, by omega, by go_num, Lib.hid trivial, Lib.hid (.inr HE.out)⟩
          case measure => simp [intOf]; omega
      · have hkn : k = K := by omega
        subst hkn
        go_wp2_with fail
        go_ret
        refine ⟨⟨_, rfl, ?_⟩, rfl⟩
        have h1 := HK.out
        rcases HA.out with h | h
        · omega
        · have : (some x == some i) = false := by simp [h]
          unfold isSh
          rw [this]; rfl
theorem containsSh (lo hi n : Nat) (a : Option Addr) (L c : Nat) (sh : Option Nat) (i : Nat) (hi' : i ≤ 1048576) (w : World) (h : ShAt w lo hi n a L sh) :
    Calls Try.prog 52 #[.slice a L c, .int .i64 i] w fun e w' => e = .returned (.bool (isSh sh i)) ∧ w' = w := by
  have HS := Lib.hid h
  clear h
  go_enter Try.func52, Try.ntmps52
  go_wp2_with fail
  refine (indexSh lo hi n a L c sh i hi' _ HS.out).mono ?_
  rintro e w' ⟨⟨r, rfl, hr⟩, rfl⟩
  have HR := Lib.hid hr
  clear hr
  go_wp2_with fail
  go_ret
  exact ⟨ret_bool HR.out, rfl⟩
set_option maxHeartbeats 1000000 in
theorem isSet (lo hi n : Nat) (a : Option Addr) (L c : Nat) (sh : Option Nat) (hn : n ≤ 1048576) (w : World) (h : ShAt w lo hi n a L sh) :
    Calls Try.prog 51 #[.slice a L c, .int .i64 n] w fun e w' => e = .returned (.bool true) ∧ w' = w := by
  rcases h with ⟨rfl, rfl⟩ | ⟨x, b, rfl, hx, rfl, rfl, h5, h6, h7⟩
  · go_enter Try.func51, Try.ntmps51
    go_wp2_with fail
    refine wp_loop_rounds 1 ?_
    rw [rounds_succ]
    go_wp2_with fail
    go_ret
    exact ⟨rfl, rfl⟩
  · obtain ⟨K, hK⟩ : ∃ K, K = 1 := ⟨_, rfl⟩
    have HK := Lib.hid hK
    rw [← hK]
    have hK1 : (K : Int) ≤ 1 := by omega
    have x0 : (0 : Int) ≤ (x : Int) := by omega
    have x1 : (x : Int) ≤ (n : Int) - 1 := by omega
    have n1 : (n : Int) ≤ 1048576 := by omega
    have n2 : (1 : Int) ≤ (n : Int) := by omega
    clear hK
    go_enter Try.func51, Try.ntmps51
    go_wp2_with fail
    go_loopw [9] (fun i' wr => ∃ k : Nat, k ≤ K ∧ i' = .int .i64 k ∧ Hid (wr = w)) (fun i' _ => K - (intOf i').toNat)
    case atStart => exact ⟨0, by omega, rfl, Lib.hid rfl⟩
    case round =>
      obtain ⟨k, hk, rfl, HW⟩ := hrel
      have := HW.out
      subst this
      by_cases hlt : k < K
      · have hk0 : k = 0 := by have := HK.out; omega
        subst hk0
        have k1 : (0 : Int) < (K : Int) := by omega
        go_wp2_with fail
        refine (withinB (x : Int) 0 ((n : Int) - 1) _).mono ?_
        rintro e1 w1 ⟨rfl, rfl⟩
        rw [decide_eq_true x0, decide_eq_true x1]
        go_wp2_with fail
        go_roundw
        case rel => exact ⟨1, by omega, by go_num, Lib.hid trivial⟩
        case measure => simp [intOf]; omega
      · have k1 : ¬ (k : Int) < (K : Int) := by omega
        go_wp2_with fail
        go_ret
        exact ⟨rfl, rfl⟩

set_option maxHeartbeats 8000000 in
set_option maxRecDepth 100000 in
theorem cubClosed {xs : List Cx} {ks : List Zp} {e B : Nat} (lo hi : Nat) (ao : Option Addr) (c n : Nat) (lo2 hi2 : Nat) (ash : Option Addr) (L cs : Nat) (sh : Option Nat) (h : PL xs ks e B) (hB : B ≤ 4096) (hn : xs.length = n) (hn2 : 2 ≤ n) (hn64 : n ≤ 64) (he : e ≤ 100) (w : World) (hsl : SlC w lo hi ao xs) (htop : hi ≤ w.heap.size) (hsh : ShAt w lo2 hi2 n ash L sh) (htop2 : hi2 ≤ w.heap.size) :
    Calls Try.prog 19 #[.slice ao n c, .bool true, .slice ash L cs] w fun x w' => (∃ b cap m, x = .returned (.tuple #[.slice (some ⟨b, 0, none⟩) m cap, .bool true]) ∧ m = (cubF xs true sh).length ∧ w.heap.size ≤ b ∧ OwnC1 w' b (cubF xs true sh)) ∧ Below w.heap.size w w' := by
  have HPL := Lib.hid h
  have HN := Lib.hid hn
  have HS := Lib.hid hsl
  have HSH := Lib.hid hsh
  have HIR := Lib.hid (isRing lo hi ao c n h hn hn2 (by omega) w hsl)
  have hPE := cub_PL (closed := true) (sh := sh) h (by omega) he (by omega)
  have HPE := Lib.hid hPE
  have hmE : (cubF xs true sh).length ≤ 128 ∧ 2 ≤ (cubF xs true sh).length := by
    unfold cubF
    rw [ringL_len _ _ _ _ (by omega)]
    split <;> omega
  have HME := Lib.hid hmE
  obtain ⟨bS, hao, hb1, hb2, hc⟩ := hsl (by omega)
  have HCELL := Lib.hid (fun i (hi : i < n) => hc i (by omega))
  have n1 : (n : Int) ≤ 64 := by omega
  have n2 : (2 : Int) ≤ (n : Int) := by omega
  have n3 : (0 : Int) < (n : Int) := by omega
  have n0 : ¬ n = 0 := by omega
  have hbw : bS < w.heap.size := by omega
  clear h hn hsl hc hPE hmE hsh
  subst hao
  go_enter Try.func19, Try.ntmps19
  go_wp2_with fail
  refine HIR.out.mono ?_
  rintro e1 w0 ⟨rfl, q0, rfl⟩
  obtain ⟨v, hv⟩ : ∃ v : World, v = w.drewN q0 := ⟨_, rfl⟩
  have hvs : v.heap.size = w.heap.size := by rw [hv]; rfl
  have HV := Lib.hid (show Below w.heap.size w v by rw [hv]; exact below_dr (Below.refl _ _) _)
  have HVS := Lib.hid hvs
  have HIS := Lib.hid (isSet lo2 hi2 n ash L cs sh (by omega) v (by rw [hv]; exact HSH.out.far ((Far.refl _ _ _).drewN _)))
  rw [← hv]
  clear hv HIR hvs
  go_wp2_with fail
  refine HIS.out.mono ?_
  rintro e1 w0 ⟨rfl, rfl⟩
  go_wp2_with fail
  go_loopw [8, 28] (fun o i wr => ∃ (k b cap m : Nat), k ≤ n ∧ Hid (m = (preL (cubVF xs true sh) (cubMF xs) true n k).length) ∧ m ≤ 140 ∧ i = .int .i64 k ∧ o = .slice (some ⟨b, 0, none⟩) m cap ∧ w.heap.size ≤ b ∧ Hid (ORow wr 26 1 b cap m ((preL (cubVF xs true sh) (cubMF xs) true n k).map cV)) ∧ Hid (Below w.heap.size w wr)) (fun _ i _ => n - (intOf i).toNat)
  case atStart => exact ⟨0, w0.heap.size, 0, 0, by omega, Lib.hid (by rw [preL_0 _ _ _ _ (by omega)]; rfl), by omega, rfl, rfl, by rw [HVS.out]; exact Nat.le_refl _, Lib.hid (by rw [preL_0 _ _ _ _ (by omega)]; exact ORow.new _ _ _), Lib.hid (HV.out.alloc (by rw [HVS.out]; exact Nat.le_refl _) _)⟩
  case round =>
    obtain ⟨k, b, cap, m, hk, HM, hm140, rfl, rfl, hb, HR, HB⟩ := hrel
    by_cases hlt : k < n
    · have hcell := (HB.out.cell (p := ⟨bS, k, none⟩) (by show bS < w.heap.size; omega)).trans (HCELL.out k hlt)
      have k0 : (0 : Int) ≤ (k : Int) := by omega
      have k1 : (k : Int) < (n : Int) := by omega
      have hzw := HB.out.size
      have HSW := Lib.hid (HS.out.far (Far.below HB.out htop))
      have HCO := Lib.hid (containsSh lo2 hi2 n ash L cs sh k (by omega) wr (HSH.out.far (Far.below HB.out htop2)))
      by_cases hsh : isSh sh k = true
      · have HSHV := Lib.hid hsh
        clear hsh
        have EV := Lib.hid (show cubVF xs true sh k = cAt xs k by unfold cubVF; rw [HN.out]; rw [if_neg (by simp [HSHV.out])])
        have EM := Lib.hid (show cubMF xs k = scaleF (plusF (cAt xs k) (cAt xs (nx n k))) 1056964608 by unfold cubMF; rw [HN.out])
        obtain ⟨pa, la⟩ := HPL.out.pt k (by rw [HN.out]; exact hlt)
        obtain ⟨pb, lb⟩ := HPL.out.pt (pv n k) (by rw [HN.out]; exact pv_lt hlt)
        obtain ⟨pc, lc⟩ := HPL.out.pt (nx n k) (by rw [HN.out]; exact nx_lt hlt)
        have l4 : ∀ p : Zp, low p B → low p 4194304 := fun p hp => hp.mono (by omega)
        have PA := Lib.hid pa
        have PB := Lib.hid pb
        have PC := Lib.hid pc
        have LA := Lib.hid (l4 _ la)
        have LB := Lib.hid (l4 _ lb)
        have LC := Lib.hid (l4 _ lc)
        have LA6 := Lib.hid (show low (zAt ks k) 65536 from la.mono (by omega))
        have P1 := Lib.hid (pa.scale q75 (la.mono (by omega)) (by decide) (by omega))
        have P2 := Lib.hid (pb.plus pc (l4 _ lb) (l4 _ lc))
        have L2 := Lib.hid (low.add lb lc (C := 65536) (by omega))
        have P3 := Lib.hid (P2.out.scale q125 L2.out (by decide) (by omega))
        have L1 := Lib.hid (la.mul (j := 6) (c := 6) (C := 4194304) (by decide) (by omega))
        have L3 := Lib.hid (L2.out.mul (j := 1) (c := 1) (C := 4194304) (by decide) (by decide))
        have P5 := Lib.hid (pa.plus pc (l4 _ la) (l4 _ lc))
        have L5 := Lib.hid (low.add la lc (C := 65536) (by omega))
        clear pa la pb lb pc lc l4
        go_wp2_with fail
        refine (nbrClosed lo hi _ c xs n k (pv n k) (-1) HN.out (by omega) hlt (pv_lt hlt) (by decide) (by decide) (tm_pv hlt hn2) _ HSW.out).mono ?_
        rintro e1 w1 ⟨rfl, rfl⟩
        go_wp2_with fail
        refine (nbrClosed lo hi _ c xs n k (nx n k) 1 HN.out (by omega) hlt (nx_lt hlt) (by decide) (by decide) (tm_nx hlt) _ HSW.out).mono ?_
        rintro e1 w2 ⟨rfl, rfl⟩
        go_wp2_with fail
        refine HCO.out.mono ?_
        rintro e1 w3 ⟨rfl, rfl⟩
        rw [HSHV.out]
        have hbl := HR.out.lt
        clear hcell
        unfold cV
        go_wp2_with (first | (at_builtin; refine wpList_appC rfl _ _ rfl _ _ [cAt xs k] rfl (by simp) (by simp) _ _ _ _ _ _ _ _ rfl rfl rfl (by first | rfl | simp) HR.out (by omega) ?_; intro b5 cap5 w5 hr5 hbb5 hgr5; have HR5 := Lib.hid hr5; have HB5 := Lib.hid hbb5; have HG5 := Lib.hid hgr5; clear hr5 hbb5 hgr5))
        have hb5 : w.heap.size ≤ b5 := by have := HB5.out; omega
        have HBW5 := Lib.hid (HB.out.trans (HG5.out.below (B := w.heap.size) hb hzw))
        have HM5 := Lib.hid (show m + 1 = (preL (cubVF xs true sh) (cubMF xs) true n k ++ [cubVF xs true sh k]).length by rw [List.length_append, ← HM.out]; rfl)
        have HR5 := Lib.hid (show ORow w5 26 1 b5 cap5 (m + 1) ((preL (cubVF xs true sh) (cubMF xs) true n k ++ [cubVF xs true sh k]).map cV) by rw [EV.out]; exact HR5.out)
        clear HB5 HG5 HR HB hzw hbl EV
        refine (plusR PA.out PC.out LA.out LC.out _).mono ?_
        rintro e1 w8 ⟨rfl, rfl⟩
        go_wp2_with fail
        refine (scaledR P5.out q50 L5.out (by decide) (by omega) _).mono ?_
        rintro e1 w9 ⟨rfl, rfl⟩
        unfold cV
        go_wp2_with (first | (at_builtin; refine wpList_appC rfl _ _ rfl _ _ [scaleF (plusF (cAt xs k) (cAt xs (nx n k))) 1056964608] rfl (by simp) (by simp) _ _ _ _ _ _ _ _ rfl rfl rfl (by first | rfl | simp) HR5.out (by omega) ?_; intro b10 cap10 w10 hr10 hbb10 hgr10; have HR10 := Lib.hid hr10; have HB10 := Lib.hid hbb10; have HG10 := Lib.hid hgr10; clear hr10 hbb10 hgr10))
        have hb9 := HB10.out
        have hz5 := HBW5.out.size
        have hgB := HG10.out.below (B := w.heap.size) hb5 hz5
        have EQ := Lib.hid (show preL (cubVF xs true sh) (cubMF xs) true n (k + 1) = preL (cubVF xs true sh) (cubMF xs) true n k ++ [cubVF xs true sh k] ++ [scaleF (plusF (cAt xs k) (cAt xs (nx n k))) 1056964608] by rw [preL_step _ _ _ _ _ (.inl rfl) hlt, EM.out])
        have hlen := preL_len (cubVF xs true sh) (cubMF xs) true n (k + 1) (by omega) (by omega)
        have hlen2 : (preL (cubVF xs true sh) (cubMF xs) true n (k + 1)).length = m + 1 + 1 := by rw [EQ.out, List.length_append, ← HM5.out]; rfl
        exact ⟨⟨k + 1, b10, cap10, m + 1 + 1, by omega, Lib.hid hlen2.symm, by omega, by go_num, rfl, by omega, Lib.hid (by rw [EQ.out]; exact HR10.out), Lib.hid (HBW5.out.trans hgB)⟩, by simp [intOf]; omega⟩
      · have HSHV := Lib.hid (show isSh sh k = false by simpa using hsh)
        clear hsh
        have EV := Lib.hid (show cubVF xs true sh k = plusF (scaleF (cAt xs k) 1061158912) (scaleF (plusF (cAt xs (pv n k)) (cAt xs (nx n k))) 1040187392) by unfold cubVF; rw [HN.out]; rw [if_pos (by simp [HSHV.out])])
        have EM := Lib.hid (show cubMF xs k = scaleF (plusF (cAt xs k) (cAt xs (nx n k))) 1056964608 by unfold cubMF; rw [HN.out])
        obtain ⟨pa, la⟩ := HPL.out.pt k (by rw [HN.out]; exact hlt)
        obtain ⟨pb, lb⟩ := HPL.out.pt (pv n k) (by rw [HN.out]; exact pv_lt hlt)
        obtain ⟨pc, lc⟩ := HPL.out.pt (nx n k) (by rw [HN.out]; exact nx_lt hlt)
        have l4 : ∀ p : Zp, low p B → low p 4194304 := fun p hp => hp.mono (by omega)
        have PA := Lib.hid pa
        have PB := Lib.hid pb
        have PC := Lib.hid pc
        have LA := Lib.hid (l4 _ la)
        have LB := Lib.hid (l4 _ lb)
        have LC := Lib.hid (l4 _ lc)
        have LA6 := Lib.hid (show low (zAt ks k) 65536 from la.mono (by omega))
        have P1 := Lib.hid (pa.scale q75 (la.mono (by omega)) (by decide) (by omega))
        have P2 := Lib.hid (pb.plus pc (l4 _ lb) (l4 _ lc))
        have L2 := Lib.hid (low.add lb lc (C := 65536) (by omega))
        have P3 := Lib.hid (P2.out.scale q125 L2.out (by decide) (by omega))
        have L1 := Lib.hid (la.mul (j := 6) (c := 6) (C := 4194304) (by decide) (by omega))
        have L3 := Lib.hid (L2.out.mul (j := 1) (c := 1) (C := 4194304) (by decide) (by decide))
        have P5 := Lib.hid (pa.plus pc (l4 _ la) (l4 _ lc))
        have L5 := Lib.hid (low.add la lc (C := 65536) (by omega))
        clear pa la pb lb pc lc l4
        go_wp2_with fail
        refine (nbrClosed lo hi _ c xs n k (pv n k) (-1) HN.out (by omega) hlt (pv_lt hlt) (by decide) (by decide) (tm_pv hlt hn2) _ HSW.out).mono ?_
        rintro e1 w1 ⟨rfl, rfl⟩
        go_wp2_with fail
        refine (nbrClosed lo hi _ c xs n k (nx n k) 1 HN.out (by omega) hlt (nx_lt hlt) (by decide) (by decide) (tm_nx hlt) _ HSW.out).mono ?_
        rintro e1 w2 ⟨rfl, rfl⟩
        go_wp2_with fail
        refine HCO.out.mono ?_
        rintro e1 w3 ⟨rfl, rfl⟩
        rw [HSHV.out]
        go_wp2_with fail
        refine (scaledR PA.out q75 LA6.out (by decide) (by omega) _).mono ?_
        rintro e1 w4 ⟨rfl, rfl⟩
        go_wp2_with fail
        refine (plusR PB.out PC.out LB.out LC.out _).mono ?_
        rintro e1 w5 ⟨rfl, rfl⟩
        go_wp2_with fail
        refine (scaledR P2.out q125 L2.out (by decide) (by omega) _).mono ?_
        rintro e1 w6 ⟨rfl, rfl⟩
        go_wp2_with fail
        refine (plusR P1.out P3.out L1.out L3.out _).mono ?_
        rintro e1 w7 ⟨rfl, rfl⟩
        have hbl := HR.out.lt
        clear hcell
        unfold cV
        go_wp2_with (first | (at_builtin; refine wpList_appC rfl _ _ rfl _ _ [plusF (scaleF (cAt xs k) 1061158912) (scaleF (plusF (cAt xs (pv n k)) (cAt xs (nx n k))) 1040187392)] rfl (by simp) (by simp) _ _ _ _ _ _ _ _ rfl rfl rfl (by first | rfl | simp) HR.out (by omega) ?_; intro b5 cap5 w5 hr5 hbb5 hgr5; have HR5 := Lib.hid hr5; have HB5 := Lib.hid hbb5; have HG5 := Lib.hid hgr5; clear hr5 hbb5 hgr5))
        have hb5 : w.heap.size ≤ b5 := by have := HB5.out; omega
        have HBW5 := Lib.hid (HB.out.trans (HG5.out.below (B := w.heap.size) hb hzw))
        have HM5 := Lib.hid (show m + 1 = (preL (cubVF xs true sh) (cubMF xs) true n k ++ [cubVF xs true sh k]).length by rw [List.length_append, ← HM.out]; rfl)
        have HR5 := Lib.hid (show ORow w5 26 1 b5 cap5 (m + 1) ((preL (cubVF xs true sh) (cubMF xs) true n k ++ [cubVF xs true sh k]).map cV) by rw [EV.out]; exact HR5.out)
        clear HB5 HG5 HR HB hzw hbl EV
        refine (plusR PA.out PC.out LA.out LC.out _).mono ?_
        rintro e1 w8 ⟨rfl, rfl⟩
        go_wp2_with fail
        refine (scaledR P5.out q50 L5.out (by decide) (by omega) _).mono ?_
        rintro e1 w9 ⟨rfl, rfl⟩
        unfold cV
        go_wp2_with (first | (at_builtin; refine wpList_appC rfl _ _ rfl _ _ [scaleF (plusF (cAt xs k) (cAt xs (nx n k))) 1056964608] rfl (by simp) (by simp) _ _ _ _ _ _ _ _ rfl rfl rfl (by first | rfl | simp) HR5.out (by omega) ?_; intro b10 cap10 w10 hr10 hbb10 hgr10; have HR10 := Lib.hid hr10; have HB10 := Lib.hid hbb10; have HG10 := Lib.hid hgr10; clear hr10 hbb10 hgr10))
        have hb9 := HB10.out
        have hz5 := HBW5.out.size
        have hgB := HG10.out.below (B := w.heap.size) hb5 hz5
        have EQ := Lib.hid (show preL (cubVF xs true sh) (cubMF xs) true n (k + 1) = preL (cubVF xs true sh) (cubMF xs) true n k ++ [cubVF xs true sh k] ++ [scaleF (plusF (cAt xs k) (cAt xs (nx n k))) 1056964608] by rw [preL_step _ _ _ _ _ (.inl rfl) hlt, EM.out])
        have hlen := preL_len (cubVF xs true sh) (cubMF xs) true n (k + 1) (by omega) (by omega)
        have hlen2 : (preL (cubVF xs true sh) (cubMF xs) true n (k + 1)).length = m + 1 + 1 := by rw [EQ.out, List.length_append, ← HM5.out]; rfl
        exact ⟨⟨k + 1, b10, cap10, m + 1 + 1, by omega, Lib.hid hlen2.symm, by omega, by go_num, rfl, by omega, Lib.hid (by rw [EQ.out]; exact HR10.out), Lib.hid (HBW5.out.trans hgB)⟩, by simp [intOf]; omega⟩
    · have k1 : ¬ (k : Int) < (n : Int) := by omega
      have hkn : k = n := by omega
      subst hkn
      have hfe : preL (cubVF xs true sh) (cubMF xs) true k k = cubF xs true sh := by rw [preL_end]; unfold cubF; rw [HN.out]
      rw [hfe] at HM HR
      have hbl := HR.out.lt
      have ho := OwnC1.row HR.out HM.out
      have HO := Lib.hid ho
      have hme := HME.out
      have hmm := HM.out
      have HIF := Lib.hid (ifRing b wr.heap.size (some ⟨b, 0, none⟩) cap m HPE.out HM.out.symm (by omega) (by omega) wr (ho.sl (Nat.le_refl _) hbl))
      clear ho hme hmm hfe
      go_wp2_with fail
      refine HIF.out.mono ?_
      rintro e1 w3 ⟨rfl, q3, rfl⟩
      clear HIF
      go_wp2_with fail
      go_ret2
      exact ⟨⟨b, cap, m, rfl, HM.out, hb, HO.out.far ((Far.refl 0 (b + 1) _).drewN _) (Nat.zero_le _) (Nat.lt_succ_self _)⟩, below_dr HB.out _⟩

set_option maxHeartbeats 8000000 in
set_option maxRecDepth 100000 in
theorem cubOpen {xs : List Cx} {ks : List Zp} {e B : Nat} (lo hi : Nat) (ao : Option Addr) (c n : Nat) (lo2 hi2 : Nat) (ash : Option Addr) (L cs : Nat) (sh : Option Nat) (h : PL xs ks e B) (hB : B ≤ 4096) (hn : xs.length = n) (hn2 : 2 ≤ n) (hn64 : n ≤ 64) (he : e ≤ 100) (w : World) (hsl : SlC w lo hi ao xs) (htop : hi ≤ w.heap.size) (hsh : ShAt w lo2 hi2 n ash L sh) (htop2 : hi2 ≤ w.heap.size) :
    Calls Try.prog 19 #[.slice ao n c, .bool false, .slice ash L cs] w fun x w' => (∃ b cap m, x = .returned (.tuple #[.slice (some ⟨b, 0, none⟩) m cap, .bool true]) ∧ m = (cubF xs false sh).length ∧ w.heap.size ≤ b ∧ OwnC1 w' b (cubF xs false sh)) ∧ Below w.heap.size w w' := by
  have HPL := Lib.hid h
  have HN := Lib.hid hn
  have HS := Lib.hid hsl
  have HSH := Lib.hid hsh
  have HIR := Lib.hid (isRing lo hi ao c n h hn hn2 (by omega) w hsl)
  have hPE := cub_PL (closed := false) (sh := sh) h (by omega) he (by omega)
  have HPE := Lib.hid hPE
  have hmE : (cubF xs false sh).length ≤ 128 ∧ 2 ≤ (cubF xs false sh).length := by
    unfold cubF
    rw [ringL_len _ _ _ _ (by omega)]
    split <;> omega
  have HME := Lib.hid hmE
  obtain ⟨bS, hao, hb1, hb2, hc⟩ := hsl (by omega)
  have HCELL := Lib.hid (fun i (hi : i < n) => hc i (by omega))
  have n1 : (n : Int) ≤ 64 := by omega
  have n2 : (2 : Int) ≤ (n : Int) := by omega
  have n3 : (0 : Int) < (n : Int) := by omega
  have n0 : ¬ n = 0 := by omega
  have hbw : bS < w.heap.size := by omega
  clear h hn hsl hc hPE hmE hsh
  subst hao
  go_enter Try.func19, Try.ntmps19
  go_wp2_with fail
  refine HIR.out.mono ?_
  rintro e1 w0 ⟨rfl, q0, rfl⟩
  obtain ⟨v, hv⟩ : ∃ v : World, v = w.drewN q0 := ⟨_, rfl⟩
  have hvs : v.heap.size = w.heap.size := by rw [hv]; rfl
  have HV := Lib.hid (show Below w.heap.size w v by rw [hv]; exact below_dr (Below.refl _ _) _)
  have HVS := Lib.hid hvs
  have HIS := Lib.hid (isSet lo2 hi2 n ash L cs sh (by omega) v (by rw [hv]; exact HSH.out.far ((Far.refl _ _ _).drewN _)))
  rw [← hv]
  clear hv HIR hvs
  go_wp2_with fail
  refine HIS.out.mono ?_
  rintro e1 w0 ⟨rfl, rfl⟩
  go_wp2_with fail
  go_loopw [8, 28] (fun o i wr => ∃ (k b cap m : Nat), k ≤ n ∧ Hid (m = (preL (cubVF xs false sh) (cubMF xs) false n k).length) ∧ m ≤ 140 ∧ i = .int .i64 k ∧ o = .slice (some ⟨b, 0, none⟩) m cap ∧ w.heap.size ≤ b ∧ Hid (ORow wr 26 1 b cap m ((preL (cubVF xs false sh) (cubMF xs) false n k).map cV)) ∧ Hid (Below w.heap.size w wr)) (fun _ i _ => n - (intOf i).toNat)
  case atStart => exact ⟨0, w0.heap.size, 0, 0, by omega, Lib.hid (by rw [preL_0 _ _ _ _ (by omega)]; rfl), by omega, rfl, rfl, by rw [HVS.out]; exact Nat.le_refl _, Lib.hid (by rw [preL_0 _ _ _ _ (by omega)]; exact ORow.new _ _ _), Lib.hid (HV.out.alloc (by rw [HVS.out]; exact Nat.le_refl _) _)⟩
  case round =>
    obtain ⟨k, b, cap, m, hk, HM, hm140, rfl, rfl, hb, HR, HB⟩ := hrel
    by_cases hlt : k < n
    · have hcell := (HB.out.cell (p := ⟨bS, k, none⟩) (by show bS < w.heap.size; omega)).trans (HCELL.out k hlt)
      have k0 : (0 : Int) ≤ (k : Int) := by omega
      have k1 : (k : Int) < (n : Int) := by omega
      have hzw := HB.out.size
      have HSW := Lib.hid (HS.out.far (Far.below HB.out htop))
      have HCO := Lib.hid (containsSh lo2 hi2 n ash L cs sh k (by omega) wr (HSH.out.far (Far.below HB.out htop2)))
      by_cases hp0 : 0 < k
      · have HI2 := Lib.hid (show (k : Int) + -1 = (pv n k : Nat) by unfold pv; rw [if_neg (by omega)]; omega)
        by_cases hl2 : k + 1 < n
        · have HI1 := Lib.hid (show (k : Int) + 1 = (nx n k : Nat) by unfold nx; rw [if_neg (by omega)]; omega)
          by_cases hsh : isSh sh k = true
          · have HSHV := Lib.hid hsh
            clear hsh
            have EV := Lib.hid (show cubVF xs false sh k = cAt xs k by unfold cubVF; rw [HN.out]; rw [if_neg (by simp [HSHV.out])])
            have EM := Lib.hid (show cubMF xs k = scaleF (plusF (cAt xs k) (cAt xs (nx n k))) 1056964608 by unfold cubMF; rw [HN.out])
            obtain ⟨pa, la⟩ := HPL.out.pt k (by rw [HN.out]; exact hlt)
            obtain ⟨pb, lb⟩ := HPL.out.pt (pv n k) (by rw [HN.out]; exact pv_lt hlt)
            obtain ⟨pc, lc⟩ := HPL.out.pt (nx n k) (by rw [HN.out]; exact nx_lt hlt)
            have l4 : ∀ p : Zp, low p B → low p 4194304 := fun p hp => hp.mono (by omega)
            have PA := Lib.hid pa
            have PB := Lib.hid pb
            have PC := Lib.hid pc
            have LA := Lib.hid (l4 _ la)
            have LB := Lib.hid (l4 _ lb)
            have LC := Lib.hid (l4 _ lc)
            have LA6 := Lib.hid (show low (zAt ks k) 65536 from la.mono (by omega))
            have P1 := Lib.hid (pa.scale q75 (la.mono (by omega)) (by decide) (by omega))
            have P2 := Lib.hid (pb.plus pc (l4 _ lb) (l4 _ lc))
            have L2 := Lib.hid (low.add lb lc (C := 65536) (by omega))
            have P3 := Lib.hid (P2.out.scale q125 L2.out (by decide) (by omega))
            have L1 := Lib.hid (la.mul (j := 6) (c := 6) (C := 4194304) (by decide) (by omega))
            have L3 := Lib.hid (L2.out.mul (j := 1) (c := 1) (C := 4194304) (by decide) (by decide))
            have P5 := Lib.hid (pa.plus pc (l4 _ la) (l4 _ lc))
            have L5 := Lib.hid (low.add la lc (C := 65536) (by omega))
            clear pa la pb lb pc lc l4
            go_wp2_with fail
            refine (nbrOpen lo hi _ c xs n k (pv n k) (-1) HN.out (by omega) hlt (pv_lt hlt) (by decide) (by decide) HI2.out _ HSW.out).mono ?_
            rintro e1 w1 ⟨rfl, rfl⟩
            go_wp2_with fail
            refine (nbrOpen lo hi _ c xs n k (nx n k) 1 HN.out (by omega) hlt (nx_lt hlt) (by decide) (by decide) HI1.out _ HSW.out).mono ?_
            rintro e1 w2 ⟨rfl, rfl⟩
            go_wp2_with fail
            refine HCO.out.mono ?_
            rintro e1 w3 ⟨rfl, rfl⟩
            rw [HSHV.out]
            have hbl := HR.out.lt
            clear hcell
            unfold cV
            go_wp2_with (first | (at_builtin; refine wpList_appC rfl _ _ rfl _ _ [cAt xs k] rfl (by simp) (by simp) _ _ _ _ _ _ _ _ rfl rfl rfl (by first | rfl | simp) HR.out (by omega) ?_; intro b5 cap5 w5 hr5 hbb5 hgr5; have HR5 := Lib.hid hr5; have HB5 := Lib.hid hbb5; have HG5 := Lib.hid hgr5; clear hr5 hbb5 hgr5))
            have hb5 : w.heap.size ≤ b5 := by have := HB5.out; omega
            have HBW5 := Lib.hid (HB.out.trans (HG5.out.below (B := w.heap.size) hb hzw))
            have HM5 := Lib.hid (show m + 1 = (preL (cubVF xs false sh) (cubMF xs) false n k ++ [cubVF xs false sh k]).length by rw [List.length_append, ← HM.out]; rfl)
            have HR5 := Lib.hid (show ORow w5 26 1 b5 cap5 (m + 1) ((preL (cubVF xs false sh) (cubMF xs) false n k ++ [cubVF xs false sh k]).map cV) by rw [EV.out]; exact HR5.out)
            clear HB5 HG5 HR HB hzw hbl EV
            refine (plusR PA.out PC.out LA.out LC.out _).mono ?_
            rintro e1 w8 ⟨rfl, rfl⟩
            go_wp2_with fail
            refine (scaledR P5.out q50 L5.out (by decide) (by omega) _).mono ?_
            rintro e1 w9 ⟨rfl, rfl⟩
            unfold cV
            go_wp2_with (first | (at_builtin; refine wpList_appC rfl _ _ rfl _ _ [scaleF (plusF (cAt xs k) (cAt xs (nx n k))) 1056964608] rfl (by simp) (by simp) _ _ _ _ _ _ _ _ rfl rfl rfl (by first | rfl | simp) HR5.out (by omega) ?_; intro b10 cap10 w10 hr10 hbb10 hgr10; have HR10 := Lib.hid hr10; have HB10 := Lib.hid hbb10; have HG10 := Lib.hid hgr10; clear hr10 hbb10 hgr10))
            have hb9 := HB10.out
            have hz5 := HBW5.out.size
            have hgB := HG10.out.below (B := w.heap.size) hb5 hz5
            have EQ := Lib.hid (show preL (cubVF xs false sh) (cubMF xs) false n (k + 1) = preL (cubVF xs false sh) (cubMF xs) false n k ++ [cubVF xs false sh k] ++ [scaleF (plusF (cAt xs k) (cAt xs (nx n k))) 1056964608] by rw [preL_step _ _ _ _ _ (.inr (by omega)) hlt, EM.out])
            have hlen := preL_len (cubVF xs false sh) (cubMF xs) false n (k + 1) (by omega) (by omega)
            have hlen2 : (preL (cubVF xs false sh) (cubMF xs) false n (k + 1)).length = m + 1 + 1 := by rw [EQ.out, List.length_append, ← HM5.out]; rfl
            exact ⟨⟨k + 1, b10, cap10, m + 1 + 1, by omega, Lib.hid hlen2.symm, by omega, by go_num, rfl, by omega, Lib.hid (by rw [EQ.out]; exact HR10.out), Lib.hid (HBW5.out.trans hgB)⟩, by simp [intOf]; omega⟩
          · have HSHV := Lib.hid (show isSh sh k = false by simpa using hsh)
            clear hsh
            have EV := Lib.hid (show cubVF xs false sh k = plusF (scaleF (cAt xs k) 1061158912) (scaleF (plusF (cAt xs (pv n k)) (cAt xs (nx n k))) 1040187392) by unfold cubVF; rw [HN.out]; rw [if_pos (by simp [HSHV.out]; omega)])
            have EM := Lib.hid (show cubMF xs k = scaleF (plusF (cAt xs k) (cAt xs (nx n k))) 1056964608 by unfold cubMF; rw [HN.out])
            obtain ⟨pa, la⟩ := HPL.out.pt k (by rw [HN.out]; exact hlt)
            obtain ⟨pb, lb⟩ := HPL.out.pt (pv n k) (by rw [HN.out]; exact pv_lt hlt)
            obtain ⟨pc, lc⟩ := HPL.out.pt (nx n k) (by rw [HN.out]; exact nx_lt hlt)
            have l4 : ∀ p : Zp, low p B → low p 4194304 := fun p hp => hp.mono (by omega)
            have PA := Lib.hid pa
            have PB := Lib.hid pb
            have PC := Lib.hid pc
            have LA := Lib.hid (l4 _ la)
            have LB := Lib.hid (l4 _ lb)
            have LC := Lib.hid (l4 _ lc)
            have LA6 := Lib.hid (show low (zAt ks k) 65536 from la.mono (by omega))
            have P1 := Lib.hid (pa.scale q75 (la.mono (by omega)) (by decide) (by omega))
            have P2 := Lib.hid (pb.plus pc (l4 _ lb) (l4 _ lc))
            have L2 := Lib.hid (low.add lb lc (C := 65536) (by omega))
            have P3 := Lib.hid (P2.out.scale q125 L2.out (by decide) (by omega))
            have L1 := Lib.hid (la.mul (j := 6) (c := 6) (C := 4194304) (by decide) (by omega))
            have L3 := Lib.hid (L2.out.mul (j := 1) (c := 1) (C := 4194304) (by decide) (by decide))
            have P5 := Lib.hid (pa.plus pc (l4 _ la) (l4 _ lc))
            have L5 := Lib.hid (low.add la lc (C := 65536) (by omega))
            clear pa la pb lb pc lc l4
            go_wp2_with fail
            refine (nbrOpen lo hi _ c xs n k (pv n k) (-1) HN.out (by omega) hlt (pv_lt hlt) (by decide) (by decide) HI2.out _ HSW.out).mono ?_
            rintro e1 w1 ⟨rfl, rfl⟩
            go_wp2_with fail
            refine (nbrOpen lo hi _ c xs n k (nx n k) 1 HN.out (by omega) hlt (nx_lt hlt) (by decide) (by decide) HI1.out _ HSW.out).mono ?_
            rintro e1 w2 ⟨rfl, rfl⟩
            go_wp2_with fail
            refine HCO.out.mono ?_
            rintro e1 w3 ⟨rfl, rfl⟩
            rw [HSHV.out]
            go_wp2_with fail
            refine (scaledR PA.out q75 LA6.out (by decide) (by omega) _).mono ?_
            rintro e1 w4 ⟨rfl, rfl⟩
            go_wp2_with fail
            refine (plusR PB.out PC.out LB.out LC.out _).mono ?_
            rintro e1 w5 ⟨rfl, rfl⟩
            go_wp2_with fail
            refine (scaledR P2.out q125 L2.out (by decide) (by omega) _).mono ?_
            rintro e1 w6 ⟨rfl, rfl⟩
            go_wp2_with fail
            refine (plusR P1.out P3.out L1.out L3.out _).mono ?_
            rintro e1 w7 ⟨rfl, rfl⟩
            have hbl := HR.out.lt
            clear hcell
            unfold cV
            go_wp2_with (first | (at_builtin; refine wpList_appC rfl _ _ rfl _ _ [plusF (scaleF (cAt xs k) 1061158912) (scaleF (plusF (cAt xs (pv n k)) (cAt xs (nx n k))) 1040187392)] rfl (by simp) (by simp) _ _ _ _ _ _ _ _ rfl rfl rfl (by first | rfl | simp) HR.out (by omega) ?_; intro b5 cap5 w5 hr5 hbb5 hgr5; have HR5 := Lib.hid hr5; have HB5 := Lib.hid hbb5; have HG5 := Lib.hid hgr5; clear hr5 hbb5 hgr5))
            have hb5 : w.heap.size ≤ b5 := by have := HB5.out; omega
            have HBW5 := Lib.hid (HB.out.trans (HG5.out.below (B := w.heap.size) hb hzw))
            have HM5 := Lib.hid (show m + 1 = (preL (cubVF xs false sh) (cubMF xs) false n k ++ [cubVF xs false sh k]).length by rw [List.length_append, ← HM.out]; rfl)
            have HR5 := Lib.hid (show ORow w5 26 1 b5 cap5 (m + 1) ((preL (cubVF xs false sh) (cubMF xs) false n k ++ [cubVF xs false sh k]).map cV) by rw [EV.out]; exact HR5.out)
            clear HB5 HG5 HR HB hzw hbl EV
            refine (plusR PA.out PC.out LA.out LC.out _).mono ?_
            rintro e1 w8 ⟨rfl, rfl⟩
            go_wp2_with fail
            refine (scaledR P5.out q50 L5.out (by decide) (by omega) _).mono ?_
            rintro e1 w9 ⟨rfl, rfl⟩
            unfold cV
            go_wp2_with (first | (at_builtin; refine wpList_appC rfl _ _ rfl _ _ [scaleF (plusF (cAt xs k) (cAt xs (nx n k))) 1056964608] rfl (by simp) (by simp) _ _ _ _ _ _ _ _ rfl rfl rfl (by first | rfl | simp) HR5.out (by omega) ?_; intro b10 cap10 w10 hr10 hbb10 hgr10; have HR10 := Lib.hid hr10; have HB10 := Lib.hid hbb10; have HG10 := Lib.hid hgr10; clear hr10 hbb10 hgr10))
            have hb9 := HB10.out
            have hz5 := HBW5.out.size
            have hgB := HG10.out.below (B := w.heap.size) hb5 hz5
            have EQ := Lib.hid (show preL (cubVF xs false sh) (cubMF xs) false n (k + 1) = preL (cubVF xs false sh) (cubMF xs) false n k ++ [cubVF xs false sh k] ++ [scaleF (plusF (cAt xs k) (cAt xs (nx n k))) 1056964608] by rw [preL_step _ _ _ _ _ (.inr (by omega)) hlt, EM.out])
            have hlen := preL_len (cubVF xs false sh) (cubMF xs) false n (k + 1) (by omega) (by omega)
            have hlen2 : (preL (cubVF xs false sh) (cubMF xs) false n (k + 1)).length = m + 1 + 1 := by rw [EQ.out, List.length_append, ← HM5.out]; rfl
            exact ⟨⟨k + 1, b10, cap10, m + 1 + 1, by omega, Lib.hid hlen2.symm, by omega, by go_num, rfl, by omega, Lib.hid (by rw [EQ.out]; exact HR10.out), Lib.hid (HBW5.out.trans hgB)⟩, by simp [intOf]; omega⟩
        · skip
          have EV := Lib.hid (show cubVF xs false sh k = cAt xs k by unfold cubVF; rw [HN.out]; rw [if_neg (by simp; omega)])
          have EM := Lib.hid (show cubMF xs k = scaleF (plusF (cAt xs k) (cAt xs (nx n k))) 1056964608 by unfold cubMF; rw [HN.out])
          obtain ⟨pa, la⟩ := HPL.out.pt k (by rw [HN.out]; exact hlt)
          obtain ⟨pb, lb⟩ := HPL.out.pt (pv n k) (by rw [HN.out]; exact pv_lt hlt)
          obtain ⟨pc, lc⟩ := HPL.out.pt (nx n k) (by rw [HN.out]; exact nx_lt hlt)
          have l4 : ∀ p : Zp, low p B → low p 4194304 := fun p hp => hp.mono (by omega)
          have PA := Lib.hid pa
          have PB := Lib.hid pb
          have PC := Lib.hid pc
          have LA := Lib.hid (l4 _ la)
          have LB := Lib.hid (l4 _ lb)
          have LC := Lib.hid (l4 _ lc)
          have LA6 := Lib.hid (show low (zAt ks k) 65536 from la.mono (by omega))
          have P1 := Lib.hid (pa.scale q75 (la.mono (by omega)) (by decide) (by omega))
          have P2 := Lib.hid (pb.plus pc (l4 _ lb) (l4 _ lc))
          have L2 := Lib.hid (low.add lb lc (C := 65536) (by omega))
          have P3 := Lib.hid (P2.out.scale q125 L2.out (by decide) (by omega))
          have L1 := Lib.hid (la.mul (j := 6) (c := 6) (C := 4194304) (by decide) (by omega))
          have L3 := Lib.hid (L2.out.mul (j := 1) (c := 1) (C := 4194304) (by decide) (by decide))
          have P5 := Lib.hid (pa.plus pc (l4 _ la) (l4 _ lc))
          have L5 := Lib.hid (low.add la lc (C := 65536) (by omega))
          clear pa la pb lb pc lc l4
          go_wp2_with fail
          refine (nbrOpen lo hi _ c xs n k (pv n k) (-1) HN.out (by omega) hlt (pv_lt hlt) (by decide) (by decide) HI2.out _ HSW.out).mono ?_
          rintro e1 w1 ⟨rfl, rfl⟩
          go_wp2_with fail
          refine (nbrNone _ c n k 1 (by omega) hlt (by decide) (by decide) (.inr (by omega)) _).mono ?_
          rintro e1 w2 ⟨rfl, rfl⟩
          have hbl := HR.out.lt
          clear hcell
          unfold cV
          go_wp2_with (first | (at_builtin; refine wpList_appC rfl _ _ rfl _ _ [cAt xs k] rfl (by simp) (by simp) _ _ _ _ _ _ _ _ rfl rfl rfl (by first | rfl | simp) HR.out (by omega) ?_; intro b5 cap5 w5 hr5 hbb5 hgr5; have HR5 := Lib.hid hr5; have HB5 := Lib.hid hbb5; have HG5 := Lib.hid hgr5; clear hr5 hbb5 hgr5))
          have hb5 : w.heap.size ≤ b5 := by have := HB5.out; omega
          have HBW5 := Lib.hid (HB.out.trans (HG5.out.below (B := w.heap.size) hb hzw))
          have HM5 := Lib.hid (show m + 1 = (preL (cubVF xs false sh) (cubMF xs) false n k ++ [cubVF xs false sh k]).length by rw [List.length_append, ← HM.out]; rfl)
          have HR5 := Lib.hid (show ORow w5 26 1 b5 cap5 (m + 1) ((preL (cubVF xs false sh) (cubMF xs) false n k ++ [cubVF xs false sh k]).map cV) by rw [EV.out]; exact HR5.out)
          clear HB5 HG5 HR HB hzw hbl EV
          have EQ := Lib.hid (preL_last (cubVF xs false sh) (cubMF xs) n k (by omega))
          have hlen := preL_len (cubVF xs false sh) (cubMF xs) false n (k + 1) (by omega) (by omega)
          have hlen2 : (preL (cubVF xs false sh) (cubMF xs) false n (k + 1)).length = m + 1 := by rw [EQ.out, ← HM5.out]
          exact ⟨⟨k + 1, b5, cap5, m + 1, by omega, Lib.hid hlen2.symm, by omega, by go_num, rfl, by omega, Lib.hid (by rw [EQ.out]; exact HR5.out), HBW5⟩, by simp [intOf]; omega⟩
      · have HI1 := Lib.hid (show (k : Int) + 1 = (nx n k : Nat) by unfold nx; rw [if_neg (by omega)]; omega)
        have EV := Lib.hid (show cubVF xs false sh k = cAt xs k by unfold cubVF; rw [HN.out]; rw [if_neg (by simp; omega)])
        have EM := Lib.hid (show cubMF xs k = scaleF (plusF (cAt xs k) (cAt xs (nx n k))) 1056964608 by unfold cubMF; rw [HN.out])
        obtain ⟨pa, la⟩ := HPL.out.pt k (by rw [HN.out]; exact hlt)
        obtain ⟨pb, lb⟩ := HPL.out.pt (pv n k) (by rw [HN.out]; exact pv_lt hlt)
        obtain ⟨pc, lc⟩ := HPL.out.pt (nx n k) (by rw [HN.out]; exact nx_lt hlt)
        have l4 : ∀ p : Zp, low p B → low p 4194304 := fun p hp => hp.mono (by omega)
        have PA := Lib.hid pa
        have PB := Lib.hid pb
        have PC := Lib.hid pc
        have LA := Lib.hid (l4 _ la)
        have LB := Lib.hid (l4 _ lb)
        have LC := Lib.hid (l4 _ lc)
        have LA6 := Lib.hid (show low (zAt ks k) 65536 from la.mono (by omega))
        have P1 := Lib.hid (pa.scale q75 (la.mono (by omega)) (by decide) (by omega))
        have P2 := Lib.hid (pb.plus pc (l4 _ lb) (l4 _ lc))
        have L2 := Lib.hid (low.add lb lc (C := 65536) (by omega))
        have P3 := Lib.hid (P2.out.scale q125 L2.out (by decide) (by omega))
        have L1 := Lib.hid (la.mul (j := 6) (c := 6) (C := 4194304) (by decide) (by omega))
        have L3 := Lib.hid (L2.out.mul (j := 1) (c := 1) (C := 4194304) (by decide) (by decide))
        have P5 := Lib.hid (pa.plus pc (l4 _ la) (l4 _ lc))
        have L5 := Lib.hid (low.add la lc (C := 65536) (by omega))
        clear pa la pb lb pc lc l4
        go_wp2_with fail
        refine (nbrNone _ c n k (-1) (by omega) hlt (by decide) (by decide) (.inl (by omega)) _).mono ?_
        rintro e1 w1 ⟨rfl, rfl⟩
        go_wp2_with fail
        refine (nbrOpen lo hi _ c xs n k (nx n k) 1 HN.out (by omega) hlt (nx_lt hlt) (by decide) (by decide) HI1.out _ HSW.out).mono ?_
        rintro e1 w2 ⟨rfl, rfl⟩
        have hbl := HR.out.lt
        clear hcell
        unfold cV
        go_wp2_with (first | (at_builtin; refine wpList_appC rfl _ _ rfl _ _ [cAt xs k] rfl (by simp) (by simp) _ _ _ _ _ _ _ _ rfl rfl rfl (by first | rfl | simp) HR.out (by omega) ?_; intro b5 cap5 w5 hr5 hbb5 hgr5; have HR5 := Lib.hid hr5; have HB5 := Lib.hid hbb5; have HG5 := Lib.hid hgr5; clear hr5 hbb5 hgr5))
        have hb5 : w.heap.size ≤ b5 := by have := HB5.out; omega
        have HBW5 := Lib.hid (HB.out.trans (HG5.out.below (B := w.heap.size) hb hzw))
        have HM5 := Lib.hid (show m + 1 = (preL (cubVF xs false sh) (cubMF xs) false n k ++ [cubVF xs false sh k]).length by rw [List.length_append, ← HM.out]; rfl)
        have HR5 := Lib.hid (show ORow w5 26 1 b5 cap5 (m + 1) ((preL (cubVF xs false sh) (cubMF xs) false n k ++ [cubVF xs false sh k]).map cV) by rw [EV.out]; exact HR5.out)
        clear HB5 HG5 HR HB hzw hbl EV
        refine (plusR PA.out PC.out LA.out LC.out _).mono ?_
        rintro e1 w8 ⟨rfl, rfl⟩
        go_wp2_with fail
        refine (scaledR P5.out q50 L5.out (by decide) (by omega) _).mono ?_
        rintro e1 w9 ⟨rfl, rfl⟩
        unfold cV
        go_wp2_with (first | (at_builtin; refine wpList_appC rfl _ _ rfl _ _ [scaleF (plusF (cAt xs k) (cAt xs (nx n k))) 1056964608] rfl (by simp) (by simp) _ _ _ _ _ _ _ _ rfl rfl rfl (by first | rfl | simp) HR5.out (by omega) ?_; intro b10 cap10 w10 hr10 hbb10 hgr10; have HR10 := Lib.hid hr10; have HB10 := Lib.hid hbb10; have HG10 := Lib.hid hgr10; clear hr10 hbb10 hgr10))
        have hb9 := HB10.out
        have hz5 := HBW5.out.size
        have hgB := HG10.out.below (B := w.heap.size) hb5 hz5
        have EQ := Lib.hid (show preL (cubVF xs false sh) (cubMF xs) false n (k + 1) = preL (cubVF xs false sh) (cubMF xs) false n k ++ [cubVF xs false sh k] ++ [scaleF (plusF (cAt xs k) (cAt xs (nx n k))) 1056964608] by rw [preL_step _ _ _ _ _ (.inr (by omega)) hlt, EM.out])
        have hlen := preL_len (cubVF xs false sh) (cubMF xs) false n (k + 1) (by omega) (by omega)
        have hlen2 : (preL (cubVF xs false sh) (cubMF xs) false n (k + 1)).length = m + 1 + 1 := by rw [EQ.out, List.length_append, ← HM5.out]; rfl
        exact ⟨⟨k + 1, b10, cap10, m + 1 + 1, by omega, Lib.hid hlen2.symm, by omega, by go_num, rfl, by omega, Lib.hid (by rw [EQ.out]; exact HR10.out), Lib.hid (HBW5.out.trans hgB)⟩, by simp [intOf]; omega⟩
    · have k1 : ¬ (k : Int) < (n : Int) := by omega
      have hkn : k = n := by omega
      subst hkn
      have hfe : preL (cubVF xs false sh) (cubMF xs) false k k = cubF xs false sh := by rw [preL_end]; unfold cubF; rw [HN.out]
      rw [hfe] at HM HR
      have hbl := HR.out.lt
      have ho := OwnC1.row HR.out HM.out
      have HO := Lib.hid ho
      have hme := HME.out
      have hmm := HM.out
      have HIF := Lib.hid (ifRing b wr.heap.size (some ⟨b, 0, none⟩) cap m HPE.out HM.out.symm (by omega) (by omega) wr (ho.sl (Nat.le_refl _) hbl))
      clear ho hme hmm hfe
      go_wp2_with fail
      refine HIF.out.mono ?_
      rintro e1 w3 ⟨rfl, q3, rfl⟩
      clear HIF
      go_wp2_with fail
      go_ret2
      exact ⟨⟨b, cap, m, rfl, HM.out, hb, HO.out.far ((Far.refl 0 (b + 1) _).drewN _) (Nat.zero_le _) (Nat.lt_succ_self _)⟩, below_dr HB.out _⟩

theorem cubicOnce {xs : List Cx} {ks : List Zp} {e B : Nat} (lo hi : Nat) (ao : Option Addr) (c n : Nat) (lo2 hi2 : Nat) (ash : Option Addr) (L cs : Nat) (sh : Option Nat) (closed : Bool) (h : PL xs ks e B) (hB : B ≤ 4096) (hn : xs.length = n) (hn2 : 2 ≤ n) (hn64 : n ≤ 64) (he : e ≤ 100) (w : World) (hsl : SlC w lo hi ao xs) (htop : hi ≤ w.heap.size) (hsh : ShAt w lo2 hi2 n ash L sh) (htop2 : hi2 ≤ w.heap.size) :
    Calls Try.prog 19 #[.slice ao n c, .bool closed, .slice ash L cs] w fun x w' => (∃ b cap m, x = .returned (.tuple #[.slice (some ⟨b, 0, none⟩) m cap, .bool true]) ∧ m = (cubF xs closed sh).length ∧ w.heap.size ≤ b ∧ OwnC1 w' b (cubF xs closed sh)) ∧ Below w.heap.size w w' := by
  cases closed
  · exact cubOpen lo hi ao c n lo2 hi2 ash L cs sh h hB hn hn2 hn64 he w hsl htop hsh htop2
  · exact cubClosed lo hi ao c n lo2 hi2 ash L cs sh h hB hn hn2 hn64 he w hsl htop hsh htop2
end Go.Proofs.Ytkpjhoiaegioeaa
