/- impl.FourPoints walked. (Written by mkrge.py.) -/
import Derived.Test.YtkpjhoiaegioeaaRgD
namespace Go.Fl
open Ieee Go.RowKit
/-- the list after k rounds -/
def preL {α : Type} (v m : Nat → α) (closed : Bool) (n k : Nat) : List α := if closed = false ∧ k = n then pairL v m (n - 1) ++ [v (n - 1)] else pairL v m k
theorem preL_end {α : Type} (v m : Nat → α) (closed : Bool) (n : Nat) : preL v m closed n n = ringL v m closed n := by
  unfold preL ringL; cases closed <;> simp
theorem preL_0 {α : Type} (v m : Nat → α) (closed : Bool) (n : Nat) (hn : 0 < n) : preL v m closed n 0 = [] := by
  unfold preL; rw [if_neg (by rintro ⟨_, h⟩; omega)]; rfl
theorem preL_step {α : Type} (v m : Nat → α) (closed : Bool) (n k : Nat) (h : closed = true ∨ k + 1 < n) (hk : k < n) : preL v m closed n (k + 1) = preL v m closed n k ++ [v k] ++ [m k] := by
  have h1 : ¬ (closed = false ∧ k + 1 = n) := by
    rintro ⟨h1, h2⟩
    rcases h with h | h
    · rw [h1] at h; cases h
    · omega
  unfold preL
  rw [if_neg h1, if_neg (by rintro ⟨_, h⟩; omega), pairL_succ, List.append_assoc]; rfl
theorem preL_last {α : Type} (v m : Nat → α) (n k : Nat) (hk : k + 1 = n) : preL v m false n (k + 1) = preL v m false n k ++ [v k] := by
  unfold preL
  rw [if_pos ⟨rfl, hk⟩, if_neg (by rintro ⟨_, h⟩; omega)]
  have : n - 1 = k := by omega
  rw [this]
theorem preL_len {α : Type} (v m : Nat → α) (closed : Bool) (n k : Nat) (hn : 0 < n) (hk : k ≤ n) : (preL v m closed n k).length ≤ 2 * n := by
  unfold preL
  split
  · rw [List.length_append, pairL_len]; show 2 * (n - 1) + 1 ≤ _; omega
  · rw [pairL_len]; omega
def befI (n : Nat) (closed : Bool) (i : Nat) : Nat := if closed || decide (0 < i) then pv n i else i
def behI (n : Nat) (closed : Bool) (i : Nat) : Nat := if closed || decide (i + 2 < n) then nx n (nx n i) else nx n i
def fourMF (xs : List Cx) (closed : Bool) (s i : Nat) : Cx :=
  minusF (scaleF (plusF (cAt xs i) (cAt xs (nx xs.length i))) (fop .add .f32 1056964608 s)) (scaleF (plusF (cAt xs (befI xs.length closed i)) (cAt xs (behI xs.length closed i))) s)
def fourF (xs : List Cx) (closed : Bool) (s : Nat) : List Cx := ringL (cAt xs) (fourMF xs closed s) closed xs.length
def fourMZ (ks : List Zp) (closed : Bool) (i : Nat) : Zp := subZ (mulZ (addZ (zAt ks i) (zAt ks (nx ks.length i))) 9) (mulZ (addZ (zAt ks (befI ks.length closed i)) (zAt ks (behI ks.length closed i))) 1)
theorem befI_lt {n i : Nat} {closed : Bool} (h : i < n) : befI n closed i < n := by unfold befI; split; exact pv_lt h; exact h
theorem behI_lt {n i : Nat} {closed : Bool} (h : i < n) : behI n closed i < n := by unfold behI; split; exact nx_lt (nx_lt h); exact nx_lt h
theorem half_q4 : Q .f32 1056964608 8 4 := ⟨by decide +kernel, by decide +kernel, by decide⟩
theorem four_hs {s : Nat} (hs : Q .f32 s 1 4) : Q .f32 (fop .add .f32 1056964608 s) 9 4 := half_q4.add hs (lt24 (by decide))
theorem fourM_px {xs : List Cx} {ks : List Zp} {e B s i : Nat} {closed : Bool} (h : PL xs ks e B) (hB : B ≤ 4096) (hs : Q .f32 s 1 4) (he : e ≤ 100) (hi : i < xs.length) :
    PX (fourMF xs closed s i) (fourMZ ks closed i) (e + 4) ∧ low (fourMZ ks closed i) (20 * B) := by
  have hl := h.len
  unfold fourMF fourMZ
  rw [hl]
  obtain ⟨pa, la⟩ := h.pt i hi
  obtain ⟨pb, lb⟩ := h.pt _ (nx_lt hi)
  obtain ⟨pc, lc⟩ := h.pt _ (befI_lt (closed := closed) hi)
  obtain ⟨pd, ld⟩ := h.pt _ (behI_lt (closed := closed) hi)
  have l4 : ∀ p : Zp, low p B → low p 4194304 := fun p hp => hp.mono (by omega)
  have p1 := (pa.plus pb (l4 _ la) (l4 _ lb)).scale (four_hs hs) (low.add la lb (by omega)) (by decide) (by omega)
  have p2 := (pc.plus pd (l4 _ lc) (l4 _ ld)).scale hs (low.add lc ld (by omega)) (by decide) (by omega)
  have l1 := (low.add la lb (C := 2 * B) (Nat.le_refl _)).mul (j := 9) (c := 9) (C := 18 * B) (by decide) (by omega)
  have l2 := (low.add lc ld (C := 2 * B) (Nat.le_refl _)).mul (j := 1) (c := 1) (C := 2 * B) (by decide) (by omega)
  refine ⟨p1.minus p2 (l1.mono (by omega)) (l2.mono (by omega)), ?_, ?_⟩
  · have a := l1.1; have b := l2.1
    show (_ - _ : Int).natAbs ≤ _
    omega
  · have a := l1.2; have b := l2.2
    show (_ - _ : Int).natAbs ≤ _
    omega
theorem four_PL {xs : List Cx} {ks : List Zp} {e B s : Nat} {closed : Bool} (h : PL xs ks e B) (hB : B ≤ 4096) (hs : Q .f32 s 1 4) (he : e ≤ 100) (hn : 0 < xs.length) :
    PL (fourF xs closed s) (ringL (fun i => mulZ (zAt ks i) 16) (fourMZ ks closed) closed xs.length) (e + 4) (20 * B) := by
  unfold fourF
  refine ringL_PL hn (fun i hi => ?_) (fun i hi _ => fourM_px h hB hs he hi)
  obtain ⟨p, l⟩ := h.pt i hi
  exact ⟨p.shift 4 (by omega), l.mul (c := 16) (by decide) (by omega)⟩
end Go.Fl
namespace Go.Proofs.Ytkpjhoiaegioeaa
open Go.RowKit Go.Fl

set_option maxHeartbeats 8000000 in
set_option maxRecDepth 100000 in
theorem fourClosed {xs : List Cx} {ks : List Zp} {e B : Nat} (lo hi : Nat) (ao : Option Addr) (c s n : Nat) (h : PL xs ks e B) (hB : B ≤ 1024) (hn : xs.length = n) (hn2 : 2 ≤ n) (hn64 : n ≤ 64) (hs : Q .f32 s 1 4) (he : e ≤ 100) (w : World) (hsl : SlC w lo hi ao xs) (htop : hi ≤ w.heap.size) :
    Calls Try.prog 18 #[.slice ao n c, .bool true, .float .f32 s] w fun x w' => (∃ b cap m, x = .returned (.tuple #[.slice (some ⟨b, 0, none⟩) m cap, .bool true]) ∧ m = (fourF xs true s).length ∧ w.heap.size ≤ b ∧ OwnC1 w' b (fourF xs true s)) ∧ Below w.heap.size w w' := by
  have HPL := Lib.hid h
  have HN := Lib.hid hn
  have HS := Lib.hid hsl
  have HQ := Lib.hid hs
  have HF := Lib.hid (finX hs)
  have HIR := Lib.hid (isRing lo hi ao c n h hn hn2 (by omega) w hsl)
  have hPE := four_PL (closed := true) h (by omega) hs he (by omega)
  have HPE := Lib.hid hPE
  have hmE : (fourF xs true s).length ≤ 128 ∧ 2 ≤ (fourF xs true s).length := by
    unfold fourF
    rw [ringL_len _ _ _ _ (by omega)]
    split <;> omega
  have HME := Lib.hid hmE
  obtain ⟨bS, hao, hb1, hb2, hc⟩ := hsl (by omega)
  have HCELL := Lib.hid (fun i (hi : i < n) => hc i (by omega))
  obtain ⟨m1, d1⟩ := run_fop (four_hs hs)
  have dz : ∀ w : World, w.drewN 0 = w := World.drewN_zero
  have n1 : (n : Int) ≤ 64 := by omega
  have n2 : (2 : Int) ≤ (n : Int) := by omega
  have n3 : (0 : Int) < (n : Int) := by omega
  have n0 : ¬ n = 0 := by omega
  have hbw : bS < w.heap.size := by omega
  clear h hn hsl hc hs hPE hmE
  subst hao
  go_enter Try.func18, Try.ntmps18
  go_wp2_with fail
  refine HIR.out.mono ?_
  rintro e1 w0 ⟨rfl, q0, rfl⟩
  go_wp2_with fail
  refine (implIsFinite s _).mono ?_
  rintro e1 w0 ⟨rfl, q1, rfl⟩
  rw [HF.out]
  obtain ⟨v, hv⟩ : ∃ v : World, v = (w.drewN q0).drewN q1 := ⟨_, rfl⟩
  have hvs : v.heap.size = w.heap.size := by rw [hv]; rfl
  have HV := Lib.hid (show Below w.heap.size w v by rw [hv]; exact below_dr (below_dr (Below.refl _ _) _) _)
  have HVS := Lib.hid hvs
  rw [← hv]
  clear hv HIR hvs
  go_wp2_with fail
  go_loopw [8, 27] (fun o i wr => ∃ (k b cap m : Nat), k ≤ n ∧ Hid (m = (preL (cAt xs) (fourMF xs true s) true n k).length) ∧ m ≤ 140 ∧ i = .int .i64 k ∧ o = .slice (some ⟨b, 0, none⟩) m cap ∧ w.heap.size ≤ b ∧ Hid (ORow wr 26 1 b cap m ((preL (cAt xs) (fourMF xs true s) true n k).map cV)) ∧ Hid (Below w.heap.size w wr)) (fun _ i _ => n - (intOf i).toNat)
  case atStart => exact ⟨0, v.heap.size, 0, 0, by omega, Lib.hid (by rw [preL_0 _ _ _ _ (by omega)]; rfl), by omega, rfl, rfl, by rw [HVS.out]; exact Nat.le_refl _, Lib.hid (by rw [preL_0 _ _ _ _ (by omega)]; exact ORow.new _ _ _), Lib.hid (HV.out.alloc (by rw [HVS.out]; exact Nat.le_refl _) _)⟩
  case round =>
    obtain ⟨k, b, cap, m, hk, HM, hm140, rfl, rfl, hb, HR, HB⟩ := hrel
    by_cases hlt : k < n
    · have hcell := (HB.out.cell (p := ⟨bS, k, none⟩) (by show bS < w.heap.size; omega)).trans (HCELL.out k hlt)
      have k0 : (0 : Int) ≤ (k : Int) := by omega
      have k1 : (k : Int) < (n : Int) := by omega
      have hzw := HB.out.size
      have hbr : bS < wr.heap.size := by omega
      unfold cV at hcell
      go_wp2_with (first | (at_builtin; refine wpList_appC rfl _ _ rfl _ _ [cAt xs k] rfl (by simp) (by simp) _ _ _ _ _ _ _ _ rfl rfl rfl (by first | rfl | simp) HR.out (by omega) ?_; intro b5 cap5 w5 hr5 hbb5 hgr5; have HR5 := Lib.hid hr5; have HB5 := Lib.hid hbb5; have HG5 := Lib.hid hgr5; clear hr5 hbb5 hgr5))
      clear hcell hbr
      have hb5 : w.heap.size ≤ b5 := by have := HB5.out; omega
      have HBW5 := Lib.hid (HB.out.trans (HG5.out.below (B := w.heap.size) hb hzw))
      have HSW := Lib.hid (HS.out.far (Far.below HBW5.out htop))
      have HM5 := Lib.hid (show m + 1 = (preL (cAt xs) (fourMF xs true s) true n k ++ [cAt xs k]).length by rw [List.length_append, ← HM.out]; rfl)
      have HR5 := Lib.hid (show ORow w5 26 1 b5 cap5 (m + 1) ((preL (cAt xs) (fourMF xs true s) true n k ++ [cAt xs k]).map cV) from HR5.out)
      clear HB5 HG5 HR HB hzw
      have EM := Lib.hid (show fourMF xs true s k = minusF (scaleF (plusF (cAt xs k) (cAt xs (nx n k))) (fop .add .f32 1056964608 s)) (scaleF (plusF (cAt xs (pv n k)) (cAt xs (nx n (nx n k)))) s) by unfold fourMF; rw [HN.out, show befI n true k = pv n k by rfl, show behI n true k = nx n (nx n k) by rfl])
      obtain ⟨pa, la⟩ := HPL.out.pt k (by rw [HN.out]; exact hlt)
      obtain ⟨pb, lb⟩ := HPL.out.pt (nx n k) (by rw [HN.out]; exact nx_lt hlt)
      obtain ⟨pc, lc⟩ := HPL.out.pt (pv n k) (by rw [HN.out]; exact pv_lt hlt)
      obtain ⟨pd, ld⟩ := HPL.out.pt (nx n (nx n k)) (by rw [HN.out]; exact nx_lt (nx_lt hlt))
      have l4 : ∀ p : Zp, low p B → low p 4194304 := fun p hp => hp.mono (by omega)
      have PA := Lib.hid pa
      have PB := Lib.hid pb
      have PC := Lib.hid pc
      have PD := Lib.hid pd
      have LA := Lib.hid (l4 _ la)
      have LB := Lib.hid (l4 _ lb)
      have LC := Lib.hid (l4 _ lc)
      have LD := Lib.hid (l4 _ ld)
      have P1 := Lib.hid (pa.plus pb (l4 _ la) (l4 _ lb))
      have P2 := Lib.hid (pc.plus pd (l4 _ lc) (l4 _ ld))
      have L1 := Lib.hid (low.add la lb (C := 65536) (by omega))
      have L2 := Lib.hid (low.add lc ld (C := 65536) (by omega))
      have L3 := Lib.hid ((low.add la lb (C := 2048) (by omega)).mul (j := 9) (c := 9) (C := 4194304) (by decide) (by decide))
      have L5 := Lib.hid ((low.add lc ld (C := 2048) (by omega)).mul (j := 1) (c := 1) (C := 4194304) (by decide) (by decide))
      have P3 := Lib.hid (P1.out.scale (four_hs HQ.out) L1.out (by decide) (by omega))
      have P4 := Lib.hid (P2.out.scale HQ.out L2.out (by decide) (by omega))
      clear pa la pb lb pc lc pd ld l4
      go_wp2_with fail
      refine (nbrClosed lo hi _ c xs n k (nx n k) 1 HN.out (by omega) hlt (nx_lt hlt) (by decide) (by decide) (tm_nx hlt) _ HSW.out).mono ?_
      rintro e1 w1 ⟨rfl, rfl⟩
      go_wp2_with fail
      refine (nbrClosed lo hi _ c xs n k (pv n k) (-1) HN.out (by omega) hlt (pv_lt hlt) (by decide) (by decide) (tm_pv hlt hn2) _ HSW.out).mono ?_
      rintro e1 w2 ⟨rfl, rfl⟩
      go_wp2_with fail
      refine (nbrClosed lo hi _ c xs n k (nx n (nx n k)) 2 HN.out (by omega) hlt (nx_lt (nx_lt hlt)) (by decide) (by decide) (tm_nx2 hlt hn2) _ HSW.out).mono ?_
      rintro e1 w3 ⟨rfl, rfl⟩
      go_wp2_with fail
      refine (plusR PA.out PB.out LA.out LB.out _).mono ?_
      rintro e1 w4 ⟨rfl, rfl⟩
      go_wp2_with fail
      refine (scaledR P1.out (four_hs HQ.out) L1.out (by decide) (by omega) _).mono ?_
      rintro e1 w5 ⟨rfl, rfl⟩
      go_wp2_with fail
      refine (plusR PC.out PD.out LC.out LD.out _).mono ?_
      rintro e1 w6 ⟨rfl, rfl⟩
      go_wp2_with fail
      refine (scaledR P2.out HQ.out L2.out (by decide) (by omega) _).mono ?_
      rintro e1 w7 ⟨rfl, rfl⟩
      go_wp2_with fail
      refine (minusR P3.out P4.out L3.out L5.out _).mono ?_
      rintro e1 w8 ⟨rfl, rfl⟩
      unfold cV
      go_wp2_with (first | (at_builtin; refine wpList_appC rfl _ _ rfl _ _ [minusF (scaleF (plusF (cAt xs k) (cAt xs (nx n k))) (fop .add .f32 1056964608 s)) (scaleF (plusF (cAt xs (pv n k)) (cAt xs (nx n (nx n k)))) s)] rfl (by simp) (by simp) _ _ _ _ _ _ _ _ rfl rfl rfl (by first | rfl | simp) HR5.out (by omega) ?_; intro b9 cap9 w9 hr9 hbb9 hgr9; have HR9 := Lib.hid hr9; have HB9 := Lib.hid hbb9; have HG9 := Lib.hid hgr9; clear hr9 hbb9 hgr9))
      have hb9 := HB9.out
      have hz5 := HBW5.out.size
      have hgB := HG9.out.below (B := w.heap.size) hb5 hz5
      have EQ := Lib.hid (show preL (cAt xs) (fourMF xs true s) true n (k + 1) = preL (cAt xs) (fourMF xs true s) true n k ++ [cAt xs k] ++ [minusF (scaleF (plusF (cAt xs k) (cAt xs (nx n k))) (fop .add .f32 1056964608 s)) (scaleF (plusF (cAt xs (pv n k)) (cAt xs (nx n (nx n k)))) s)] by rw [preL_step _ _ _ _ _ (.inl rfl) hlt, EM.out])
      have hlen := preL_len (cAt xs) (fourMF xs true s) true n (k + 1) (by omega) (by omega)
      have hlen2 : (preL (cAt xs) (fourMF xs true s) true n (k + 1)).length = m + 1 + 1 := by rw [EQ.out, List.length_append, ← HM5.out]; rfl
      exact ⟨⟨k + 1, b9, cap9, m + 1 + 1, by omega, Lib.hid hlen2.symm, by omega, by go_num, rfl, by omega, Lib.hid (by rw [EQ.out]; exact HR9.out), Lib.hid (HBW5.out.trans hgB)⟩, by simp [intOf]; omega⟩
    · have k1 : ¬ (k : Int) < (n : Int) := by omega
      have hkn : k = n := by omega
      subst hkn
      have hfe : preL (cAt xs) (fourMF xs true s) true k k = fourF xs true s := by rw [preL_end]; unfold fourF; rw [HN.out]
      rw [hfe] at HM HR
      have hbl := HR.out.lt
      have ho := OwnC1.row HR.out HM.out
      have HO := Lib.hid ho
      have hme := HME.out
      have hmm := HM.out
      have HIF := Lib.hid (ifRing b wr.heap.size (some ⟨b, 0, none⟩) cap m HPE.out HM.out.symm (by omega) (by omega) wr (ho.sl (Nat.le_refl _) hbl))
      clear ho hme hmm hfe
      go_wp2_with fail
      refine HIF.out.mono ?_
      rintro e1 w3 ⟨rfl, q3, rfl⟩
      clear HIF
      go_wp2_with fail
      go_ret2
      exact ⟨⟨b, cap, m, rfl, HM.out, hb, HO.out.far ((Far.refl 0 (b + 1) _).drewN _) (Nat.zero_le _) (Nat.lt_succ_self _)⟩, below_dr HB.out _⟩

set_option maxHeartbeats 8000000 in
set_option maxRecDepth 100000 in
theorem fourOpen {xs : List Cx} {ks : List Zp} {e B : Nat} (lo hi : Nat) (ao : Option Addr) (c s n : Nat) (h : PL xs ks e B) (hB : B ≤ 1024) (hn : xs.length = n) (hn2 : 2 ≤ n) (hn64 : n ≤ 64) (hs : Q .f32 s 1 4) (he : e ≤ 100) (w : World) (hsl : SlC w lo hi ao xs) (htop : hi ≤ w.heap.size) :
    Calls Try.prog 18 #[.slice ao n c, .bool false, .float .f32 s] w fun x w' => (∃ b cap m, x = .returned (.tuple #[.slice (some ⟨b, 0, none⟩) m cap, .bool true]) ∧ m = (fourF xs false s).length ∧ w.heap.size ≤ b ∧ OwnC1 w' b (fourF xs false s)) ∧ Below w.heap.size w w' := by
  have HPL := Lib.hid h
  have HN := Lib.hid hn
  have HS := Lib.hid hsl
  have HQ := Lib.hid hs
  have HF := Lib.hid (finX hs)
  have HIR := Lib.hid (isRing lo hi ao c n h hn hn2 (by omega) w hsl)
  have hPE := four_PL (closed := false) h (by omega) hs he (by omega)
  have HPE := Lib.hid hPE
  have hmE : (fourF xs false s).length ≤ 128 ∧ 2 ≤ (fourF xs false s).length := by
    unfold fourF
    rw [ringL_len _ _ _ _ (by omega)]
    split <;> omega
  have HME := Lib.hid hmE
  obtain ⟨bS, hao, hb1, hb2, hc⟩ := hsl (by omega)
  have HCELL := Lib.hid (fun i (hi : i < n) => hc i (by omega))
  obtain ⟨m1, d1⟩ := run_fop (four_hs hs)
  have dz : ∀ w : World, w.drewN 0 = w := World.drewN_zero
  have n1 : (n : Int) ≤ 64 := by omega
  have n2 : (2 : Int) ≤ (n : Int) := by omega
  have n3 : (0 : Int) < (n : Int) := by omega
  have n0 : ¬ n = 0 := by omega
  have hbw : bS < w.heap.size := by omega
  clear h hn hsl hc hs hPE hmE
  subst hao
  go_enter Try.func18, Try.ntmps18
  go_wp2_with fail
  refine HIR.out.mono ?_
  rintro e1 w0 ⟨rfl, q0, rfl⟩
  go_wp2_with fail
  refine (implIsFinite s _).mono ?_
  rintro e1 w0 ⟨rfl, q1, rfl⟩
  rw [HF.out]
  obtain ⟨v, hv⟩ : ∃ v : World, v = (w.drewN q0).drewN q1 := ⟨_, rfl⟩
  have hvs : v.heap.size = w.heap.size := by rw [hv]; rfl
  have HV := Lib.hid (show Below w.heap.size w v by rw [hv]; exact below_dr (below_dr (Below.refl _ _) _) _)
  have HVS := Lib.hid hvs
  rw [← hv]
  clear hv HIR hvs
  go_wp2_with fail
  go_loopw [8, 27] (fun o i wr => ∃ (k b cap m : Nat), k ≤ n ∧ Hid (m = (preL (cAt xs) (fourMF xs false s) false n k).length) ∧ m ≤ 140 ∧ i = .int .i64 k ∧ o = .slice (some ⟨b, 0, none⟩) m cap ∧ w.heap.size ≤ b ∧ Hid (ORow wr 26 1 b cap m ((preL (cAt xs) (fourMF xs false s) false n k).map cV)) ∧ Hid (Below w.heap.size w wr)) (fun _ i _ => n - (intOf i).toNat)
  case atStart => exact ⟨0, v.heap.size, 0, 0, by omega, Lib.hid (by rw [preL_0 _ _ _ _ (by omega)]; rfl), by omega, rfl, rfl, by rw [HVS.out]; exact Nat.le_refl _, Lib.hid (by rw [preL_0 _ _ _ _ (by omega)]; exact ORow.new _ _ _), Lib.hid (HV.out.alloc (by rw [HVS.out]; exact Nat.le_refl _) _)⟩
  case round =>
    obtain ⟨k, b, cap, m, hk, HM, hm140, rfl, rfl, hb, HR, HB⟩ := hrel
    by_cases hlt : k < n
    · have hcell := (HB.out.cell (p := ⟨bS, k, none⟩) (by show bS < w.heap.size; omega)).trans (HCELL.out k hlt)
      have k0 : (0 : Int) ≤ (k : Int) := by omega
      have k1 : (k : Int) < (n : Int) := by omega
      have hzw := HB.out.size
      have hbr : bS < wr.heap.size := by omega
      unfold cV at hcell
      go_wp2_with (first | (at_builtin; refine wpList_appC rfl _ _ rfl _ _ [cAt xs k] rfl (by simp) (by simp) _ _ _ _ _ _ _ _ rfl rfl rfl (by first | rfl | simp) HR.out (by omega) ?_; intro b5 cap5 w5 hr5 hbb5 hgr5; have HR5 := Lib.hid hr5; have HB5 := Lib.hid hbb5; have HG5 := Lib.hid hgr5; clear hr5 hbb5 hgr5))
      clear hcell hbr
      have hb5 : w.heap.size ≤ b5 := by have := HB5.out; omega
      have HBW5 := Lib.hid (HB.out.trans (HG5.out.below (B := w.heap.size) hb hzw))
      have HSW := Lib.hid (HS.out.far (Far.below HBW5.out htop))
      have HM5 := Lib.hid (show m + 1 = (preL (cAt xs) (fourMF xs false s) false n k ++ [cAt xs k]).length by rw [List.length_append, ← HM.out]; rfl)
      have HR5 := Lib.hid (show ORow w5 26 1 b5 cap5 (m + 1) ((preL (cAt xs) (fourMF xs false s) false n k ++ [cAt xs k]).map cV) from HR5.out)
      clear HB5 HG5 HR HB hzw
      by_cases hl2 : k + 1 < n
      · have HI1 := Lib.hid (show (k : Int) + 1 = (nx n k : Nat) by unfold nx; rw [if_neg (by omega)]; omega)
        by_cases hp0 : 0 < k
        · have HI2 := Lib.hid (show (k : Int) + -1 = (pv n k : Nat) by unfold pv; rw [if_neg (by omega)]; omega)
          by_cases hq0 : k + 2 < n
          · have HI3 := Lib.hid (show (k : Int) + 2 = (nx n (nx n k) : Nat) by unfold nx; rw [if_neg (show ¬ k + 1 = n by omega), if_neg (by omega)]; omega)
            have EM := Lib.hid (show fourMF xs false s k = minusF (scaleF (plusF (cAt xs k) (cAt xs (nx n k))) (fop .add .f32 1056964608 s)) (scaleF (plusF (cAt xs (pv n k)) (cAt xs (nx n (nx n k)))) s) by unfold fourMF; rw [HN.out, show befI n false k = pv n k by unfold befI; rw [if_pos (by simp; omega)], show behI n false k = nx n (nx n k) by unfold behI; rw [if_pos (by simp; omega)]])
            obtain ⟨pa, la⟩ := HPL.out.pt k (by rw [HN.out]; exact hlt)
            obtain ⟨pb, lb⟩ := HPL.out.pt (nx n k) (by rw [HN.out]; exact nx_lt hlt)
            obtain ⟨pc, lc⟩ := HPL.out.pt (pv n k) (by rw [HN.out]; exact pv_lt hlt)
            obtain ⟨pd, ld⟩ := HPL.out.pt (nx n (nx n k)) (by rw [HN.out]; exact nx_lt (nx_lt hlt))
            have l4 : ∀ p : Zp, low p B → low p 4194304 := fun p hp => hp.mono (by omega)
            have PA := Lib.hid pa
            have PB := Lib.hid pb
            have PC := Lib.hid pc
            have PD := Lib.hid pd
            have LA := Lib.hid (l4 _ la)
            have LB := Lib.hid (l4 _ lb)
            have LC := Lib.hid (l4 _ lc)
            have LD := Lib.hid (l4 _ ld)
            have P1 := Lib.hid (pa.plus pb (l4 _ la) (l4 _ lb))
            have P2 := Lib.hid (pc.plus pd (l4 _ lc) (l4 _ ld))
            have L1 := Lib.hid (low.add la lb (C := 65536) (by omega))
            have L2 := Lib.hid (low.add lc ld (C := 65536) (by omega))
            have L3 := Lib.hid ((low.add la lb (C := 2048) (by omega)).mul (j := 9) (c := 9) (C := 4194304) (by decide) (by decide))
            have L5 := Lib.hid ((low.add lc ld (C := 2048) (by omega)).mul (j := 1) (c := 1) (C := 4194304) (by decide) (by decide))
            have P3 := Lib.hid (P1.out.scale (four_hs HQ.out) L1.out (by decide) (by omega))
            have P4 := Lib.hid (P2.out.scale HQ.out L2.out (by decide) (by omega))
            clear pa la pb lb pc lc pd ld l4
            go_wp2_with fail
            refine (nbrOpen lo hi _ c xs n k (nx n k) 1 HN.out (by omega) hlt (nx_lt hlt) (by decide) (by decide) HI1.out _ HSW.out).mono ?_
            rintro e1 w1 ⟨rfl, rfl⟩
            go_wp2_with fail
            refine (nbrOpen lo hi _ c xs n k (pv n k) (-1) HN.out (by omega) hlt (pv_lt hlt) (by decide) (by decide) HI2.out _ HSW.out).mono ?_
            rintro e1 w2 ⟨rfl, rfl⟩
            go_wp2_with fail
            refine (nbrOpen lo hi _ c xs n k (nx n (nx n k)) 2 HN.out (by omega) hlt (nx_lt (nx_lt hlt)) (by decide) (by decide) HI3.out _ HSW.out).mono ?_
            rintro e1 w3 ⟨rfl, rfl⟩
            go_wp2_with fail
            refine (plusR PA.out PB.out LA.out LB.out _).mono ?_
            rintro e1 w4 ⟨rfl, rfl⟩
            go_wp2_with fail
            refine (scaledR P1.out (four_hs HQ.out) L1.out (by decide) (by omega) _).mono ?_
            rintro e1 w5 ⟨rfl, rfl⟩
            go_wp2_with fail
            refine (plusR PC.out PD.out LC.out LD.out _).mono ?_
            rintro e1 w6 ⟨rfl, rfl⟩
            go_wp2_with fail
            refine (scaledR P2.out HQ.out L2.out (by decide) (by omega) _).mono ?_
            rintro e1 w7 ⟨rfl, rfl⟩
            go_wp2_with fail
            refine (minusR P3.out P4.out L3.out L5.out _).mono ?_
            rintro e1 w8 ⟨rfl, rfl⟩
            unfold cV
            go_wp2_with (first | (at_builtin; refine wpList_appC rfl _ _ rfl _ _ [minusF (scaleF (plusF (cAt xs k) (cAt xs (nx n k))) (fop .add .f32 1056964608 s)) (scaleF (plusF (cAt xs (pv n k)) (cAt xs (nx n (nx n k)))) s)] rfl (by simp) (by simp) _ _ _ _ _ _ _ _ rfl rfl rfl (by first | rfl | simp) HR5.out (by omega) ?_; intro b9 cap9 w9 hr9 hbb9 hgr9; have HR9 := Lib.hid hr9; have HB9 := Lib.hid hbb9; have HG9 := Lib.hid hgr9; clear hr9 hbb9 hgr9))
            have hb9 := HB9.out
            have hz5 := HBW5.out.size
            have hgB := HG9.out.below (B := w.heap.size) hb5 hz5
            have EQ := Lib.hid (show preL (cAt xs) (fourMF xs false s) false n (k + 1) = preL (cAt xs) (fourMF xs false s) false n k ++ [cAt xs k] ++ [minusF (scaleF (plusF (cAt xs k) (cAt xs (nx n k))) (fop .add .f32 1056964608 s)) (scaleF (plusF (cAt xs (pv n k)) (cAt xs (nx n (nx n k)))) s)] by rw [preL_step _ _ _ _ _ (.inr hl2) hlt, EM.out])
            have hlen := preL_len (cAt xs) (fourMF xs false s) false n (k + 1) (by omega) (by omega)
            have hlen2 : (preL (cAt xs) (fourMF xs false s) false n (k + 1)).length = m + 1 + 1 := by rw [EQ.out, List.length_append, ← HM5.out]; rfl
            exact ⟨⟨k + 1, b9, cap9, m + 1 + 1, by omega, Lib.hid hlen2.symm, by omega, by go_num, rfl, by omega, Lib.hid (by rw [EQ.out]; exact HR9.out), Lib.hid (HBW5.out.trans hgB)⟩, by simp [intOf]; omega⟩
          · skip
            have EM := Lib.hid (show fourMF xs false s k = minusF (scaleF (plusF (cAt xs k) (cAt xs (nx n k))) (fop .add .f32 1056964608 s)) (scaleF (plusF (cAt xs (pv n k)) (cAt xs (nx n k))) s) by unfold fourMF; rw [HN.out, show befI n false k = pv n k by unfold befI; rw [if_pos (by simp; omega)], show behI n false k = nx n k by unfold behI; rw [if_neg (by simp; omega)]])
            obtain ⟨pa, la⟩ := HPL.out.pt k (by rw [HN.out]; exact hlt)
            obtain ⟨pb, lb⟩ := HPL.out.pt (nx n k) (by rw [HN.out]; exact nx_lt hlt)
            obtain ⟨pc, lc⟩ := HPL.out.pt (pv n k) (by rw [HN.out]; exact pv_lt hlt)
            obtain ⟨pd, ld⟩ := HPL.out.pt (nx n k) (by rw [HN.out]; exact nx_lt hlt)
            have l4 : ∀ p : Zp, low p B → low p 4194304 := fun p hp => hp.mono (by omega)
            have PA := Lib.hid pa
            have PB := Lib.hid pb
            have PC := Lib.hid pc
            have PD := Lib.hid pd
            have LA := Lib.hid (l4 _ la)
            have LB := Lib.hid (l4 _ lb)
            have LC := Lib.hid (l4 _ lc)
            have LD := Lib.hid (l4 _ ld)
            have P1 := Lib.hid (pa.plus pb (l4 _ la) (l4 _ lb))
            have P2 := Lib.hid (pc.plus pd (l4 _ lc) (l4 _ ld))
            have L1 := Lib.hid (low.add la lb (C := 65536) (by omega))
            have L2 := Lib.hid (low.add lc ld (C := 65536) (by omega))
            have L3 := Lib.hid ((low.add la lb (C := 2048) (by omega)).mul (j := 9) (c := 9) (C := 4194304) (by decide) (by decide))
            have L5 := Lib.hid ((low.add lc ld (C := 2048) (by omega)).mul (j := 1) (c := 1) (C := 4194304) (by decide) (by decide))
            have P3 := Lib.hid (P1.out.scale (four_hs HQ.out) L1.out (by decide) (by omega))
            have P4 := Lib.hid (P2.out.scale HQ.out L2.out (by decide) (by omega))
            clear pa la pb lb pc lc pd ld l4
            go_wp2_with fail
            refine (nbrOpen lo hi _ c xs n k (nx n k) 1 HN.out (by omega) hlt (nx_lt hlt) (by decide) (by decide) HI1.out _ HSW.out).mono ?_
            rintro e1 w1 ⟨rfl, rfl⟩
            go_wp2_with fail
            refine (nbrOpen lo hi _ c xs n k (pv n k) (-1) HN.out (by omega) hlt (pv_lt hlt) (by decide) (by decide) HI2.out _ HSW.out).mono ?_
            rintro e1 w2 ⟨rfl, rfl⟩
            go_wp2_with fail
            refine (nbrNone _ c n k 2 (by omega) hlt (by decide) (by decide) (.inr (by omega)) _).mono ?_
            rintro e1 w3 ⟨rfl, rfl⟩
            go_wp2_with fail
            refine (plusR PA.out PB.out LA.out LB.out _).mono ?_
            rintro e1 w4 ⟨rfl, rfl⟩
            go_wp2_with fail
            refine (scaledR P1.out (four_hs HQ.out) L1.out (by decide) (by omega) _).mono ?_
            rintro e1 w5 ⟨rfl, rfl⟩
            go_wp2_with fail
            refine (plusR PC.out PD.out LC.out LD.out _).mono ?_
            rintro e1 w6 ⟨rfl, rfl⟩
            go_wp2_with fail
            refine (scaledR P2.out HQ.out L2.out (by decide) (by omega) _).mono ?_
            rintro e1 w7 ⟨rfl, rfl⟩
            go_wp2_with fail
            refine (minusR P3.out P4.out L3.out L5.out _).mono ?_
            rintro e1 w8 ⟨rfl, rfl⟩
            unfold cV
            go_wp2_with (first | (at_builtin; refine wpList_appC rfl _ _ rfl _ _ [minusF (scaleF (plusF (cAt xs k) (cAt xs (nx n k))) (fop .add .f32 1056964608 s)) (scaleF (plusF (cAt xs (pv n k)) (cAt xs (nx n k))) s)] rfl (by simp) (by simp) _ _ _ _ _ _ _ _ rfl rfl rfl (by first | rfl | simp) HR5.out (by omega) ?_; intro b9 cap9 w9 hr9 hbb9 hgr9; have HR9 := Lib.hid hr9; have HB9 := Lib.hid hbb9; have HG9 := Lib.hid hgr9; clear hr9 hbb9 hgr9))
            have hb9 := HB9.out
            have hz5 := HBW5.out.size
            have hgB := HG9.out.below (B := w.heap.size) hb5 hz5
            have EQ := Lib.hid (show preL (cAt xs) (fourMF xs false s) false n (k + 1) = preL (cAt xs) (fourMF xs false s) false n k ++ [cAt xs k] ++ [minusF (scaleF (plusF (cAt xs k) (cAt xs (nx n k))) (fop .add .f32 1056964608 s)) (scaleF (plusF (cAt xs (pv n k)) (cAt xs (nx n k))) s)] by rw [preL_step _ _ _ _ _ (.inr hl2) hlt, EM.out])
            have hlen := preL_len (cAt xs) (fourMF xs false s) false n (k + 1) (by omega) (by omega)
            have hlen2 : (preL (cAt xs) (fourMF xs false s) false n (k + 1)).length = m + 1 + 1 := by rw [EQ.out, List.length_append, ← HM5.out]; rfl
            exact ⟨⟨k + 1, b9, cap9, m + 1 + 1, by omega, Lib.hid hlen2.symm, by omega, by go_num, rfl, by omega, Lib.hid (by rw [EQ.out]; exact HR9.out), Lib.hid (HBW5.out.trans hgB)⟩, by simp [intOf]; omega⟩
        · by_cases hq0 : k + 2 < n
          · have HI3 := Lib.hid (show (k : Int) + 2 = (nx n (nx n k) : Nat) by unfold nx; rw [if_neg (show ¬ k + 1 = n by omega), if_neg (by omega)]; omega)
            have EM := Lib.hid (show fourMF xs false s k = minusF (scaleF (plusF (cAt xs k) (cAt xs (nx n k))) (fop .add .f32 1056964608 s)) (scaleF (plusF (cAt xs (k)) (cAt xs (nx n (nx n k)))) s) by unfold fourMF; rw [HN.out, show befI n false k = k by unfold befI; rw [if_neg (by simp; omega)], show behI n false k = nx n (nx n k) by unfold behI; rw [if_pos (by simp; omega)]])
            obtain ⟨pa, la⟩ := HPL.out.pt k (by rw [HN.out]; exact hlt)
            obtain ⟨pb, lb⟩ := HPL.out.pt (nx n k) (by rw [HN.out]; exact nx_lt hlt)
            obtain ⟨pc, lc⟩ := HPL.out.pt (k) (by rw [HN.out]; exact hlt)
            obtain ⟨pd, ld⟩ := HPL.out.pt (nx n (nx n k)) (by rw [HN.out]; exact nx_lt (nx_lt hlt))
            have l4 : ∀ p : Zp, low p B → low p 4194304 := fun p hp => hp.mono (by omega)
            have PA := Lib.hid pa
            have PB := Lib.hid pb
            have PC := Lib.hid pc
            have PD := Lib.hid pd
            have LA := Lib.hid (l4 _ la)
            have LB := Lib.hid (l4 _ lb)
            have LC := Lib.hid (l4 _ lc)
            have LD := Lib.hid (l4 _ ld)
            have P1 := Lib.hid (pa.plus pb (l4 _ la) (l4 _ lb))
            have P2 := Lib.hid (pc.plus pd (l4 _ lc) (l4 _ ld))
            have L1 := Lib.hid (low.add la lb (C := 65536) (by omega))
            have L2 := Lib.hid (low.add lc ld (C := 65536) (by omega))
            have L3 := Lib.hid ((low.add la lb (C := 2048) (by omega)).mul (j := 9) (c := 9) (C := 4194304) (by decide) (by decide))
            have L5 := Lib.hid ((low.add lc ld (C := 2048) (by omega)).mul (j := 1) (c := 1) (C := 4194304) (by decide) (by decide))
            have P3 := Lib.hid (P1.out.scale (four_hs HQ.out) L1.out (by decide) (by omega))
            have P4 := Lib.hid (P2.out.scale HQ.out L2.out (by decide) (by omega))
            clear pa la pb lb pc lc pd ld l4
            go_wp2_with fail
            refine (nbrOpen lo hi _ c xs n k (nx n k) 1 HN.out (by omega) hlt (nx_lt hlt) (by decide) (by decide) HI1.out _ HSW.out).mono ?_
            rintro e1 w1 ⟨rfl, rfl⟩
            go_wp2_with fail
            refine (nbrNone _ c n k (-1) (by omega) hlt (by decide) (by decide) (.inl (by omega)) _).mono ?_
            rintro e1 w2 ⟨rfl, rfl⟩
            go_wp2_with fail
            refine (nbrOpen lo hi _ c xs n k (nx n (nx n k)) 2 HN.out (by omega) hlt (nx_lt (nx_lt hlt)) (by decide) (by decide) HI3.out _ HSW.out).mono ?_
            rintro e1 w3 ⟨rfl, rfl⟩
            go_wp2_with fail
            refine (plusR PA.out PB.out LA.out LB.out _).mono ?_
            rintro e1 w4 ⟨rfl, rfl⟩
            go_wp2_with fail
            refine (scaledR P1.out (four_hs HQ.out) L1.out (by decide) (by omega) _).mono ?_
            rintro e1 w5 ⟨rfl, rfl⟩
            go_wp2_with fail
            refine (plusR PC.out PD.out LC.out LD.out _).mono ?_
            rintro e1 w6 ⟨rfl, rfl⟩
            go_wp2_with fail
            refine (scaledR P2.out HQ.out L2.out (by decide) (by omega) _).mono ?_
            rintro e1 w7 ⟨rfl, rfl⟩
            go_wp2_with fail
            refine (minusR P3.out P4.out L3.out L5.out _).mono ?_
            rintro e1 w8 ⟨rfl, rfl⟩
            unfold cV
            go_wp2_with (first | (at_builtin; refine wpList_appC rfl _ _ rfl _ _ [minusF (scaleF (plusF (cAt xs k) (cAt xs (nx n k))) (fop .add .f32 1056964608 s)) (scaleF (plusF (cAt xs (k)) (cAt xs (nx n (nx n k)))) s)] rfl (by simp) (by simp) _ _ _ _ _ _ _ _ rfl rfl rfl (by first | rfl | simp) HR5.out (by omega) ?_; intro b9 cap9 w9 hr9 hbb9 hgr9; have HR9 := Lib.hid hr9; have HB9 := Lib.hid hbb9; have HG9 := Lib.hid hgr9; clear hr9 hbb9 hgr9))
            have hb9 := HB9.out
            have hz5 := HBW5.out.size
            have hgB := HG9.out.below (B := w.heap.size) hb5 hz5
            have EQ := Lib.hid (show preL (cAt xs) (fourMF xs false s) false n (k + 1) = preL (cAt xs) (fourMF xs false s) false n k ++ [cAt xs k] ++ [minusF (scaleF (plusF (cAt xs k) (cAt xs (nx n k))) (fop .add .f32 1056964608 s)) (scaleF (plusF (cAt xs (k)) (cAt xs (nx n (nx n k)))) s)] by rw [preL_step _ _ _ _ _ (.inr hl2) hlt, EM.out])
            have hlen := preL_len (cAt xs) (fourMF xs false s) false n (k + 1) (by omega) (by omega)
            have hlen2 : (preL (cAt xs) (fourMF xs false s) false n (k + 1)).length = m + 1 + 1 := by rw [EQ.out, List.length_append, ← HM5.out]; rfl
            exact ⟨⟨k + 1, b9, cap9, m + 1 + 1, by omega, Lib.hid hlen2.symm, by omega, by go_num, rfl, by omega, Lib.hid (by rw [EQ.out]; exact HR9.out), Lib.hid (HBW5.out.trans hgB)⟩, by simp [intOf]; omega⟩
          · skip
            have EM := Lib.hid (show fourMF xs false s k = minusF (scaleF (plusF (cAt xs k) (cAt xs (nx n k))) (fop .add .f32 1056964608 s)) (scaleF (plusF (cAt xs (k)) (cAt xs (nx n k))) s) by unfold fourMF; rw [HN.out, show befI n false k = k by unfold befI; rw [if_neg (by simp; omega)], show behI n false k = nx n k by unfold behI; rw [if_neg (by simp; omega)]])
            obtain ⟨pa, la⟩ := HPL.out.pt k (by rw [HN.out]; exact hlt)
            obtain ⟨pb, lb⟩ := HPL.out.pt (nx n k) (by rw [HN.out]; exact nx_lt hlt)
            obtain ⟨pc, lc⟩ := HPL.out.pt (k) (by rw [HN.out]; exact hlt)
            obtain ⟨pd, ld⟩ := HPL.out.pt (nx n k) (by rw [HN.out]; exact nx_lt hlt)
            have l4 : ∀ p : Zp, low p B → low p 4194304 := fun p hp => hp.mono (by omega)
            have PA := Lib.hid pa
            have PB := Lib.hid pb
            have PC := Lib.hid pc
            have PD := Lib.hid pd
            have LA := Lib.hid (l4 _ la)
            have LB := Lib.hid (l4 _ lb)
            have LC := Lib.hid (l4 _ lc)
            have LD := Lib.hid (l4 _ ld)
            have P1 := Lib.hid (pa.plus pb (l4 _ la) (l4 _ lb))
            have P2 := Lib.hid (pc.plus pd (l4 _ lc) (l4 _ ld))
            have L1 := Lib.hid (low.add la lb (C := 65536) (by omega))
            have L2 := Lib.hid (low.add lc ld (C := 65536) (by omega))
            have L3 := Lib.hid ((low.add la lb (C := 2048) (by omega)).mul (j := 9) (c := 9) (C := 4194304) (by decide) (by decide))
            have L5 := Lib.hid ((low.add lc ld (C := 2048) (by omega)).mul (j := 1) (c := 1) (C := 4194304) (by decide) (by decide))
            have P3 := Lib.hid (P1.out.scale (four_hs HQ.out) L1.out (by decide) (by omega))
            have P4 := Lib.hid (P2.out.scale HQ.out L2.out (by decide) (by omega))
            clear pa la pb lb pc lc pd ld l4
            go_wp2_with fail
            refine (nbrOpen lo hi _ c xs n k (nx n k) 1 HN.out (by omega) hlt (nx_lt hlt) (by decide) (by decide) HI1.out _ HSW.out).mono ?_
            rintro e1 w1 ⟨rfl, rfl⟩
            go_wp2_with fail
            refine (nbrNone _ c n k (-1) (by omega) hlt (by decide) (by decide) (.inl (by omega)) _).mono ?_
            rintro e1 w2 ⟨rfl, rfl⟩
            go_wp2_with fail
            refine (nbrNone _ c n k 2 (by omega) hlt (by decide) (by decide) (.inr (by omega)) _).mono ?_
            rintro e1 w3 ⟨rfl, rfl⟩
            go_wp2_with fail
            refine (plusR PA.out PB.out LA.out LB.out _).mono ?_
            rintro e1 w4 ⟨rfl, rfl⟩
            go_wp2_with fail
            refine (scaledR P1.out (four_hs HQ.out) L1.out (by decide) (by omega) _).mono ?_
            rintro e1 w5 ⟨rfl, rfl⟩
            go_wp2_with fail
            refine (plusR PC.out PD.out LC.out LD.out _).mono ?_
            rintro e1 w6 ⟨rfl, rfl⟩
            go_wp2_with fail
            refine (scaledR P2.out HQ.out L2.out (by decide) (by omega) _).mono ?_
            rintro e1 w7 ⟨rfl, rfl⟩
            go_wp2_with fail
            refine (minusR P3.out P4.out L3.out L5.out _).mono ?_
            rintro e1 w8 ⟨rfl, rfl⟩
            unfold cV
            go_wp2_with (first | (at_builtin; refine wpList_appC rfl _ _ rfl _ _ [minusF (scaleF (plusF (cAt xs k) (cAt xs (nx n k))) (fop .add .f32 1056964608 s)) (scaleF (plusF (cAt xs (k)) (cAt xs (nx n k))) s)] rfl (by simp) (by simp) _ _ _ _ _ _ _ _ rfl rfl rfl (by first | rfl | simp) HR5.out (by omega) ?_; intro b9 cap9 w9 hr9 hbb9 hgr9; have HR9 := Lib.hid hr9; have HB9 := Lib.hid hbb9; have HG9 := Lib.hid hgr9; clear hr9 hbb9 hgr9))
            have hb9 := HB9.out
            have hz5 := HBW5.out.size
            have hgB := HG9.out.below (B := w.heap.size) hb5 hz5
            have EQ := Lib.hid (show preL (cAt xs) (fourMF xs false s) false n (k + 1) = preL (cAt xs) (fourMF xs false s) false n k ++ [cAt xs k] ++ [minusF (scaleF (plusF (cAt xs k) (cAt xs (nx n k))) (fop .add .f32 1056964608 s)) (scaleF (plusF (cAt xs (k)) (cAt xs (nx n k))) s)] by rw [preL_step _ _ _ _ _ (.inr hl2) hlt, EM.out])
            have hlen := preL_len (cAt xs) (fourMF xs false s) false n (k + 1) (by omega) (by omega)
            have hlen2 : (preL (cAt xs) (fourMF xs false s) false n (k + 1)).length = m + 1 + 1 := by rw [EQ.out, List.length_append, ← HM5.out]; rfl
            exact ⟨⟨k + 1, b9, cap9, m + 1 + 1, by omega, Lib.hid hlen2.symm, by omega, by go_num, rfl, by omega, Lib.hid (by rw [EQ.out]; exact HR9.out), Lib.hid (HBW5.out.trans hgB)⟩, by simp [intOf]; omega⟩
      · go_wp2_with fail
        refine (nbrNone _ c n k 1 (by omega) hlt (by decide) (by decide) (.inr (by omega)) _).mono ?_
        rintro e1 w1 ⟨rfl, rfl⟩
        go_wp2_with fail
        have EQ := Lib.hid (preL_last (cAt xs) (fourMF xs false s) n k (by omega))
        have hlen := preL_len (cAt xs) (fourMF xs false s) false n (k + 1) (by omega) (by omega)
        have hlen2 : (preL (cAt xs) (fourMF xs false s) false n (k + 1)).length = m + 1 := by rw [EQ.out, ← HM5.out]
        exact ⟨⟨k + 1, b5, cap5, m + 1, by omega, Lib.hid hlen2.symm, by omega, by go_num, rfl, by omega, Lib.hid (by rw [EQ.out]; exact HR5.out), HBW5⟩, by simp [intOf]; omega⟩
    · have k1 : ¬ (k : Int) < (n : Int) := by omega
      have hkn : k = n := by omega
      subst hkn
      have hfe : preL (cAt xs) (fourMF xs false s) false k k = fourF xs false s := by rw [preL_end]; unfold fourF; rw [HN.out]
      rw [hfe] at HM HR
      have hbl := HR.out.lt
      have ho := OwnC1.row HR.out HM.out
      have HO := Lib.hid ho
      have hme := HME.out
      have hmm := HM.out
      have HIF := Lib.hid (ifRing b wr.heap.size (some ⟨b, 0, none⟩) cap m HPE.out HM.out.symm (by omega) (by omega) wr (ho.sl (Nat.le_refl _) hbl))
      clear ho hme hmm hfe
      go_wp2_with fail
      refine HIF.out.mono ?_
      rintro e1 w3 ⟨rfl, q3, rfl⟩
      clear HIF
      go_wp2_with fail
      go_ret2
      exact ⟨⟨b, cap, m, rfl, HM.out, hb, HO.out.far ((Far.refl 0 (b + 1) _).drewN _) (Nat.zero_le _) (Nat.lt_succ_self _)⟩, below_dr HB.out _⟩

theorem fourPoints {xs : List Cx} {ks : List Zp} {e B : Nat} (lo hi : Nat) (ao : Option Addr) (c s n : Nat) (closed : Bool) (h : PL xs ks e B) (hB : B ≤ 1024) (hn : xs.length = n) (hn2 : 2 ≤ n) (hn64 : n ≤ 64) (hs : Q .f32 s 1 4) (he : e ≤ 100) (w : World) (hsl : SlC w lo hi ao xs) (htop : hi ≤ w.heap.size) :
    Calls Try.prog 18 #[.slice ao n c, .bool closed, .float .f32 s] w fun x w' => (∃ b cap m, x = .returned (.tuple #[.slice (some ⟨b, 0, none⟩) m cap, .bool true]) ∧ m = (fourF xs closed s).length ∧ w.heap.size ≤ b ∧ OwnC1 w' b (fourF xs closed s)) ∧ Below w.heap.size w w' := by
  cases closed
  · exact fourOpen lo hi ao c s n h hB hn hn2 hn64 hs he w hsl htop
  · exact fourClosed lo hi ao c s n h hB hn hn2 hn64 hs he w hsl htop
end Go.Proofs.Ytkpjhoiaegioeaa
