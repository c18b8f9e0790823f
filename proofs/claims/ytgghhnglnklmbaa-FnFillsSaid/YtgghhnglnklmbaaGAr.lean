/- Areas of loops and of outlines, the program's. (Written by mkgar.py.) -/
import Derived.Test.YtgghhnglnklmbaaGCo
namespace Go.Fl
open Go.RowKit
theorem two_read : FloatKind.f32.format.read 1073741824 = .number false (2 ^ FB .f32) (((1 : Nat) : Int) - FB .f32) := by decide
theorem cross_bound {p q : Zp} (hp : lowZ p 256) (hq : lowZ q 256) : (crossZ p q).natAbs ≤ 131072 := by
  have m1 := mul_bound hp.1 hq.2
  have m2 := mul_bound hp.2 hq.1
  unfold crossZ
  omega
theorem crossQ256 {a b a' b' r : Nat} {p q : Zp} {e : Nat} (ha : PtQ (a, a') p e) (hb : PtQ (b, b') q e) (hp : lowZ p 256) (hq : lowZ q 256) (he : e + e ≤ 149) (h : F32 r (fsub (fmul (can .f32 a) (can .f32 b')) (fmul (can .f32 a') (can .f32 b)))) : Q .f32 (can .f32 r) (crossZ p q) (e + e) :=
  cross_q ha hb ⟨Nat.le_trans hp.1 (by decide), Nat.le_trans hp.2 (by decide)⟩ ⟨Nat.le_trans hq.1 (by decide), Nat.le_trans hq.2 (by decide)⟩ he h
theorem area_bound (ks : List Zp) (h : ∀ i, i < ks.length → lowZ (zAt ks i) 256) : ∀ k, k ≤ ks.length → (sumZ crossZ ks k).natAbs ≤ 131072 * k
  | 0, _ => by simp [sumZ]
  | k + 1, hk => by
    have h1 := area_bound ks h k (by omega)
    have h2 := cross_bound (h k (by omega)) (h ((k + 1) % ks.length) (Nat.mod_lt _ (by omega)))
    show (sumZ crossZ ks k + _).natAbs ≤ _
    omega
/-- the sum of areas -/
def areaL (kls : List (List Zp)) : Nat → Int
  | 0 => 0
  | k + 1 => areaL kls k + areaZ (kAt kls k)
def areaA (kls : List (List Zp)) : Int := areaL kls kls.length
theorem areaL_reverse (kls : List (List Zp)) : ∀ k, k ≤ kls.length → areaL (kls.map List.reverse) k = -areaL kls k
  | 0, _ => rfl
  | k + 1, hk => by
    have e : kAt (kls.map List.reverse) k = (kAt kls k).reverse := by
      have : k < kls.length := hk
      simp [kAt, this]
    show areaL (kls.map List.reverse) k + areaZ (kAt (kls.map List.reverse) k) = -(areaL kls k + areaZ (kAt kls k))
    rw [areaL_reverse kls k (by omega), e, areaZ_reverse]; omega
theorem areaA_reverse (kls : List (List Zp)) : areaA (kls.map List.reverse) = -areaA kls := by
  unfold areaA
  rw [List.length_map]
  exact areaL_reverse kls _ (Nat.le_refl _)
/-- small loops -/
def lowK (kls : List (List Zp)) : Prop := ∀ i, i < kls.length → (kAt kls i).length ≤ 6 ∧ ∀ j, j < (kAt kls i).length → lowZ (zAt (kAt kls i) j) 256
theorem areaZ_bound {ks : List Zp} (h6 : ks.length ≤ 6) (h : ∀ i, i < ks.length → lowZ (zAt ks i) 256) : (areaZ ks).natAbs ≤ 786432 := by
  have := area_bound ks h ks.length (Nat.le_refl _)
  unfold areaZ
  omega
theorem areaL_bound {kls : List (List Zp)} (h : lowK kls) : ∀ k, k ≤ kls.length → (areaL kls k).natAbs ≤ 786432 * k
  | 0, _ => by simp [areaL]
  | k + 1, hk => by
    have h1 := areaL_bound h k (by omega)
    have h2 := areaZ_bound (h k (by omega)).1 (h k (by omega)).2
    show (areaL kls k + _).natAbs ≤ _
    omega
end Go.Fl
namespace Go.Proofs.Ytgghhnglnklmbaa
open Go.RowKit Go.Fl

theorem ifNumber (x : Nat) (h : fin (can .f32 x) = true) (w : World) : Calls Try.prog 27 #[.float .f32 x] w fun e w' => e = .returned (.tuple #[.float .f32 x, .bool true]) ∧ ∃ n, w' = w.drewN n := by
  have H := Lib.hid h
  clear h
  go_enter Try.func27, Try.ntmps27
  go_wp2_with fail
  refine (implIsFinite x _).mono ?_
  rintro e w1 ⟨rfl, n1, rfl⟩
  rw [H.out]
  go_wp2_with fail
  go_ret2
  exact ⟨rfl, _, rfl⟩

set_option maxHeartbeats 2000000 in
set_option maxRecDepth 100000 in
theorem areaOf (lo hi : Nat) (ao : Option Addr) (c : Nat) (pts : List Cx) (ks : List Zp) (hn : 3 ≤ pts.length) (hm : pts.length ≤ 6) (w : World) (hs : SlC w lo hi ao pts) (hk : PtsQ pts ks 5) (hl : ∀ i, i < ks.length → lowZ (zAt ks i) 256) :
    Calls Try.prog 45 #[.slice ao pts.length c] w fun e w' => (∃ r, e = .returned (.float .f32 r) ∧ Q .f32 (can .f32 r) (areaZ ks) 11) ∧ ∃ n, w' = w.drewN n := by
  have HS := Lib.hid hs
  have HK := Lib.hid hk
  have HL := Lib.hid hl
  obtain ⟨n, hnn⟩ : ∃ n, n = pts.length := ⟨_, rfl⟩
  rw [← hnn] at hn hm ⊢
  have HN := Lib.hid hnn
  have hle : ks.length = n := by rw [hk.len, hnn]
  have HLE := Lib.hid hle
  clear hs hk hl hnn hle
  go_enter Try.func45, Try.ntmps45
  go_wp2_with fail
  go_loopw [3, 8] (fun s i wr => ∃ (k q sb : Nat), k ≤ n ∧ i = .int .i64 k ∧ s = .float .f32 sb ∧ Hid (Q .f32 (can .f32 sb) (sumZ crossZ ks k) 10) ∧ wr = w.drewN q) (fun _ i _ => n - (intOf i).toNat)
  case atStart => exact ⟨0, 0, 0, by omega, rfl, rfl, Lib.hid (Q.zero 10 (by decide)), rfl⟩
  case round =>
    obtain ⟨k, q, sb, hk, rfl, rfl, HQ, rfl⟩ := hrel
    by_cases hlt : k < n
    · obtain ⟨b, rfl, hb1, hb2, hc⟩ := HS.out (by rw [← HN.out]; omega)
      obtain ⟨j, hj⟩ : ∃ j, j = (k + 1) % n := ⟨_, rfl⟩
      have hjn : j < n := by rw [hj]; exact Nat.mod_lt _ (by omega)
      have c1 := hc k (by rw [← HN.out]; exact hlt)
      have c2 := hc j (by rw [← HN.out]; exact hjn)
      have P1 := (HK.out.pt k (by rw [← HN.out]; exact hlt)).1
      have P2 := (HK.out.pt j (by rw [← HN.out]; exact hjn)).1
      rcases hp : cAt pts k with ⟨p1, p2⟩
      rcases hq : cAt pts j with ⟨q1', q2'⟩
      rw [hp] at c1 P1
      rw [hq] at c2 P2
      unfold cV at c1 c2
      have k0 : (0 : Int) ≤ (k : Int) := by omega
      have k1 : (k : Int) < (n : Int) := by omega
      have k2 : (0 : Int) ≤ (j : Int) := by omega
      have k3 : (j : Int) < (n : Int) := by omega
      have k4 : ((k : Int) + 1) % (n : Int) = (j : Int) := by rw [hj]; rfl
      have k5 : ¬ (n : Int) = 0 := by omega
      have HP1 := Lib.hid P1
      have HP2 := Lib.hid P2
      have HJ := Lib.hid hj
      have L1 := Lib.hid (HL.out k (by rw [HLE.out]; exact hlt))
      have L2 := Lib.hid (HL.out j (by rw [HLE.out]; exact hjn))
      have ab := area_bound ks HL.out (k + 1) (by rw [HLE.out]; exact hlt)
      have he : sumZ crossZ ks (k + 1) = sumZ crossZ ks k + crossZ (zAt ks k) (zAt ks j) := by
        show sumZ crossZ ks k + crossZ (zAt ks k) (zAt ks ((k + 1) % ks.length)) = _
        rw [HLE.out, hj]
      have HE := Lib.hid he
      have HAB := Lib.hid (show (sumZ crossZ ks k + crossZ (zAt ks k) (zAt ks j)).natAbs < 16777216 by rw [← he]; omega)
      clear P1 P2 hp hq hj hc he ab
      go_wp2_with fail
      refine (crossC _ _ _ _ _).mono ?_
      rintro e w5 ⟨⟨r, rfl, h1⟩, n5, rfl⟩
      have HR := Lib.hid (crossQ256 HP1.out HP2.out L1.out L2.out (by decide) h1)
      clear h1
      go_wp2_with (refine wpList_f (x := .tmp 13) rfl rfl rfl rfl (by decide) ?_; intro r24 n24 h24; simp only [Act.put, List.setIfInBounds_toArray, List.set_cons_succ, List.set_cons_zero])
      have HS2 := Lib.hid (show Q .f32 (can .f32 r24) (sumZ crossZ ks (k + 1)) 10 by rw [h24, HE.out]; exact HQ.out.add HR.out (lt24 HAB.out))
      clear h24
      exact ⟨⟨k + 1, _, r24, by omega, by go_num, rfl, HS2, rfl⟩, by simp [intOf]; omega⟩
    · have hkn : k = n := by omega
      have k1 : ¬ (k : Int) < (n : Int) := by omega
      have HKN := Lib.hid hkn
      clear hkn
      go_wp2_with (refine wpList_f (x := .tmp 26) rfl rfl rfl rfl (by decide) ?_; intro r27 n27 h27; simp only [Act.put, List.setIfInBounds_toArray, List.set_cons_succ, List.set_cons_zero])
      go_ret
      refine ⟨⟨r27, rfl, ?_⟩, _, rfl⟩
      rw [h27, can_l2]
      have h2 : areaZ ks = sumZ crossZ ks k := by unfold areaZ; rw [HLE.out, HKN.out]
      rw [h2]
      exact Q.half (d := 1) HQ.out two_read (lt24 (by have := area_bound ks HL.out k (by rw [HLE.out]; omega); omega)) (by decide)

set_option maxHeartbeats 1000000 in
theorem areaOfLoop (lo hi : Nat) (ao : Option Addr) (c : Nat) (pts : List Cx) (ks : List Zp) (hn : 3 ≤ pts.length) (hm : pts.length ≤ 6) (hok : okLoop pts = true) (w : World) (hs : SlC w lo hi ao pts) (hk : PtsQ pts ks 5) (hl : ∀ i, i < ks.length → lowZ (zAt ks i) 256) :
    Calls Try.prog 26 #[.slice ao pts.length c] w fun e w' => (∃ r, e = .returned (.tuple #[.float .f32 r, .bool true]) ∧ Q .f32 (can .f32 r) (areaZ ks) 11) ∧ ∃ n, w' = w.drewN n := by
  have HIL := Lib.hid (isLoop lo hi ao c pts (by omega) w hs)
  have HA := Lib.hid (fun q => areaOf lo hi ao c pts ks hn hm (w.drewN q) (hs.far ((Far.refl _ _ _).drewN q)) hk hl)
  have HOK := Lib.hid hok
  clear hs hk hl hok
  go_enter Try.func26, Try.ntmps26
  go_wp2_with fail
  refine HIL.out.mono ?_
  rintro e w1 ⟨rfl, q1, rfl⟩
  rw [HOK.out]
  go_wp2_with fail
  refine (HA.out _).mono ?_
  rintro e w2 ⟨⟨r, rfl, hq⟩, q2, rfl⟩
  have HQ := Lib.hid hq
  clear hq
  go_wp2_with fail
  refine (ifNumber r (fin_q HQ.out) _).mono ?_
  rintro e w3 ⟨rfl, q3, rfl⟩
  go_wp2_with fail
  go_ret2
  exact ⟨⟨r, rfl, HQ.out⟩, q1 + q2 + q3, by simp only [World.drewN_drewN, Nat.add_assoc]⟩

set_option maxHeartbeats 2000000 in
set_option maxRecDepth 100000 in
theorem outlineArea (lo hi : Nat) (ao : Option Addr) (c : Nat) (nm : ByteArray) (ls : List (List Cx)) (kls : List (List Zp)) (w : World) (h : OL w lo hi ao nm ls kls) (hlow : lowK kls) :
    Calls Try.prog 11 #[.agg #[.string nm, .slice ao ls.length c]] w fun e w' => (∃ r, e = .returned (.tuple #[.float .f32 r, .bool true]) ∧ Q .f32 (can .f32 r) (areaA kls) 11) ∧ Below w.heap.size w w' := by
  have HO := Lib.hid (h.alloc (.cells #[.string nm, .slice ao ls.length c] 26))
  have HB := Lib.hid (show Below w.heap.size w (w.alloc (.cells #[.string nm, .slice ao ls.length c] 26)) from Below.alloc (Below.refl _ _) (Nat.le_refl _) _)
  have HV := Lib.hid (validOutline lo hi ao c nm ls h.short.1 (by have := h.short.2.1; omega) h.short.2.2.2 _ HO.out.sl HO.out.top)
  have HOK := Lib.hid (decide_eq_true h.ok)
  have HOC := Lib.hid (show OwnC (w.alloc (.cells #[.string nm, .slice ao ls.length c] 26)) w.heap.size #[.string nm, .slice ao ls.length c] 26 from OwnC.new rfl)
  have HL := Lib.hid h.len
  have HLOW := Lib.hid hlow
  have hl4 := h.short.2.1
  clear h hlow
  go_enter Try.func11, Try.ntmps11
  go_wp2_with fail
  refine HV.out.mono ?_
  rintro e w1 ⟨rfl, hb1⟩
  rw [HOK.out]
  have HO1 := Lib.hid (HO.out.below hb1 HO.out.top)
  have HB1 := Lib.hid (HB.out.trans (hb1.mono (by simp)))
  have HOC1 := HOC.out.below hb1 (by simp)
  have c0 := HOC1.cell 0
  have c1 := HOC1.cell 1
  simp at c0 c1
  clear hb1 HOC1
  go_wp2_with fail
  go_loopw [4, 15] (fun s i wr => ∃ (k q sb : Nat), k ≤ ls.length ∧ i = .int .i64 k ∧ s = .float .f32 sb ∧ Hid (Q .f32 (can .f32 sb) (areaL kls k) 11) ∧ wr = w1.drewN q) (fun _ i _ => ls.length - (intOf i).toNat)
  case atStart => exact ⟨0, 0, 0, by omega, rfl, rfl, Lib.hid (Q.zero 11 (by decide)), rfl⟩
  case round =>
    obtain ⟨k, q, sb, hk, rfl, rfl, HQ, rfl⟩ := hrel
    have hab := areaL_bound HLOW.out k (by rw [HL.out]; exact hk)
    by_cases hlt : k < ls.length
    · obtain ⟨b, rfl, hb1, hb2, hc⟩ := (HO1.out.drewN q).sl (by omega)
      obtain ⟨ai, ci, d1, hs1'⟩ := hc k hlt
      have HSL := Lib.hid hs1'
      have HQK := Lib.hid (HO1.out.q k hlt)
      have HLP := Lib.hid (HO1.out.loop hlt)
      have hkk := HLOW.out k (by rw [HL.out]; exact hlt)
      have hab2 := areaL_bound HLOW.out (k + 1) (by rw [HL.out]; exact hlt)
      have hlen : (lpAt ls k).length ≤ 6 := by rw [← HQK.out.len]; exact hkk.1
      have HAL := Lib.hid (areaOfLoop lo hi ai ci (lpAt ls k) (kAt kls k) HLP.out.2.1 hlen HLP.out.1 _ HSL.out HQK.out hkk.2)
      have HAB := Lib.hid (show (areaL kls k + areaZ (kAt kls k)).natAbs < 16777216 by
        have : areaL kls (k + 1) = areaL kls k + areaZ (kAt kls k) := rfl
        rw [← this]; omega)
      have k0 : (0 : Int) ≤ (k : Int) := by omega
      have k1 : (k : Int) < (ls.length : Int) := by omega
      clear hc hs1' hkk hab hab2 hlen
      go_wp2_with fail
      refine HAL.out.mono ?_
      rintro e w2 ⟨⟨r, rfl, hq⟩, q2, rfl⟩
      have HR := Lib.hid hq
      clear hq
      go_wp2_with (refine wpList_f (x := .tmp 26) rfl rfl rfl rfl (by decide) ?_; intro r28 n28 h28; simp only [Act.put, List.setIfInBounds_toArray, List.set_cons_succ, List.set_cons_zero])
      have HS2 := Lib.hid (show Q .f32 (can .f32 r28) (areaL kls (k + 1)) 11 by rw [h28]; exact HQ.out.add HR.out (lt24 HAB.out))
      clear h28
      exact ⟨⟨k + 1, _, r28, by omega, by go_num, rfl, HS2, rfl⟩, by simp [intOf]; omega⟩
    · have hkn : k = ls.length := by omega
      have k1 : ¬ (k : Int) < (ls.length : Int) := by omega
      have HQ2 : Hid (Q .f32 (can .f32 sb) (areaA kls) 11) := Lib.hid (by unfold areaA; rw [HL.out, ← hkn]; exact HQ.out)
      clear hkn hab
      go_wp2_with fail
      refine (ifNumber sb (fin_q HQ2.out) _).mono ?_
      rintro e w3 ⟨rfl, q3, rfl⟩
      go_wp2_with fail
      go_ret2
      exact ⟨⟨sb, rfl, HQ2.out⟩, below_dr HB1.out _⟩
end Go.Proofs.Ytgghhnglnklmbaa
