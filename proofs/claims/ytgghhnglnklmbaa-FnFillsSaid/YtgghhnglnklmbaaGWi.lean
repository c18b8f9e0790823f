/- How often loops go around a point, the program's. -/
import Derived.Test.YtgghhnglnklmbaaGOk
import Derived.Test.YtgghhnglnklmbaaOVo
namespace Go.Fl
open Go.RowKit
/-- the complex number z is the point p, in units of 2 ^ -e -/
def PtQ (z : Cx) (p : Zp) (e : Nat) : Prop := Q .f32 (can .f32 z.1) p.1 e ∧ Q .f32 (can .f32 z.2) p.2 e
def lowZ (p : Zp) (B : Nat) : Prop := p.1.natAbs ≤ B ∧ p.2.natAbs ≤ B
theorem Q.zero (e : Nat) (he : e ≤ 149) : Q .f32 (can .f32 0) 0 e := ⟨by decide +kernel, by
  have : V .f32 (can .f32 0) = 0 := by decide +kernel
  rw [this, Int.zero_mul], he⟩
theorem ord_q {a b : Nat} {k l : Int} {e : Nat} (ha : Q .f32 (can .f32 a) k e) (hb : Q .f32 (can .f32 b) l e) : FloatKind.f32.format.order a b = some (compare k l) := by
  rw [← order_can]; exact ha.order hb
theorem cmp_lt {k l : Int} : (compare k l == .lt) = decide (k < l) := by
  show (compareOfLessAndEq k l == .lt) = _
  unfold compareOfLessAndEq
  by_cases h : k < l
  · simp [h]
  · by_cases h2 : k = l <;> simp [h, h2]
theorem cmp_eq {k l : Int} : (compare k l == .eq) = decide (k = l) := by
  show (compareOfLessAndEq k l == .eq) = _
  unfold compareOfLessAndEq
  by_cases h : k < l
  · have : ¬ k = l := by omega
    simp [h, this]
  · by_cases h2 : k = l <;> simp [h, h2]
theorem cmp_gt {k l : Int} : (compare k l == .gt) = decide (l < k) := by
  show (compareOfLessAndEq k l == .gt) = _
  unfold compareOfLessAndEq
  by_cases h : k < l
  · have : ¬ l < k := by omega
    simp [h, this]
  · by_cases h2 : k = l
    · subst h2; simp
    · have : l < k := by omega
      simp [h, h2, this]
theorem ord_lt {a b : Nat} {k l : Int} {e : Nat} (ha : Q .f32 (can .f32 a) k e) (hb : Q .f32 (can .f32 b) l e) : (FloatKind.f32.format.order a b == some .lt) = decide (k < l) := by
  rw [ord_q ha hb, ← cmp_lt]; rfl
theorem ord_gt {a b : Nat} {k l : Int} {e : Nat} (ha : Q .f32 (can .f32 a) k e) (hb : Q .f32 (can .f32 b) l e) : (FloatKind.f32.format.order a b == some .gt) = decide (l < k) := by
  rw [ord_q ha hb, ← cmp_gt]; rfl
theorem ord_le {a b : Nat} {k l : Int} {e : Nat} (ha : Q .f32 (can .f32 a) k e) (hb : Q .f32 (can .f32 b) l e) : (FloatKind.f32.format.order a b == some .lt || FloatKind.f32.format.order a b == some .eq) = decide (k ≤ l) := by
  rw [ord_q ha hb]
  have h1 : (some (compare k l) == some Ordering.lt) = decide (k < l) := by rw [← cmp_lt]; rfl
  have h2 : (some (compare k l) == some Ordering.eq) = decide (k = l) := by rw [← cmp_eq]; rfl
  rw [h1, h2]
  by_cases h : k < l
  · have : k ≤ l := by omega
    simp [h, this]
  · by_cases h2 : k = l
    · have : k ≤ l := by omega
      simp [h2]
    · have : ¬ k ≤ l := by omega
      simp [h, h2, this]
theorem mul_bound {a b : Int} {B : Nat} (h1 : a.natAbs ≤ B) (h2 : b.natAbs ≤ B) : (a * b).natAbs ≤ B * B := by
  rw [Int.natAbs_mul]; exact Nat.mul_le_mul h1 h2
/-- differences and cross products are exact -/
theorem sub_q {a b r1 r2 : Nat} {a' b' : Nat} {p q : Zp} {e : Nat} (ha : PtQ (a, a') p e) (hb : PtQ (b, b') q e) (hp : lowZ p 1024) (hq : lowZ q 1024) (h1 : F32 r1 (fsub (can .f32 a) (can .f32 b))) (h2 : F32 r2 (fsub (can .f32 a') (can .f32 b'))) :
    PtQ (r1, r2) (subZ p q) e ∧ lowZ (subZ p q) 2048 := by
  obtain ⟨p1, p2⟩ := hp
  obtain ⟨q1, q2⟩ := hq
  refine ⟨⟨?_, ?_⟩, by show (p.1 - q.1).natAbs ≤ 2048; omega, by show (p.2 - q.2).natAbs ≤ 2048; omega⟩
  · show Q .f32 (can .f32 r1) (p.1 - q.1) e
    rw [h1]; exact ha.1.sub hb.1 (lt24 (by omega))
  · show Q .f32 (can .f32 r2) (p.2 - q.2) e
    rw [h2]; exact ha.2.sub hb.2 (lt24 (by omega))
theorem cross_q {a b : Nat} {a' b' r : Nat} {p q : Zp} {e : Nat} (ha : PtQ (a, a') p e) (hb : PtQ (b, b') q e) (hp : lowZ p 2048) (hq : lowZ q 2048) (he : e + e ≤ 149) (h : F32 r (fsub (fmul (can .f32 a) (can .f32 b')) (fmul (can .f32 a') (can .f32 b)))) :
    Q .f32 (can .f32 r) (crossZ p q) (e + e) := by
  have m1 := mul_bound hp.1 hq.2
  have m2 := mul_bound hp.2 hq.1
  rw [h]
  exact (ha.1.mul hb.2 (lt24 (by omega)) he).sub (ha.2.mul hb.1 (lt24 (by omega)) he) (lt24 (by omega))
/-- points that are pts, as whole numbers in units of 1/32 -/
structure PtsQ (pts : List Cx) (ks : List Zp) (e : Nat) : Prop where
  len : ks.length = pts.length
  pt : ∀ i, i < pts.length → PtQ (cAt pts i) (zAt ks i) e ∧ lowZ (zAt ks i) 1024
theorem sumZ_bound (f : Zp → Zp → Int) (ps : List Zp) (h : ∀ p q, (f p q).natAbs ≤ 1) : ∀ k, (sumZ f ps k).natAbs ≤ k
  | 0 => by simp [sumZ]
  | k + 1 => by
    have h1 := sumZ_bound f ps h k
    have h2 := h (zAt ps k) (zAt ps ((k + 1) % ps.length))
    show (sumZ f ps k + _).natAbs ≤ _
    omega
theorem stepZ_bound (p q z : Zp) : (stepZ p q z).natAbs ≤ 1 := by
  unfold stepZ
  split
  · simp
  · split <;> simp
/-- a step by its four tests -/
def stepB (b1 b2 b3 b4 : Bool) : Int := if b1 && b2 && b3 then 1 else if !b1 && !b2 && b4 then -1 else 0
theorem stepB_eq (p q z : Zp) : stepB (decide (p.2 ≤ z.2)) (decide (z.2 < q.2)) (decide (0 < crossZ (subZ q p) (subZ z p))) (decide (crossZ (subZ q p) (subZ z p) < 0)) = stepZ p q z := by
  unfold stepB stepZ
  have e1 : (decide (p.2 ≤ z.2) && decide (z.2 < q.2) && decide (0 < crossZ (subZ q p) (subZ z p))) = true ↔ (p.2 ≤ z.2 ∧ q.2 > z.2 ∧ crossZ (subZ q p) (subZ z p) > 0) := by
    simp only [Bool.and_eq_true, decide_eq_true_eq, and_assoc]; try exact Iff.rfl
  have e2 : (!decide (p.2 ≤ z.2) && !decide (z.2 < q.2) && decide (crossZ (subZ q p) (subZ z p) < 0)) = true ↔ (p.2 > z.2 ∧ q.2 ≤ z.2 ∧ crossZ (subZ q p) (subZ z p) < 0) := by
    simp only [Bool.and_eq_true, Bool.not_eq_true', decide_eq_false_iff_not, decide_eq_true_eq, and_assoc]
    constructor
    · rintro ⟨h1, h2, h3⟩; exact ⟨by omega, by omega, h3⟩
    · rintro ⟨h1, h2, h3⟩; exact ⟨by omega, by omega, h3⟩
  simp only [e1, e2]
theorem windZ_bound (ps : List Zp) (z : Zp) : (windZ ps z).natAbs ≤ ps.length := sumZ_bound _ ps (fun p q => stepZ_bound p q z) _
end Go.Fl
namespace Go.Proofs.Ytgghhnglnklmbaa
open Go.RowKit Go.Fl

set_option maxHeartbeats 1000000 in
theorem minusC (a b a' b' : Nat) (w : World) : Calls Try.prog 57 #[.complex .f32 a a', .complex .f32 b b'] w fun e w' => (∃ r1 r2, e = .returned (.complex .f32 r1 r2) ∧ F32 r1 (fsub (can .f32 a) (can .f32 b)) ∧ F32 r2 (fsub (can .f32 a') (can .f32 b'))) ∧ ∃ n, w' = w.drewN n := by
  go_enter Try.func57, Try.ntmps57
  go_wp2_with (refine wpList_f rfl rfl rfl rfl (by decide) ?_; intro _ _ _; simp only [Act.put, List.setIfInBounds_toArray, List.set_cons_succ, List.set_cons_zero])
  rename_i r1 n1 h1 r2 n2 h2
  go_ret
  exact ⟨⟨r1, r2, rfl, h1, h2⟩, _, rfl⟩
set_option maxHeartbeats 1000000 in
theorem plusC (a b a' b' : Nat) (w : World) : Calls Try.prog 39 #[.complex .f32 a a', .complex .f32 b b'] w fun e w' => (∃ r1 r2, e = .returned (.complex .f32 r1 r2) ∧ F32 r1 (fadd (can .f32 a) (can .f32 b)) ∧ F32 r2 (fadd (can .f32 a') (can .f32 b'))) ∧ ∃ n, w' = w.drewN n := by
  go_enter Try.func39, Try.ntmps39
  go_wp2_with (refine wpList_f rfl rfl rfl rfl (by decide) ?_; intro _ _ _; simp only [Act.put, List.setIfInBounds_toArray, List.set_cons_succ, List.set_cons_zero])
  rename_i r1 n1 h1 r2 n2 h2
  go_ret
  exact ⟨⟨r1, r2, rfl, h1, h2⟩, _, rfl⟩
set_option maxHeartbeats 1000000 in
theorem crossC (a b a' b' : Nat) (w : World) : Calls Try.prog 55 #[.complex .f32 a a', .complex .f32 b b'] w fun e w' => (∃ r, e = .returned (.float .f32 r) ∧ F32 r (fsub (fmul (can .f32 a) (can .f32 b')) (fmul (can .f32 a') (can .f32 b)))) ∧ ∃ n, w' = w.drewN n := by
  go_enter Try.func55, Try.ntmps55
  go_wp2_with (refine wpList_f rfl rfl rfl rfl (by decide) ?_; intro _ _ _; simp only [Act.put, List.setIfInBounds_toArray, List.set_cons_succ, List.set_cons_zero])
  rename_i r1 n1 h1 r2 n2 h2 r3 n3 h3
  go_ret
  refine ⟨⟨r3, rfl, ?_⟩, n1 + n2 + n3, by simp only [World.drewN_drewN, Nat.add_assoc]⟩
  rw [h1, h2] at h3
  exact h3

set_option maxHeartbeats 4000000 in
set_option maxRecDepth 100000 in
theorem windingAt (lo hi : Nat) (ao : Option Addr) (c : Nat) (pts : List Cx) (ks : List Zp) (z : Cx) (kz : Zp) (hn : 3 ≤ pts.length) (hm : pts.length ≤ 64) (hok : okLoop pts = true) (hz : okPt z = true) (w : World) (hs : SlC w lo hi ao pts) (hk : PtsQ pts ks 5) (hkz : PtQ z kz 5) (hlz : lowZ kz 1024) :
    Calls Try.prog 50 #[.slice ao pts.length c, cV z] w fun e w' => e = .returned (.tuple #[.int .i64 (windZ ks kz), .bool true]) ∧ ∃ n, w' = w.drewN n := by
  obtain ⟨z1, z2⟩ := z
  unfold cV
  have HS := Lib.hid hs
  have HK := Lib.hid hk
  have HKZ := Lib.hid hkz
  have HLZ := Lib.hid hlz
  have HOK := Lib.hid hok
  have HZ := Lib.hid hz
  obtain ⟨n, hnn⟩ : ∃ n, n = pts.length := ⟨_, rfl⟩
  rw [← hnn] at hn hm ⊢
  have HN := Lib.hid hnn
  have HIL := Lib.hid (isLoop lo hi ao c pts (by rw [← hnn]; omega) w hs)
  have HIC := Lib.hid (fun q => isFiniteComplex (z1, z2) (w.drewN q))
  rw [← hnn] at HIL
  have hle : ks.length = n := by rw [hk.len, hnn]
  have HLE := Lib.hid hle
  clear hs hk hkz hlz hok hz hnn hle
  go_enter Try.func50, Try.ntmps50
  go_wp2_with fail
  refine HIL.out.mono ?_
  rintro e w1 ⟨rfl, q1, rfl⟩
  rw [HOK.out]
  go_wp2_with fail
  refine (HIC.out _).mono ?_
  rintro e w2 ⟨rfl, q2, rfl⟩
  rw [HZ.out]
  go_wp2_with fail
  go_loopw [6, 21] (fun cnt i wr => ∃ (k q : Nat) (S : Int), k ≤ n ∧ i = .int .i64 k ∧ cnt = .int .i64 S ∧ Hid (S = sumZ (fun p q => stepZ p q kz) ks k) ∧ wr = w.drewN q) (fun _ i _ => n - (intOf i).toNat)
  case atStart => exact ⟨0, q1 + q2, 0, by omega, rfl, rfl, Lib.hid rfl, by simp only [World.drewN_drewN]⟩
  case round =>
    obtain ⟨k, q, S, hk, rfl, rfl, HS0, rfl⟩ := hrel
    have sb := sumZ_bound (fun p q => stepZ p q kz) ks (fun p q => stepZ_bound p q kz) k
    rw [← HS0.out] at sb
    have s1 : -64 ≤ S := by omega
    have s2 : S ≤ 64 := by omega
    clear sb
    by_cases hlt : k < n
    · obtain ⟨b, rfl, hb1, hb2, hc⟩ := HS.out (by rw [← HN.out]; omega)
      obtain ⟨j, hj⟩ : ∃ j, j = (k + 1) % n := ⟨_, rfl⟩
      have hjn : j < n := by rw [hj]; exact Nat.mod_lt _ (by omega)
      have c1 := hc k (by rw [← HN.out]; exact hlt)
      have c2 := hc j (by rw [← HN.out]; exact hjn)
      have P1 := HK.out.pt k (by rw [← HN.out]; exact hlt)
      have P2 := HK.out.pt j (by rw [← HN.out]; exact hjn)
      rcases hp : cAt pts k with ⟨p1, p2⟩
      rcases hq : cAt pts j with ⟨q1', q2'⟩
      rw [hp] at c1 P1
      rw [hq] at c2 P2
      unfold cV at c1 c2
      have k0 : (0 : Int) ≤ (k : Int) := by omega
      have k1 : (k : Int) < (n : Int) := by omega
      have k2 : (0 : Int) ≤ (j : Int) := by omega
      have k3 : (j : Int) < (n : Int) := by omega
      have k4 : ((k : Int) + 1) % (n : Int) = (j : Int) := by rw [hj]; rfl
      have k5 : ¬ (n : Int) = 0 := by omega
      have HP1 := Lib.hid P1
      have HP2 := Lib.hid P2
      have HJ := Lib.hid hj
      clear P1 P2 hp hq hj hc
      go_wp2_with fail
      refine (minusC _ _ _ _ _).mono ?_
      rintro e w3 ⟨⟨r1, r2, rfl, h1, h2⟩, n3, rfl⟩
      have HA := Lib.hid (sub_q HP2.out.1 HP1.out.1 HP2.out.2 HP1.out.2 h1 h2)
      clear h1 h2
      go_wp2_with fail
      refine (minusC _ _ _ _ _).mono ?_
      rintro e w4 ⟨⟨t1, t2, rfl, h1, h2⟩, n4, rfl⟩
      have HB := Lib.hid (sub_q HKZ.out HP1.out.1 HLZ.out HP1.out.2 h1 h2)
      clear h1 h2
      go_wp2_with fail
      refine (crossC _ _ _ _ _).mono ?_
      rintro e w5 ⟨⟨r, rfl, h1⟩, n5, rfl⟩
      have HR := Lib.hid (cross_q HA.out.1 HB.out.1 HA.out.2 HB.out.2 (by decide) h1)
      clear h1
      obtain ⟨B1, hB1⟩ : ∃ B, B = decide ((zAt ks k).2 ≤ kz.2) := ⟨_, rfl⟩
      obtain ⟨B2, hB2⟩ : ∃ B, B = decide (kz.2 < (zAt ks j).2) := ⟨_, rfl⟩
      obtain ⟨B3, hB3⟩ : ∃ B, B = decide (0 < crossZ (subZ (zAt ks j) (zAt ks k)) (subZ kz (zAt ks k))) := ⟨_, rfl⟩
      obtain ⟨B4, hB4⟩ : ∃ B, B = decide (crossZ (subZ (zAt ks j) (zAt ks k)) (subZ kz (zAt ks k)) < 0) := ⟨_, rfl⟩
      have o1 := (ord_le HP1.out.1.2 HKZ.out.2).trans hB1.symm
      have o2 := (ord_gt HP2.out.1.2 HKZ.out.2).trans hB2.symm
      have o3 := (ord_gt HR.out (Q.zero 10 (by decide))).trans hB3.symm
      have o4 : (FloatKind.f32.format.order p2 z2 == some .gt) = !B1 := (ord_gt HP1.out.1.2 HKZ.out.2).trans (by rw [hB1, ← decide_not]; exact decide_eq_decide.2 (by omega))
      have o5 : (FloatKind.f32.format.order q2' z2 == some .lt || FloatKind.f32.format.order q2' z2 == some .eq) = !B2 := (ord_le HP2.out.1.2 HKZ.out.2).trans (by rw [hB2, ← decide_not]; exact decide_eq_decide.2 (by omega))
      have o6 := (ord_lt HR.out (Q.zero 10 (by decide))).trans hB4.symm
      have HST : Hid (∀ d, stepB B1 B2 B3 B4 = d → S + d = sumZ (fun p q => stepZ p q kz) ks (k + 1)) := Lib.hid fun d hd => by
        show _ = sumZ (fun p q => stepZ p q kz) ks k + stepZ (zAt ks k) (zAt ks ((k + 1) % ks.length)) kz
        rw [← HS0.out, HLE.out, ← HJ.out, ← hd, hB1, hB2, hB3, hB4, stepB_eq]
      clear hB1 hB2 hB3 hB4
      have w1 : IntKind.i64.wrap (S + 1) = S + 1 := by rw [IntKind.wrap_i64]; omega
      have w2 : IntKind.i64.wrap (S - 1) = S - 1 := by rw [IntKind.wrap_i64]; omega
      cases B1
      · cases B2
        · cases B4
          · have HST0 := Lib.hid (HST.out 0 (by cases B3 <;> rfl))
            simp only [Bool.not_true, Bool.not_false] at o4 o5
            clear HST o3
            go_wp2_with fail
            exact ⟨⟨k + 1, _, S, by omega, by go_num, rfl, Lib.hid (by have := HST0.out; rw [← this]; omega), rfl⟩, by simp [intOf]; omega⟩
          · have HST0 := Lib.hid (HST.out (-1) (by cases B3 <;> rfl))
            simp only [Bool.not_true, Bool.not_false] at o4 o5
            clear HST o3
            go_wp2_with fail
            exact ⟨⟨k + 1, _, S - 1, by omega, by go_num, rfl, Lib.hid (by have := HST0.out; rw [← this]; omega), rfl⟩, by simp [intOf]; omega⟩
        · have HST0 := Lib.hid (HST.out 0 (by cases B3 <;> cases B4 <;> rfl))
          simp only [Bool.not_true, Bool.not_false] at o4 o5
          clear HST o3 o6
          go_wp2_with fail
          exact ⟨⟨k + 1, _, S, by omega, by go_num, rfl, Lib.hid (by have := HST0.out; rw [← this]; omega), rfl⟩, by simp [intOf]; omega⟩
      · cases B2
        · have HST0 := Lib.hid (HST.out 0 (by cases B3 <;> cases B4 <;> rfl))
          simp only [Bool.not_true, Bool.not_false] at o4 o5
          clear HST o3 o6
          go_wp2_with fail
          exact ⟨⟨k + 1, _, S, by omega, by go_num, rfl, Lib.hid (by have := HST0.out; rw [← this]; omega), rfl⟩, by simp [intOf]; omega⟩
        · cases B3
          · have HST0 := Lib.hid (HST.out 0 (by cases B4 <;> rfl))
            simp only [Bool.not_true, Bool.not_false] at o4 o5
            clear HST o6
            go_wp2_with fail
            exact ⟨⟨k + 1, _, S, by omega, by go_num, rfl, Lib.hid (by have := HST0.out; rw [← this]; omega), rfl⟩, by simp [intOf]; omega⟩
          · have HST0 := Lib.hid (HST.out 1 (by cases B4 <;> rfl))
            simp only [Bool.not_true, Bool.not_false] at o4 o5
            clear HST o6
            go_wp2_with fail
            exact ⟨⟨k + 1, _, S + 1, by omega, by go_num, rfl, HST0, rfl⟩, by simp [intOf]; omega⟩
    · have hkn : k = n := by omega
      subst hkn
      have k1 : ¬ (k : Int) < (k : Int) := by omega
      have HW : Hid (S = windZ ks kz) := Lib.hid (by rw [HS0.out]; unfold windZ; rw [HLE.out])
      go_wp2_with fail
      go_ret2
      exact ⟨(by rw [HW.out]; rfl), _, rfl⟩
end Go.Proofs.Ytgghhnglnklmbaa
