/- The law FnRings walked. (Written by mkrgw.py.) -/
import Derived.Test.YtkpjhoiaegioeaaRgS
namespace Go.Fl
open Ieee Go.RowKit
theorem OwnC1.bel {w w' : World} {b : Nat} {xs : List Cx} (h : OwnC1 w b xs) (hb : RowKit.Below w.heap.size w w') : OwnC1 w' b xs := h.far (lo := 0) (Far.below hb (Nat.le_refl _)) (Nat.zero_le _) h.1.lt
theorem quiet_of0 {P : Program} {f : FuncId} {args : Array Value} {w : World} {n : Nat} {v : Value} (h : ∀ w, Calls P f args w fun e w' => e = .returned v ∧ w' = w) :
    Calls P f args (w.drewN n) fun e w'' => e = .returned v ∧ ∃ m, w'' = w.drewN m := (h _).mono fun _ _ ⟨he, hw⟩ => ⟨he, n, hw⟩
theorem quiet_of3 {P : Program} {f : FuncId} {args : Array Value} {w : World} {q n : Nat} {v : Value} (h : ∀ w, Calls P f args w fun e w' => e = .returned v ∧ w' = w) :
    Calls P f args (w.drewN (q + n)) fun e w'' => e = .returned v ∧ ∃ m, w'' = w.drewN (q + m) := (h _).mono fun _ _ ⟨he, hw⟩ => ⟨he, n, hw⟩
theorem slope_px {xs : List Cx} {ks : List Zp} {e B i : Nat} {closed : Bool} (h : PL xs ks e B) (hB : B ≤ 8192) (he : e ≤ 90) (hi : i < xs.length) : ∃ p, PX (slopeF xs closed i) p (e + 1) ∧ low p (2 * B) := by
  have h1 : (if closed || decide (i + 1 < xs.length) then nx xs.length i else i) < xs.length := by split; exact nx_lt hi; exact hi
  have h2 : (if closed || decide (0 < i) then pv xs.length i else i) < xs.length := by split; exact pv_lt hi; exact hi
  obtain ⟨pa, la⟩ := h.pt _ h1
  obtain ⟨pb, lb⟩ := h.pt _ h2
  have m := pa.minus pb (la.mono (by omega)) (lb.mono (by omega))
  have lm := low.sub la lb (C := 2 * B) (Nat.le_refl _)
  exact ⟨_, m.scale q50b (lm.mono (by omega)) (by decide) (by omega), lm.mul (j := 1) (c := 1) (by decide) (by omega)⟩
theorem zero_px (e : Nat) (he : e ≤ 149) : PX (0, 0) (0, 0) e := ⟨zeroQ e he, zeroQ e he⟩
theorem subZ_zero (p : Zp) : subZ p (0, 0) = p := by apply zext; show p.1 - 0 = p.1; omega; show p.2 - 0 = p.2; omega
theorem long_bound {z : Cx} {p : Zp} {e B a : Nat} (h : PX z p e) (hl : low p B) (hB : B ≤ 65536) (he : e ≤ 100) (hp : 2 * (B * B) * 2 ^ c298 ≤ 2 ^ (a + a + (e + e))) : V .f32 (longF z) ≤ ((2 ^ a : Nat) : Int) := by
  obtain ⟨_, _, _, _, hle, _⟩ := long_facts h (hl.mono hB) he
  have h1 := hle 1 a (by decide) (by
    rw [Nat.one_mul, ← Nat.pow_add, ← Nat.pow_add]
    refine Nat.le_trans (Nat.mul_le_mul_right _ ?_) hp
    unfold powZ
    have := Nat.mul_le_mul hl.1 hl.1
    have := Nat.mul_le_mul hl.2 hl.2
    omega)
  rw [Nat.one_mul] at h1
  exact h1
theorem MaxTo.bound {xs : List Cx} {ks : List Zp} {e B k x : Nat} {closed : Bool} (h : PL xs ks e B) (hB : B ≤ 8192) (he : e ≤ 100) (hk : k ≤ xs.length) (hm : MaxTo xs closed k x) : (V .f32 x).natAbs ≤ 2 ^ 200 := by
  rcases hm.one with h0 | ⟨i, hi, _, hv⟩
  · rw [h0]; exact Nat.zero_le _
  · obtain ⟨pr, lr⟩ := rough_px h hB he (show i < xs.length by omega)
    have hb := long_bound (a := 200) pr (lr.mono (show 4 * B ≤ 32768 by omega)) (by decide) he (by
      refine Nat.le_trans (Nat.mul_le_mul_right _ (show 2 * (32768 * 32768) ≤ 2 ^ 31 by decide)) ?_
      rw [← Nat.pow_add]
      exact Nat.pow_le_pow_right (by decide) (by rw [c298_eq]; omega))
    have h0 := hm.ge
    omega
theorem milli64 : isN .f64 4562254508917369340 = true ∧ 0 ≤ V .f64 4562254508917369340 ∧ (V .f64 4562254508917369340).natAbs ≤ 2 ^ LP .f64 := ⟨by decide +kernel, by decide +kernel, by decide +kernel⟩
/-- what is no greater is no greater by a thousandth more -/
theorem milli_more {x y : Nat} (hx : isN .f32 x = true) (hy : isN .f32 y = true) (hb : (V .f32 x).natAbs ≤ 2 ^ 200) (h0y : 0 ≤ V .f32 y) (h : V .f32 y ≤ V .f32 x) :
    isN .f64 (fop .add .f64 (fcv .f32 .f64 x) 4562254508917369340) = true ∧ (FloatKind.f64.format.order (fcv .f32 .f64 y) (fop .add .f64 (fcv .f32 .f64 x) 4562254508917369340) == some .gt) = false := by
  obtain ⟨c1, c2, c3⟩ := milli64
  have h249 : (2 : Nat) ^ 200 ≤ 2 ^ (100 + 149) := Nat.pow_le_pow_right (by decide) (by decide)
  obtain ⟨wx, vx⟩ := widen_val hx (Nat.le_trans hb h249)
  obtain ⟨wy, vy⟩ := widen_val hy (by omega)
  obtain ⟨s, m, i, hr, hi, hv⟩ := isN_read hx
  have m24 : m < 16777216 := (read_number .f32 x hr).1
  obtain ⟨u, hu⟩ : ∃ u, u = (i + (LP .f32 : Nat)).toNat := ⟨_, rfl⟩
  rw [← hu] at hv
  obtain ⟨k, hk⟩ : ∃ k : Int, k = if s then -(m : Int) else m := ⟨_, rfl⟩
  have hk2 : V .f32 x = k * 2 ^ u := by
    rw [hv, hk]
    unfold signed
    rw [Nat.shiftLeft_eq, cast_mul_pow]
    cases s
    · rfl
    · show -((m : Int) * 2 ^ u) = -(m : Int) * 2 ^ u; rw [Int.neg_mul]
  have hkm : k.natAbs = m := by rw [hk]; cases s <;> simp
  have vk : V .f64 (fcv .f32 .f64 x) = k * 2 ^ (u + nar) := by rw [vx, hk2, Int.mul_assoc, ← Int.pow_add]
  have hbx : (V .f64 (fcv .f32 .f64 x)).natAbs ≤ 2 ^ (99 + LP .f64) := by
    rw [vx, natAbs_pow]
    refine Nat.le_trans (Nat.mul_le_mul_right _ hb) ?_
    rw [← Nat.pow_add]
    exact Nat.pow_le_pow_right (by decide) (by rw [nar_eq]; decide)
  have hbc : (V .f64 4562254508917369340).natAbs ≤ 2 ^ (99 + LP .f64) := Nat.le_trans c3 (Nat.pow_le_pow_right (by decide) (by omega))
  have e2 : (2 : Nat) ^ (100 + LP .f64) = 2 * 2 ^ (99 + LP .f64) := by rw [show 100 + LP .f64 = (99 + LP .f64) + 1 by omega, Nat.pow_succ]; omega
  obtain ⟨T, hT⟩ : ∃ T, T = 2 ^ (99 + LP .f64) := ⟨_, rfl⟩
  have hn := near_add wx c1 (by rw [e2]; rw [← hT] at hbx hbc ⊢; omega)
  have hge := hn.ge k (u + nar) (by rw [hkm]; exact Nat.lt_trans m24 (by decide)) (by rw [← vk]; omega)
  rw [← vk] at hge
  refine ⟨hn.num, not_gt wy hn.num ?_⟩
  refine Int.le_trans ?_ hge
  rw [vy, vx]
  exact Int.mul_le_mul_of_nonneg_right h (Int.le_of_lt (pow_pos_i nar))
theorem forty : isN .f64 4630826316843712512 = true ∧ ((2 ^ 154 * 2 ^ nar : Nat) : Int) ≤ V .f64 4630826316843712512 := ⟨by decide +kernel, by decide +kernel⟩
/-- no farther than 40 -/
theorem slope_near {z : Cx} {p : Zp} (h : PX z p 3) (hl : low p 32) : (FloatKind.f64.format.order (fcv .f32 .f64 (longF z)) 4630826316843712512 == some .gt) = false := by
  obtain ⟨A, hA⟩ : ∃ A, A = 154 := ⟨_, rfl⟩
  have hb := long_bound (a := A) h hl (by decide) (by decide) (by
    rw [show 2 * (32 * 32) = 2 ^ 11 by decide, ← Nat.pow_add]
    exact Nat.pow_le_pow_right (by decide) (by rw [c298_eq]; omega))
  rw [hA] at hb
  obtain ⟨_, _, hn, h0, _⟩ := long_facts h (hl.mono (by decide)) (by decide)
  have h249 : (2 : Nat) ^ 154 ≤ 2 ^ (100 + 149) := Nat.pow_le_pow_right (by decide) (by decide)
  obtain ⟨w, v⟩ := widen_val hn (by omega)
  refine not_gt w forty.1 (Int.le_trans ?_ forty.2)
  rw [v, Int.natCast_mul, pow_i nar]
  exact Int.mul_le_mul_of_nonneg_right hb (Int.le_of_lt (pow_pos_i nar))
theorem centi : isN .f64 4576918229304087675 = true ∧ 0 ≤ V .f64 4576918229304087675 := ⟨by decide +kernel, by decide +kernel⟩
theorem mk_own {w : World} {b lo hi : Nat} {ms : List Nat} {T : TypeId} (h : OwnC w b ((ms.map (Value.float .f32)).toArray) T) (h1 : lo ≤ b) (h2 : b < hi) : MkAt w lo hi (some ⟨b, 0, none⟩) ms := ⟨b, rfl, h1, h2, fun i hi => by
  rw [h.cell i]
  simp [mAt, hi]⟩
theorem sixteen_read : FloatKind.f32.format.read 1098907648 = .number false (2 ^ FB .f32) (((4 : Nat) : Int) - FB .f32) := by decide
theorem sh_run {m : Int} (hm : m.natAbs ≤ 64) : ∃ z, (∀ w, mop .quo .f32 (floatOfInt .f32 m) 1098907648 w = z) ∧ mdr .quo .f32 (floatOfInt .f32 m) 1098907648 = 0 ∧ Q .f32 z m 4 := by
  have q1 := Q.ofInt .f32 m (lt24 (by omega))
  have q2 := Q.half (e := 0) q1 sixteen_read (lt24 (by omega)) (by decide)
  obtain ⟨h1, h2⟩ := run_fop q2
  exact ⟨_, h1, h2, q2⟩
theorem tight_q : Q .f32 1031798784 1 4 := ⟨by decide +kernel, by decide +kernel, by decide⟩
theorem meas_downI {k N : Nat} (h : (k : Int) < (N : Int)) : N - (intOf (.int .i64 ((k : Int) + 1))).toNat < N - (intOf (.int .i64 (k : Int))).toNat := by
  show N - ((k : Int) + 1).toNat < N - ((k : Int)).toNat
  omega
end Go.Fl
namespace Go.Proofs.Ytkpjhoiaegioeaa
open Go.RowKit Go.Fl

set_option maxHeartbeats 32000000 in
set_option maxRecDepth 100000 in
theorem lawG (a1 a2 : Option Addr) (n1 n2 ca1 ca2 : Nat) (w : World) (h1 : CodeAt w w.heap.size a1 n1) (h2 : CodeAt w w.heap.size a2 n2) :
    Calls Try.prog 4 #[.slice a1 n1 ca1, .slice a2 n2 ca2] w fun e w' => e = .returned (.bool true) ∧ Below w.heap.size w w' := by
  have H1 := Lib.hid h1
  have H2 := Lib.hid h2
  clear h1 h2
  go_enter Try.func4, Try.ntmps4
  by_cases hsz : n1 ≤ 48 ∧ n2 ≤ 48
  · obtain ⟨hn1, hn2⟩ := hsz
    go_wp2_with fail
    refine (r8LongNo a1 a2 n1 n2 ca1 ca2 hn1 hn2 w).mono ?_
    rintro e w0 ⟨rfl, rfl⟩
    go_wp2_with fail
    refine (r8At w0.heap.size a2 n2 ca2 40 6 hn2 (by decide) (by decide) (by decide) w0 H2.out).mono ?_
    rintro e wx ⟨⟨r0, rfl, hr0⟩, rfl⟩
    obtain ⟨N, hN⟩ : ∃ N, N = 2 + r0 := ⟨_, rfl⟩
    have q0 : (2 : Int) + (r0 : Int) = (N : Int) := by omega
    have hN2 : 2 ≤ N := by omega
    have hN7 : N ≤ 7 := by omega
    have hN2' : (2 : Int) ≤ (N : Int) := by omega
    have hN7' : (N : Int) ≤ 7 := by omega
    clear hN
    go_wp2_with fail
    refine (r8Points a1 n1 ca1 N (by omega) (by omega) wx H1.out).mono ?_
    rintro e w1 ⟨⟨bL, capL, N, xs, rfl, rfl, hxl, hbL, hoL, ks, hpl⟩, hbl⟩
    have HPL := Lib.hid hpl
    have HXL := Lib.hid hxl
    have HL := Lib.hid hoL
    have HB := Lib.hid hbl
    have HC := Lib.hid (H2.out.far (Far.below hbl (Nat.le_refl _)))
    clear q0 hpl hxl hoL hbl hbL H1 H2
    go_wp2_with fail
    refine (r8At _ a2 n2 ca2 41 2 hn2 (by decide) (by decide) (by decide) w1 HC.out).mono ?_
    rintro e v1 ⟨⟨r1, rfl, hr1⟩, rfl⟩
    obtain ⟨cl, hcl⟩ : ∃ b, b = ((r1 : Int) == 1) := ⟨_, rfl⟩
    go_wp2_with fail
    try rw [← hcl]
    clear hcl hr1
    refine (r8At _ a2 n2 ca2 42 9 hn2 (by decide) (by decide) (by decide) v1 HC.out).mono ?_
    rintro e v2 ⟨⟨js, rfl, hjs⟩, rfl⟩
    obtain ⟨sB, hm, hd, hq⟩ := sh_run (m := (js : Int)) (by omega)
    have HQ := Lib.hid hq
    have hj0 : (0 : Int) ≤ (js : Int) := by omega
    have hj8 : (js : Int) ≤ 8 := by omega
    have dz : ∀ w : World, w.drewN 0 = w := World.drewN_zero
    clear hq hjs
    have HCC := Lib.hid (cutCornersT bL v2.heap.size (some ⟨bL, 0, none⟩) capL sB N cl HPL.out (by decide) HXL.out hN2 (by omega) HQ.out hj0 hj8 (by decide) v2 (HL.out.sl (Nat.le_refl _) HL.out.1.lt) (Nat.le_refl _))
    go_wp2_with fail
    refine HCC.out.mono ?_
    rintro e v3 ⟨⟨b1, c1, m1, rfl, hm1, hb1, ho1⟩, hbl⟩
    have HO1 := Lib.hid ho1
    have HM1 := Lib.hid hm1
    clear HCC hm hd ho1 hb1 hm1
    replace HL := Lib.hid (HL.out.bel hbl)
    replace HC := Lib.hid (HC.out.far (Far.below hbl HB.out.size))
    replace HB := Lib.hid (HB.out.trans (hbl.mono HB.out.size))
    clear hbl
    have HCC := Lib.hid (cutTimes bL v3.heap.size (some ⟨bL, 0, none⟩) capL sB N 2 cl HPL.out (by decide) (by decide) HXL.out hN2 (by omega) HQ.out hj0 hj8 (by decide) v3 (HL.out.sl (Nat.le_refl _) HL.out.1.lt) (Nat.le_refl _))
    go_wp2_with fail
    refine HCC.out.mono ?_
    rintro e v4 ⟨⟨b2, c2, m2, rfl, hm2, hb2, ho2⟩, hbl⟩
    have HO2 := Lib.hid (show OwnC1 v4 b2 (cutF (cutF xs cl sB) cl sB) from ho2)
    have HM2 := Lib.hid (show m2 = 4 * N from hm2)
    clear HCC ho2 hb2 hm2
    replace HL := Lib.hid (HL.out.bel hbl)
    replace HO1 := Lib.hid (HO1.out.bel hbl)
    replace HC := Lib.hid (HC.out.far (Far.below hbl HB.out.size))
    replace HB := Lib.hid (HB.out.trans (hbl.mono HB.out.size))
    clear hbl
    have HP1 := Lib.hid (cut_PL (closed := cl) HPL.out (by decide) HQ.out hj0 hj8 (by decide) (by rw [HXL.out]; omega))
    have HL1 := Lib.hid (show (cutF xs cl sB).length = m1 by rw [cutF_len _ _ _ (by rw [HXL.out]; omega), HXL.out]; exact HM1.out.symm)
    have hm1 := HM1.out
    have HCC := Lib.hid (cutCornersT b1 v4.heap.size (some ⟨b1, 0, none⟩) c1 sB m1 cl HP1.out (by decide) HL1.out (by omega) (by omega) HQ.out hj0 hj8 (by decide) v4 (HO1.out.sl (Nat.le_refl _) HO1.out.1.lt) (Nat.le_refl _))
    clear hm1
    go_wp2_with fail
    refine HCC.out.mono ?_
    rintro e v5 ⟨⟨b3, c3, m3, rfl, hm3, hb3, ho3⟩, hbl⟩
    have HO3 := Lib.hid ho3
    have HM3 := Lib.hid hm3
    clear HCC ho3 hb3 hm3
    replace HL := Lib.hid (HL.out.bel hbl)
    replace HO1 := Lib.hid (HO1.out.bel hbl)
    replace HO2 := Lib.hid (HO2.out.bel hbl)
    replace HC := Lib.hid (HC.out.far (Far.below hbl HB.out.size))
    replace HB := Lib.hid (HB.out.trans (hbl.mono HB.out.size))
    clear hbl
    have HCC := Lib.hid (fourPoints bL v5.heap.size (some ⟨bL, 0, none⟩) capL 1031798784 N cl HPL.out (by decide) HXL.out hN2 (by omega) tight_q (by decide) v5 (HL.out.sl (Nat.le_refl _) HL.out.1.lt) (Nat.le_refl _))
    go_wp2_with fail
    refine HCC.out.mono ?_
    rintro e v6 ⟨⟨b4, c4, m4, rfl, hm4, hb4, ho4⟩, hbl⟩
    have HO4 := Lib.hid ho4
    have HM4 := Lib.hid hm4
    clear HCC ho4 hb4 hm4
    replace HL := Lib.hid (HL.out.bel hbl)
    replace HO1 := Lib.hid (HO1.out.bel hbl)
    replace HO2 := Lib.hid (HO2.out.bel hbl)
    replace HO3 := Lib.hid (HO3.out.bel hbl)
    replace HC := Lib.hid (HC.out.far (Far.below hbl HB.out.size))
    replace HB := Lib.hid (HB.out.trans (hbl.mono HB.out.size))
    clear hbl
    have HCC := Lib.hid (cubicOnce bL v6.heap.size (some ⟨bL, 0, none⟩) capL N 0 0 none 0 0 none cl HPL.out (by decide) HXL.out hN2 (by omega) (by decide) v6 (HL.out.sl (Nat.le_refl _) HL.out.1.lt) (Nat.le_refl _) (.inl ⟨rfl, rfl⟩) (Nat.zero_le _))
    go_wp2_with fail
    refine HCC.out.mono ?_
    rintro e v7 ⟨⟨b5, c5, m5, rfl, hm5, hb5, ho5⟩, hbl⟩
    have HO5 := Lib.hid ho5
    have HM5 := Lib.hid hm5
    clear HCC ho5 hb5 hm5
    replace HL := Lib.hid (HL.out.bel hbl)
    replace HO1 := Lib.hid (HO1.out.bel hbl)
    replace HO2 := Lib.hid (HO2.out.bel hbl)
    replace HO3 := Lib.hid (HO3.out.bel hbl)
    replace HO4 := Lib.hid (HO4.out.bel hbl)
    replace HC := Lib.hid (HC.out.far (Far.below hbl HB.out.size))
    replace HB := Lib.hid (HB.out.trans (hbl.mono HB.out.size))
    clear hbl
    obtain ⟨u, hu⟩ : ∃ u : Int, u = (if !cl then 1 else 0) := ⟨_, rfl⟩
    have u0 : 0 ≤ u := by rw [hu]; split <;> decide
    have u1 : u ≤ 1 := by rw [hu]; split <;> decide
    have HU := Lib.hid hu
    have rN : ((ringN cl N : Nat) : Int) = 2 * (N : Int) - u := by rw [hu]; unfold ringN; cases cl <;> simp <;> omega
    have e1 : (m1 : Int) = 2 * (N : Int) := by have := HM1.out; omega
    have e2 : (m2 : Int) = 4 * (N : Int) := by have := HM2.out; omega
    have e3 : (m3 : Int) = 4 * (N : Int) := by have := HM3.out; have := HM1.out; omega
    have hr4 : m4 = ringN cl N := by rw [HM4.out]; unfold fourF; rw [ringL_len _ _ _ _ (by rw [HXL.out]; omega), HXL.out]; rfl
    have hr5 : m5 = ringN cl N := by rw [HM5.out, cubF_len _ _ _ (by rw [HXL.out]; omega), HXL.out]
    have e4 : (m4 : Int) = 2 * (N : Int) - u := by rw [hr4]; exact rN
    have e5 : (m5 : Int) = 2 * (N : Int) - u := by rw [hr5]; exact rN
    have HR4 := Lib.hid hr4
    have HR5 := Lib.hid hr5
    clear hu rN hr4 hr5
    go_wp2_with fail
    refine (r8If (!cl) _).mono ?_
    rintro e v8 ⟨rfl, rfl⟩
    rw [← HU.out]
    go_wp2_with fail
    refine (r8If (!cl) _).mono ?_
    rintro e v9 ⟨rfl, rfl⟩
    rw [← HU.out]
    go_wp2_with fail
    have HPY := Lib.hid (cut_PL (closed := cl) HP1.out (by decide) HQ.out hj0 hj8 (by decide) (by rw [HL1.out]; have := HM1.out; omega))
    have HLY := Lib.hid (show (cutF (cutF xs cl sB) cl sB).length = m2 by rw [cutF_len _ _ _ (by rw [HL1.out]; have := HM1.out; omega), HL1.out]; have := HM1.out; have := HM2.out; omega)
    have e6 : (m3 : Int) = (m2 : Int) := by omega
    have e7 : (m2 : Int) ≤ 28 := by omega
    clear e2 e3
    go_loopw [20] (fun i wr => ∃ k q : Nat, k ≤ m2 ∧ i = .int .i64 k ∧ wr = v9.drewN q) (fun i _ => m2 - (intOf i).toNat)
    case atStart => exact ⟨0, 0, Nat.zero_le _, rfl, rfl⟩
    case round =>
      obtain ⟨k, q, hk, rfl, rfl⟩ := hrel
      by_cases hlt : k < m2
      · have k0 : (0 : Int) ≤ (k : Int) := by omega
        have k1 : (k : Int) < (m2 : Int) := by omega
        have hc2 : v9.cell? ⟨b2, k, none⟩ = some (cV (cAt (cutF (cutF xs cl sB) cl sB) k)) := HO2.out.2 k (by rw [HLY.out]; exact hlt)
        have hc3 : v9.cell? ⟨b3, k, none⟩ = some (cV (cAt (cutF (cutF xs cl sB) cl sB) k)) := HO3.out.2 k (by rw [HLY.out]; exact hlt)
        have hnan := (HPY.out.pt k (by rw [HLY.out]; exact hlt)).1.nan
        unfold cV at hc2 hc3
        go_wp2_with fail
        go_quiet ((go_at_call 21; refine quiet_of3 (fun w => sameComplexI _ _ hnan.1 hnan.2 w)))
        go_wp2_with fail
        exact ⟨⟨k + 1, _, by omega, by go_num, by first | rfl | simp only [World.drewN_drewN]⟩, by first | exact meas_downI k1 | (simp [intOf]; omega)⟩
      · have k1 : ¬ (k : Int) < (m2 : Int) := by omega
        obtain ⟨v10, hv⟩ : ∃ x : World, x = v9.drewN q := ⟨_, rfl⟩
        have hbl : Below v9.heap.size v9 v10 := by rw [hv]; exact below_dr (Below.refl _ _) _
        rw [← hv]
        clear hv
        replace HL := Lib.hid (HL.out.bel hbl)
        replace HO1 := Lib.hid (HO1.out.bel hbl)
        replace HO2 := Lib.hid (HO2.out.bel hbl)
        replace HO3 := Lib.hid (HO3.out.bel hbl)
        replace HO4 := Lib.hid (HO4.out.bel hbl)
        replace HO5 := Lib.hid (HO5.out.bel hbl)
        replace HC := Lib.hid (HC.out.far (Far.below hbl HB.out.size))
        replace HB := Lib.hid (HB.out.trans (hbl.mono HB.out.size))
        clear hbl
        skip
        go_wp2_with fail
        clear hk k1 hlt e6 e7
        go_loopw [21] (fun i wr => ∃ k q : Nat, k ≤ N ∧ i = .int .i64 k ∧ wr = v10.drewN q) (fun i _ => N - (intOf i).toNat)
        case atStart => exact ⟨0, 0, Nat.zero_le _, rfl, rfl⟩
        case round =>
          obtain ⟨k, q, hk, rfl, rfl⟩ := hrel
          by_cases hlt : k < N
          · have k0 : (0 : Int) ≤ (k : Int) := by omega
            have k1 : (k : Int) < (N : Int) := by omega
            obtain ⟨K, hK⟩ : ∃ K, K = 2 * k := ⟨_, rfl⟩
            have hKI : (2 : Int) * (k : Int) = (K : Int) := by omega
            have hK0 : (0 : Int) ≤ (K : Int) := by omega
            have hK1 : (K : Int) < (m4 : Int) := by omega
            have hK4 : K < (fourF xs cl 1031798784).length := by rw [← HM4.out]; omega
            have hKe : cAt (fourF xs cl 1031798784) K = cAt xs k := by rw [hK]; unfold fourF; rw [cAt_of (ringL_even _ _ _ _ k (by rw [HXL.out]; exact hlt))]
            have hc4 : v10.cell? ⟨b4, K, none⟩ = some (cV (cAt xs k)) := by rw [HO4.out.2 K hK4, hKe]
            have hcL : v10.cell? ⟨bL, k, none⟩ = some (cV (cAt xs k)) := HL.out.2 k (by rw [HXL.out]; exact hlt)
            have hnan := (HPL.out.pt k (by rw [HXL.out]; exact hlt)).1.nan
            clear hK hK4 hKe e4
            unfold cV at hc4 hcL
            go_wp2_with fail
            go_quiet ((go_at_call 21; refine quiet_of3 (fun w => sameComplexI _ _ hnan.1 hnan.2 w)))
            go_wp2_with fail
            exact ⟨⟨k + 1, _, by omega, by go_num, by first | rfl | simp only [World.drewN_drewN]⟩, by first | exact meas_downI k1 | (simp [intOf]; omega)⟩
          · have k1 : ¬ (k : Int) < (N : Int) := by omega
            obtain ⟨v11, hv⟩ : ∃ x : World, x = v10.drewN q := ⟨_, rfl⟩
            have hbl : Below v10.heap.size v10 v11 := by rw [hv]; exact below_dr (Below.refl _ _) _
            rw [← hv]
            clear hv
            replace HL := Lib.hid (HL.out.bel hbl)
            replace HO1 := Lib.hid (HO1.out.bel hbl)
            replace HO2 := Lib.hid (HO2.out.bel hbl)
            replace HO3 := Lib.hid (HO3.out.bel hbl)
            replace HO4 := Lib.hid (HO4.out.bel hbl)
            replace HO5 := Lib.hid (HO5.out.bel hbl)
            replace HC := Lib.hid (HC.out.far (Far.below hbl HB.out.size))
            replace HB := Lib.hid (HB.out.trans (hbl.mono HB.out.size))
            clear hbl
            skip
            have HCC := Lib.hid (roughOf bL v11.heap.size (some ⟨bL, 0, none⟩) capL N cl HPL.out (by decide) HXL.out hN2 (by omega) (by decide) v11 (HL.out.sl (Nat.le_refl _) HL.out.1.lt))
            go_wp2_with fail
            refine HCC.out.mono ?_
            rintro e v12 ⟨⟨bf, rfl, hbf⟩, q12, rfl⟩
            have HBF := Lib.hid hbf
            clear HCC hbf
            obtain ⟨v12, hv⟩ : ∃ x : World, x = v11.drewN q12 := ⟨_, rfl⟩
            have hbl : Below v11.heap.size v11 v12 := by rw [hv]; exact below_dr (Below.refl _ _) _
            rw [← hv]
            clear hv
            replace HL := Lib.hid (HL.out.bel hbl)
            replace HO1 := Lib.hid (HO1.out.bel hbl)
            replace HO2 := Lib.hid (HO2.out.bel hbl)
            replace HO3 := Lib.hid (HO3.out.bel hbl)
            replace HO4 := Lib.hid (HO4.out.bel hbl)
            replace HO5 := Lib.hid (HO5.out.bel hbl)
            replace HC := Lib.hid (HC.out.far (Far.below hbl HB.out.size))
            replace HB := Lib.hid (HB.out.trans (hbl.mono HB.out.size))
            clear hbl
            have HP5 := Lib.hid (cub_PL (closed := cl) (sh := none) HPL.out (by decide) (by decide) (by rw [HXL.out]; omega))
            have HL5 := Lib.hid HM5.out.symm
            have hm5 : m5 = ringN cl N := HR5.out
            have hrn : 2 ≤ ringN cl N ∧ ringN cl N ≤ 128 := by unfold ringN; split <;> omega
            have HCC := Lib.hid (roughOf b5 v12.heap.size (some ⟨b5, 0, none⟩) c5 m5 cl HP5.out (by decide) HL5.out (by omega) (by omega) (by decide) v12 (HO5.out.sl (Nat.le_refl _) HO5.out.1.lt))
            clear hm5 hrn
            go_wp2_with fail
            refine HCC.out.mono ?_
            rintro e v13 ⟨⟨af, rfl, haf⟩, q13, rfl⟩
            have HAF := Lib.hid haf
            clear HCC haf
            obtain ⟨v13, hv⟩ : ∃ x : World, x = v12.drewN q13 := ⟨_, rfl⟩
            have hbl : Below v12.heap.size v12 v13 := by rw [hv]; exact below_dr (Below.refl _ _) _
            rw [← hv]
            clear hv
            replace HL := Lib.hid (HL.out.bel hbl)
            replace HO1 := Lib.hid (HO1.out.bel hbl)
            replace HO2 := Lib.hid (HO2.out.bel hbl)
            replace HO3 := Lib.hid (HO3.out.bel hbl)
            replace HO4 := Lib.hid (HO4.out.bel hbl)
            replace HO5 := Lib.hid (HO5.out.bel hbl)
            replace HC := Lib.hid (HC.out.far (Far.below hbl HB.out.size))
            replace HB := Lib.hid (HB.out.trans (hbl.mono HB.out.size))
            clear hbl
            go_wp2_with fail
            refine (r8At _ a2 n2 ca2 43 N hn2 (by decide) (by omega) (by omega) v13 HC.out).mono ?_
            rintro e v14 ⟨⟨at_, rfl, hat⟩, rfl⟩
            have at0 : (0 : Int) ≤ (at_ : Int) := by omega
            have at1 : (at_ : Int) < (N : Int) := by omega
            obtain ⟨K, hK⟩ : ∃ K, K = 2 * at_ := ⟨_, rfl⟩
            have hKI : (2 : Int) * (at_ : Int) = (K : Int) := by omega
            have hK0 : (0 : Int) ≤ (K : Int) := by omega
            have HK := Lib.hid hK
            have hK14 : (K : Int) ≤ 14 := by omega
            clear hK
            have HCC := Lib.hid (show Calls Try.prog 23 #[.slice (some ⟨bL, 0, none⟩) N capL, .bool cl, .int .i64 at_] v14 (fun y w' => y = .returned (.tuple #[cV (limF xs cl at_), .bool true]) ∧ ∃ q, w' = v14.drewN q) by
              cases cl
              · exact limitPointOpen bL v14.heap.size (some ⟨bL, 0, none⟩) capL N at_ HPL.out (by decide) HXL.out hN2 (by omega) (by decide) hat v14 (HL.out.sl (Nat.le_refl _) HL.out.1.lt)
              · exact limitPointClosed bL v14.heap.size (some ⟨bL, 0, none⟩) capL N at_ HPL.out (by decide) HXL.out hN2 (by omega) (by decide) hat v14 (HL.out.sl (Nat.le_refl _) HL.out.1.lt))
            go_wp2_with fail
            refine HCC.out.mono ?_
            rintro e v15 ⟨rfl, q15, rfl⟩
            clear HCC
            obtain ⟨v15, hv⟩ : ∃ x : World, x = v14.drewN q15 := ⟨_, rfl⟩
            have hbl : Below v14.heap.size v14 v15 := by rw [hv]; exact below_dr (Below.refl _ _) _
            rw [← hv]
            clear hv
            replace HL := Lib.hid (HL.out.bel hbl)
            replace HO1 := Lib.hid (HO1.out.bel hbl)
            replace HO2 := Lib.hid (HO2.out.bel hbl)
            replace HO3 := Lib.hid (HO3.out.bel hbl)
            replace HO4 := Lib.hid (HO4.out.bel hbl)
            replace HO5 := Lib.hid (HO5.out.bel hbl)
            replace HC := Lib.hid (HC.out.far (Far.below hbl HB.out.size))
            replace HB := Lib.hid (HB.out.trans (hbl.mono HB.out.size))
            clear hbl
            have HCC := Lib.hid (show Calls Try.prog 23 #[.slice (some ⟨b5, 0, none⟩) m5 c5, .bool cl, .int .i64 K] v15 (fun y w' => y = .returned (.tuple #[cV (limF (cubF xs cl none) cl K), .bool true]) ∧ ∃ q, w' = v15.drewN q) by
              have hm5 : m5 = ringN cl N := HR5.out
              have hk := HK.out
              cases cl
              · have hrn : ringN false N = 2 * N - 1 := rfl
                exact limitPointOpen b5 v15.heap.size (some ⟨b5, 0, none⟩) c5 m5 K HP5.out (by decide) HL5.out (by omega) (by omega) (by decide) (by omega) v15 (HO5.out.sl (Nat.le_refl _) HO5.out.1.lt)
              · have hrn : ringN true N = 2 * N := rfl
                exact limitPointClosed b5 v15.heap.size (some ⟨b5, 0, none⟩) c5 m5 K HP5.out (by decide) HL5.out (by omega) (by omega) (by decide) (by omega) v15 (HO5.out.sl (Nat.le_refl _) HO5.out.1.lt))
            go_wp2_with fail
            refine HCC.out.mono ?_
            rintro e v16 ⟨rfl, q16, rfl⟩
            clear HCC
            obtain ⟨v16, hv⟩ : ∃ x : World, x = v15.drewN q16 := ⟨_, rfl⟩
            have hbl : Below v15.heap.size v15 v16 := by rw [hv]; exact below_dr (Below.refl _ _) _
            rw [← hv]
            clear hv
            replace HL := Lib.hid (HL.out.bel hbl)
            replace HO1 := Lib.hid (HO1.out.bel hbl)
            replace HO2 := Lib.hid (HO2.out.bel hbl)
            replace HO3 := Lib.hid (HO3.out.bel hbl)
            replace HO4 := Lib.hid (HO4.out.bel hbl)
            replace HO5 := Lib.hid (HO5.out.bel hbl)
            replace HC := Lib.hid (HC.out.far (Far.below hbl HB.out.size))
            replace HB := Lib.hid (HB.out.trans (hbl.mono HB.out.size))
            clear hbl
            have HCC := Lib.hid (show Calls Try.prog 24 #[.slice (some ⟨bL, 0, none⟩) N capL, .bool cl, .int .i64 at_] v16 (fun y w' => y = .returned (.tuple #[cV (slopeF xs cl at_), .bool true]) ∧ ∃ q, w' = v16.drewN q) by
              cases cl
              · exact limitSlopeOpen bL v16.heap.size (some ⟨bL, 0, none⟩) capL N at_ HPL.out (by decide) HXL.out hN2 (by omega) (by decide) hat v16 (HL.out.sl (Nat.le_refl _) HL.out.1.lt)
              · exact limitSlopeClosed bL v16.heap.size (some ⟨bL, 0, none⟩) capL N at_ HPL.out (by decide) HXL.out hN2 (by omega) (by decide) hat v16 (HL.out.sl (Nat.le_refl _) HL.out.1.lt))
            go_wp2_with fail
            refine HCC.out.mono ?_
            rintro e v17 ⟨rfl, q17, rfl⟩
            clear HCC
            obtain ⟨v17, hv⟩ : ∃ x : World, x = v16.drewN q17 := ⟨_, rfl⟩
            have hbl : Below v16.heap.size v16 v17 := by rw [hv]; exact below_dr (Below.refl _ _) _
            rw [← hv]
            clear hv
            replace HL := Lib.hid (HL.out.bel hbl)
            replace HO1 := Lib.hid (HO1.out.bel hbl)
            replace HO2 := Lib.hid (HO2.out.bel hbl)
            replace HO3 := Lib.hid (HO3.out.bel hbl)
            replace HO4 := Lib.hid (HO4.out.bel hbl)
            replace HO5 := Lib.hid (HO5.out.bel hbl)
            replace HC := Lib.hid (HC.out.far (Far.below hbl HB.out.size))
            replace HB := Lib.hid (HB.out.trans (hbl.mono HB.out.size))
            clear hbl
            have hle := rough_less (closed := cl) HPL.out HXL.out hN2 HM5.out HBF.out HAF.out
            obtain ⟨ns, os⟩ := milli_more HBF.out.num HAF.out.num (MaxTo.bound HPL.out (by decide) (by decide) (by rw [HXL.out]; exact Nat.le_refl _) HBF.out) HAF.out.ge hle
            obtain ⟨ma, da⟩ := run_wid64 (isN.nan HAF.out.num)
            obtain ⟨mb, db⟩ := run_wid64 (isN.nan HBF.out.num)
            obtain ⟨mc, dc⟩ := run_fopN ns
            obtain ⟨ps, hps, hls⟩ := slope_px (closed := cl) HPL.out (by decide) (by decide) (show at_ < xs.length by rw [HXL.out]; exact hat)
            have hpm := hps.minus (zero_px 3 (by decide)) (hls.mono (by decide)) ⟨Nat.zero_le _, Nat.zero_le _⟩
            rw [subZ_zero] at hpm
            have HPM := Lib.hid hpm
            have HLS := Lib.hid hls
            have osl := slope_near hpm hls
            clear hle ns hps hls hpm
            go_wp2_with fail
            refine (r8Far HPM.out (HLS.out.mono (by decide)) (by decide) _).mono ?_
            rintro e v18 ⟨rfl, rfl⟩
            clear os mc dc ma da mb db
            go_upto_region 33 with fail
            go_cut [33] from 255 to 265 (fun u33 wx => ∃ b : Bool, u33 = .bool b ∧ Hid (b = true → both cl N at_) ∧ wx = v18)
            case first => as_aux_lemma =>
              cases cl
              · by_cases h1 : 1 < at_
                · have h1' : (1 : Int) < (at_ : Int) := by omega
                  by_cases h2 : at_ + 2 < N
                  · have h2' : (at_ : Int) + 2 < (N : Int) := by omega
                    go_wp2_with fail
                    go_meet
                    exact ⟨true, rfl, Lib.hid (fun _ => .inr ⟨by omega, by omega⟩), rfl⟩
                  · have h2' : ¬ (at_ : Int) + 2 < (N : Int) := by omega
                    go_wp2_with fail
                    go_meet
                    exact ⟨false, rfl, Lib.hid (fun h => by cases h), rfl⟩
                · have h1' : ¬ (1 : Int) < (at_ : Int) := by omega
                  go_wp2_with fail
                  go_meet
                  exact ⟨false, rfl, Lib.hid (fun h => by cases h), rfl⟩
              · go_wp2_with fail
                go_meet
                exact ⟨true, rfl, Lib.hid (fun _ => .inl rfl), rfl⟩
            case rest => as_aux_lemma =>
              obtain ⟨inn, rfl, HIN, rfl⟩ := hcut
              clear osl
              go_upto_region 34 with fail
              go_cut [272] from 266 to 272 (fun u wx => u = .bool false ∧ wx = wc)
              case first =>
                cases inn
                · go_wp2_with fail
                  go_meet
                  exact ⟨rfl, rfl⟩
                · obtain ⟨l1, l2, l3, l4⟩ := lim_stay HPL.out HXL.out hN2 hat (HIN.out rfl)
                  have hz : PX (minusF (limF xs cl at_) (limF (cubF xs cl none) cl K)) (0, 0) 2 := by
                    have hrn : 2 * N - 1 ≤ ringN cl N := by unfold ringN; split <;> omega
                    obtain ⟨p1, lo1⟩ := lim_px HPL.out (by decide) (by decide) (show at_ < xs.length by rw [HXL.out]; exact hat)
                    obtain ⟨p2, lo2⟩ := lim_px HP5.out (by decide) (by decide) (show 2 * at_ < (cubF xs cl none).length by rw [← HM5.out, HR5.out]; omega)
                    rw [HK.out, l1, l2]
                    exact minus_same (limD_N p1 (lo1.mono (by decide))) (limD_N p2 (lo2.mono (by decide))) l3 l4
                  obtain ⟨z1, z2⟩ := far_zero hz (by decide)
                  obtain ⟨y1, y2⟩ := wide_zero z1 z2
                  have og := not_gt y1 centi.1 (by rw [y2]; exact centi.2)
                  have HZ := Lib.hid hz
                  clear l1 l2 l3 l4 hz z1 z2 y1 y2
                  go_wp2_with fail
                  refine (r8Far HZ.out ⟨Nat.zero_le _, Nat.zero_le _⟩ (by decide) _).mono ?_
                  rintro e v19 ⟨rfl, rfl⟩
                  go_wp2_with fail
                  go_meet
                  exact ⟨rfl, rfl⟩
              case rest => as_aux_lemma =>
                obtain ⟨rfl, rfl⟩ := hcut
                clear HO1 HO2 HO3 HO4 HO5 HP1 HL1 HPY HLY HAF HBF HPM HLS HIN
                have HLP := Lib.hid (fun (h : True) => HPL.out.pt 0 (by rw [HXL.out]; omega))
                have bLt := HL.out.1.lt
                have bLn : ¬ bL = wc.heap.size := by omega
                go_wp2_with fail
                go_loopw [34, 35] (fun o i wr => ∃ (k b cap : Nat), k ≤ N ∧ o = .slice (some ⟨b, 0, none⟩) k cap ∧ i = .int .i64 k ∧ Hid (ORow wr 26 1 b cap k ((lineL xs k).map cV)) ∧ wc.heap.size ≤ b ∧ Hid (Below wc.heap.size wc wr)) (fun _ i _ => N - (intOf i).toNat)
                case atStart => exact ⟨0, wc.heap.size, 0, Nat.zero_le _, rfl, rfl, Lib.hid (ORow.new _ _ _), Nat.le_refl _, Lib.hid (Below.alloc (Below.refl _ _) (Nat.le_refl _) _)⟩
                case round =>
                  obtain ⟨k, b, cap, hk, rfl, rfl, HR, hb, HBL⟩ := hrel
                  by_cases hlt : k < N
                  · have k0 : (0 : Int) ≤ (k : Int) := by omega
                    have k1 : (k : Int) < (N : Int) := by omega
                    have hcL : wr.cell? ⟨bL, 0, none⟩ = some (cV (cAt xs 0)) := (HBL.out.cell (p := ⟨bL, 0, none⟩) bLt).trans (HL.out.2 0 (by rw [HXL.out]; omega))
                    have hzw := HBL.out.size
                    have bLr : bL < wr.heap.size := by omega
                    have bLm : ¬ bL = wr.heap.size := by omega
                    have hps := lineS_px (i := k) (by omega)
                    obtain ⟨p0, l0⟩ := HLP.out trivial
                    have hpp := p0.plus hps (l0.mono (by decide)) ⟨by show (4 * (k : Int)).natAbs ≤ _; omega, by show (2 * (k : Int)).natAbs ≤ _; omega⟩
                    obtain ⟨mq, dq⟩ := run_fopN (op := .quo) (x := floatOfInt .f32 (k : Int)) (y := 1073741824) hps.2.num
                    have hadd : ∀ w, Sem.run Try.prog (binOp BinOp.add 26 (cV (cAt xs 0)) (cV (lineS k))) w = .ok (cV (plusF (cAt xs 0) (lineS k))) w := fun w => addC_run hpp w
                    unfold cV lineS at hadd
                    unfold cV at hcL
                    have hbl := HR.out.lt
                    clear hps p0 l0 hpp
                    go_wp2_with (first | (at_builtin; refine wpList_appC rfl _ _ rfl _ _ [lineF xs k] rfl (by simp) (by simp) _ _ _ _ _ _ _ _ rfl rfl rfl (by first | rfl | simp) HR.out (by omega) ?_; intro b6 cap6 w6 hr6 hbb6 hgr6; have HR6 := Lib.hid hr6; have HB6 := Lib.hid hbb6; have HG6 := Lib.hid hgr6; clear hr6 hbb6 hgr6))
                    have hb6 := HB6.out
                    exact ⟨⟨k + 1, b6, cap6, by omega, rfl, by go_num, Lib.hid (by rw [lineL_succ]; exact HR6.out), by omega, Lib.hid (HBL.out.trans (HG6.out.below (B := wc.heap.size) hb hzw))⟩, by first | exact meas_downI k1 | (simp [intOf]; omega)⟩
                  · have k1 : ¬ (k : Int) < (N : Int) := by omega
                    have hkN : N = k := by omega
                    subst hkN
                    have hbl := HBL.out
                    have HLL := Lib.hid (OwnC1.row HR.out (lineL_len xs N).symm)
                    obtain ⟨v21, hv⟩ : ∃ x : World, x = wr := ⟨_, rfl⟩
                    subst hv
                    clear HR HBL bLn
                    replace HL := Lib.hid (HL.out.bel hbl)
                    replace HC := Lib.hid (HC.out.far (Far.below hbl HB.out.size))
                    replace HB := Lib.hid (HB.out.trans (hbl.mono HB.out.size))
                    clear hbl
                    skip
                    have HPS := Lib.hid (line_PL (n := N) (HLP.out trivial).1 (HLP.out trivial).2 hN7)
                    have HLN := Lib.hid (lineL_len xs N)
                    have HKN := Lib.hid (show (lineZ (zAt ks 0) N).length = N by simp [lineZ])
                    have HCC := Lib.hid (cutTimes b v21.heap.size (some ⟨b, 0, none⟩) cap sB N 2 false HPS.out.1 (by decide) (by decide) HLN.out hN2 (by omega) HQ.out hj0 hj8 (by decide) v21 (HLL.out.sl (Nat.le_refl _) HLL.out.1.lt) (Nat.le_refl _))
                    clear k1 hlt hk
                    go_wp2_with fail
                    refine HCC.out.mono ?_
                    rintro e v22 ⟨⟨b6, c6, m6, rfl, hm6, hb6, ho6⟩, hbl⟩
                    have HO6 := Lib.hid ho6
                    have HM6 := Lib.hid (show m6 = 4 * N from hm6)
                    clear HCC ho6 hb6 hm6
                    replace HL := Lib.hid (HL.out.bel hbl)
                    replace HLL := Lib.hid (HLL.out.bel hbl)
                    replace HC := Lib.hid (HC.out.far (Far.below hbl HB.out.size))
                    replace HB := Lib.hid (HB.out.trans (hbl.mono HB.out.size))
                    clear hbl
                    have HCC := Lib.hid (cubicOnce b v22.heap.size (some ⟨b, 0, none⟩) cap N 0 0 none 0 0 none false HPS.out.1 (by decide) HLN.out hN2 (by omega) (by decide) v22 (HLL.out.sl (Nat.le_refl _) HLL.out.1.lt) (Nat.le_refl _) (.inl ⟨rfl, rfl⟩) (Nat.zero_le _))
                    go_wp2_with fail
                    refine HCC.out.mono ?_
                    rintro e v23 ⟨⟨b7, c7, m7, rfl, hm7, hb7, ho7⟩, hbl⟩
                    have HO7 := Lib.hid ho7
                    have HM7 := Lib.hid hm7
                    clear HCC ho7 hb7 hm7
                    replace HL := Lib.hid (HL.out.bel hbl)
                    replace HLL := Lib.hid (HLL.out.bel hbl)
                    replace HO6 := Lib.hid (HO6.out.bel hbl)
                    replace HC := Lib.hid (HC.out.far (Far.below hbl HB.out.size))
                    replace HB := Lib.hid (HB.out.trans (hbl.mono HB.out.size))
                    clear hbl
                    have hcs := cuts_PL (closed := false) HPS.out.1 HQ.out hj0 hj8 (by decide) (by rw [HLN.out]; exact hN2) 2 (by decide) (by decide)
                    have HP6 := Lib.hid (show PL (cutsF (lineL xs N) false sB 2) (cutsZ (lineZ (zAt ks 0) N) false (js : Int) 2) 10 11264 from hcs.1)
                    have HL6 := Lib.hid (show (cutsF (lineL xs N) false sB 2).length = m6 by rw [hcs.2, HLN.out, HM6.out])
                    have HI6 := Lib.hid (cuts_lin (closed := false) (j := (js : Int)) (by rw [HKN.out]; omega) HPS.out.2)
                    have HP7 := Lib.hid (show PL (cubF (lineL xs N) false none) (cubZ (lineZ (zAt ks 0) N) false none) 5 352 from cub_PL (closed := false) (sh := none) HPS.out.1 (by decide) (by decide) (by rw [HLN.out]; omega))
                    have HL7 := Lib.hid HM7.out.symm
                    have HI7 := Lib.hid (cub_lin (closed := false) (sh := none) (by rw [HKN.out]; omega) HPS.out.2)
                    have m6b : (m6 : Int) ≤ 28 := by have := HM6.out; omega
                    have m7b : (m7 : Int) ≤ 14 := by have h1 := HM7.out; rw [cubF_len _ _ _ (by rw [HLN.out]; omega), HLN.out] at h1; unfold ringN at h1; simp at h1; omega
                    clear hcs
                    go_wp2_with fail
                    go_loopw [40] (fun i wr => ∃ k q : Nat, k ≤ m6 ∧ i = .int .i64 k ∧ wr = v23.drewN q) (fun i _ => m6 - (intOf i).toNat)
                    case atStart => exact ⟨0, 0, Nat.zero_le _, rfl, rfl⟩
                    case round =>
                      obtain ⟨k, q, hk, rfl, rfl⟩ := hrel
                      by_cases hlt : k < m6
                      · have k0 : (0 : Int) ≤ (k : Int) := by omega
                        have k1 : (k : Int) < (m6 : Int) := by omega
                        have hcS : v23.cell? ⟨b6, k, none⟩ = some (cV (cAt (cutsF (lineL xs N) false sB 2) k)) := HO6.out.2 k (by rw [HL6.out]; exact hlt)
                        have hcL : v23.cell? ⟨bL, 0, none⟩ = some (cV (cAt xs 0)) := HL.out.2 0 (by rw [HXL.out]; omega)
                        obtain ⟨ps, ls⟩ := HP6.out.pt k (by rw [HL6.out]; exact hlt)
                        obtain ⟨p0, l0⟩ := HPL.out.pt 0 (by rw [HXL.out]; omega)
                        have ln := HI6.out k (by rw [HP6.out.len, HL6.out]; exact hlt)
                        obtain ⟨zk, hzk⟩ : ∃ z, z = zAt (cutsZ (lineZ (zAt ks 0) N) false (js : Int) 2) k := ⟨_, rfl⟩
                        rw [← hzk] at ps ls ln
                        obtain ⟨z0, hz0⟩ : ∃ z, z = zAt ks 0 := ⟨_, rfl⟩
                        rw [← hz0] at p0 l0 ln
                        clear hzk hz0
                        have s0 := p0.shift 8 (by decide)
                        have lz := l0.mul (j := 2 ^ 8) (c := 2 ^ 8) (C := 65536) (by decide) (by decide)
                        have pd := ps.minus s0 (ls.mono (by decide)) (lz.mono (by decide))
                        have ld : low (subZ (zk) (mulZ z0 (2 ^ 8))) 65536 := by
                          have a := ls.1; have b := ls.2
                          have c := (l0.mul (j := 2 ^ 8) (c := 2 ^ 8) (C := 16 * 2 ^ 8) (by decide) (by decide)).1
                          have f := (l0.mul (j := 2 ^ 8) (c := 2 ^ 8) (C := 16 * 2 ^ 8) (by decide) (by decide)).2
                          exact ⟨by show (_ - _ : Int).natAbs ≤ _; omega, by show (_ - _ : Int).natAbs ≤ _; omega⟩
                        have hd : 2 * (subZ (zk) (mulZ z0 (2 ^ 8))).2 = (subZ (zk) (mulZ z0 (2 ^ 8))).1 := by
                          unfold onL at ln
                          have e1 : (subZ (zk) (mulZ z0 (2 ^ 8))).2 = zk.2 - z0.2 * 2 ^ 8 := rfl
                          have e2 : (subZ (zk) (mulZ z0 (2 ^ 8))).1 = zk.1 - z0.1 * 2 ^ 8 := rfl
                          rw [e1, e2]
                          simp only [mulZ] at ln
                          omega
                        obtain ⟨g1, g2, g3⟩ := half_same pd ld (by decide) hd
                        obtain ⟨ma, da⟩ := run_wid64 pd.nan.1
                        obtain ⟨mb, db⟩ := run_wid64 pd.nan.2
                        obtain ⟨mc, dc⟩ := run_fopN g2
                        have hsub : ∀ w, Sem.run Try.prog (binOp BinOp.sub 26 (cV (cAt (cutsF (lineL xs N) false sB 2) k)) (cV (cAt xs 0))) w = .ok (cV (minusF (cAt (cutsF (lineL xs N) false sB 2) k) (cAt xs 0))) w := fun w => subC_run pd w
                        have G1 := Lib.hid g1
                        have G2 := Lib.hid g2
                        have G3 := Lib.hid g3
                        unfold cV at hcS hcL hsub
                        clear ps ls p0 l0 ln s0 lz pd ld hd g1 g2 g3
                        go_wp2_with fail
                        go_quiet (fail)
                        go_wp2_with fail
                        refine (r8GapR G1.out G2.out G3.out _).mono ?_
                        rintro e v ⟨⟨rr, rfl, hrn, hr0⟩, rfl⟩
                        have og := not_gt hrn milli64.1 (by rw [hr0]; exact milli64.2.1)
                        clear ma da mb db mc dc hsub hrn hr0
                        go_wp2_with fail
                        exact ⟨⟨k + 1, _, by omega, by go_num, by first | rfl | simp only [World.drewN_drewN]⟩, by first | exact meas_downI k1 | (simp [intOf]; omega)⟩
                      · have k1 : ¬ (k : Int) < (m6 : Int) := by omega
                        obtain ⟨v24, hv⟩ : ∃ x : World, x = v23.drewN q := ⟨_, rfl⟩
                        have hbl : Below v23.heap.size v23 v24 := by rw [hv]; exact below_dr (Below.refl _ _) _
                        rw [← hv]
                        clear hv
                        replace HL := Lib.hid (HL.out.bel hbl)
                        replace HLL := Lib.hid (HLL.out.bel hbl)
                        replace HO6 := Lib.hid (HO6.out.bel hbl)
                        replace HO7 := Lib.hid (HO7.out.bel hbl)
                        replace HC := Lib.hid (HC.out.far (Far.below hbl HB.out.size))
                        replace HB := Lib.hid (HB.out.trans (hbl.mono HB.out.size))
                        clear hbl
                        skip
                        go_wp2_with fail
                        clear hk k1 hlt
                        go_loopw [42] (fun i wr => ∃ k q : Nat, k ≤ m7 ∧ i = .int .i64 k ∧ wr = v24.drewN q) (fun i _ => m7 - (intOf i).toNat)
                        case atStart => exact ⟨0, 0, Nat.zero_le _, rfl, rfl⟩
                        case round =>
                          obtain ⟨k, q, hk, rfl, rfl⟩ := hrel
                          by_cases hlt : k < m7
                          · have k0 : (0 : Int) ≤ (k : Int) := by omega
                            have k1 : (k : Int) < (m7 : Int) := by omega
                            have hcS : v24.cell? ⟨b7, k, none⟩ = some (cV (cAt (cubF (lineL xs N) false none) k)) := HO7.out.2 k (by rw [HL7.out]; exact hlt)
                            have hcL : v24.cell? ⟨bL, 0, none⟩ = some (cV (cAt xs 0)) := HL.out.2 0 (by rw [HXL.out]; omega)
                            obtain ⟨ps, ls⟩ := HP7.out.pt k (by rw [HL7.out]; exact hlt)
                            obtain ⟨p0, l0⟩ := HPL.out.pt 0 (by rw [HXL.out]; omega)
                            have ln := HI7.out k (by rw [HP7.out.len, HL7.out]; exact hlt)
                            obtain ⟨zk, hzk⟩ : ∃ z, z = zAt (cubZ (lineZ (zAt ks 0) N) false none) k := ⟨_, rfl⟩
                            rw [← hzk] at ps ls ln
                            obtain ⟨z0, hz0⟩ : ∃ z, z = zAt ks 0 := ⟨_, rfl⟩
                            rw [← hz0] at p0 l0 ln
                            clear hzk hz0
                            have s0 := p0.shift 3 (by decide)
                            have lz := l0.mul (j := 2 ^ 3) (c := 2 ^ 3) (C := 65536) (by decide) (by decide)
                            have pd := ps.minus s0 (ls.mono (by decide)) (lz.mono (by decide))
                            have ld : low (subZ (zk) (mulZ z0 (2 ^ 3))) 65536 := by
                              have a := ls.1; have b := ls.2
                              have c := (l0.mul (j := 2 ^ 3) (c := 2 ^ 3) (C := 16 * 2 ^ 3) (by decide) (by decide)).1
                              have f := (l0.mul (j := 2 ^ 3) (c := 2 ^ 3) (C := 16 * 2 ^ 3) (by decide) (by decide)).2
                              exact ⟨by show (_ - _ : Int).natAbs ≤ _; omega, by show (_ - _ : Int).natAbs ≤ _; omega⟩
                            have hd : 2 * (subZ (zk) (mulZ z0 (2 ^ 3))).2 = (subZ (zk) (mulZ z0 (2 ^ 3))).1 := by
                              unfold onL at ln
                              have e1 : (subZ (zk) (mulZ z0 (2 ^ 3))).2 = zk.2 - z0.2 * 2 ^ 3 := rfl
                              have e2 : (subZ (zk) (mulZ z0 (2 ^ 3))).1 = zk.1 - z0.1 * 2 ^ 3 := rfl
                              rw [e1, e2]
                              simp only [mulZ] at ln
                              omega
                            obtain ⟨g1, g2, g3⟩ := half_same pd ld (by decide) hd
                            obtain ⟨ma, da⟩ := run_wid64 pd.nan.1
                            obtain ⟨mb, db⟩ := run_wid64 pd.nan.2
                            obtain ⟨mc, dc⟩ := run_fopN g2
                            have hsub : ∀ w, Sem.run Try.prog (binOp BinOp.sub 26 (cV (cAt (cubF (lineL xs N) false none) k)) (cV (cAt xs 0))) w = .ok (cV (minusF (cAt (cubF (lineL xs N) false none) k) (cAt xs 0))) w := fun w => subC_run pd w
                            have G1 := Lib.hid g1
                            have G2 := Lib.hid g2
                            have G3 := Lib.hid g3
                            unfold cV at hcS hcL hsub
                            clear ps ls p0 l0 ln s0 lz pd ld hd g1 g2 g3
                            go_wp2_with fail
                            go_quiet (fail)
                            go_wp2_with fail
                            refine (r8GapR G1.out G2.out G3.out _).mono ?_
                            rintro e v ⟨⟨rr, rfl, hrn, hr0⟩, rfl⟩
                            have og := not_gt hrn milli64.1 (by rw [hr0]; exact milli64.2.1)
                            clear ma da mb db mc dc hsub hrn hr0
                            go_wp2_with fail
                            exact ⟨⟨k + 1, _, by omega, by go_num, by first | rfl | simp only [World.drewN_drewN]⟩, by first | exact meas_downI k1 | (simp [intOf]; omega)⟩
                          · have k1 : ¬ (k : Int) < (m7 : Int) := by omega
                            obtain ⟨v25, hv⟩ : ∃ x : World, x = v24.drewN q := ⟨_, rfl⟩
                            have hbl : Below v24.heap.size v24 v25 := by rw [hv]; exact below_dr (Below.refl _ _) _
                            rw [← hv]
                            clear hv
                            replace HL := Lib.hid (HL.out.bel hbl)
                            replace HLL := Lib.hid (HLL.out.bel hbl)
                            replace HO6 := Lib.hid (HO6.out.bel hbl)
                            replace HO7 := Lib.hid (HO7.out.bel hbl)
                            replace HC := Lib.hid (HC.out.far (Far.below hbl HB.out.size))
                            replace HB := Lib.hid (HB.out.trans (hbl.mono HB.out.size))
                            clear hbl
                            skip
                            clear HLL HO6 HO7 HP6 HP7 HI6 HI7 HL6 HL7 m6b m7b HPS HLN HKN HM6 HM7
                            obtain ⟨P8, hP8⟩ : ∃ P, P = v25.heap.size := ⟨_, rfl⟩
                            obtain ⟨vA, hvA⟩ : ∃ x : World, x = v25.alloc (.cells #[.int .i64 (at_ : Int)] 2) := ⟨_, rfl⟩
                            have hbl : Below v25.heap.size v25 vA := by rw [hvA]; exact Below.alloc (Below.refl _ _) (Nat.le_refl _) _
                            have HSH := Lib.hid (show ShAt vA P8 (P8 + 1) N (some ⟨P8, 0, none⟩) 1 (some at_) from .inr ⟨at_, P8, rfl, hat, rfl, rfl, Nat.le_refl _, Nat.lt_succ_self _, by rw [hvA, hP8]; exact (OwnC.new (w := v25) (cs := #[.int .i64 (at_ : Int)]) (T := 2) rfl).cell 0⟩)
                            have HZA := Lib.hid (show P8 + 1 ≤ vA.heap.size by rw [hvA, hP8]; simp)
                            replace HL := Lib.hid (HL.out.bel hbl)
                            replace HC := Lib.hid (HC.out.far (Far.below hbl HB.out.size))
                            replace HB := Lib.hid (HB.out.trans (hbl.mono HB.out.size))
                            clear hbl
                            have HCC := Lib.hid (cubicOnce bL vA.heap.size (some ⟨bL, 0, none⟩) capL N P8 (P8 + 1) (some ⟨P8, 0, none⟩) 1 1 (some at_) cl HPL.out (by decide) HXL.out hN2 (by omega) (by decide) vA (HL.out.sl (Nat.le_refl _) HL.out.1.lt) (Nat.le_refl _) HSH.out HZA.out)
                            go_wp2_with fail
                            rw [← hP8, ← hvA]
                            clear hP8 hvA hk k1 hlt
                            refine HCC.out.mono ?_
                            rintro e v26 ⟨⟨b8, c8, m8, rfl, hm8, hb8, ho8⟩, hbl⟩
                            have HO8 := Lib.hid ho8
                            have HM8 := Lib.hid hm8
                            clear HCC ho8 hb8 hm8 HSH HZA
                            replace HL := Lib.hid (HL.out.bel hbl)
                            replace HC := Lib.hid (HC.out.far (Far.below hbl HB.out.size))
                            replace HB := Lib.hid (HB.out.trans (hbl.mono HB.out.size))
                            clear hbl
                            obtain ⟨P9, hP9⟩ : ∃ P, P = v26.heap.size := ⟨_, rfl⟩
                            obtain ⟨vB, hvA⟩ : ∃ x : World, x = (v26.alloc (.cells #[.float .f32 1065353216] 27)).alloc (.cells #[.float .f32 0, .float .f32 1056964608, .float .f32 1056964608] 27) := ⟨_, rfl⟩
                            have hbl : Below v26.heap.size v26 vB := by rw [hvA]; exact (Below.alloc (Below.refl _ _) (Nat.le_refl _) _).alloc (by simp) _
                            have HE9 := Lib.hid (show MkAt vB P9 (P9 + 2) (some ⟨P9, 0, none⟩) [1065353216] from mk_own (T := 27) (by rw [hvA, hP9]; exact (OwnC.new (cs := (([1065353216]).map (Value.float .f32)).toArray) rfl).alloc _) (Nat.le_refl _) (by omega))
                            have HE10 := Lib.hid (show MkAt vB P9 (P9 + 2) (some ⟨P9 + 1, 0, none⟩) M055 from mk_own (T := 27) (by rw [hvA, hP9]; exact OwnC.new (cs := ((M055).map (Value.float .f32)).toArray) (by simp)) (by omega) (by omega))
                            have HZA := Lib.hid (show P9 + 2 ≤ vB.heap.size by rw [hvA, hP9]; simp)
                            replace HL := Lib.hid (HL.out.bel hbl)
                            replace HO8 := Lib.hid (HO8.out.bel hbl)
                            replace HC := Lib.hid (HC.out.far (Far.below hbl HB.out.size))
                            replace HB := Lib.hid (HB.out.trans (hbl.mono HB.out.size))
                            clear hbl
                            have HCC := Lib.hid (maskOnce bL vB.heap.size (some ⟨bL, 0, none⟩) capL N P9 (P9 + 2) (some ⟨P9, 0, none⟩) (some ⟨P9 + 1, 0, none⟩) ([1065353216]).length (M055).length ([1065353216]).length (M055).length HPL.out (by decide) HXL.out hN2 (by omega) (by decide) mask1 mask055 rfl rfl vB (HL.out.sl (Nat.le_refl _) HL.out.1.lt) (Nat.le_refl _) HE9.out HE10.out HZA.out)
                            go_wp2_with fail
                            rw [← hP9, ← hvA]
                            clear hP9 hvA
                            refine HCC.out.mono ?_
                            rintro e v27 ⟨⟨b9, c9, m9, rfl, hmk, hbk, hok⟩, hbl⟩
                            have HO9 := Lib.hid hok
                            have HM9 := Lib.hid hmk
                            clear HCC hok hbk hmk HE9 HE10 HZA
                            replace HL := Lib.hid (HL.out.bel hbl)
                            replace HO8 := Lib.hid (HO8.out.bel hbl)
                            replace HC := Lib.hid (HC.out.far (Far.below hbl HB.out.size))
                            replace HB := Lib.hid (HB.out.trans (hbl.mono HB.out.size))
                            clear hbl
                            obtain ⟨P9, hP9⟩ : ∃ P, P = v27.heap.size := ⟨_, rfl⟩
                            obtain ⟨vC, hvA⟩ : ∃ x : World, x = (v27.alloc (.cells #[.float .f32 1040187392, .float .f32 1061158912, .float .f32 1040187392] 27)).alloc (.cells #[.float .f32 0, .float .f32 1056964608, .float .f32 1056964608] 27) := ⟨_, rfl⟩
                            have hbl : Below v27.heap.size v27 vC := by rw [hvA]; exact (Below.alloc (Below.refl _ _) (Nat.le_refl _) _).alloc (by simp) _
                            have HE9 := Lib.hid (show MkAt vC P9 (P9 + 2) (some ⟨P9, 0, none⟩) M161 from mk_own (T := 27) (by rw [hvA, hP9]; exact (OwnC.new (cs := ((M161).map (Value.float .f32)).toArray) rfl).alloc _) (Nat.le_refl _) (by omega))
                            have HE10 := Lib.hid (show MkAt vC P9 (P9 + 2) (some ⟨P9 + 1, 0, none⟩) M055 from mk_own (T := 27) (by rw [hvA, hP9]; exact OwnC.new (cs := ((M055).map (Value.float .f32)).toArray) (by simp)) (by omega) (by omega))
                            have HZA := Lib.hid (show P9 + 2 ≤ vC.heap.size by rw [hvA, hP9]; simp)
                            replace HL := Lib.hid (HL.out.bel hbl)
                            replace HO8 := Lib.hid (HO8.out.bel hbl)
                            replace HO9 := Lib.hid (HO9.out.bel hbl)
                            replace HC := Lib.hid (HC.out.far (Far.below hbl HB.out.size))
                            replace HB := Lib.hid (HB.out.trans (hbl.mono HB.out.size))
                            clear hbl
                            have HCC := Lib.hid (maskOnce bL vC.heap.size (some ⟨bL, 0, none⟩) capL N P9 (P9 + 2) (some ⟨P9, 0, none⟩) (some ⟨P9 + 1, 0, none⟩) (M161).length (M055).length (M161).length (M055).length HPL.out (by decide) HXL.out hN2 (by omega) (by decide) mask161 mask055 rfl rfl vC (HL.out.sl (Nat.le_refl _) HL.out.1.lt) (Nat.le_refl _) HE9.out HE10.out HZA.out)
                            go_wp2_with fail
                            rw [← hP9, ← hvA]
                            clear hP9 hvA
                            refine HCC.out.mono ?_
                            rintro e v28 ⟨⟨b10, c10, m10, rfl, hmk, hbk, hok⟩, hbl⟩
                            have HO10 := Lib.hid hok
                            have HM10 := Lib.hid hmk
                            clear HCC hok hbk hmk HE9 HE10 HZA
                            replace HL := Lib.hid (HL.out.bel hbl)
                            replace HO8 := Lib.hid (HO8.out.bel hbl)
                            replace HO9 := Lib.hid (HO9.out.bel hbl)
                            replace HC := Lib.hid (HC.out.far (Far.below hbl HB.out.size))
                            replace HB := Lib.hid (HB.out.trans (hbl.mono HB.out.size))
                            clear hbl
                            have HCC := Lib.hid (cubicOnce bL v28.heap.size (some ⟨bL, 0, none⟩) capL N 0 0 none 0 0 none true HPL.out (by decide) HXL.out hN2 (by omega) (by decide) v28 (HL.out.sl (Nat.le_refl _) HL.out.1.lt) (Nat.le_refl _) (.inl ⟨rfl, rfl⟩) (Nat.zero_le _))
                            go_wp2_with fail
                            refine HCC.out.mono ?_
                            rintro e v29 ⟨⟨b11, c11, m11, rfl, hm11, hb11, ho11⟩, hbl⟩
                            have HO11 := Lib.hid ho11
                            have HM11 := Lib.hid (show m11 = 2 * N by rw [hm11, cubF_len _ _ _ (by rw [HXL.out]; omega), HXL.out]; rfl)
                            clear HCC ho11 hb11 hm11
                            replace HL := Lib.hid (HL.out.bel hbl)
                            replace HO8 := Lib.hid (HO8.out.bel hbl)
                            replace HO9 := Lib.hid (HO9.out.bel hbl)
                            replace HO10 := Lib.hid (HO10.out.bel hbl)
                            replace HC := Lib.hid (HC.out.far (Far.below hbl HB.out.size))
                            replace HB := Lib.hid (HB.out.trans (hbl.mono HB.out.size))
                            clear hbl
                            have hNW : IntKind.i64.wrap (2 * (N : Int)) = 2 * (N : Int) := by rw [IntKind.wrap_i64]; omega
                            have hKW : IntKind.i64.wrap (2 * (at_ : Int)) = (K : Int) := by rw [IntKind.wrap_i64]; omega
                            have hKW2 : IntKind.i64.wrap (K : Int) = (K : Int) := by rw [IntKind.wrap_i64]; omega
                            have e9 : ((m9 : Int) == 2 * (N : Int)) = true := by have := HM9.out; simp; omega
                            have e10 : ((m10 : Int) == (m11 : Int)) = true := by have := HM10.out; have := HM11.out; simp; omega
                            have hKl : K < (cubF xs cl (some at_)).length := by rw [cubF_len _ _ _ (by rw [HXL.out]; omega), HXL.out, HK.out]; unfold ringN; split <;> omega
                            have hKe : cAt (cubF xs cl (some at_)) K = cAt xs at_ := by
                              rw [HK.out]
                              unfold cubF
                              rw [cAt_of (ringL_even _ _ _ _ at_ (by rw [HXL.out]; exact hat))]
                              unfold cubVF
                              rw [if_neg (by simp [isSh])]
                            have hc8 : v29.cell? ⟨b8, K, none⟩ = some (cV (cAt xs at_)) := by rw [HO8.out.2 K hKl, hKe]
                            have hcL : v29.cell? ⟨bL, at_, none⟩ = some (cV (cAt xs at_)) := HL.out.2 at_ (by rw [HXL.out]; exact hat)
                            have hnan := (HPL.out.pt at_ (by rw [HXL.out]; exact hat)).1.nan
                            have hK8 : (K : Int) < (m8 : Int) := by have := HM8.out; omega
                            unfold cV at hc8 hcL
                            obtain ⟨zr, hzr⟩ : ∃ z, z = (cAt xs at_).1 := ⟨_, rfl⟩
                            obtain ⟨zi, hzi⟩ : ∃ z, z = (cAt xs at_).2 := ⟨_, rfl⟩
                            rw [← hzr, ← hzi] at hc8 hcL hnan
                            clear hzr hzi hKl hKe
                            have hS0 : (fun w' : World => w'.cell? ⟨b8, K, none⟩ = some (.complex .f32 zr zi) ∧ w'.cell? ⟨bL, at_, none⟩ = some (.complex .f32 zr zi)) v29.drew := ⟨hc8, hcL⟩
                            clear hc8 hcL
                            go_upto_region 61 with fail
                            go_cut [432] from 382 to 432 (fun u wx => u = .bool false ∧ Hid (Below v29.heap.size v29 wx))
                            case first => as_aux_lemma =>
                              have hcx := hS0.1
                              have hcy := hS0.2
                              have hcx0 : v29.cell? ⟨b8, K, none⟩ = some (.complex .f32 zr zi) := hS0.1
                              have hcy0 : v29.cell? ⟨bL, at_, none⟩ = some (.complex .f32 zr zi) := hS0.2
                              have f9c : ((m9 : Int) != 2 * (N : Int)) = false := by unfold bne; rw [e9]; rfl
                              have f10b : ((m10 : Int) != (m11 : Int)) = false := by unfold bne; rw [e10]; rfl
                              go_region_held3 (fun w' => w'.cell? ⟨b8, K, none⟩ = some (.complex .f32 zr zi) ∧ w'.cell? ⟨bL, at_, none⟩ = some (.complex .f32 zr zi)) (first | exact ⟨hcx, hcy⟩ | exact ⟨keep_cell (below_dr (Below.alloc (Below.refl _ _) (Nat.le_refl _) _) _) hcx0, keep_cell (below_dr (Below.alloc (Below.refl _ _) (Nat.le_refl _) _) _) hcy0⟩ | exact ⟨keep_cell (below_dr (below_dr (Below.alloc (Below.refl _ _) (Nat.le_refl _) _) _) _) hcx0, keep_cell (below_dr (below_dr (Below.alloc (Below.refl _ _) (Nat.le_refl _) _) _) _) hcy0⟩) ((first
                                | (go_at_call 21; refine (sameComplexI _ _ hnan.1 hnan.2 _).mono ?_; rintro e v30 ⟨rfl, rfl⟩)
                                | (go_at_call 28; refine (isRing bL v29.heap.size (some ⟨bL, 0, none⟩) capL N HPL.out HXL.out hN2 (by omega) _ ((HL.out.bel (below_dr (Below.refl _ v29) 1)).sl (Nat.le_refl _) HL.out.1.lt)).mono ?_; rintro e v31 ⟨rfl, q31, rfl⟩)
                                | (go_at_call 29; refine (isMaskR v29.heap.size (v29.heap.size + 1) (some ⟨v29.heap.size, 0, none⟩) 1 1 mask1 rfl _ (mk_own (T := 27) (by first | exact OwnC.new (cs := (([1065353216] : List Nat).map (Value.float .f32)).toArray) rfl | exact OwnC.new (cs := (([1065353216] : List Nat).map (Value.float .f32)).toArray) (by simp)) (Nat.le_refl _) (Nat.lt_succ_self _))).mono ?_; rintro e v34 ⟨rfl, q34, rfl⟩)))
                              all_goals (try go_wp2_with fail)
                              all_goals go_meet
                              all_goals (refine ⟨rfl, Lib.hid ?_⟩)
                              all_goals first | exact below_dr (Below.alloc (Below.refl _ _) (Nat.le_refl _) _) _ | exact below_dr (below_dr (Below.alloc (Below.refl _ _) (Nat.le_refl _) _) _) _
                            case rest => as_aux_lemma =>
                              obtain ⟨rfl, hbw⟩ := hcut
                              obtain ⟨v40, hv⟩ : ∃ x : World, x = wc := ⟨_, rfl⟩
                              rw [← hv] at hbw ⊢
                              have hbl := hbw.out
                              clear hbw hv hS0
                              replace HL := Lib.hid (HL.out.bel hbl)
                              replace HO8 := Lib.hid (HO8.out.bel hbl)
                              replace HO9 := Lib.hid (HO9.out.bel hbl)
                              replace HO10 := Lib.hid (HO10.out.bel hbl)
                              replace HO11 := Lib.hid (HO11.out.bel hbl)
                              replace HC := Lib.hid (HC.out.far (Far.below hbl HB.out.size))
                              replace HB := Lib.hid (HB.out.trans (hbl.mono HB.out.size))
                              clear hbl
                              clear hNW hKW hKW2 e9 e10 hnan hK8
                              have e11 : (m11 : Int) = 2 * (N : Int) := by have := HM11.out; omega
                              go_wp2_with fail
                              go_loopw [52] (fun i wr => ∃ k q : Nat, k ≤ m11 ∧ i = .int .i64 k ∧ wr = v40.drewN q) (fun i _ => m11 - (intOf i).toNat)
                              case atStart => exact ⟨0, 0, Nat.zero_le _, rfl, rfl⟩
                              case round =>
                                obtain ⟨k, q, hk, rfl, rfl⟩ := hrel
                                by_cases hlt : k < m11
                                · have k0 : (0 : Int) ≤ (k : Int) := by omega
                                  have k1 : (k : Int) < (m11 : Int) := by omega
                                  have hk2 : k < 2 * N := by omega
                                  have hz := halves_same HPL.out HXL.out hN2 hk2
                                  obtain ⟨z1, z2⟩ := far_zero hz (by decide)
                                  obtain ⟨y1, y2⟩ := wide_zero z1 z2
                                  have og := not_gt y1 milli64.1 (by rw [y2]; exact milli64.2.1)
                                  have HFA := Lib.hid (fun w => r8Far hz ⟨Nat.zero_le _, Nat.zero_le _⟩ (by decide) w)
                                  have hcA : v40.cell? ⟨b10, k, none⟩ = some (cV (cAt (pairL (mkF xs M161) (mkF xs M055) N) k)) := HO10.out.2 k (by rw [pairL_len]; exact hk2)
                                  have hcB : v40.cell? ⟨b11, k, none⟩ = some (cV (cAt (cubF xs true none) k)) := HO11.out.2 k (by rw [cubF_len _ _ _ (by rw [HXL.out]; omega), HXL.out]; exact hk2)
                                  have k10 : (k : Int) < (m10 : Int) := by have := HM10.out; omega
                                  clear hz z1 z2 y1 y2
                                  obtain ⟨i0, he | he⟩ := even_odd k
                                  · have hcC : v40.cell? ⟨b9, k, none⟩ = some (cV (cAt (pairL (mkF xs [1065353216]) (mkF xs M055) N) k)) := HO9.out.2 k (by rw [pairL_len]; exact hk2)
                                    have hcD : v40.cell? ⟨bL, i0, none⟩ = some (cV (cAt xs i0)) := HL.out.2 i0 (by rw [HXL.out]; omega)
                                    have hmo := mask_one (mo := M055) HPL.out HXL.out (show i0 < N by omega)
                                    rw [← he] at hmo
                                    have t1 : (k : Int).tmod 2 = 0 := by rw [Int.tmod_eq_emod_of_nonneg k0]; omega
                                    have t2 : (k : Int).tdiv 2 = (i0 : Int) := by rw [Int.tdiv_eq_ediv_of_nonneg k0]; omega
                                    have t3 : ((k : Int).tmod 2 == 0) = true := by rw [t1]; rfl
                                    have i1 : (0 : Int) ≤ (i0 : Int) := by omega
                                    have i2 : (i0 : Int) < (N : Int) := by omega
                                    have k9 : (k : Int) < (m9 : Int) := by have := HM9.out; omega
                                    obtain ⟨u1, u2⟩ := hmo
                                    clear he
                                    unfold cV at hcA hcB hcC hcD
                                    go_wp2_with fail
                                    go_quiet ((go_at_call 25; refine quiet_of3 HFA.out))
                                    go_wp2_with fail
                                    exact ⟨⟨k + 1, _, by omega, by go_num, by first | rfl | simp only [World.drewN_drewN]⟩, by first | exact meas_downI k1 | (simp [intOf]; omega)⟩
                                  · have t1 : (k : Int).tmod 2 = 1 := by rw [Int.tmod_eq_emod_of_nonneg k0]; omega
                                    have t3 : ((k : Int).tmod 2 == 0) = false := by rw [t1]; rfl
                                    clear he
                                    unfold cV at hcA hcB
                                    go_wp2_with fail
                                    go_quiet ((go_at_call 25; refine quiet_of3 HFA.out))
                                    go_wp2_with fail
                                    exact ⟨⟨k + 1, _, by omega, by go_num, by first | rfl | simp only [World.drewN_drewN]⟩, by first | exact meas_downI k1 | (simp [intOf]; omega)⟩
                                · have k1 : ¬ (k : Int) < (m11 : Int) := by omega
                                  obtain ⟨v41, hv⟩ : ∃ x : World, x = v40.drewN q := ⟨_, rfl⟩
                                  have hbl : Below v40.heap.size v40 v41 := by rw [hv]; exact below_dr (Below.refl _ _) _
                                  rw [← hv]
                                  clear hv
                                  replace HL := Lib.hid (HL.out.bel hbl)
                                  replace HO8 := Lib.hid (HO8.out.bel hbl)
                                  replace HO9 := Lib.hid (HO9.out.bel hbl)
                                  replace HO10 := Lib.hid (HO10.out.bel hbl)
                                  replace HO11 := Lib.hid (HO11.out.bel hbl)
                                  replace HC := Lib.hid (HC.out.far (Far.below hbl HB.out.size))
                                  replace HB := Lib.hid (HB.out.trans (hbl.mono HB.out.size))
                                  clear hbl
                                  skip
                                  go_wp2_with fail
                                  go_ret
                                  exact ⟨rfl, HB.out⟩
  · go_wp2_with fail
    refine (r8LongYes a1 a2 n1 n2 ca1 ca2 hsz w).mono ?_
    rintro e w0 ⟨rfl, rfl⟩
    go_wp2_with fail
    go_ret
    exact ⟨rfl, Below.refl _ _⟩
end Go.Proofs.Ytkpjhoiaegioeaa
