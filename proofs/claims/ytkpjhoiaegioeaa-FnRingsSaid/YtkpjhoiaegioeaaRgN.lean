/- impl.LimitPoint, LimitSlope walked. (Written by mkrgn.py.) -/
import Derived.Test.YtkpjhoiaegioeaaRgM
namespace Go.Fl
open Ieee Go.RowKit
theorem run_fopN {op : BinOp} {K : FloatKind} {x y : Nat} (hn : isN K (fop op K x y) = true) : (∀ w, mop op K x y w = fop op K x y) ∧ mdr op K x y = 0 := by
  unfold fop at hn ⊢
  cases hb : floatBits op K x y with
  | some r => exact ⟨fun w => by unfold mop; rw [hb]; rfl, by unfold mdr; rw [hb]; rfl⟩
  | none =>
    rw [hb] at hn
    exfalso
    revert hn
    cases K <;> decide +kernel
theorem six_N : isN .f32 1086324736 = true ∧ V .f32 1086324736 = 6 * 2 ^ 149 := ⟨by decide +kernel, by decide +kernel⟩
def limS (xs : List Cx) (i : Nat) : Cx := plusF (plusF (cAt xs (pv xs.length i)) (scaleF (cAt xs i) 1082130432)) (cAt xs (nx xs.length i))
def limZ (ks : List Zp) (i : Nat) : Zp := addZ (addZ (zAt ks (pv ks.length i)) (mulZ (zAt ks i) 4)) (zAt ks (nx ks.length i))
def limD (z : Cx) : Cx := (fop .quo .f32 z.1 1086324736, fop .quo .f32 z.2 1086324736)
def limF (xs : List Cx) (closed : Bool) (i : Nat) : Cx := if closed || (decide (0 < i) && decide (i + 1 < xs.length)) then limD (limS xs i) else cAt xs i
theorem q4 : Q .f32 1082130432 4 0 := ⟨by decide +kernel, by decide +kernel, by decide⟩
theorem lim_px {xs : List Cx} {ks : List Zp} {e B i : Nat} (h : PL xs ks e B) (hB : B ≤ 8192) (he : e ≤ 100) (hi : i < xs.length) : PX (limS xs i) (limZ ks i) e ∧ low (limZ ks i) (6 * B) := by
  have hl := h.len
  unfold limS limZ
  rw [hl]
  obtain ⟨pa, la⟩ := h.pt i hi
  obtain ⟨pb, lb⟩ := h.pt _ (pv_lt hi)
  obtain ⟨pc, lc⟩ := h.pt _ (nx_lt hi)
  have l4 : ∀ {p : Zp} {C : Nat}, low p C → C ≤ 4194304 → low p 4194304 := fun hp hC => hp.mono hC
  have s := pa.scale q4 (la.mono (by omega)) (by decide) (by omega)
  have ls := la.mul (j := 4) (c := 4) (C := 4 * B) (by decide) (by omega)
  have d := pb.plus s (l4 lb (by omega)) (l4 ls (by omega))
  have ld : low (addZ (zAt ks (pv xs.length i)) (mulZ (zAt ks i) 4)) (5 * B) := by
    have a := lb.1; have b := ls.1; have c := lb.2; have f := ls.2
    exact ⟨by show (_ + _ : Int).natAbs ≤ _; omega, by show (_ + _ : Int).natAbs ≤ _; omega⟩
  refine ⟨d.plus pc (l4 ld (by omega)) (l4 lc (by omega)), ?_, ?_⟩
  · have a := ld.1; have b := lc.1; show (_ + _ : Int).natAbs ≤ _; omega
  · have a := ld.2; have b := lc.2; show (_ + _ : Int).natAbs ≤ _; omega
theorem div6_N {x : Nat} {k : Int} {e : Nat} (h : Q .f32 x k e) (hk : k.natAbs ≤ 65536) : isN .f32 (fop .quo .f32 x 1086324736) = true := by
  refine (near_div h.num six_N.1 (by rw [six_N.2]; decide) ?_).num
  rw [h.val, natAbs_pow, six_N.2]
  have h1 : (6 * 2 ^ 149 : Int).natAbs = 6 * 2 ^ 149 := by decide
  rw [h1]
  exact Nat.mul_le_mul (Nat.le_trans hk (by decide)) (Nat.le_trans (Nat.pow_le_pow_right (by decide) (Nat.sub_le _ _)) (Nat.le_mul_of_pos_left _ (by decide)))
theorem limD_N {z : Cx} {p : Zp} {e : Nat} (h : PX z p e) (hl : low p 65536) : isN .f32 (limD z).1 = true ∧ isN .f32 (limD z).2 = true := ⟨div6_N h.1 hl.1, div6_N h.2 hl.2⟩
/-- numbers that are not 0 and stand for the same are read the same -/
theorem read_same {x y : Nat} (hx : isN .f32 x = true) (hy : isN .f32 y = true) (h : V .f32 x = V .f32 y) (h0 : V .f32 x ≠ 0) : FloatKind.f32.format.read x = FloatKind.f32.format.read y := by
  have norm : ∀ {x : Nat} {s : Bool} {m : Nat} {i : Int}, FloatKind.f32.format.read x = .number s m i → 8388608 ≤ m ∨ i = -149 := fun {x s m i} hr => by
    unfold Format.read at hr
    have lp : FloatKind.f32.format.leastPlace = -149 := by decide
    have bn : FloatKind.f32.format.binade = 8388608 := by decide
    simp only [lp, bn] at hr
    split at hr
    · injection hr with _ _ h3; exact .inr h3.symm
    · split at hr
      · injection hr with _ h2 _; left; omega
      · split at hr <;> cases hr
  obtain ⟨s, m, i, hr, hi, hv⟩ := isN_read hx
  obtain ⟨t, n, j, hq, hj, hw⟩ := isN_read hy
  have l149 : LP .f32 = 149 := rfl
  rw [l149] at hi hj hv hw
  have m24 : m < 16777216 := (read_number .f32 x hr).1
  have n24 : n < 16777216 := (read_number .f32 y hq).1
  obtain ⟨u, hu⟩ : ∃ u, u = (i + ((149 : Nat) : Int)).toNat := ⟨_, rfl⟩
  obtain ⟨v, hv9⟩ : ∃ v, v = (j + ((149 : Nat) : Int)).toNat := ⟨_, rfl⟩
  rw [← hu] at hv
  rw [← hv9] at hw
  have ha : m * 2 ^ u = n * 2 ^ v := by rw [← signed_natAbs s, ← signed_natAbs t, ← hv, ← hw, h]
  have hm0 : m ≠ 0 := fun h => h0 (by rw [hv, h]; unfold signed; cases s <;> simp)
  have hn0 : n ≠ 0 := fun h1 => h0 (by rw [h, hw, h1]; unfold signed; cases t <;> simp)
  have huv : u = v := by
    rcases Nat.lt_trichotomy u v with hlt | he | hlt
    · exfalso
      rcases norm hq with h1 | h1
      · have e1 : v = u + 1 + (v - u - 1) := by omega
        rw [e1, Nat.pow_add, Nat.pow_add, Nat.pow_one] at ha
        have h2 : m = n * 2 * 2 ^ (v - u - 1) := Nat.eq_of_mul_eq_mul_right (Nat.two_pow_pos u) (by rw [ha]; ac_rfl)
        have h3 := Nat.le_mul_of_pos_right (n * 2) (Nat.two_pow_pos (v - u - 1))
        omega
      · omega
    · exact he
    · exfalso
      rcases norm hr with h1 | h1
      · have e1 : u = v + 1 + (u - v - 1) := by omega
        rw [e1, Nat.pow_add, Nat.pow_add, Nat.pow_one] at ha
        have h2 : n = m * 2 * 2 ^ (u - v - 1) := Nat.eq_of_mul_eq_mul_right (Nat.two_pow_pos v) (by rw [← ha]; ac_rfl)
        have h3 := Nat.le_mul_of_pos_right (m * 2) (Nat.two_pow_pos (u - v - 1))
        omega
      · omega
  have hmn : m = n := by rw [huv] at ha; exact Nat.eq_of_mul_eq_mul_right (Nat.two_pow_pos v) ha
  have hij : i = j := by omega
  have hst : s = t := by
    have a1 := signed_neg_iff (s := s) (a := u) hm0
    have a2 := signed_neg_iff (s := t) (a := v) hn0
    rw [a1, a2, ← hv, ← hw, h]
  rw [hr, hq, hmn, hij, hst]
theorem div_same {x y : Nat} {k l : Int} {e f : Nat} (hx : Q .f32 x k e) (hy : Q .f32 y l f) (hk : k.natAbs ≤ 65536) (hl : l.natAbs ≤ 65536) (h : V .f32 x = V .f32 y) : V .f32 (fop .quo .f32 x 1086324736) = V .f32 (fop .quo .f32 y 1086324736) := by
  by_cases h0 : V .f32 x = 0
  · have key : ∀ {x : Nat} {k : Int} {e : Nat}, Q .f32 x k e → k.natAbs ≤ 65536 → V .f32 x = 0 → V .f32 (fop .quo .f32 x 1086324736) = 0 := fun {x k e} hq hk h0 => by
      have hn := near_div hq.num six_N.1 (by rw [six_N.2]; decide) (by rw [h0]; exact Nat.zero_le _)
      rw [h0] at hn
      have e0 : (if decide ((0 : Int) < 0) ^^ decide (V .f32 1086324736 < 0) then -(((0 : Int).natAbs * 2 ^ LP .f32 : Nat) : Int) else (((0 : Int).natAbs * 2 ^ LP .f32 : Nat) : Int)) = 0 := by simp
      rw [e0] at hn
      have a := hn.le 0 0 (Nat.two_pow_pos _) (by rw [Int.zero_mul, Int.zero_mul]; exact Int.le_refl _)
      have b := hn.ge 0 0 (Nat.two_pow_pos _) (by rw [Int.zero_mul, Int.zero_mul]; exact Int.le_refl _)
      rw [Int.zero_mul] at a b
      omega
    rw [key hx hk h0, key hy hl (by rw [← h]; exact h0)]
  · have hr := read_same hx.num hy.num h h0
    have : fop .quo .f32 x 1086324736 = fop .quo .f32 y 1086324736 := by
      show ((FloatKind.f32.format.read x).quotient (FloatKind.f32.format.fractionBits + 2) (FloatKind.f32.format.read 1086324736) |>.map FloatKind.f32.format.write).getD _ = ((FloatKind.f32.format.read y).quotient (FloatKind.f32.format.fractionBits + 2) (FloatKind.f32.format.read 1086324736) |>.map FloatKind.f32.format.write).getD _
      rw [hr]
    rw [this]
def slopeF (xs : List Cx) (closed : Bool) (i : Nat) : Cx :=
  scaleF (minusF (cAt xs (if closed || decide (i + 1 < xs.length) then nx xs.length i else i)) (cAt xs (if closed || decide (0 < i) then pv xs.length i else i))) 1056964608
theorem q50b : Q .f32 1056964608 1 1 := ⟨by decide +kernel, by decide +kernel, by decide⟩
theorem okN2 {z : Cx} (h : isN .f32 z.1 = true ∧ isN .f32 z.2 = true) : okPt z = true := by unfold okPt; rw [finN h.1, finN h.2]; rfl
end Go.Fl
namespace Go.Proofs.Ytkpjhoiaegioeaa
open Go.RowKit Go.Fl
theorem ifPointR {z : Cx} (h : isN .f32 z.1 = true ∧ isN .f32 z.2 = true) (w : World) : Calls Try.prog 56 #[cV z] w fun x w' => x = .returned (.tuple #[cV z, .bool true]) ∧ ∃ q, w' = w.drewN q := by
  have HO := Lib.hid (okN2 h)
  clear h
  go_enter Try.func56, Try.ntmps56
  go_wp2_with fail
  refine (isFiniteComplex _ _).mono ?_
  rintro e1 w1 ⟨rfl, q, rfl⟩
  rw [HO.out]
  go_wp2_with fail
  go_ret2
  exact ⟨rfl, q, rfl⟩
theorem isPlaceR {xs : List Cx} {ks : List Zp} {e B : Nat} (lo hi : Nat) (ao : Option Addr) (c n i : Nat) (h : PL xs ks e B) (hn : xs.length = n) (h2 : 2 ≤ n) (h128 : n ≤ 128) (hi' : i < n) (w : World) (hs : SlC w lo hi ao xs) :
    Calls Try.prog 55 #[.slice ao n c, .int .i64 i] w fun x w' => x = .returned (.bool true) ∧ ∃ q, w' = w.drewN q := by
  have HR := Lib.hid (isRing lo hi ao c n h hn h2 h128 w hs)
  have n1 : (n : Int) ≤ 128 := by omega
  have i0 : (0 : Int) ≤ (i : Int) := by omega
  have i1 : (i : Int) ≤ (n : Int) - 1 := by omega
  clear h hs hn
  go_enter Try.func55, Try.ntmps55
  go_wp2_with fail
  refine HR.out.mono ?_
  rintro e1 w1 ⟨rfl, q, rfl⟩
  go_wp2_with fail
  refine (withinB (i : Int) 0 ((n : Int) - 1) _).mono ?_
  rintro e1 w1 ⟨rfl, rfl⟩
  rw [decide_eq_true i0, decide_eq_true i1]
  go_wp2_with fail
  go_ret
  exact ⟨rfl, q, rfl⟩

set_option maxHeartbeats 8000000 in
set_option maxRecDepth 100000 in
theorem limitPointClosed {xs : List Cx} {ks : List Zp} {e B : Nat} (lo hi : Nat) (ao : Option Addr) (c n k : Nat) (h : PL xs ks e B) (hB8 : B ≤ 8192) (hn : xs.length = n) (hn2 : 2 ≤ n) (hn128 : n ≤ 128) (he : e ≤ 90) (hlt : k < n) (w : World) (hsl : SlC w lo hi ao xs) :
    Calls Try.prog 23 #[.slice ao n c, .bool true, .int .i64 k] w fun y w' => y = .returned (.tuple #[cV (limF xs true k), .bool true]) ∧ ∃ q, w' = w.drewN q := by
  have HPL := Lib.hid h
  have HN := Lib.hid hn
  have HIP := Lib.hid (isPlaceR lo hi ao c n k h hn hn2 hn128 hlt w hsl)
  have HS := Lib.hid hsl
  obtain ⟨bS, hao, hb1, hb2, hc⟩ := hsl (by omega)
  have HCELL := Lib.hid (fun i (hi : i < n) => hc i (by omega))
  have n1 : (n : Int) ≤ 128 := by omega
  have n2 : (2 : Int) ≤ (n : Int) := by omega
  have k0 : (0 : Int) ≤ (k : Int) := by omega
  have k1 : (k : Int) < (n : Int) := by omega
  clear h hn hsl hc
  subst hao
  go_enter Try.func23, Try.ntmps23
  go_wp2_with fail
  refine HIP.out.mono ?_
  rintro e1 w0 ⟨rfl, q0, rfl⟩
  clear HIP
  have HSW := Lib.hid (HS.out.far ((Far.refl _ _ w).drewN q0))
  have hcell : (w.drewN q0).cell? ⟨bS, k, none⟩ = some (cV (cAt xs k)) := HCELL.out k hlt
  obtain ⟨pa, la⟩ := HPL.out.pt k (by rw [HN.out]; exact hlt)
  obtain ⟨pb, lb⟩ := HPL.out.pt (pv n k) (by rw [HN.out]; exact pv_lt hlt)
  obtain ⟨pc, lc⟩ := HPL.out.pt (nx n k) (by rw [HN.out]; exact nx_lt hlt)
  have l4 : ∀ {p : Zp} {C : Nat}, low p C → C ≤ 4194304 → low p 4194304 := fun hp hC => hp.mono hC
  obtain ⟨pr, lr⟩ := lim_px HPL.out hB8 (show e ≤ 100 by omega) (show k < xs.length by rw [HN.out]; exact hlt)
  have ER : limS xs k = plusF (plusF (cAt xs (pv n k)) (scaleF (cAt xs k) 1082130432)) (cAt xs (nx n k)) := by unfold limS; rw [HN.out]
  rw [ER] at pr
  have s1 := pa.scale q4 (la.mono (by omega)) (by decide) (by omega)
  have ls := la.mul (j := 4) (c := 4) (C := 4 * B) (by decide) (by omega)
  have d1 := pb.plus s1 (l4 lb (by omega)) (l4 ls (by omega))
  have ld : low (addZ (zAt ks (pv n k)) (mulZ (zAt ks k) 4)) 4194304 := by
    have a := lb.1; have b := ls.1; have c := lb.2; have f := ls.2
    exact ⟨by show (_ + _ : Int).natAbs ≤ _; omega, by show (_ + _ : Int).natAbs ≤ _; omega⟩
  have PA := Lib.hid pa
  have PB := Lib.hid pb
  have PC := Lib.hid pc
  have LA := Lib.hid (show low (zAt ks k) 65536 from la.mono (by omega))
  have LB := Lib.hid (l4 lb (by omega))
  have LC := Lib.hid (l4 lc (by omega))
  have LS := Lib.hid (l4 ls (by omega))
  have LD := Lib.hid ld
  have S1 := Lib.hid s1
  have D1 := Lib.hid d1
  have hdn := limD_N pr (lr.mono (by omega))
  have HDN := Lib.hid hdn
  have HER := Lib.hid ER
  obtain ⟨m1, d1'⟩ := run_fopN hdn.1
  obtain ⟨m2, d2'⟩ := run_fopN hdn.2
  have dz : ∀ w : World, w.drewN 0 = w := World.drewN_zero
  clear pa pb pc la lb lc l4 s1 ls d1 ld pr lr ER hdn
  go_wp2_with fail
  refine (nbrClosed lo hi _ c xs n k (pv n k) (-1) HN.out (by omega) hlt (pv_lt hlt) (by decide) (by decide) (tm_pv hlt hn2) _ HSW.out).mono ?_
  rintro e1 w1 ⟨rfl, rfl⟩
  go_wp2_with fail
  refine (nbrClosed lo hi _ c xs n k (nx n k) 1 HN.out (by omega) hlt (nx_lt hlt) (by decide) (by decide) (tm_nx hlt) _ HSW.out).mono ?_
  rintro e1 w2 ⟨rfl, rfl⟩
  go_wp2_with fail
  refine (scaledR PA.out q4 LA.out (by decide) (by omega) _).mono ?_
  rintro e1 w3 ⟨rfl, rfl⟩
  go_wp2_with fail
  refine (plusR PB.out S1.out LB.out LS.out _).mono ?_
  rintro e1 w4 ⟨rfl, rfl⟩
  go_wp2_with fail
  refine (plusR D1.out PC.out LD.out LC.out _).mono ?_
  rintro e1 w5 ⟨rfl, rfl⟩
  unfold cV
  go_wp2_with fail
  refine (ifPointR (z := limD (plusF (plusF (cAt xs (pv n k)) (scaleF (cAt xs k) 1082130432)) (cAt xs (nx n k)))) HDN.out _).mono ?_
  rintro e1 w6 ⟨rfl, q6, rfl⟩
  unfold cV
  go_wp2_with fail
  go_ret2
  have hf : limF xs true k = limD (plusF (plusF (cAt xs (pv n k)) (scaleF (cAt xs k) 1082130432)) (cAt xs (nx n k))) := by
    unfold limF
    rw [if_pos (by simp), HER.out]
  exact ⟨by rw [hf]; rfl, _, by first | exact World.drewN_drewN | rfl⟩

set_option maxHeartbeats 8000000 in
set_option maxRecDepth 100000 in
theorem limitPointOpen {xs : List Cx} {ks : List Zp} {e B : Nat} (lo hi : Nat) (ao : Option Addr) (c n k : Nat) (h : PL xs ks e B) (hB8 : B ≤ 8192) (hn : xs.length = n) (hn2 : 2 ≤ n) (hn128 : n ≤ 128) (he : e ≤ 90) (hlt : k < n) (w : World) (hsl : SlC w lo hi ao xs) :
    Calls Try.prog 23 #[.slice ao n c, .bool false, .int .i64 k] w fun y w' => y = .returned (.tuple #[cV (limF xs false k), .bool true]) ∧ ∃ q, w' = w.drewN q := by
  have HPL := Lib.hid h
  have HN := Lib.hid hn
  have HIP := Lib.hid (isPlaceR lo hi ao c n k h hn hn2 hn128 hlt w hsl)
  have HS := Lib.hid hsl
  obtain ⟨bS, hao, hb1, hb2, hc⟩ := hsl (by omega)
  have HCELL := Lib.hid (fun i (hi : i < n) => hc i (by omega))
  have n1 : (n : Int) ≤ 128 := by omega
  have n2 : (2 : Int) ≤ (n : Int) := by omega
  have k0 : (0 : Int) ≤ (k : Int) := by omega
  have k1 : (k : Int) < (n : Int) := by omega
  clear h hn hsl hc
  subst hao
  go_enter Try.func23, Try.ntmps23
  go_wp2_with fail
  refine HIP.out.mono ?_
  rintro e1 w0 ⟨rfl, q0, rfl⟩
  clear HIP
  have HSW := Lib.hid (HS.out.far ((Far.refl _ _ w).drewN q0))
  have hcell : (w.drewN q0).cell? ⟨bS, k, none⟩ = some (cV (cAt xs k)) := HCELL.out k hlt
  by_cases hp0 : 0 < k
  · have HI2 := Lib.hid (show (k : Int) + -1 = (pv n k : Nat) by unfold pv; rw [if_neg (by omega)]; omega)
    by_cases hl2 : k + 1 < n
    · have HI1 := Lib.hid (show (k : Int) + 1 = (nx n k : Nat) by unfold nx; rw [if_neg (by omega)]; omega)
      obtain ⟨pa, la⟩ := HPL.out.pt k (by rw [HN.out]; exact hlt)
      obtain ⟨pb, lb⟩ := HPL.out.pt (pv n k) (by rw [HN.out]; exact pv_lt hlt)
      obtain ⟨pc, lc⟩ := HPL.out.pt (nx n k) (by rw [HN.out]; exact nx_lt hlt)
      have l4 : ∀ {p : Zp} {C : Nat}, low p C → C ≤ 4194304 → low p 4194304 := fun hp hC => hp.mono hC
      obtain ⟨pr, lr⟩ := lim_px HPL.out hB8 (show e ≤ 100 by omega) (show k < xs.length by rw [HN.out]; exact hlt)
      have ER : limS xs k = plusF (plusF (cAt xs (pv n k)) (scaleF (cAt xs k) 1082130432)) (cAt xs (nx n k)) := by unfold limS; rw [HN.out]
      rw [ER] at pr
      have s1 := pa.scale q4 (la.mono (by omega)) (by decide) (by omega)
      have ls := la.mul (j := 4) (c := 4) (C := 4 * B) (by decide) (by omega)
      have d1 := pb.plus s1 (l4 lb (by omega)) (l4 ls (by omega))
      have ld : low (addZ (zAt ks (pv n k)) (mulZ (zAt ks k) 4)) 4194304 := by
        have a := lb.1; have b := ls.1; have c := lb.2; have f := ls.2
        exact ⟨by show (_ + _ : Int).natAbs ≤ _; omega, by show (_ + _ : Int).natAbs ≤ _; omega⟩
      have PA := Lib.hid pa
      have PB := Lib.hid pb
      have PC := Lib.hid pc
      have LA := Lib.hid (show low (zAt ks k) 65536 from la.mono (by omega))
      have LB := Lib.hid (l4 lb (by omega))
      have LC := Lib.hid (l4 lc (by omega))
      have LS := Lib.hid (l4 ls (by omega))
      have LD := Lib.hid ld
      have S1 := Lib.hid s1
      have D1 := Lib.hid d1
      have hdn := limD_N pr (lr.mono (by omega))
      have HDN := Lib.hid hdn
      have HER := Lib.hid ER
      obtain ⟨m1, d1'⟩ := run_fopN hdn.1
      obtain ⟨m2, d2'⟩ := run_fopN hdn.2
      have dz : ∀ w : World, w.drewN 0 = w := World.drewN_zero
      clear pa pb pc la lb lc l4 s1 ls d1 ld pr lr ER hdn
      go_wp2_with fail
      refine (nbrOpen lo hi _ c xs n k (pv n k) (-1) HN.out (by omega) hlt (pv_lt hlt) (by decide) (by decide) HI2.out _ HSW.out).mono ?_
      rintro e1 w1 ⟨rfl, rfl⟩
      go_wp2_with fail
      refine (nbrOpen lo hi _ c xs n k (nx n k) 1 HN.out (by omega) hlt (nx_lt hlt) (by decide) (by decide) HI1.out _ HSW.out).mono ?_
      rintro e1 w2 ⟨rfl, rfl⟩
      go_wp2_with fail
      refine (scaledR PA.out q4 LA.out (by decide) (by omega) _).mono ?_
      rintro e1 w3 ⟨rfl, rfl⟩
      go_wp2_with fail
      refine (plusR PB.out S1.out LB.out LS.out _).mono ?_
      rintro e1 w4 ⟨rfl, rfl⟩
      go_wp2_with fail
      refine (plusR D1.out PC.out LD.out LC.out _).mono ?_
      rintro e1 w5 ⟨rfl, rfl⟩
      unfold cV
      go_wp2_with fail
      refine (ifPointR (z := limD (plusF (plusF (cAt xs (pv n k)) (scaleF (cAt xs k) 1082130432)) (cAt xs (nx n k)))) HDN.out _).mono ?_
      rintro e1 w6 ⟨rfl, q6, rfl⟩
      unfold cV
      go_wp2_with fail
      go_ret2
      have hf : limF xs false k = limD (plusF (plusF (cAt xs (pv n k)) (scaleF (cAt xs k) 1082130432)) (cAt xs (nx n k))) := by
        unfold limF
        rw [if_pos (by rw [HN.out]; simp; omega), HER.out]
      exact ⟨by rw [hf]; rfl, _, by first | exact World.drewN_drewN | rfl⟩
    · skip
      go_wp2_with fail
      refine (nbrOpen lo hi _ c xs n k (pv n k) (-1) HN.out (by omega) hlt (pv_lt hlt) (by decide) (by decide) HI2.out _ HSW.out).mono ?_
      rintro e1 w1 ⟨rfl, rfl⟩
      go_wp2_with fail
      refine (nbrNone _ c n k 1 (by omega) hlt (by decide) (by decide) (.inr (by omega)) _).mono ?_
      rintro e1 w2 ⟨rfl, rfl⟩
      go_wp2_with fail
      go_ret2
      have hf : limF xs false k = cAt xs k := by
        unfold limF
        rw [if_neg (by rw [HN.out]; simp; omega)]
      exact ⟨by rw [hf]; rfl, _, rfl⟩
  · have HI1 := Lib.hid (show (k : Int) + 1 = (nx n k : Nat) by unfold nx; rw [if_neg (by omega)]; omega)
    go_wp2_with fail
    refine (nbrNone _ c n k (-1) (by omega) hlt (by decide) (by decide) (.inl (by omega)) _).mono ?_
    rintro e1 w1 ⟨rfl, rfl⟩
    go_wp2_with fail
    refine (nbrOpen lo hi _ c xs n k (nx n k) 1 HN.out (by omega) hlt (nx_lt hlt) (by decide) (by decide) HI1.out _ HSW.out).mono ?_
    rintro e1 w2 ⟨rfl, rfl⟩
    go_wp2_with fail
    go_ret2
    have hf : limF xs false k = cAt xs k := by
      unfold limF
      rw [if_neg (by rw [HN.out]; simp; omega)]
    exact ⟨by rw [hf]; rfl, _, rfl⟩

set_option maxHeartbeats 8000000 in
set_option maxRecDepth 100000 in
theorem limitSlopeClosed {xs : List Cx} {ks : List Zp} {e B : Nat} (lo hi : Nat) (ao : Option Addr) (c n k : Nat) (h : PL xs ks e B) (hB8 : B ≤ 8192) (hn : xs.length = n) (hn2 : 2 ≤ n) (hn128 : n ≤ 128) (he : e ≤ 90) (hlt : k < n) (w : World) (hsl : SlC w lo hi ao xs) :
    Calls Try.prog 24 #[.slice ao n c, .bool true, .int .i64 k] w fun y w' => y = .returned (.tuple #[cV (slopeF xs true k), .bool true]) ∧ ∃ q, w' = w.drewN q := by
  have HPL := Lib.hid h
  have HN := Lib.hid hn
  have HIP := Lib.hid (isPlaceR lo hi ao c n k h hn hn2 hn128 hlt w hsl)
  have HS := Lib.hid hsl
  obtain ⟨bS, hao, hb1, hb2, hc⟩ := hsl (by omega)
  have HCELL := Lib.hid (fun i (hi : i < n) => hc i (by omega))
  have n1 : (n : Int) ≤ 128 := by omega
  have n2 : (2 : Int) ≤ (n : Int) := by omega
  have k0 : (0 : Int) ≤ (k : Int) := by omega
  have k1 : (k : Int) < (n : Int) := by omega
  clear h hn hsl hc
  subst hao
  go_enter Try.func24, Try.ntmps24
  go_wp2_with fail
  refine HIP.out.mono ?_
  rintro e1 w0 ⟨rfl, q0, rfl⟩
  clear HIP
  have HSW := Lib.hid (HS.out.far ((Far.refl _ _ w).drewN q0))
  have hcell : (w.drewN q0).cell? ⟨bS, k, none⟩ = some (cV (cAt xs k)) := HCELL.out k hlt
  obtain ⟨pa, la⟩ := HPL.out.pt k (by rw [HN.out]; exact hlt)
  obtain ⟨pb, lb⟩ := HPL.out.pt (pv n k) (by rw [HN.out]; exact pv_lt hlt)
  obtain ⟨pc, lc⟩ := HPL.out.pt (nx n k) (by rw [HN.out]; exact nx_lt hlt)
  have l4 : ∀ {p : Zp} {C : Nat}, low p C → C ≤ 4194304 → low p 4194304 := fun hp hC => hp.mono hC
  have EF := Lib.hid (show slopeF xs true k = scaleF (minusF (cAt xs (nx n k)) (cAt xs (pv n k))) 1056964608 by unfold slopeF; rw [HN.out, if_pos (by simp), if_pos (by simp)])
  have PP := Lib.hid (pb)
  have PN := Lib.hid (pc)
  have LP := Lib.hid (l4 (lb) (by omega))
  have LN := Lib.hid (l4 (lc) (by omega))
  have LM := Lib.hid (low.sub (lc) (lb) (C := 65536) (by omega))
  have PM := Lib.hid (PN.out.minus PP.out LN.out LP.out)
  have PS := Lib.hid (PM.out.scale q50b LM.out (by decide) (by omega))
  clear pa pb pc la lb lc l4
  go_wp2_with fail
  refine (nbrClosed lo hi _ c xs n k (pv n k) (-1) HN.out (by omega) hlt (pv_lt hlt) (by decide) (by decide) (tm_pv hlt hn2) _ HSW.out).mono ?_
  rintro e1 w1 ⟨rfl, rfl⟩
  go_wp2_with fail
  refine (nbrClosed lo hi _ c xs n k (nx n k) 1 HN.out (by omega) hlt (nx_lt hlt) (by decide) (by decide) (tm_nx hlt) _ HSW.out).mono ?_
  rintro e1 w2 ⟨rfl, rfl⟩
  go_wp2_with fail
  refine (minusR PN.out PP.out LN.out LP.out _).mono ?_
  rintro e1 w3 ⟨rfl, rfl⟩
  go_wp2_with fail
  refine (scaledR PM.out q50b LM.out (by decide) (by omega) _).mono ?_
  rintro e1 w4 ⟨rfl, rfl⟩
  go_wp2_with fail
  refine (ifPointR ⟨PS.out.1.num, PS.out.2.num⟩ _).mono ?_
  rintro e1 w6 ⟨rfl, q6, rfl⟩
  go_wp2_with fail
  go_ret2
  exact ⟨by rw [EF.out]; rfl, _, by first | exact World.drewN_drewN | rfl⟩

set_option maxHeartbeats 8000000 in
set_option maxRecDepth 100000 in
theorem limitSlopeOpen {xs : List Cx} {ks : List Zp} {e B : Nat} (lo hi : Nat) (ao : Option Addr) (c n k : Nat) (h : PL xs ks e B) (hB8 : B ≤ 8192) (hn : xs.length = n) (hn2 : 2 ≤ n) (hn128 : n ≤ 128) (he : e ≤ 90) (hlt : k < n) (w : World) (hsl : SlC w lo hi ao xs) :
    Calls Try.prog 24 #[.slice ao n c, .bool false, .int .i64 k] w fun y w' => y = .returned (.tuple #[cV (slopeF xs false k), .bool true]) ∧ ∃ q, w' = w.drewN q := by
  have HPL := Lib.hid h
  have HN := Lib.hid hn
  have HIP := Lib.hid (isPlaceR lo hi ao c n k h hn hn2 hn128 hlt w hsl)
  have HS := Lib.hid hsl
  obtain ⟨bS, hao, hb1, hb2, hc⟩ := hsl (by omega)
  have HCELL := Lib.hid (fun i (hi : i < n) => hc i (by omega))
  have n1 : (n : Int) ≤ 128 := by omega
  have n2 : (2 : Int) ≤ (n : Int) := by omega
  have k0 : (0 : Int) ≤ (k : Int) := by omega
  have k1 : (k : Int) < (n : Int) := by omega
  clear h hn hsl hc
  subst hao
  go_enter Try.func24, Try.ntmps24
  go_wp2_with fail
  refine HIP.out.mono ?_
  rintro e1 w0 ⟨rfl, q0, rfl⟩
  clear HIP
  have HSW := Lib.hid (HS.out.far ((Far.refl _ _ w).drewN q0))
  have hcell : (w.drewN q0).cell? ⟨bS, k, none⟩ = some (cV (cAt xs k)) := HCELL.out k hlt
  by_cases hp0 : 0 < k
  · have HI2 := Lib.hid (show (k : Int) + -1 = (pv n k : Nat) by unfold pv; rw [if_neg (by omega)]; omega)
    by_cases hl2 : k + 1 < n
    · have HI1 := Lib.hid (show (k : Int) + 1 = (nx n k : Nat) by unfold nx; rw [if_neg (by omega)]; omega)
      obtain ⟨pa, la⟩ := HPL.out.pt k (by rw [HN.out]; exact hlt)
      obtain ⟨pb, lb⟩ := HPL.out.pt (pv n k) (by rw [HN.out]; exact pv_lt hlt)
      obtain ⟨pc, lc⟩ := HPL.out.pt (nx n k) (by rw [HN.out]; exact nx_lt hlt)
      have l4 : ∀ {p : Zp} {C : Nat}, low p C → C ≤ 4194304 → low p 4194304 := fun hp hC => hp.mono hC
      have EF := Lib.hid (show slopeF xs false k = scaleF (minusF (cAt xs (nx n k)) (cAt xs (pv n k))) 1056964608 by unfold slopeF; rw [HN.out, if_pos (by simp; omega), if_pos (by simp; omega)])
      have PP := Lib.hid (pb)
      have PN := Lib.hid (pc)
      have LP := Lib.hid (l4 (lb) (by omega))
      have LN := Lib.hid (l4 (lc) (by omega))
      have LM := Lib.hid (low.sub (lc) (lb) (C := 65536) (by omega))
      have PM := Lib.hid (PN.out.minus PP.out LN.out LP.out)
      have PS := Lib.hid (PM.out.scale q50b LM.out (by decide) (by omega))
      clear pa pb pc la lb lc l4
      go_wp2_with fail
      refine (nbrOpen lo hi _ c xs n k (pv n k) (-1) HN.out (by omega) hlt (pv_lt hlt) (by decide) (by decide) HI2.out _ HSW.out).mono ?_
      rintro e1 w1 ⟨rfl, rfl⟩
      go_wp2_with fail
      refine (nbrOpen lo hi _ c xs n k (nx n k) 1 HN.out (by omega) hlt (nx_lt hlt) (by decide) (by decide) HI1.out _ HSW.out).mono ?_
      rintro e1 w2 ⟨rfl, rfl⟩
      go_wp2_with fail
      refine (minusR PN.out PP.out LN.out LP.out _).mono ?_
      rintro e1 w3 ⟨rfl, rfl⟩
      go_wp2_with fail
      refine (scaledR PM.out q50b LM.out (by decide) (by omega) _).mono ?_
      rintro e1 w4 ⟨rfl, rfl⟩
      go_wp2_with fail
      refine (ifPointR ⟨PS.out.1.num, PS.out.2.num⟩ _).mono ?_
      rintro e1 w6 ⟨rfl, q6, rfl⟩
      go_wp2_with fail
      go_ret2
      exact ⟨by rw [EF.out]; rfl, _, by first | exact World.drewN_drewN | rfl⟩
    · skip
      obtain ⟨pa, la⟩ := HPL.out.pt k (by rw [HN.out]; exact hlt)
      obtain ⟨pb, lb⟩ := HPL.out.pt (pv n k) (by rw [HN.out]; exact pv_lt hlt)
      obtain ⟨pc, lc⟩ := HPL.out.pt (nx n k) (by rw [HN.out]; exact nx_lt hlt)
      have l4 : ∀ {p : Zp} {C : Nat}, low p C → C ≤ 4194304 → low p 4194304 := fun hp hC => hp.mono hC
      have EF := Lib.hid (show slopeF xs false k = scaleF (minusF (cAt xs (k)) (cAt xs (pv n k))) 1056964608 by unfold slopeF; rw [HN.out, if_neg (by simp; omega), if_pos (by simp; omega)])
      have PP := Lib.hid (pb)
      have PN := Lib.hid (pa)
      have LP := Lib.hid (l4 (lb) (by omega))
      have LN := Lib.hid (l4 (la) (by omega))
      have LM := Lib.hid (low.sub (la) (lb) (C := 65536) (by omega))
      have PM := Lib.hid (PN.out.minus PP.out LN.out LP.out)
      have PS := Lib.hid (PM.out.scale q50b LM.out (by decide) (by omega))
      clear pa pb pc la lb lc l4
      go_wp2_with fail
      refine (nbrOpen lo hi _ c xs n k (pv n k) (-1) HN.out (by omega) hlt (pv_lt hlt) (by decide) (by decide) HI2.out _ HSW.out).mono ?_
      rintro e1 w1 ⟨rfl, rfl⟩
      go_wp2_with fail
      refine (nbrNone _ c n k 1 (by omega) hlt (by decide) (by decide) (.inr (by omega)) _).mono ?_
      rintro e1 w2 ⟨rfl, rfl⟩
      go_wp2_with fail
      refine (minusR PN.out PP.out LN.out LP.out _).mono ?_
      rintro e1 w3 ⟨rfl, rfl⟩
      go_wp2_with fail
      refine (scaledR PM.out q50b LM.out (by decide) (by omega) _).mono ?_
      rintro e1 w4 ⟨rfl, rfl⟩
      go_wp2_with fail
      refine (ifPointR ⟨PS.out.1.num, PS.out.2.num⟩ _).mono ?_
      rintro e1 w6 ⟨rfl, q6, rfl⟩
      go_wp2_with fail
      go_ret2
      exact ⟨by rw [EF.out]; rfl, _, by first | exact World.drewN_drewN | rfl⟩
  · have HI1 := Lib.hid (show (k : Int) + 1 = (nx n k : Nat) by unfold nx; rw [if_neg (by omega)]; omega)
    obtain ⟨pa, la⟩ := HPL.out.pt k (by rw [HN.out]; exact hlt)
    obtain ⟨pb, lb⟩ := HPL.out.pt (pv n k) (by rw [HN.out]; exact pv_lt hlt)
    obtain ⟨pc, lc⟩ := HPL.out.pt (nx n k) (by rw [HN.out]; exact nx_lt hlt)
    have l4 : ∀ {p : Zp} {C : Nat}, low p C → C ≤ 4194304 → low p 4194304 := fun hp hC => hp.mono hC
    have EF := Lib.hid (show slopeF xs false k = scaleF (minusF (cAt xs (nx n k)) (cAt xs (k))) 1056964608 by unfold slopeF; rw [HN.out, if_pos (by simp; omega), if_neg (by simp; omega)])
    have PP := Lib.hid (pa)
    have PN := Lib.hid (pc)
    have LP := Lib.hid (l4 (la) (by omega))
    have LN := Lib.hid (l4 (lc) (by omega))
    have LM := Lib.hid (low.sub (lc) (la) (C := 65536) (by omega))
    have PM := Lib.hid (PN.out.minus PP.out LN.out LP.out)
    have PS := Lib.hid (PM.out.scale q50b LM.out (by decide) (by omega))
    clear pa pb pc la lb lc l4
    go_wp2_with fail
    refine (nbrNone _ c n k (-1) (by omega) hlt (by decide) (by decide) (.inl (by omega)) _).mono ?_
    rintro e1 w1 ⟨rfl, rfl⟩
    go_wp2_with fail
    refine (nbrOpen lo hi _ c xs n k (nx n k) 1 HN.out (by omega) hlt (nx_lt hlt) (by decide) (by decide) HI1.out _ HSW.out).mono ?_
    rintro e1 w2 ⟨rfl, rfl⟩
    go_wp2_with fail
    refine (minusR PN.out PP.out LN.out LP.out _).mono ?_
    rintro e1 w3 ⟨rfl, rfl⟩
    go_wp2_with fail
    refine (scaledR PM.out q50b LM.out (by decide) (by omega) _).mono ?_
    rintro e1 w4 ⟨rfl, rfl⟩
    go_wp2_with fail
    refine (ifPointR ⟨PS.out.1.num, PS.out.2.num⟩ _).mono ?_
    rintro e1 w6 ⟨rfl, q6, rfl⟩
    go_wp2_with fail
    go_ret2
    exact ⟨by rw [EF.out]; rfl, _, by first | exact World.drewN_drewN | rfl⟩
end Go.Proofs.Ytkpjhoiaegioeaa
