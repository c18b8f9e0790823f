/- impl.LongOf, RoughOfRing, LimitPoint, LimitSlope walked; the law's small functions. -/
import Derived.Test.YtkpjhoiaegioeaaRgL
namespace Go.Fl
open Ieee Go.RowKit
def roughF (xs : List Cx) (i : Nat) : Cx := plusF (minusF (cAt xs (pv xs.length i)) (scaleF (cAt xs i) 1073741824)) (cAt xs (nx xs.length i))
def roughZ (ks : List Zp) (i : Nat) : Zp := addZ (subZ (zAt ks (pv ks.length i)) (mulZ (zAt ks i) 2)) (zAt ks (nx ks.length i))
theorem q2 : Q .f32 1073741824 2 0 := ⟨by decide +kernel, by decide +kernel, by decide⟩
theorem rough_px {xs : List Cx} {ks : List Zp} {e B i : Nat} (h : PL xs ks e B) (hB : B ≤ 8192) (he : e ≤ 100) (hi : i < xs.length) : PX (roughF xs i) (roughZ ks i) e ∧ low (roughZ ks i) (4 * B) := by
  have hl := h.len
  unfold roughF roughZ
  rw [hl]
  obtain ⟨pa, la⟩ := h.pt i hi
  obtain ⟨pb, lb⟩ := h.pt _ (pv_lt hi)
  obtain ⟨pc, lc⟩ := h.pt _ (nx_lt hi)
  have l4 : ∀ {p : Zp} {C : Nat}, low p C → C ≤ 4194304 → low p 4194304 := fun hp hC => hp.mono hC
  have s := pa.scale q2 (la.mono (by omega)) (by decide) (by omega)
  have ls := la.mul (j := 2) (c := 2) (C := 2 * B) (by decide) (by omega)
  have d := pb.minus s (l4 lb (by omega)) (l4 ls (by omega))
  have ld : low (subZ (zAt ks (pv xs.length i)) (mulZ (zAt ks i) 2)) (3 * B) := by
    have a := lb.1; have b := ls.1; have c := lb.2; have f := ls.2
    exact ⟨by show (_ - _ : Int).natAbs ≤ _; omega, by show (_ - _ : Int).natAbs ≤ _; omega⟩
  refine ⟨d.plus pc (l4 ld (by omega)) (l4 lc (by omega)), ?_, ?_⟩
  · have a := ld.1; have b := lc.1; show (_ + _ : Int).natAbs ≤ _; omega
  · have a := ld.2; have b := lc.2; show (_ + _ : Int).natAbs ≤ _; omega
/-- both neighbours are -/
def both (closed : Bool) (n i : Nat) : Prop := closed = true ∨ (0 < i ∧ i + 1 < n)
/-- the greatest roughness of the first k -/
structure MaxTo (xs : List Cx) (closed : Bool) (k x : Nat) : Prop where
  num : isN .f32 x = true
  ge : 0 ≤ V .f32 x
  all : ∀ i, i < k → both closed xs.length i → V .f32 (longF (roughF xs i)) ≤ V .f32 x
  one : V .f32 x = 0 ∨ ∃ i, i < k ∧ both closed xs.length i ∧ V .f32 x = V .f32 (longF (roughF xs i))
end Go.Fl
namespace Go.Proofs.Ytkpjhoiaegioeaa
open Go.RowKit Go.Fl

theorem run_sqrt (y : Nat) (w : World) : (callFunc 80 #[.float .f64 y]).run Try.prog w = .ok (.value (.float .f64 (msqrt y w))) (w.drewN (msqd y)) := by
  have h := run_callFunc_extern (P := Try.prog) (e := Extern.MathSqrt.sqrt) Try.func80 (by kernel_rfl) (by kernel_rfl) (by kernel_rfl) (by kernel_rfl) #[.float .f64 y] w
  rw [h]
  have e : (Extern.MathSqrt.sqrt #[.float .f64 y]).run Try.prog w = .ok (.float .f64 (msqrt y w)) (w.drewN (msqd y)) := by
    show Sem.run Try.prog (match FloatKind.f64.format.sqrt y with | some r => pure (Value.float .f64 r) | none => do pure (Value.float .f64 (← choose (.nanBits .f64 y y)))) w = _
    unfold msqrt msqd
    cases hs : FloatKind.f64.format.sqrt y with
    | some r => simp [hs, World.drewN_zero]
    | none => simp [hs, Question.forced, World.drew_is_drewN]
  rw [e]; rfl
theorem mathSqrtR {y r : Nat} (h : FloatKind.f64.format.sqrt y = some r) (w : World) : Calls Try.prog 70 #[.float .f64 y] w fun e w' => e = .returned (.float .f64 r) ∧ w' = w := by
  have hs := run_sqrt y
  have m1 : ∀ w, msqrt y w = r := fun w => by unfold msqrt; rw [h]
  have m2 : msqd y = 0 := by unfold msqd; rw [h]; rfl
  have dz : ∀ w : World, w.drewN 0 = w := World.drewN_zero
  simp only [m1, m2, dz] at hs
  clear m1 m2 dz h
  go_enter Try.func70, Try.ntmps70
  go_wp2_with fail
  go_ret
  exact ⟨rfl, rfl⟩
theorem partsR {z : Cx} (h : nanB .f32 z.1 = false ∧ nanB .f32 z.2 = false) (w : World) : Calls Try.prog 81 #[cV z] w fun e w' => e = .returned (.tuple #[.float .f64 (fcv .f32 .f64 z.1), .float .f64 (fcv .f32 .f64 z.2)]) ∧ w' = w := by
  obtain ⟨m1, d1⟩ := run_wid64 h.1
  obtain ⟨m2, d2⟩ := run_wid64 h.2
  have dz : ∀ w : World, w.drewN 0 = w := World.drewN_zero
  obtain ⟨a, b⟩ := z
  clear h
  unfold cV
  go_enter Try.func81, Try.ntmps81
  go_wp2_with fail
  go_ret2
  exact ⟨rfl, rfl⟩
theorem powerR {z : Cx} {p : Zp} {e : Nat} (h : PX z p e) (hl : low p 65536) (he : e ≤ 100) (w : World) : Calls Try.prog 71 #[cV z] w fun x w' => x = .returned (.float .f64 (powF z)) ∧ w' = w := by
  obtain ⟨_, _, f1, f2, f3⟩ := pow_facts h hl he
  obtain ⟨m1, d1⟩ := run_fop f1
  obtain ⟨m2, d2⟩ := run_fop f2
  obtain ⟨m3, d3⟩ := run_fop f3
  have dz : ∀ w : World, w.drewN 0 = w := World.drewN_zero
  have HN := Lib.hid h.nan
  clear h f1 f2 f3
  go_enter Try.func71, Try.ntmps71
  go_wp2_with fail
  refine (partsR HN.out _).mono ?_
  rintro e1 w1 ⟨rfl, rfl⟩
  go_wp2_with fail
  go_ret
  exact ⟨rfl, rfl⟩
theorem longR {z : Cx} {p : Zp} {e : Nat} (h : PX z p e) (hl : low p 65536) (he : e ≤ 100) (w : World) : Calls Try.prog 54 #[cV z] w fun x w' => x = .returned (.float .f32 (longF z)) ∧ w' = w := by
  obtain ⟨f1, f2, f3, _⟩ := long_facts h hl he
  obtain ⟨m1, d1⟩ := run_nar32 f2 f3
  have dz : ∀ w : World, w.drewN 0 = w := World.drewN_zero
  have HP := Lib.hid (fun w => powerR h hl he w)
  have HS := Lib.hid (fun w => mathSqrtR f1 w)
  clear h hl f1 f2 f3
  go_enter Try.func54, Try.ntmps54
  go_wp2_with fail
  refine (HP.out _).mono ?_
  rintro e1 w1 ⟨rfl, rfl⟩
  go_wp2_with fail
  refine (HS.out _).mono ?_
  rintro e1 w1 ⟨rfl, rfl⟩
  go_wp2_with fail
  go_ret
  exact ⟨rfl, rfl⟩

set_option maxHeartbeats 8000000 in
set_option maxRecDepth 100000 in
theorem roughClosed {xs : List Cx} {ks : List Zp} {e B : Nat} (lo hi : Nat) (ao : Option Addr) (c n : Nat) (h : PL xs ks e B) (hB8 : B ≤ 8192) (hn : xs.length = n) (hn2 : 2 ≤ n) (hn128 : n ≤ 128) (he : e ≤ 100) (w : World) (hsl : SlC w lo hi ao xs) :
    Calls Try.prog 22 #[.slice ao n c, .bool true] w fun y w' => (∃ x, y = .returned (.tuple #[.float .f32 x, .bool true]) ∧ MaxTo xs true n x) ∧ ∃ q, w' = w.drewN q := by
  have HPL := Lib.hid h
  have HN := Lib.hid hn
  have HS := Lib.hid hsl
  have HIR := Lib.hid (isRing lo hi ao c n h hn hn2 hn128 w hsl)
  obtain ⟨bS, hao, hb1, hb2, hc⟩ := hsl (by omega)
  have HCELL := Lib.hid (fun i (hi : i < n) => hc i (by omega))
  have n1 : (n : Int) ≤ 128 := by omega
  have n2 : (2 : Int) ≤ (n : Int) := by omega
  have n3 : (0 : Int) < (n : Int) := by omega
  have n0 : ¬ n = 0 := by omega
  clear h hn hsl hc
  subst hao
  go_enter Try.func22, Try.ntmps22
  go_wp2_with fail
  refine HIR.out.mono ?_
  rintro e1 w0 ⟨rfl, q0, rfl⟩
  clear HIR
  go_wp2_with fail
  go_loopw [6, 19] (fun m i wr => ∃ (k q x : Nat), k ≤ n ∧ i = .int .i64 k ∧ m = .float .f32 x ∧ wr = w.drewN q ∧ Hid (MaxTo xs true k x)) (fun _ i _ => n - (intOf i).toNat)
  case atStart => exact ⟨0, q0, 0, by omega, rfl, rfl, rfl, Lib.hid ⟨zero_N.1, by rw [zero_N.2]; decide, fun i hi => absurd hi (Nat.not_lt_zero _), .inl zero_N.2⟩⟩
  case round =>
    obtain ⟨k, q, x, hk, rfl, rfl, rfl, HMT⟩ := hrel
    by_cases hlt : k < n
    · have hcell : (w.drewN q).cell? ⟨bS, k, none⟩ = some (cV (cAt xs k)) := HCELL.out k hlt
      have k0 : (0 : Int) ≤ (k : Int) := by omega
      have k1 : (k : Int) < (n : Int) := by omega
      have HSW := Lib.hid (HS.out.far ((Far.refl _ _ w).drewN q))
      obtain ⟨pa, la⟩ := HPL.out.pt k (by rw [HN.out]; exact hlt)
      obtain ⟨pb, lb⟩ := HPL.out.pt (pv n k) (by rw [HN.out]; exact pv_lt hlt)
      obtain ⟨pc, lc⟩ := HPL.out.pt (nx n k) (by rw [HN.out]; exact nx_lt hlt)
      have l4 : ∀ {p : Zp} {C : Nat}, low p C → C ≤ 4194304 → low p 4194304 := fun hp hC => hp.mono hC
      have s1 := pa.scale q2 (la.mono (by omega)) (by decide) (by omega)
      have ls := la.mul (j := 2) (c := 2) (C := 2 * B) (by decide) (by omega)
      have d1 := pb.minus s1 (l4 lb (by omega)) (l4 ls (by omega))
      have ld : low (subZ (zAt ks (pv n k)) (mulZ (zAt ks k) 2)) 4194304 := by
        have a := lb.1; have b := ls.1; have c := lb.2; have f := ls.2
        exact ⟨by show (_ - _ : Int).natAbs ≤ _; omega, by show (_ - _ : Int).natAbs ≤ _; omega⟩
      obtain ⟨pr, lr⟩ := rough_px HPL.out hB8 he (show k < xs.length by rw [HN.out]; exact hlt)
      have ER : roughF xs k = plusF (minusF (cAt xs (pv n k)) (scaleF (cAt xs k) 1073741824)) (cAt xs (nx n k)) := by unfold roughF; rw [HN.out]
      rw [ER] at pr
      have PA := Lib.hid pa
      have PB := Lib.hid pb
      have PC := Lib.hid pc
      have LA := Lib.hid (show low (zAt ks k) 65536 from la.mono (by omega))
      have LB := Lib.hid (l4 lb (by omega))
      have LC := Lib.hid (l4 lc (by omega))
      have LS := Lib.hid (l4 ls (by omega))
      have LD := Lib.hid ld
      have S1 := Lib.hid s1
      have D1 := Lib.hid d1
      have PR := Lib.hid pr
      have LR := Lib.hid (show low (roughZ ks k) 65536 from lr.mono (by omega))
      have LF := Lib.hid (long_facts pr (lr.mono (by omega)) he)
      have HFN := Lib.hid (finN LF.out.2.2.1)
      have hrm := fun (x : Nat) (hx : isN .f32 x = true) (ts : Array TypeId) (t : TypeId) (w : World) => run_maxF (P := Try.prog) hx LF.out.2.2.1 ts t w
      have HRM := Lib.hid hrm
      have HER := Lib.hid ER
      clear pa pb pc la lb lc l4 s1 ls d1 ld pr lr ER hrm
      go_wp2_with fail
      refine (nbrClosed lo hi _ c xs n k (pv n k) (-1) HN.out (by omega) hlt (pv_lt hlt) (by decide) (by decide) (tm_pv hlt hn2) _ HSW.out).mono ?_
      rintro e1 w1 ⟨rfl, rfl⟩
      go_wp2_with fail
      refine (nbrClosed lo hi _ c xs n k (nx n k) 1 HN.out (by omega) hlt (nx_lt hlt) (by decide) (by decide) (tm_nx hlt) _ HSW.out).mono ?_
      rintro e1 w2 ⟨rfl, rfl⟩
      go_wp2_with fail
      refine (scaledR PA.out q2 LA.out (by decide) (by omega) _).mono ?_
      rintro e1 w3 ⟨rfl, rfl⟩
      go_wp2_with fail
      refine (minusR PB.out S1.out LB.out LS.out _).mono ?_
      rintro e1 w4 ⟨rfl, rfl⟩
      go_wp2_with fail
      refine (plusR D1.out PC.out LD.out LC.out _).mono ?_
      rintro e1 w5 ⟨rfl, rfl⟩
      go_wp2_with fail
      refine (longR PR.out LR.out he _).mono ?_
      rintro e1 w6 ⟨rfl, rfl⟩
      obtain ⟨lx, hlx⟩ : ∃ lx, lx = longF (plusF (minusF (cAt xs (pv n k)) (scaleF (cAt xs k) 1073741824)) (cAt xs (nx n k))) := ⟨_, rfl⟩
      have HLX := Lib.hid hlx
      have hlf := LF.out
      rw [← hlx] at hlf ⊢
      have hfin := HFN.out
      rw [← hlx] at hfin
      have hmt := HMT.out
      have hrm := fun (ts : Array TypeId) (t : TypeId) (w : World) => run_maxF (P := Try.prog) hmt.num hlf.2.2.1 ts t w
      have hmf := maxF_facts hmt.num hlf.2.2.1
      obtain ⟨mx, hmx⟩ : ∃ mx, mx = maxF .f32 x lx := ⟨_, rfl⟩
      rw [← hmx] at hmf
      simp only [← hmx] at hrm
      have HMF := Lib.hid hmf
      have HFI := Lib.hid hfin
      have HLF3 := Lib.hid hlf.2.2.2.1
      clear hlx hlf hfin hmt hmf hmx LF HFN HRM
      go_wp2_with fail
      refine (implIsFinite lx _).mono ?_
      rintro e1 w7 ⟨rfl, q7, rfl⟩
      rw [HFI.out]
      go_wp2_with fail
      have hmt := HMT.out
      have hmf := HMF.out
      have hl3 := HLF3.out
      have hxe : lx = longF (roughF xs k) := by rw [HER.out]; exact HLX.out
      refine ⟨⟨k + 1, q + q7, mx, by omega, by go_num, rfl, by simp, Lib.hid ⟨hmf.1, by omega, fun i hi hb => ?_, ?_⟩⟩, by simp [intOf]; omega⟩
      · by_cases hik : i < k
        · exact Int.le_trans (hmt.all i hik hb) hmf.2.1
        · have : i = k := by omega
          subst this
          rw [← hxe]; exact hmf.2.2.1
      · rcases hmf.2.2.2 with h | h
        · rw [h]
          rcases hmt.one with h | ⟨i, hi, h⟩
          · exact .inl h
          · exact .inr ⟨i, by omega, h⟩
        · rw [h, hxe]
          exact .inr ⟨k, by omega, .inl rfl, rfl⟩
    · have k1 : ¬ (k : Int) < (n : Int) := by omega
      have hkn : k = n := by omega
      subst hkn
      go_wp2_with fail
      go_ret2
      exact ⟨⟨x, rfl, HMT.out⟩, q, rfl⟩

set_option maxHeartbeats 8000000 in
set_option maxRecDepth 100000 in
theorem roughOpen {xs : List Cx} {ks : List Zp} {e B : Nat} (lo hi : Nat) (ao : Option Addr) (c n : Nat) (h : PL xs ks e B) (hB8 : B ≤ 8192) (hn : xs.length = n) (hn2 : 2 ≤ n) (hn128 : n ≤ 128) (he : e ≤ 100) (w : World) (hsl : SlC w lo hi ao xs) :
    Calls Try.prog 22 #[.slice ao n c, .bool false] w fun y w' => (∃ x, y = .returned (.tuple #[.float .f32 x, .bool true]) ∧ MaxTo xs false n x) ∧ ∃ q, w' = w.drewN q := by
  have HPL := Lib.hid h
  have HN := Lib.hid hn
  have HS := Lib.hid hsl
  have HIR := Lib.hid (isRing lo hi ao c n h hn hn2 hn128 w hsl)
  obtain ⟨bS, hao, hb1, hb2, hc⟩ := hsl (by omega)
  have HCELL := Lib.hid (fun i (hi : i < n) => hc i (by omega))
  have n1 : (n : Int) ≤ 128 := by omega
  have n2 : (2 : Int) ≤ (n : Int) := by omega
  have n3 : (0 : Int) < (n : Int) := by omega
  have n0 : ¬ n = 0 := by omega
  clear h hn hsl hc
  subst hao
  go_enter Try.func22, Try.ntmps22
  go_wp2_with fail
  refine HIR.out.mono ?_
  rintro e1 w0 ⟨rfl, q0, rfl⟩
  clear HIR
  go_wp2_with fail
  go_loopw [6, 19] (fun m i wr => ∃ (k q x : Nat), k ≤ n ∧ i = .int .i64 k ∧ m = .float .f32 x ∧ wr = w.drewN q ∧ Hid (MaxTo xs false k x)) (fun _ i _ => n - (intOf i).toNat)
  case atStart => exact ⟨0, q0, 0, by omega, rfl, rfl, rfl, Lib.hid ⟨zero_N.1, by rw [zero_N.2]; decide, fun i hi => absurd hi (Nat.not_lt_zero _), .inl zero_N.2⟩⟩
  case round =>
    obtain ⟨k, q, x, hk, rfl, rfl, rfl, HMT⟩ := hrel
    by_cases hlt : k < n
    · have hcell : (w.drewN q).cell? ⟨bS, k, none⟩ = some (cV (cAt xs k)) := HCELL.out k hlt
      have k0 : (0 : Int) ≤ (k : Int) := by omega
      have k1 : (k : Int) < (n : Int) := by omega
      have HSW := Lib.hid (HS.out.far ((Far.refl _ _ w).drewN q))
      by_cases hp0 : 0 < k
      · have HI2 := Lib.hid (show (k : Int) + -1 = (pv n k : Nat) by unfold pv; rw [if_neg (by omega)]; omega)
        by_cases hl2 : k + 1 < n
        · have HI1 := Lib.hid (show (k : Int) + 1 = (nx n k : Nat) by unfold nx; rw [if_neg (by omega)]; omega)
          obtain ⟨pa, la⟩ := HPL.out.pt k (by rw [HN.out]; exact hlt)
          obtain ⟨pb, lb⟩ := HPL.out.pt (pv n k) (by rw [HN.out]; exact pv_lt hlt)
          obtain ⟨pc, lc⟩ := HPL.out.pt (nx n k) (by rw [HN.out]; exact nx_lt hlt)
          have l4 : ∀ {p : Zp} {C : Nat}, low p C → C ≤ 4194304 → low p 4194304 := fun hp hC => hp.mono hC
          have s1 := pa.scale q2 (la.mono (by omega)) (by decide) (by omega)
          have ls := la.mul (j := 2) (c := 2) (C := 2 * B) (by decide) (by omega)
          have d1 := pb.minus s1 (l4 lb (by omega)) (l4 ls (by omega))
          have ld : low (subZ (zAt ks (pv n k)) (mulZ (zAt ks k) 2)) 4194304 := by
            have a := lb.1; have b := ls.1; have c := lb.2; have f := ls.2
            exact ⟨by show (_ - _ : Int).natAbs ≤ _; omega, by show (_ - _ : Int).natAbs ≤ _; omega⟩
          obtain ⟨pr, lr⟩ := rough_px HPL.out hB8 he (show k < xs.length by rw [HN.out]; exact hlt)
          have ER : roughF xs k = plusF (minusF (cAt xs (pv n k)) (scaleF (cAt xs k) 1073741824)) (cAt xs (nx n k)) := by unfold roughF; rw [HN.out]
          rw [ER] at pr
          have PA := Lib.hid pa
          have PB := Lib.hid pb
          have PC := Lib.hid pc
          have LA := Lib.hid (show low (zAt ks k) 65536 from la.mono (by omega))
          have LB := Lib.hid (l4 lb (by omega))
          have LC := Lib.hid (l4 lc (by omega))
          have LS := Lib.hid (l4 ls (by omega))
          have LD := Lib.hid ld
          have S1 := Lib.hid s1
          have D1 := Lib.hid d1
          have PR := Lib.hid pr
          have LR := Lib.hid (show low (roughZ ks k) 65536 from lr.mono (by omega))
          have LF := Lib.hid (long_facts pr (lr.mono (by omega)) he)
          have HFN := Lib.hid (finN LF.out.2.2.1)
          have hrm := fun (x : Nat) (hx : isN .f32 x = true) (ts : Array TypeId) (t : TypeId) (w : World) => run_maxF (P := Try.prog) hx LF.out.2.2.1 ts t w
          have HRM := Lib.hid hrm
          have HER := Lib.hid ER
          clear pa pb pc la lb lc l4 s1 ls d1 ld pr lr ER hrm
          go_wp2_with fail
          refine (nbrOpen lo hi _ c xs n k (pv n k) (-1) HN.out (by omega) hlt (pv_lt hlt) (by decide) (by decide) HI2.out _ HSW.out).mono ?_
          rintro e1 w1 ⟨rfl, rfl⟩
          go_wp2_with fail
          refine (nbrOpen lo hi _ c xs n k (nx n k) 1 HN.out (by omega) hlt (nx_lt hlt) (by decide) (by decide) HI1.out _ HSW.out).mono ?_
          rintro e1 w2 ⟨rfl, rfl⟩
          go_wp2_with fail
          refine (scaledR PA.out q2 LA.out (by decide) (by omega) _).mono ?_
          rintro e1 w3 ⟨rfl, rfl⟩
          go_wp2_with fail
          refine (minusR PB.out S1.out LB.out LS.out _).mono ?_
          rintro e1 w4 ⟨rfl, rfl⟩
          go_wp2_with fail
          refine (plusR D1.out PC.out LD.out LC.out _).mono ?_
          rintro e1 w5 ⟨rfl, rfl⟩
          go_wp2_with fail
          refine (longR PR.out LR.out he _).mono ?_
          rintro e1 w6 ⟨rfl, rfl⟩
          obtain ⟨lx, hlx⟩ : ∃ lx, lx = longF (plusF (minusF (cAt xs (pv n k)) (scaleF (cAt xs k) 1073741824)) (cAt xs (nx n k))) := ⟨_, rfl⟩
          have HLX := Lib.hid hlx
          have hlf := LF.out
          rw [← hlx] at hlf ⊢
          have hfin := HFN.out
          rw [← hlx] at hfin
          have hmt := HMT.out
          have hrm := fun (ts : Array TypeId) (t : TypeId) (w : World) => run_maxF (P := Try.prog) hmt.num hlf.2.2.1 ts t w
          have hmf := maxF_facts hmt.num hlf.2.2.1
          obtain ⟨mx, hmx⟩ : ∃ mx, mx = maxF .f32 x lx := ⟨_, rfl⟩
          rw [← hmx] at hmf
          simp only [← hmx] at hrm
          have HMF := Lib.hid hmf
          have HFI := Lib.hid hfin
          have HLF3 := Lib.hid hlf.2.2.2.1
          clear hlx hlf hfin hmt hmf hmx LF HFN HRM
          go_wp2_with fail
          refine (implIsFinite lx _).mono ?_
          rintro e1 w7 ⟨rfl, q7, rfl⟩
          rw [HFI.out]
          go_wp2_with fail
          have hmt := HMT.out
          have hmf := HMF.out
          have hl3 := HLF3.out
          have hxe : lx = longF (roughF xs k) := by rw [HER.out]; exact HLX.out
          refine ⟨⟨k + 1, q + q7, mx, by omega, by go_num, rfl, by simp, Lib.hid ⟨hmf.1, by omega, fun i hi hb => ?_, ?_⟩⟩, by simp [intOf]; omega⟩
          · by_cases hik : i < k
            · exact Int.le_trans (hmt.all i hik hb) hmf.2.1
            · have : i = k := by omega
              subst this
              rw [← hxe]; exact hmf.2.2.1
          · rcases hmf.2.2.2 with h | h
            · rw [h]
              rcases hmt.one with h | ⟨i, hi, h⟩
              · exact .inl h
              · exact .inr ⟨i, by omega, h⟩
            · rw [h, hxe]
              exact .inr ⟨k, by omega, .inr ⟨by omega, by rw [HN.out]; omega⟩, rfl⟩
        · skip
          go_wp2_with fail
          refine (nbrOpen lo hi _ c xs n k (pv n k) (-1) HN.out (by omega) hlt (pv_lt hlt) (by decide) (by decide) HI2.out _ HSW.out).mono ?_
          rintro e1 w1 ⟨rfl, rfl⟩
          go_wp2_with fail
          refine (nbrNone _ c n k 1 (by omega) hlt (by decide) (by decide) (.inr (by omega)) _).mono ?_
          rintro e1 w2 ⟨rfl, rfl⟩
          go_wp2_with fail
          have hmt := HMT.out
          refine ⟨⟨k + 1, q, x, by omega, by go_num, rfl, rfl, Lib.hid ⟨hmt.num, hmt.ge, fun i hi hb => ?_, ?_⟩⟩, by simp [intOf]; omega⟩
          · by_cases hik : i < k
            · exact hmt.all i hik hb
            · exfalso
              rw [HN.out] at hb
              rcases hb with h | h
              · cases h
              · omega
          · rcases hmt.one with h | ⟨i, hi, h⟩
            · exact .inl h
            · exact .inr ⟨i, by omega, h⟩
      · have HI1 := Lib.hid (show (k : Int) + 1 = (nx n k : Nat) by unfold nx; rw [if_neg (by omega)]; omega)
        go_wp2_with fail
        refine (nbrNone _ c n k (-1) (by omega) hlt (by decide) (by decide) (.inl (by omega)) _).mono ?_
        rintro e1 w1 ⟨rfl, rfl⟩
        go_wp2_with fail
        refine (nbrOpen lo hi _ c xs n k (nx n k) 1 HN.out (by omega) hlt (nx_lt hlt) (by decide) (by decide) HI1.out _ HSW.out).mono ?_
        rintro e1 w2 ⟨rfl, rfl⟩
        go_wp2_with fail
        have hmt := HMT.out
        refine ⟨⟨k + 1, q, x, by omega, by go_num, rfl, rfl, Lib.hid ⟨hmt.num, hmt.ge, fun i hi hb => ?_, ?_⟩⟩, by simp [intOf]; omega⟩
        · by_cases hik : i < k
          · exact hmt.all i hik hb
          · exfalso
            rw [HN.out] at hb
            rcases hb with h | h
            · cases h
            · omega
        · rcases hmt.one with h | ⟨i, hi, h⟩
          · exact .inl h
          · exact .inr ⟨i, by omega, h⟩
    · have k1 : ¬ (k : Int) < (n : Int) := by omega
      have hkn : k = n := by omega
      subst hkn
      go_wp2_with fail
      go_ret2
      exact ⟨⟨x, rfl, HMT.out⟩, q, rfl⟩

theorem roughOf {xs : List Cx} {ks : List Zp} {e B : Nat} (lo hi : Nat) (ao : Option Addr) (c n : Nat) (closed : Bool) (h : PL xs ks e B) (hB8 : B ≤ 8192) (hn : xs.length = n) (hn2 : 2 ≤ n) (hn128 : n ≤ 128) (he : e ≤ 100) (w : World) (hsl : SlC w lo hi ao xs) :
    Calls Try.prog 22 #[.slice ao n c, .bool closed] w fun y w' => (∃ x, y = .returned (.tuple #[.float .f32 x, .bool true]) ∧ MaxTo xs closed n x) ∧ ∃ q, w' = w.drewN q := by
  cases closed
  · exact roughOpen lo hi ao c n h hB8 hn hn2 hn128 he w hsl
  · exact roughClosed lo hi ao c n h hB8 hn hn2 hn128 he w hsl
end Go.Proofs.Ytkpjhoiaegioeaa
