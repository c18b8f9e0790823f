/- spec.R8Points; the law's small functions. -/
import Derived.Test.YtkpjhoiaegioeaaRgO
import Derived.Test.YtkpjhoiaegioeaaGSrc
import Derived.Test.YtkpjhoiaegioeaaGLoop
namespace Go.Fl
open Ieee Go.RowKit
theorem four_read : FloatKind.f32.format.read 1082130432 = .number false (2 ^ FB .f32) (((2 : Nat) : Int) - FB .f32) := by decide
theorem qd_run {m : Int} (hm : m.natAbs ≤ 64) : ∃ z, (∀ w, mop .quo .f32 (floatOfInt .f32 m) 1082130432 w = z) ∧ mdr .quo .f32 (floatOfInt .f32 m) 1082130432 = 0 ∧ Q .f32 z m 2 := by
  have q1 := Q.ofInt .f32 m (lt24 (by omega))
  have q2 := Q.half (e := 0) q1 four_read (lt24 (by omega)) (by decide)
  obtain ⟨h1, h2⟩ := run_fop q2
  exact ⟨_, h1, h2, q2⟩
theorem PL.nil (e B : Nat) : PL [] [] e B := ⟨rfl, fun i hi => absurd hi (Nat.not_lt_zero _)⟩
theorem PL.snoc {xs : List Cx} {ks : List Zp} {e B : Nat} (h : PL xs ks e B) {z : Cx} {p : Zp} (hz : PX z p e) (hp : low p B) : PL (xs ++ [z]) (ks ++ [p]) e B := by
  refine ⟨by rw [List.length_append, List.length_append, h.len]; rfl, fun i hi => ?_⟩
  rw [List.length_append] at hi
  by_cases hlt : i < xs.length
  · have e1 : cAt (xs ++ [z]) i = cAt xs i := by unfold cAt; rw [List.getD_eq_getElem?_getD, List.getD_eq_getElem?_getD, List.getElem?_append_left hlt]
    have e2 : zAt (ks ++ [p]) i = zAt ks i := by unfold zAt; rw [List.getD_eq_getElem?_getD, List.getD_eq_getElem?_getD, List.getElem?_append_left (by rw [h.len]; exact hlt)]
    rw [e1, e2]; exact h.pt i hlt
  · have hi2 : i = xs.length := by have : [z].length = 1 := rfl
                                   omega
    have e1 : cAt (xs ++ [z]) i = z := by unfold cAt; rw [List.getD_eq_getElem?_getD, List.getElem?_append_right (by omega), hi2, Nat.sub_self]; rfl
    have e2 : zAt (ks ++ [p]) i = p := by unfold zAt; rw [List.getD_eq_getElem?_getD, List.getElem?_append_right (by rw [h.len]; omega), h.len, hi2, Nat.sub_self]; rfl
    rw [e1, e2]; exact ⟨hz, hp⟩
@[go_sem high] theorem run_wid1 {P : Program} {w : World} {src dst : TypeId} (b : Nat) (h1 : nanB .f32 b = false) (hs : (P.underlying src).isSome = true) (hd : P.underlying dst = some (.float .f64)) :
    (convert src dst (.float .f32 b)).run P w = .ok (.float .f64 (wid b)) w := by
  rw [run_widen b hs hd]
  simp [mcv, mcd, h1, fits_widen b, World.drewN_zero, wid]
theorem Kept.on {lo hi B : Nat} {a w w' : World} (h : Kept lo hi a w) (hb : Below B w w') (hB : a.heap.size ≤ B) : Kept lo hi a w' :=
  ⟨hb.os.trans h.os, hb.tape.trans h.tape, hb.output.trans h.output, Nat.le_trans h.size hb.size, fun c hc hn => (hb.block c (by omega)).trans (h.block c hc hn), fun c n hc hr => Room.same (hb.block c (by omega)) (h.room c n hc hr)⟩
theorem CodeAt.up {w : World} {P P' : Nat} {a : Option Addr} {n : Nat} (h : CodeAt w P a n) (hp : P ≤ P') : CodeAt w P' a n := fun h0 => by
  obtain ⟨b, off, e, hb, hc⟩ := h h0
  exact ⟨b, off, e, by omega, hc⟩
end Go.Fl
namespace Go.Proofs.Ytkpjhoiaegioeaa
open Go.RowKit Go.Fl

theorem l00From (a : Option Addr) (n c : Nat) (w : World) :
    Calls Try.prog 41 #[.slice a n c] w fun e w' => e = .returned (.pointer (some ⟨w.heap.size, 0, none⟩)) ∧ w' = w.alloc (.cells #[.slice a n c, .int .i64 0, .int .u64 0] 82) := by
  go_enter Try.func41, Try.ntmps41
  go_wp2_with fail
  go_ret
  exact ⟨rfl, rfl⟩
theorem run_bits64 (b : Nat) (w : World) : (callFunc 79 #[.float .f64 b]).run Try.prog w = .ok (.value (.int .u64 b)) w := by
  rw [run_callFunc_extern (P := Try.prog) (e := Extern.MathFloatBits.float64bits) Try.func79 (by kernel_rfl) (by kernel_rfl) (by kernel_rfl) (by kernel_rfl) #[.float .f64 b] w]
  rfl
theorem signbit (b : Nat) (w : World) : Calls Try.prog 69 #[.float .f64 b] w fun e w' => e = .returned (.bool (decide (wrap64 (b : Int) < 0))) ∧ w' = w := by
  have hbits := run_bits64 b
  go_enter Try.func69, Try.ntmps69
  go_wp2_with fail
  go_ret
  exact ⟨rfl, rfl⟩
theorem sameNumber (x : Nat) (hx : nanB .f32 x = false) (w : World) : Calls Try.prog 53 #[.float .f32 x, .float .f32 x] w fun e w' => e = .returned (.bool true) ∧ w' = w := by
  have h1 : (FloatKind.f32.format.order x x != some Ordering.eq) = false := by rw [order_self hx]; rfl
  have h2 : (FloatKind.f32.format.order x x == some Ordering.eq) = true := by rw [order_self hx]; rfl
  obtain ⟨r, hr⟩ : ∃ r, r = decide (wrap64 (wid x : Int) < 0) := ⟨_, rfl⟩
  have HR := Lib.hid hr
  clear hr
  go_enter Try.func53, Try.ntmps53
  go_wp2_with (go_at_call 69; refine (signbit _ _).mono ?_; rintro e w' ⟨rfl, rfl⟩; rw [← HR.out])
  go_ret
  exact ⟨ret_bool (by first | rfl | simp), rfl⟩
theorem sameComplexI (x y : Nat) (hx : nanB .f32 x = false) (hy : nanB .f32 y = false) (w : World) : Calls Try.prog 21 #[.complex .f32 x y, .complex .f32 x y] w fun e w' => e = .returned (.bool true) ∧ w' = w := by
  have HX := Lib.hid hx
  have HY := Lib.hid hy
  clear hx hy
  go_enter Try.func21, Try.ntmps21
  go_wp2_with fail
  refine (sameNumber x HX.out _).mono ?_
  rintro e w1 ⟨rfl, rfl⟩
  go_wp2_with fail
  refine (sameNumber y HY.out _).mono ?_
  rintro e w2 ⟨rfl, rfl⟩
  go_wp2_with fail
  go_ret
  exact ⟨rfl, rfl⟩

set_option maxHeartbeats 4000000 in
set_option maxRecDepth 100000 in
theorem drawPoints (p : Nat) (a : Option Addr) (n c N : Nat) (hn : n ≤ 1048576) (hN : N ≤ 64) (w : World) (hp : p < w.heap.size) (h : SrcAt w 82 p a n c 0) :
    Calls Try.prog 42 #[.pointer (some ⟨p, 0, none⟩), .int .i64 N] w fun x w' => (∃ b cap m xs, x = .returned (.slice (some ⟨b, 0, none⟩) m cap) ∧ m = N ∧ xs.length = N ∧ w.heap.size ≤ b ∧ OwnC1 w' b xs ∧ ∃ ks, PL xs ks 2 16) ∧ Kept p (p + 1) w w' := by
  have H := Lib.hid h
  have HKA := Lib.hid (Kept.of_below (Below.alloc (Below.refl w.heap.size w) (Nat.le_refl _) (.cells #[] 26)) p (p + 1))
  have HSA := Lib.hid (h.far ((Far.refl 0 (p + 1) w).alloc (.cells #[] 26) (by omega)))
  clear h
  go_enter Try.func42, Try.ntmps42
  go_wp2_with fail
  go_loopw [1, 5] (fun i o wr => ∃ (k b cap s : Nat) (xs : List Cx) (ks : List Zp), Hid (k = xs.length) ∧ k + s = N ∧ i = .int .i64 s ∧ o = .slice (some ⟨b, 0, none⟩) k cap ∧ Hid (PL xs ks 2 16) ∧ w.heap.size ≤ b ∧ Hid (ORow wr 26 1 b cap k (xs.map cV)) ∧ Hid (SrcAt wr 82 p a n c (2 * k)) ∧ Hid (Kept p (p + 1) w wr)) (fun i _ _ => (intOf i).toNat)
  case atStart => exact ⟨0, w.heap.size, 0, N, [], [], Lib.hid rfl, by omega, rfl, rfl, Lib.hid (PL.nil _ _), Nat.le_refl _, Lib.hid (ORow.new _ _ _), HSA, HKA⟩
  case round =>
    obtain ⟨k, b, cap, s, xs, ks, HKL, hks, rfl, rfl, HPL, hb, HR, HS, HK⟩ := hrel
    by_cases hs : 0 < s
    · have s0 : (0 : Int) < (s : Int) := by omega
      have s1 : (s : Int) ≤ 64 := by omega
      have hzw := HK.out.size
      go_wp2_with fail
      refine (pickS p a n c (2 * k) 33 hn (by omega) (by decide) (by decide) _ HS.out).mono ?_
      rintro e w2 ⟨⟨r1, rfl, hr1⟩, hs2, ho2⟩
      have HS2 := Lib.hid hs2
      have HO2 := Lib.hid ho2
      have hr1' : (r1 : Int) < 33 := by omega
      obtain ⟨z1, m1, d1, q1⟩ := qd_run (m := (r1 : Int) - 16) (by omega)
      have Q1 := Lib.hid q1
      have dz : ∀ w : World, w.drewN 0 = w := World.drewN_zero
      clear hs2 ho2 q1
      go_wp2_with fail
      refine (pickS p a n c (2 * k + 1) 33 hn (by omega) (by decide) (by decide) _ HS2.out).mono ?_
      rintro e w3 ⟨⟨r2, rfl, hr2⟩, hs3, ho3⟩
      have HS3 := Lib.hid hs3
      have HO3 := Lib.hid ho3
      have hr2' : (r2 : Int) < 33 := by omega
      obtain ⟨z2, m2, d2, q2⟩ := qd_run (m := (r2 : Int) - 16) (by omega)
      have Q2 := Lib.hid q2
      clear hs3 ho3 q2
      have hpb : ¬ b = p := by omega
      have HZ2 := Lib.hid HO2.out.size
      have HZ3 := Lib.hid HO3.out.size
      have HR3 := Lib.hid ((HR.out.far (HO2.out.far (lo := b) (hi := b + 1) fun c hc => by omega) (Nat.le_refl _) (Nat.lt_succ_self _)).far (HO3.out.far (lo := b) (hi := b + 1) fun c hc => by omega) (Nat.le_refl _) (Nat.lt_succ_self _))
      have HK3 := Lib.hid ((HK.out.trans (HO2.out.kept fun c hc => by omega)).trans (HO3.out.kept fun c hc => by omega))
      have hbl := HR3.out.lt
      clear m1 d1
      go_wp2_with (first | (at_builtin; refine wpList_appC rfl _ _ rfl _ _ [(z1, z2)] rfl (by simp) (by simp) _ _ _ _ _ _ _ _ rfl rfl rfl (by first | rfl | simp) HR3.out (by omega) ?_; intro b6 cap6 w6 hr6 hbb6 hgr6; have HR6 := Lib.hid hr6; have HB6 := Lib.hid hbb6; have HG6 := Lib.hid hgr6; clear hr6 hbb6 hgr6))
      have hb6 := HB6.out
      have hsz := HK3.out.size
      have hG := HG6.out
      have hf6 : Far 0 (p + 1) w3 w6 := hG.far (by omega) (.inl (by omega))
      have hK6 : Kept p (p + 1) w w6 := HK3.out.on (hG.below (B := w.heap.size) hb hsz) (Nat.le_refl _)
      refine ⟨⟨k + 1, b6, cap6, s - 1, xs ++ [(z1, z2)], ks ++ [((r1 : Int) - 16, (r2 : Int) - 16)], Lib.hid (by rw [List.length_append, ← HKL.out]; rfl), by omega, by go_num, rfl, Lib.hid (HPL.out.snoc ⟨Q1.out, Q2.out⟩ ⟨by show ((r1 : Int) - 16).natAbs ≤ 16; omega, by show ((r2 : Int) - 16).natAbs ≤ 16; omega⟩), by omega, HR6, Lib.hid ((HS3.out.mono (by omega)).far hf6), Lib.hid hK6⟩, by simp [intOf]; omega⟩
    · have hs0 : s = 0 := by omega
      subst hs0
      go_wp2_with fail
      go_ret
      exact ⟨⟨b, cap, k, xs, rfl, by omega, by rw [← HKL.out]; omega, hb, OwnC1.row HR.out HKL.out, ks, HPL.out⟩, HK.out⟩
theorem r8Points (a : Option Addr) (n c N : Nat) (hn : n ≤ 1048576) (hN : N ≤ 64) (w : World) (h : CodeAt w w.heap.size a n) :
    Calls Try.prog 15 #[.slice a n c, .int .i64 N] w fun x w' => (∃ b cap m xs, x = .returned (.slice (some ⟨b, 0, none⟩) m cap) ∧ m = N ∧ xs.length = N ∧ w.heap.size ≤ b ∧ OwnC1 w' b xs ∧ ∃ ks, PL xs ks 2 16) ∧ Below w.heap.size w w' := by
  obtain ⟨wA, hwA⟩ : ∃ x : World, x = w.alloc (.cells #[.slice a n c, .int .i64 0, .int .u64 0] 82) := ⟨_, rfl⟩
  have hzA : wA.heap.size = w.heap.size + 1 := by rw [hwA]; simp
  have HBA := Lib.hid (show Below w.heap.size w wA by rw [hwA]; exact Below.alloc (Below.refl _ _) (Nat.le_refl _) _)
  have HS0 := Lib.hid (show SrcAt wA 82 w.heap.size a n c 0 by rw [hwA]; exact ⟨0, 0, OwnC.new rfl, Nat.le_refl _, h.far ((Far.refl _ _ _).alloc _ (Nat.le_refl _))⟩)
  have HD := Lib.hid (drawPoints w.heap.size a n c N hn hN wA (by omega) HS0.out)
  have HZA := Lib.hid hzA
  clear h hzA
  go_enter Try.func15, Try.ntmps15
  go_wp2_with fail
  refine (l00From a n c w).mono ?_
  rintro e w1 ⟨rfl, rfl⟩
  rw [← hwA]
  clear hwA
  go_wp2_with fail
  refine HD.out.mono ?_
  rintro e w2 ⟨⟨b, cap, m, xs, rfl, rfl, hl, hb, ho, ks, hp⟩, hk⟩
  have HL := Lib.hid hl
  have HO := Lib.hid ho
  have HP := Lib.hid hp
  have HK := Lib.hid hk
  clear hl ho hp hk HD
  go_wp2_with fail
  go_ret
  have hz := HZA.out
  exact ⟨⟨b, cap, m, xs, rfl, rfl, HL.out, by omega, HO.out, ks, HP.out⟩, HBA.out.trans (HK.out.below (by omega) (Nat.le_refl _))⟩
theorem r8LongNo (a b : Option Addr) (n m ca cb : Nat) (hn : n ≤ 48) (hm : m ≤ 48) (w : World) :
    Calls Try.prog 13 #[.slice a n ca, .slice b m cb] w fun e w' => e = .returned (.bool false) ∧ w' = w := by
  have h1 : ¬ (48 : Int) < (n : Int) := by omega
  have h2 : ¬ (48 : Int) < (m : Int) := by omega
  go_enter Try.func13, Try.ntmps13
  go_wp2_with fail
  go_ret
  exact ⟨by simp [h1, h2], rfl⟩
theorem r8LongYes (a b : Option Addr) (n m ca cb : Nat) (hn : ¬ (n ≤ 48 ∧ m ≤ 48)) (w : World) :
    Calls Try.prog 13 #[.slice a n ca, .slice b m cb] w fun e w' => e = .returned (.bool true) ∧ w' = w := by
  by_cases h : n ≤ 48
  · have h1 : ¬ (48 : Int) < (n : Int) := by omega
    have h2 : (48 : Int) < (m : Int) := by omega
    go_enter Try.func13, Try.ntmps13
    go_wp2_with fail
    go_ret
    exact ⟨by simp [h1, h2], rfl⟩
  · have h1 : (48 : Int) < (n : Int) := by omega
    go_enter Try.func13, Try.ntmps13
    go_wp2_with fail
    go_ret
    exact ⟨by simp [h1], rfl⟩
theorem r8At (P : Nat) (a : Option Addr) (n c i k : Nat) (hn : n ≤ 48) (hi : i ≤ 100) (hk : 1 < k) (hk2 : k ≤ 1000) (w : World) (h : CodeAt w P a n) :
    Calls Try.prog 14 #[.slice a n c, .int .i64 (i : Nat), .int .i64 (k : Nat)] w fun e w' => (∃ r : Nat, e = .returned (.int .i64 r) ∧ r < k) ∧ w' = w := by
  have HC := Lib.hid h
  clear h
  have k0 : ¬ (k : Int) ≤ 1 := by omega
  have k1 : ¬ (k : Int) = 0 := by omega
  have k2 : (k : Int) ≤ 1000 := by omega
  have i0 : (0 : Int) ≤ (i : Int) := by omega
  have i1 : (i : Int) ≤ 100 := by omega
  by_cases hlt : i < n
  · obtain ⟨b, off, rfl, hb, hc⟩ := HC.out (by omega)
    obtain ⟨x, hx, h255⟩ := hc i hlt
    have hlt' : (i : Int) < (n : Int) := by omega
    clear hc
    go_enter Try.func14, Try.ntmps14
    go_wp2_with fail
    go_ret
    exact ⟨⟨x % k, rfl, Nat.mod_lt _ (by omega)⟩, rfl⟩
  · have hlt' : (n : Int) ≤ (i : Int) := by omega
    go_enter Try.func14, Try.ntmps14
    go_wp2_with fail
    go_ret
    exact ⟨⟨0, rfl, by omega⟩, rfl⟩
theorem r8If (b : Bool) (w : World) : Calls Try.prog 20 #[.bool b] w fun e w' => e = .returned (.int .i64 (if b then 1 else 0)) ∧ w' = w := by
  cases b
  · go_enter Try.func20, Try.ntmps20
    go_wp2_with fail
    go_ret
    exact ⟨rfl, rfl⟩
  · go_enter Try.func20, Try.ntmps20
    go_wp2_with fail
    go_ret
    exact ⟨rfl, rfl⟩
/-- how far points are, where their difference is exact -/
theorem r8Far {a b : Cx} {p : Zp} {e : Nat} (h : PX (minusF a b) p e) (hl : low p 65536) (he : e ≤ 100) (w : World) :
    Calls Try.prog 25 #[cV a, cV b] w fun x w' => x = .returned (.float .f64 (fcv .f32 .f64 (longF (minusF a b)))) ∧ w' = w := by
  obtain ⟨_, _, hN, _⟩ := long_facts h hl he
  obtain ⟨m1, d1⟩ := run_wid64 (isN.nan hN)
  have hLR := Lib.hid (fun w => longR h hl he w)
  have dz : ∀ w : World, w.drewN 0 = w := World.drewN_zero
  obtain ⟨z1, hz1⟩ : ∃ z, floatBits .sub .f32 a.1 b.1 = some z ∧ fop .sub .f32 a.1 b.1 = z := by
    have h1 := h.1.num
    show ∃ z, floatBits .sub .f32 a.1 b.1 = some z ∧ (floatBits .sub .f32 a.1 b.1).getD _ = z
    have h2 : isN .f32 ((floatBits .sub .f32 a.1 b.1).getD (qnan .f32)) = true := h1
    cases hb : floatBits .sub .f32 a.1 b.1 with
    | some r => exact ⟨r, rfl, rfl⟩
    | none => rw [hb] at h2; exfalso; revert h2; decide +kernel
  obtain ⟨z2, hz2⟩ : ∃ z, floatBits .sub .f32 a.2 b.2 = some z ∧ fop .sub .f32 a.2 b.2 = z := by
    have h1 := h.2.num
    show ∃ z, floatBits .sub .f32 a.2 b.2 = some z ∧ (floatBits .sub .f32 a.2 b.2).getD _ = z
    have h2 : isN .f32 ((floatBits .sub .f32 a.2 b.2).getD (qnan .f32)) = true := h1
    cases hb : floatBits .sub .f32 a.2 b.2 with
    | some r => exact ⟨r, rfl, rfl⟩
    | none => rw [hb] at h2; exfalso; revert h2; decide +kernel
  have hsub : ∀ w, Sem.run Try.prog (binOp BinOp.sub 26 (cV a) (cV b)) w = .ok (cV (minusF a b)) w := fun w => by
    have := run_complex_sum (P := Try.prog) w .sub (Or.inr rfl) 26 .f32 a.1 a.2 b.1 b.2 z1 z2 (by simp [cSumBits, hz1.1, hz2.1])
    rw [← hz1.2, ← hz2.2] at this
    exact this
  clear h hl hN hz1 hz2
  go_enter Try.func25, Try.ntmps25
  go_wp2_with fail
  refine (hLR.out _).mono ?_
  rintro e1 w1 ⟨rfl, rfl⟩
  go_wp2_with fail
  go_ret
  exact ⟨rfl, rfl⟩
end Go.Proofs.Ytkpjhoiaegioeaa
