/- Dashes: spec.B10Path; b10CSameAll; b10Gap. -/
import Derived.Test.YtodkhkphagcfiaaDsW
import Derived.Test.YtodkhkphagcfiaaGLoop
namespace Go.Fl
open Ieee Go.RowKit
theorem four_read : FloatKind.f32.format.read 1082130432 = .number false (2 ^ FB .f32) (((2 : Nat) : Int) - FB .f32) := by decide
theorem qd_run {m : Int} (hm : m.natAbs ≤ 64) : ∃ z, (∀ w, mop .quo .f32 (floatOfInt .f32 m) 1082130432 w = z) ∧ mdr .quo .f32 (floatOfInt .f32 m) 1082130432 = 0 ∧ Q .f32 z m 2 := by
  have q1 := Q.ofInt .f32 m (lt24 (by omega))
  have q2 := Q.half (e := 0) q1 four_read (lt24 (by omega)) (by decide)
  have q2 : Q .f32 (fop .quo .f32 (floatOfInt .f32 m) 1082130432) m 2 := q2
  obtain ⟨h1, h2⟩ := run_fopN q2.num
  exact ⟨_, h1, h2, q2⟩
theorem Kept.on {lo hi B : Nat} {a w w' : World} (h : Kept lo hi a w) (hb : Below B w w') (hB : a.heap.size ≤ B) : Kept lo hi a w' :=
  ⟨hb.os.trans h.os, hb.tape.trans h.tape, hb.output.trans h.output, Nat.le_trans h.size hb.size, fun c hc hn => (hb.block c (by omega)).trans (h.block c hc hn), fun c n hc hr => Room.same (hb.block c (by omega)) (h.room c n hc hr)⟩
theorem PX.nN {z : Cx} {p : Zp} {e : Nat} (h : PX z p e) : Go.Fl.nN z := ⟨h.1.num, h.2.num⟩
theorem q_R4 {x : Nat} {k : Int} (h : Q .f32 x k 2) : R .f32 x = (k : Rat) / 4 := by rw [h.R]; rfl
theorem cast_le {a b : Int} (h : a ≤ b) : (a : Rat) ≤ (b : Rat) := Rat.intCast_le_intCast.2 h
/-- a segment of quarters -/
theorem seg_of {P Q : Cx} {p q : Zp} (hP : PX P p 2) (hQ : PX Q q 2) (x1 : p.1 + 2 ≤ q.1) (x2 : q.1 ≤ p.1 + 8) (y1 : p.2 ≤ q.2 + 4) (y2 : q.2 ≤ p.2 + 4) (p1 : 0 ≤ p.1) (p2 : p.1 ≤ 40) (p3 : -24 ≤ p.2) (p4 : p.2 ≤ 24) : Seg P Q := by
  have hd := hQ.minus hP ⟨by omega, by omega⟩ ⟨by omega, by omega⟩
  have e1 := q_R4 hd.1
  have e2 := q_R4 hd.2
  have a1 := q_R4 hP.1
  have a2 := q_R4 hP.2
  have a3 := q_R4 hQ.1
  have a4 := q_R4 hQ.2
  have s1 : (((subZ q p).1 : Int) : Rat) = (q.1 : Rat) - (p.1 : Rat) := Rat.intCast_sub _ _
  have s2 : (((subZ q p).2 : Int) : Rat) = (q.2 : Rat) - (p.2 : Rat) := Rat.intCast_sub _ _
  rw [s1] at e1
  rw [s2] at e2
  have t : ∀ a b : Int, ((a + b : Int) : Rat) = (a : Rat) + (b : Rat) := fun a b => Rat.intCast_add a b
  have x1 := cast_le x1
  have x2 := cast_le x2
  have y1 := cast_le y1
  have y2 := cast_le y2
  have p1 := cast_le p1
  have p2 := cast_le p2
  have p3 := cast_le p3
  have p4 := cast_le p4
  rw [t] at x1 x2 y1 y2
  have n0 : ((0 : Int) : Rat) = 0 := rfl
  have n2 : ((2 : Int) : Rat) = 2 := rfl
  have n8 : ((8 : Int) : Rat) = 8 := rfl
  have n4 : ((4 : Int) : Rat) = 4 := rfl
  have n40 : ((40 : Int) : Rat) = 40 := rfl
  have n24 : ((24 : Int) : Rat) = 24 := rfl
  have m24 : ((-24 : Int) : Rat) = -24 := rfl
  rw [n2] at x1
  rw [n8] at x2
  rw [n4] at y1 y2
  rw [n0] at p1
  rw [n40] at p2
  rw [m24] at p3
  rw [n24] at p4
  exact ⟨hP.nN, hQ.nN, hd.nN, by rw [e1, a1, a3]; grind, by rw [e2, a2, a4]; grind, by rw [a1, a3]; grind, by rw [a1, a3]; grind, by rw [a2, a4]; grind, by rw [a2, a4]; grind, by rw [a1]; grind, by rw [a1]; grind, by rw [a2]; grind, by rw [a2]; grind⟩
/-- the path drawn so far, and the next point -/
structure PathS (xs : List Cx) (z : Cx) (k : Nat) : Prop where
  len : xs.length = k
  zp : ∃ p : Zp, PX z p 2 ∧ 0 ≤ p.1 ∧ p.1 ≤ 8 * k ∧ -(4 * (k : Int)) ≤ p.2 ∧ p.2 ≤ 4 * k
  all : ∀ j, j < k → nN (cAt xs j)
  seg : ∀ j, j + 1 < k → Seg (cAt xs j) (cAt xs (j + 1))
  last : 0 < k → k ≤ 6 → Seg (cAt xs (k - 1)) z
  z0 : (k = 0 → z = (0, 0)) ∧ (0 < k → cAt xs 0 = (0, 0))
theorem PathS.nil : PathS [] (0, 0) 0 := by
  have q0 : Q .f32 0 0 2 := ⟨by decide +kernel, by decide +kernel, by decide⟩
  exact ⟨rfl, ⟨(0, 0), ⟨q0, q0⟩, by decide, by decide, by decide, by decide⟩, fun j hj => absurd hj (Nat.not_lt_zero _), fun j hj => absurd hj (Nat.not_lt_zero _), fun h => absurd h (Nat.lt_irrefl _), fun _ => rfl, fun h => absurd h (Nat.lt_irrefl _)⟩
theorem PathS.step {xs : List Cx} {z : Cx} {k : Nat} (h : PathS xs z k) (hk : k ≤ 6) {a b : Nat} {x y : Int} (ha : Q .f32 a x 2) (hb : Q .f32 b y 2) (x1 : 2 ≤ x) (x2 : x ≤ 8) (y1 : -4 ≤ y) (y2 : y ≤ 4) : PathS (xs ++ [z]) (plusF z (a, b)) (k + 1) := by
  obtain ⟨p, hz, p1, p2, p3, p4⟩ := h.zp
  have hl := h.len
  have hzn : PX (plusF z (a, b)) (addZ p (x, y)) 2 := hz.plus (show PX (a, b) (x, y) 2 from ⟨ha, hb⟩) ⟨by omega, by omega⟩ ⟨by show x.natAbs ≤ _; omega, by show y.natAbs ≤ _; omega⟩
  have e1 : (addZ p (x, y)).1 = p.1 + x := rfl
  have e2 : (addZ p (x, y)).2 = p.2 + y := rfl
  refine ⟨by rw [List.length_append, hl]; rfl, ⟨_, hzn, by rw [e1]; omega, by rw [e1]; omega, by rw [e2]; omega, by rw [e2]; omega⟩, fun j hj => ?_, fun j hj => ?_, fun _ h6 => ?_, fun h0 => absurd h0 (by omega), fun _ => ?_⟩
  · by_cases e : j < k
    · rw [cAt_l xs z (by omega)]; exact h.all j e
    · obtain rfl : j = xs.length := by omega
      rw [cAt_r]; exact hz.nN
  · by_cases e : j + 1 < k
    · rw [cAt_l xs z (by omega), cAt_l xs z (by omega)]; exact h.seg j e
    · have e3 : j + 1 = xs.length := by omega
      rw [cAt_l xs z (by omega), e3, cAt_r]
      have := h.last (by omega) hk
      rw [show k - 1 = j by omega] at this
      exact this
  · rw [show k + 1 - 1 = xs.length by omega, cAt_r]
    exact seg_of hz hzn (by rw [e1]; omega) (by rw [e1]; omega) (by rw [e2]; omega) (by rw [e2]; omega) p1 (by omega) (by omega) (by omega)
  · by_cases e : 0 < k
    · rw [cAt_l xs z (by omega)]; exact h.z0.2 e
    · have k0 : k = 0 := by omega
      have : cAt (xs ++ [z]) xs.length = z := cAt_r xs z
      rw [show xs.length = 0 by omega] at this
      rw [this]; exact h.z0.1 k0
theorem PathS.ctx {xs : List Cx} {z : Cx} {k : Nat} (h : PathS xs z k) (h2 : 2 ≤ k) (h7 : k ≤ 7) {on off : Rat} (o1 : 1 / 2 ≤ on) (o2 : on ≤ 2) (f1 : 1 / 2 ≤ off) (f2 : off ≤ 2) : Ctx xs on off :=
  ⟨by rw [h.len]; exact h2, by rw [h.len]; exact h7, fun j hj => h.seg j (by rw [← h.len]; exact hj), o1, o2, f1, f2⟩
theorem cx_add {P : Program} (T : TypeId) {a b : Cx} (h : nN (plusF a b)) (w : World) : Sem.run P (binOp .add T (.complex .f32 a.1 a.2) (.complex .f32 b.1 b.2)) w = .ok (.complex .f32 (plusF a b).1 (plusF a b).2) w := by
  have z : ∀ x y : Nat, isN .f32 (fop .add .f32 x y) = true → floatBits .add .f32 x y = some (fop .add .f32 x y) := fun x y hn => by
    have h2 : isN .f32 ((floatBits .add .f32 x y).getD (qnan .f32)) = true := hn
    show _ = some ((floatBits .add .f32 x y).getD _)
    cases hb : floatBits .add .f32 x y with
    | some r => rfl
    | none => rw [hb] at h2; exfalso; revert h2; decide +kernel
  exact run_complex_sum (P := P) w .add (Or.inl rfl) T .f32 a.1 a.2 b.1 b.2 _ _ (by simp [cSumBits, z _ _ h.1, z _ _ h.2, plusF])
theorem cx_sub {P : Program} (T : TypeId) {a b : Cx} (h : nN (minusF a b)) (w : World) : Sem.run P (binOp .sub T (.complex .f32 a.1 a.2) (.complex .f32 b.1 b.2)) w = .ok (.complex .f32 (minusF a b).1 (minusF a b).2) w := by
  have z : ∀ x y : Nat, isN .f32 (fop .sub .f32 x y) = true → floatBits .sub .f32 x y = some (fop .sub .f32 x y) := fun x y hn => by
    have h2 : isN .f32 ((floatBits .sub .f32 x y).getD (qnan .f32)) = true := hn
    show _ = some ((floatBits .sub .f32 x y).getD _)
    cases hb : floatBits .sub .f32 x y with
    | some r => rfl
    | none => rw [hb] at h2; exfalso; revert h2; decide +kernel
  exact run_complex_sum (P := P) w .sub (Or.inr rfl) T .f32 a.1 a.2 b.1 b.2 _ _ (by simp [cSumBits, z _ _ h.1, z _ _ h.2, minusF])
def RetPath (N : Nat) (w : World) (e : Ending) (w' : World) : Prop := ∃ b cap xs z, e = .returned (.slice (some ⟨b, 0, none⟩) N cap) ∧ PathS xs z N ∧ w.heap.size ≤ b ∧ OwnC1 w' b xs
theorem meas_upI {k N : Nat} (h : (k : Int) < (N : Int)) : N - (intOf (.int .i64 ((k : Int) + 1))).toNat < N - (intOf (.int .i64 (k : Int))).toNat := by
  show N - ((k : Int) + 1).toNat < N - ((k : Int)).toNat
  omega
end Go.Fl
namespace Go.Proofs.Ytodkhkphagcfiaa
open Go.RowKit Go.Fl
theorem l00From (a : Option Addr) (n c : Nat) (w : World) :
    Calls Try.prog 11 #[.slice a n c] w fun e w' => e = .returned (.pointer (some ⟨w.heap.size, 0, none⟩)) ∧ w' = w.alloc (.cells #[.slice a n c, .int .i64 0, .int .u64 0] 52) := by
  go_enter Try.func11, Try.ntmps11
  go_wp2_with fail
  go_ret
  exact ⟨rfl, rfl⟩
set_option maxHeartbeats 4000000 in
set_option maxRecDepth 100000 in
theorem b10Path (a : Option Addr) (n c N : Nat) (hn : n ≤ 1048576) (hN : N ≤ 7) (w : World) (h : CodeAt w w.heap.size a n) :
    Calls Try.prog 5 #[.slice a n c, .int .i64 N] w fun e w' => RetPath N w e w' ∧ Below w.heap.size w w' := by
  obtain ⟨wA, hwA⟩ : ∃ x : World, x = w.alloc (.cells #[.slice a n c, .int .i64 0, .int .u64 0] 52) := ⟨_, rfl⟩
  obtain ⟨p, hp⟩ : ∃ p, p = w.heap.size := ⟨_, rfl⟩
  have hzA : wA.heap.size = p + 1 := by rw [hwA, hp]; simp
  have HBA := Lib.hid (show Below w.heap.size w wA by rw [hwA]; exact Below.alloc (Below.refl _ _) (Nat.le_refl _) _)
  have HS0 := Lib.hid (show SrcAt wA 52 p a n c 0 by rw [hwA, hp]; exact ⟨0, 0, OwnC.new rfl, Nat.le_refl _, h.far ((Far.refl _ _ _).alloc _ (Nat.le_refl _))⟩)
  have HZA := Lib.hid hzA
  have HPP := Lib.hid hp
  have HKA := Lib.hid (Kept.of_below (Below.alloc (Below.refl wA.heap.size wA) (Nat.le_refl _) (.cells #[] 30)) p (p + 1))
  have HSA := Lib.hid (HS0.out.far ((Far.refl 0 (p + 1) wA).alloc (.cells #[] 30) (by omega)))
  have HF := Lib.hid (l00From a n c w)
  rw [← hp, ← hwA] at HF
  clear h hzA hwA hp
  go_enter Try.func5, Try.ntmps5
  go_wp2_with fail
  refine HF.out.mono ?_
  rintro e w1 ⟨rfl, rfl⟩
  go_wp2_with fail
  go_loopw [1, 6, 7] (fun i o zv wr => ∃ (k b cap s : Nat) (xs : List Cx) (z : Cx), k + s = N ∧ i = .int .i64 s ∧ o = .slice (some ⟨b, 0, none⟩) k cap ∧ zv = .complex .f32 z.1 z.2 ∧ Hid (PathS xs z k) ∧ w1.heap.size ≤ b ∧ Hid (ORow wr 30 1 b cap k (xs.map cV)) ∧ Hid (SrcAt wr 52 p a n c (2 * k)) ∧ Hid (Kept p (p + 1) w1 wr)) (fun i _ _ _ => (intOf i).toNat)
  case atStart => exact ⟨0, w1.heap.size, 0, N, [], (0, 0), by omega, rfl, rfl, rfl, Lib.hid PathS.nil, Nat.le_refl _, Lib.hid (ORow.new _ _ _), HSA, HKA⟩
  case round =>
    obtain ⟨k, b, cap, s, xs, z, hks, rfl, rfl, rfl, HPL, hb, HR, HS, HK⟩ := hrel
    by_cases hs : 0 < s
    · have s0 : (0 : Int) < (s : Int) := by omega
      have s1 : (s : Int) ≤ 7 := by omega
      have hzw := HK.out.size
      have hza : p + 1 ≤ w1.heap.size := Nat.le_of_eq HZA.out.symm
      have hbl := HR.out.lt
      have hbp : ¬ b = p := by omega
      go_wp2_with (first | (at_builtin; refine wpList_app2 rfl _ _ _ rfl 30 (.complex .f32 0 0) 1 8 Try.underlying24 infoCx rfl (by decide) _ #[.complex .f32 z.1 z.2] 30 rfl (by simp [Value.oneCell']) _ b cap k _ rfl rfl rfl HR.out (by omega) (by decide) ?_; intro b6 cap6 w6 hr6 hbb6 hgr6; have HR6 := Lib.hid hr6; have HB6 := Lib.hid hbb6; have HG6 := Lib.hid hgr6; clear hr6 hbb6 hgr6))
      have hb6 := HB6.out
      have HS6 := Lib.hid (HS.out.far (HG6.out.far (lo := 0) (hi := p + 1) (by omega) (.inl (by omega))))
      have HK6 := Lib.hid (HK.out.on (HG6.out.below (B := w1.heap.size) hb hzw) (Nat.le_refl _))
      refine (pickS p a n c (2 * k) 7 hn (by omega) (by decide) (by decide) _ HS6.out).mono ?_
      rintro e w2 ⟨⟨r1, rfl, hr1⟩, hs2, ho2⟩
      have HS2 := Lib.hid hs2
      have HO2 := Lib.hid ho2
      have hr1' : (r1 : Int) < 7 := by omega
      obtain ⟨z1, m1, d1, q1⟩ := qd_run (m := 2 + (r1 : Int)) (by omega)
      have Q1 := Lib.hid q1
      have dz : ∀ w : World, w.drewN 0 = w := World.drewN_zero
      clear hs2 ho2 q1
      go_wp2_with fail
      refine (pickS p a n c (2 * k + 1) 9 hn (by omega) (by decide) (by decide) _ HS2.out).mono ?_
      rintro e w3 ⟨⟨r2, rfl, hr2⟩, hs3, ho3⟩
      have HS3 := Lib.hid hs3
      have HO3 := Lib.hid ho3
      have hr2' : (r2 : Int) < 9 := by omega
      obtain ⟨z2, m2, d2, q2⟩ := qd_run (m := (r2 : Int) - 4) (by omega)
      have Q2 := Lib.hid q2
      have HST := Lib.hid (HPL.out.step (by omega) Q1.out Q2.out (by omega) (by omega) (by omega) (by omega))
      obtain ⟨p9, hp9, _⟩ := HST.out.zp
      have hadd := fun w => cx_add (P := Try.prog) 30 (a := z) (b := (z1, z2)) hp9.nN w
      obtain ⟨Z, hZ⟩ : ∃ Z, Z = plusF z (z1, z2) := ⟨_, rfl⟩
      rw [← hZ] at HST hadd
      have HK3 := Lib.hid ((HK6.out.trans (HO2.out.kept fun c hc => by omega)).trans (HO3.out.kept fun c hc => by omega))
      have HR3 := Lib.hid ((HR6.out.far (HO2.out.far (lo := b6) (hi := b6 + 1) fun c hc => by omega) (Nat.le_refl _) (Nat.lt_succ_self _)).far (HO3.out.far (lo := b6) (hi := b6 + 1) fun c hc => by omega) (Nat.le_refl _) (Nat.lt_succ_self _))
      clear hs3 ho3 q2 m1 d1 hZ hp9
      simp only at hadd
      go_wp2_with fail
      have hR9 : Hid (ORow w3 30 1 b6 cap6 (k + 1) ((xs ++ [z]).map cV)) := Lib.hid (by rw [List.map_append]; exact HR3.out)
      have hS9 : Hid (SrcAt w3 52 p a n c (2 * (k + 1))) := Lib.hid (HS3.out.mono (by omega))
      have hb9 : w1.heap.size ≤ b6 := by omega
      have hk9 : k + 1 + (s - 1) = N := by omega
      exact ⟨⟨k + 1, b6, cap6, s - 1, xs ++ [z], Z, hk9, by go_num, rfl, rfl, HST, hb9, hR9, hS9, HK3⟩, by simp [intOf]; omega⟩
    · have hs0 : s = 0 := by omega
      subst hs0
      obtain rfl : k = N := by omega
      have hza := HZA.out
      have hpp := HPP.out
      have hb' : w.heap.size ≤ b := by omega
      clear hza hpp
      go_wp2_with fail
      go_ret
      exact ⟨⟨b, cap, xs, z, rfl, HPL.out, hb', OwnC1.row HR.out HPL.out.len.symm⟩, HBA.out.trans (HK.out.below (by have := HZA.out; have := HPP.out; omega) (by have := HPP.out; omega))⟩
theorem b10GapN (a b : Nat) (ha : isN .f64 a = true) (hb : isN .f64 b = true) (hg : isN .f64 (if R .f64 a < R .f64 b then fop .sub .f64 b a else fop .sub .f64 a b) = true) (w : World) :
    Calls Try.prog 10 #[.float .f64 a, .float .f64 b] w fun e w' => e = .returned (.float .f64 (gapF a b)) ∧ w' = w := by
  have ho := ord_R64 ha hb
  have dz : ∀ w : World, w.drewN 0 = w := World.drewN_zero
  unfold gapF
  by_cases c : R .f64 a < R .f64 b
  · rw [if_pos c] at hg ⊢
    rw [decide_eq_true c] at ho
    obtain ⟨m, d⟩ := run_fopN hg
    clear ha hb hg c
    go_enter Try.func10, Try.ntmps10
    go_wp2_with fail
    go_ret
    exact ⟨rfl, rfl⟩
  · rw [if_neg c] at hg ⊢
    rw [decide_eq_false c] at ho
    obtain ⟨m, d⟩ := run_fopN hg
    clear ha hb hg c
    go_enter Try.func10, Try.ntmps10
    go_wp2_with fail
    go_ret
    exact ⟨rfl, rfl⟩
theorem run_bitsW (b : Nat) (w : World) : (callFunc 48 #[.float .f32 b]).run Try.prog w = .ok (.value (.int .u32 b)) w := by
  rw [run_callFunc_extern (P := Try.prog) (e := Extern.MathFloatBits.float32bits) Try.func48 (by kernel_rfl) (by kernel_rfl) (by kernel_rfl) (by kernel_rfl) #[.float .f32 b] w]
  rfl
theorem l01BitsN (b : Nat) (h : nanB .f32 b = false) : ∃ r : Int, ∀ w : World, Calls Try.prog 47 #[.float .f32 b] w fun e w' => e = .returned (.int .i64 r) ∧ w' = w := by
  refine ⟨wrap64 (b : Int), fun w => ?_⟩
  have hbits := run_bitsW b
  have h1 : (FloatKind.f32.format.order b b != some Ordering.eq) = false := by rw [order_self h]; rfl
  go_enter Try.func47, Try.ntmps47
  go_wp2_with fail
  go_ret
  exact ⟨rfl, rfl⟩
theorem cAt_mem {xs : List Cx} {i : Nat} (h : i < xs.length) : cAt xs i ∈ xs := by unfold cAt; rw [List.getD_eq_getElem?_getD, List.getElem?_eq_getElem h]; exact List.getElem_mem h
theorem l01SameN (b : Nat) (h : nanB .f32 b = false) (w : World) : Calls Try.prog 46 #[.float .f32 b, .float .f32 b] w fun e w' => e = .returned (.bool true) ∧ w' = w := by
  obtain ⟨r, hr⟩ := l01BitsN b h
  have HB := Lib.hid hr
  clear hr
  clear h
  go_enter Try.func46, Try.ntmps46
  go_wp2_with (go_at_call 47; refine (HB.out _).mono ?_; rintro e w ⟨rfl, rfl⟩)
  go_ret
  exact ⟨ret_bool (by simp), rfl⟩
theorem sameCxN (x y : Nat) (h1 : nanB .f32 x = false) (h2 : nanB .f32 y = false) (w : World) : Calls Try.prog 26 #[.complex .f32 x y, .complex .f32 x y] w fun e w' => e = .returned (.bool true) ∧ w' = w := by
  have HC : Hid (∀ w, Calls Try.prog 40 #[.complex .f32 x y, .complex .f32 x y] w fun e w' => e = .returned (.bool true) ∧ w' = w) := Lib.hid fun w => by
    have HX := Lib.hid (fun W => l01SameN x h1 W)
    have HY := Lib.hid (fun W => l01SameN y h2 W)
    clear h1 h2
    go_enter Try.func40, Try.ntmps40
    go_wp2_with fail
    refine (HX.out _).mono ?_
    rintro e w1 ⟨rfl, rfl⟩
    go_wp2_with fail
    refine (HY.out _).mono ?_
    rintro e w1 ⟨rfl, rfl⟩
    go_wp2_with fail
    go_ret
    exact ⟨rfl, rfl⟩
  clear h1 h2
  go_enter Try.func26, Try.ntmps26
  go_wp2_with fail
  refine (HC.out _).mono ?_
  rintro e w1 ⟨rfl, rfl⟩
  go_wp2_with fail
  go_ret
  exact ⟨rfl, rfl⟩
set_option maxHeartbeats 1000000 in
theorem sameAllN (lo hi lo' hi' : Nat) (ao ao' : Option Addr) (c c' n : Nat) (zs : List Cx) (hn : zs.length = n) (hn2 : n ≤ 1000) (hok : ∀ z, z ∈ zs → nN z) (w : World) (hs : SlC w lo hi ao zs) (hs' : SlC w lo' hi' ao' zs) :
    Calls Try.prog 9 #[.slice ao n c, .slice ao' n c'] w fun e w' => e = .returned (.bool true) ∧ ∃ q, w' = w.drewN q := by
  have HS := Lib.hid hs
  have HS' := Lib.hid hs'
  have HOK := Lib.hid hok
  have HN := Lib.hid hn
  clear hs hs' hok hn
  go_enter Try.func9, Try.ntmps9
  go_wp2_with fail
  go_loopw [13] (fun i wr => ∃ k q : Nat, k ≤ n ∧ i = .int .i64 k ∧ wr = w.drewN q) (fun i _ => n - (intOf i).toNat)
  case atStart => exact ⟨0, 0, Nat.zero_le _, rfl, rfl⟩
  case round =>
    obtain ⟨k, q, hk, rfl, rfl⟩ := hrel
    by_cases hlt : k < n
    · have k0 : (0 : Int) ≤ (k : Int) := by omega
      have k1 : (k : Int) < (n : Int) := by omega
      obtain ⟨b, hb, _, _, hc⟩ := HS.out (by rw [HN.out]; omega)
      obtain ⟨b', hb', _, _, hc'⟩ := HS'.out (by rw [HN.out]; omega)
      have c1 := hc k (by rw [HN.out]; exact hlt)
      have c2 := hc' k (by rw [HN.out]; exact hlt)
      obtain ⟨z1, z2⟩ := HOK.out _ (cAt_mem (xs := zs) (by rw [HN.out]; exact hlt))
      obtain ⟨x, hx⟩ : ∃ x, x = (cAt zs k).1 := ⟨_, rfl⟩
      obtain ⟨y, hy⟩ : ∃ y, y = (cAt zs k).2 := ⟨_, rfl⟩
      unfold cV at c1 c2
      rw [← hx] at c1 c2 z1
      rw [← hy] at c1 c2 z2
      have HC := Lib.hid (fun W => sameCxN x y (isN.nan z1) (isN.nan z2) W)
      subst hb
      subst hb'
      clear hc hc' hx hy z1 z2 HS HS'
      go_wp2_with fail
      go_quiet ((go_at_call 26; refine (HC.out _).mono ?_; rintro e w1 ⟨rfl, hw1⟩; exact ⟨rfl, _, hw1⟩))
      go_wp2_with fail
      exact ⟨⟨k + 1, _, by omega, by go_num, rfl⟩, meas_upI k1⟩
    · have k1 : ¬ (k : Int) < (n : Int) := by omega
      go_wp2_with fail
      go_ret
      exact ⟨rfl, q, rfl⟩

end Go.Proofs.Ytodkhkphagcfiaa
