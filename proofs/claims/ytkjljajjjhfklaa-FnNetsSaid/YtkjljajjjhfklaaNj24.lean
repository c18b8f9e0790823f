/- Contract: VolumeOfNet, the program's. Nets, the law: numbers between whole bounds. -/
import Derived.Test.YtkjljajjjhfklaaNj23
import Derived.Test.YtkjljajjjhfklaaNnL
namespace Go.Proofs.Ytkjljajjjhfklaa
open Go.RowKit Go.Fl
/-- what the closure of the volume keeps: its flag in block fb -/
structure VolJ (fb : Nat) (ps : List Sp) (fs : List (List Int)) (j k : Nat) (P : Nat → Prop) (w : World) : Prop where
  foot : ∀ b, P b ↔ b = fb
  flag : OwnC w fb #[.bool (allJ volT ps (fAt fs j) (allF volT ps fs j) k)] 4
theorem VolJ.keeps (fb : Nat) (ps : List Sp) (fs : List (List Int)) : Keeps2 (VolJ fb ps fs) where
  stable := fun {j k P w w'} h hb _ => ⟨h.foot, (hb fb ((h.foot fb).2 rfl)).trans h.flag⟩
  low := fun {j k P w} h b hb => by
    rw [(h.foot b).1 hb]; exact h.flag.lt

set_option maxHeartbeats 4000000 in
set_option maxRecDepth 100000 in
theorem volB (lo hi : Nat) (sa fa : Option Addr) (sc fc : Nat) (ps : List Sp) (fs : List (List Int)) (hp : ps.length ≤ 1048576) (hn : fs.length ≤ 1048576) (hsh : ∀ i, i < fs.length → (fAt fs i).length ≤ 1048576) (w : World)
    (hs : NetAt w lo hi sa fa ps fs) (hca : SlC w lo hi fa fs) (hh : hi ≤ w.heap.size) :
    Calls Try.prog 13 #[netV sa fa ps.length sc fs.length fc] w (RetF (volV ps fs) (volO ps fs) w) := by
  have A0 : OwnC (w.alloc (.cells #[.slice sa ps.length sc, .slice fa fs.length fc] 27)) w.heap.size #[.slice sa ps.length sc, .slice fa fs.length fc] 27 := OwnC.new rfl
  have IS := Lib.hid (bordersOfB lo hi sa fa sc fc ps fs hp hn hsh (w.alloc (.cells #[.slice sa ps.length sc, .slice fa fs.length fc] 27)) (hs.far ((Far.refl _ _ _).alloc _ hh)) (hca.far ((Far.refl _ _ _).alloc _ hh)) (by simp; omega))
  have HS := Lib.hid hs
  have HSH := Lib.hid hsh
  have HA0 := Lib.hid A0
  clear hs hsh A0 hca
  unfold netV at *
  cases hv : okN ps fs
  · rw [hv] at IS
    have HC : Hid (volC ps fs = false) := Lib.hid (by simp [volC, hv])
    clear hv
    go_enter Try.func13, Try.ntmps13
    go_wp2_with (go_at_call 7; refine IS.out.mono ?_; rintro e w3 ⟨⟨ao, c, rfl, hO⟩, hb3⟩)
    go_ret2
    exact RetF.no HC.out (Below.trans (by (repeat (first | exact Below.refl _ _ | assumption | refine below_dr ?_ _ | refine Below.alloc ?_ (by first | omega | (simp; done) | (simp; omega)) _ | refine Below.setCell ?_ (by first | omega | (simp; done) | (simp; omega)) _ | refine Below.trans ?_ (Below.mono (by assumption) (by first | omega | (simp; done) | (simp; omega)))))) (hb3.mono (by simp)))
  have hok := okN_net hv
  have HIN : Hid (∀ i, i < fs.length → InN ps.length (fAt fs i)) := fun i h => (hok.facets i h).inN
  have H3 : Hid (∀ i, i < fs.length → 3 ≤ (fAt fs i).length) := fun i h => (hok.facets i h).1
  have hpx : prX true ps fs = prL true fs := prX_yes hv
  rw [hv, hpx] at IS
  by_cases hpr : (prL true fs).length = 0
  rotate_left
  · have HC : Hid (volC ps fs = false) := Lib.hid (by simp [volC, hpr])
    have hpr0 : 0 < (prL true fs).length := by omega
    have hpr1 : (0 : Int) < ((prL true fs).length : Int) := by omega
    clear hv hok hpx
    go_enter Try.func13, Try.ntmps13
    go_wp2_with (go_at_call 7; refine IS.out.mono ?_; rintro e w3 ⟨⟨ao, c, rfl, hO⟩, hb3⟩)
    go_ret2
    exact RetF.no HC.out (Below.trans (by (repeat (first | exact Below.refl _ _ | assumption | refine below_dr ?_ _ | refine Below.alloc ?_ (by first | omega | (simp; done) | (simp; omega)) _ | refine Below.setCell ?_ (by first | omega | (simp; done) | (simp; omega)) _ | refine Below.trans ?_ (Below.mono (by assumption) (by first | omega | (simp; done) | (simp; omega)))))) (hb3.mono (by simp)))
  have HVC : Hid (volC ps fs = allF volT ps fs fs.length) := Lib.hid (by simp [volC, hv, hpr])
  have HPR := Lib.hid hpr
  clear hv hok hpx hpr
  go_enter Try.func13, Try.ntmps13
  go_wp2_with (go_at_call 7; refine IS.out.mono ?_; rintro e w3 ⟨⟨ao, c, rfl, hO⟩, hb3⟩; rw [HPR.out]; have A3 := (HA0.out.below hb3 (by first | omega | (simp; done) | (simp; omega))).alloc (.cells #[.bool true] 4); have q0 := A3.cell 0; have q1 := A3.cell 1; simp at q0 q1)
  have z3 := hb3.size
  simp at z3
  have HB3 : Hid (Below w.heap.size w (w3.alloc (.cells #[.bool true] 4))) := (Below.trans (by (repeat (first | exact Below.refl _ _ | assumption | refine below_dr ?_ _ | refine Below.alloc ?_ (by first | omega | (simp; done) | (simp; omega)) _ | refine Below.setCell ?_ (by first | omega | (simp; done) | (simp; omega)) _ | refine Below.trans ?_ (Below.mono (by assumption) (by first | omega | (simp; done) | (simp; omega)))))) (hb3.mono (by simp))).alloc (by omega) _
  have HJ3 : Hid (VolJ w3.heap.size ps fs 0 0 (fun b => b = w3.heap.size) (w3.alloc (.cells #[.bool true] 4))) := ⟨fun _ => Iff.rfl, OwnC.new rfl⟩
  have HST : Hid (∀ j k P w1 x y z x' y' z' x2 y2 z2, j < fs.length → k + 2 < (fAt fs j).length → VolJ w3.heap.size ps fs j k P w1 → IsSp x y z (cornP ps (fAt fs j) 0) → IsSp x' y' z' (cornP ps (fAt fs j) (k + 1)) → IsSp x2 y2 z2 (cornP ps (fAt fs j) (k + 2)) →
      Calls Try.prog 47 (#[.agg #[.float .f32 x, .float .f32 y, .float .f32 z], .agg #[.float .f32 x', .float .f32 y', .float .f32 z'], .agg #[.float .f32 x2, .float .f32 y2, .float .f32 z2]] ++ #[.pointer (some ⟨w3.heap.size, 0, none⟩)]) w1 fun e w' => (∃ r, e = .returned (.float .f32 r) ∧ F32 r (triG volG ps (fAt fs j) k)) ∧ ∃ P', VolJ w3.heap.size ps fs j (k + 1) P' w' ∧ Ch P w1 w' ∧ ∀ b, P' b → P b ∨ w1.heap.size ≤ b) :=
    fun j k P w1 x y z x' y' z' x2 y2 z2 h1 h2 hJ q0 q1 q2 => by
      refine (vol1 w3.heap.size _ x y z x' y' z' x2 y2 z2 _ _ _ q0 q1 q2 w1 hJ.flag).mono ?_
      rintro e w' ⟨hr, hf, hc⟩
      exact ⟨hr, P, ⟨hJ.foot, hf⟩, hc.mono fun b hb => (hJ.foot b).2 hb, fun b hb => .inl hb⟩
  have HSF := Lib.hid (HS.out.far (Far.below HB3.out hh))
  have hP : ∀ b, b = w3.heap.size → b < lo ∨ hi ≤ b := fun b hb => by omega
  have HPP := Lib.hid hP
  clear hP A3 hb3 hO
  refine (overTri volG _ (VolJ.keeps w3.heap.size ps fs) 47 _ (fun _ _ => rfl) lo hi sa fa sc fc ps fs hp hn HSH.out H3.out HIN.out _ (fun j P w1 _ h => ⟨h.foot, h.flag⟩) HST.out HSF.out (by simp; omega) _ HJ3.out HPP.out).mono ?_
  rintro e w4 ⟨⟨r, rfl, hr⟩, P, hwk⟩
  have hfl0 := hwk.inv.flag.cell 0
  simp at hfl0
  have HB4 : Hid (Below w.heap.size w w4) := HB3.out.trans (hwk.ch.toBelow (by simp; omega) (fun b hb => by omega))
  have HR := Lib.hid hr
  have hfl : w4.cell? ⟨w3.heap.size, 0, none⟩ = some (.bool (volC ps fs)) := by rw [HVC.out]; exact hfl0
  clear hfl0 hwk q0 q1 HB3 HST HJ3 hr
  cases hc : volC ps fs
  · rw [hc] at hfl
    have HC := Lib.hid hc
    clear hc
    go_wp2_with fail
    go_ret2
    exact RetF.no HC.out HB4.out
  · rw [hc] at hfl
    have HV1 : Hid (volV ps fs = ifFin (fdiv (triF volG ps fs fs.length) 1086324736)) := Lib.hid (by simp [volV, hc])
    have HV2 : Hid (volO ps fs = fin (fdiv (triF volG ps fs fs.length) 1086324736)) := Lib.hid (by simp [volO, hc])
    clear hc
    go_wp2_with (first | (refine wpList_f rfl rfl rfl rfl (by decide) ?_; intro _ _ _; simp only [Act.put, List.setIfInBounds_toArray, List.set_cons_succ, List.set_cons_zero]))
    rename_i q m hq k1 k2
    have HQ : can .f32 q = fdiv (triF volG ps fs fs.length) 1086324736 := by
      have h1 := HR.out
      unfold F32 at hq h1
      rw [hq, h1, can_of_not (show nanB .f32 1086324736 = false by decide +kernel)]; rfl
    refine (ifNumber q _).mono ?_
    rintro e w5 ⟨⟨v, rfl, hv⟩, n', rfl⟩
    rw [HQ] at hv
    rw [HQ]
    have HV := Lib.hid hv
    clear hv hq
    go_wp2_with fail
    go_ret2
    rw [HV1.out, HV2.out]
    exact ⟨⟨v, rfl, HV.out⟩, by have := HB4.out; (repeat (first | exact Below.refl _ _ | assumption | refine below_dr ?_ _ | refine Below.alloc ?_ (by first | omega | (simp; done) | (simp; omega)) _ | refine Below.setCell ?_ (by first | omega | (simp; done) | (simp; omega)) _ | refine Below.trans ?_ (Below.mono (by assumption) (by first | omega | (simp; done) | (simp; omega)))))⟩
end Go.Proofs.Ytkjljajjjhfklaa

namespace Go.Fl
open Ieee
/-- x is a number between a and b -/
structure Bd (x : Nat) (a b : Int) : Prop where
  n : isN .f32 x = true
  lo : (a : Rat) ≤ R .f32 x
  hi : R .f32 x ≤ (b : Rat)
theorem R_int (n : Int) (h : n.natAbs < 16777216) : isN .f32 (floatOfInt .f32 n) = true ∧ R .f32 (floatOfInt .f32 n) = (n : Rat) := by
  have q := Q.ofInt .f32 n h
  refine ⟨q.num, ?_⟩
  rw [q.R]
  show (n : Rat) / (((1 : Nat) : Int) : Rat) = n
  rw [show (((1 : Nat) : Int) : Rat) = 1 from rfl]
  grind
theorem Rnd.bd {r : Nat} {q : Rat} (h : Rnd .f32 r q) {a b : Int} (ha : a.natAbs < 16777216) (hb : b.natAbs < 16777216) (h1 : (a : Rat) ≤ q) (h2 : q ≤ (b : Rat)) : Bd r a b := by
  obtain ⟨na, ea⟩ := R_int a ha
  obtain ⟨nb, eb⟩ := R_int b hb
  have k1 := h.ge _ na (by rw [ea]; exact h1)
  have k2 := h.le _ nb (by rw [eb]; exact h2)
  rw [ea] at k1
  rw [eb] at k2
  exact ⟨h.num, k1, k2⟩
theorem Bd.mono {x : Nat} {a b c d : Int} (h : Bd x a b) (h1 : c ≤ a) (h2 : b ≤ d) : Bd x c d :=
  ⟨h.n, Rat.le_trans (Rat.intCast_le_intCast.2 h1) h.lo, Rat.le_trans h.hi (Rat.intCast_le_intCast.2 h2)⟩
theorem ub {b : Int} (h : b ≤ 1000000) : (b : Rat) ≤ 1000000 := Rat.intCast_le_intCast (b := 1000000) |>.2 h
theorem lb {a : Int} (h : -1000000 ≤ a) : (-1000000 : Rat) ≤ (a : Rat) := by
  have := Rat.intCast_le_intCast (a := -1000000) |>.2 h
  exact this
theorem Bd.add {x y : Nat} {a b c d : Int} (hx : Bd x a b) (hy : Bd y c d) (h1 : -1000000 ≤ a + c) (h2 : a + c ≤ b + d) (h3 : b + d ≤ 1000000) : Bd (fadd x y) (a + c) (b + d) := by
  have e1 := lb h1
  have e2 := ub h3
  rw [Rat.intCast_add] at e1 e2
  have := hx.lo; have := hx.hi; have := hy.lo; have := hy.hi
  exact (rnd_add hx.n hy.n (by grind) (by grind)).bd (by omega) (by omega) (by rw [Rat.intCast_add]; grind) (by rw [Rat.intCast_add]; grind)
theorem Bd.sub {x y : Nat} {a b c d : Int} (hx : Bd x a b) (hy : Bd y c d) (h1 : -1000000 ≤ a - d) (h2 : a - d ≤ b - c) (h3 : b - c ≤ 1000000) : Bd (fsub x y) (a - d) (b - c) := by
  have e1 := lb h1
  have e2 := ub h3
  rw [Rat.intCast_sub] at e1 e2
  have := hx.lo; have := hx.hi; have := hy.lo; have := hy.hi
  exact (rnd_sub hx.n hy.n (by grind) (by grind)).bd (by omega) (by omega) (by rw [Rat.intCast_sub]; grind) (by rw [Rat.intCast_sub]; grind)
/-- a product, both ways -/
theorem Bd.mul {x y : Nat} {b d : Int} (hx : Bd x (-b) b) (hy : Bd y (-d) d) (h1 : 0 ≤ b * d) (h3 : b * d ≤ 1000000) : Bd (fmul x y) (-(b * d)) (b * d) := by
  have e1 := lb (a := -(b * d)) (by omega)
  have e2 := ub h3
  have a1 := hx.lo; have a2 := hx.hi; have a3 := hy.lo; have a4 := hy.hi
  rw [Rat.intCast_neg] at a1 a3 e1
  rw [Rat.intCast_mul] at e1 e2
  have m := mul_bd a1 a2 a3 a4
  exact (rnd_mul hx.n hy.n (by grind) (by grind)).bd (by omega) (by omega) (by rw [Rat.intCast_neg, Rat.intCast_mul]; exact m.1) (by rw [Rat.intCast_mul]; exact m.2)
theorem Bd.up {x y : Nat} {b d : Int} (hx : Bd x 0 b) (hy : Bd y 0 d) (h1 : 0 ≤ b * d) (h3 : b * d ≤ 1000000) : Bd (fmul x y) 0 (b * d) := by
  have e2 := ub h3
  have a1 := hx.lo; have a2 := hx.hi; have a3 := hy.lo; have a4 := hy.hi
  rw [Rat.intCast_mul] at e2
  have m := mul_up a1 a2 a3 a4
  exact (rnd_mul hx.n hy.n (by grind) (by grind)).bd (by decide) (by omega) (by exact m.1) (by rw [Rat.intCast_mul]; exact m.2)
theorem Bd.sq {x : Nat} {b : Int} (hx : Bd x (-b) b) (h1 : 0 ≤ b * b) (h3 : b * b ≤ 1000000) : Bd (fmul x x) 0 (b * b) := by
  have e2 := ub h3
  have a1 := hx.lo; have a2 := hx.hi
  rw [Rat.intCast_neg] at a1
  rw [Rat.intCast_mul] at e2
  have m := mul_bd a1 a2 a1 a2
  have z : 0 ≤ R .f32 x * R .f32 x := by
    by_cases h : 0 ≤ R .f32 x
    · exact Rat.mul_nonneg h h
    · have : 0 ≤ (-R .f32 x) * (-R .f32 x) := Rat.mul_nonneg (by grind) (by grind)
      grind
  exact (rnd_mul hx.n hx.n (by grind) (by grind)).bd (by decide) (by omega) (by exact z) (by rw [Rat.intCast_mul]; exact m.2)
/-- a quotient by a count -/
theorem Bd.quo {x c : Nat} {b n : Int} (hx : Bd x 0 (b * n)) (hc : Bd c n n) (hn : 1 ≤ n) (hb : 0 ≤ b) (hb2 : b ≤ 1000000) : Bd (fdiv x c) 0 b := by
  have a1 := hx.lo; have a2 := hx.hi; have a3 := hc.lo; have a4 := hc.hi
  have ec : R .f32 c = (n : Rat) := by grind
  have hn' : (1 : Rat) ≤ (n : Rat) := Rat.intCast_le_intCast (a := 1) |>.2 hn
  have hc0 : R .f32 c ≠ 0 := by grind
  rw [Rat.intCast_mul] at a2
  have hq : R .f32 x / R .f32 c * R .f32 c = R .f32 x := Rat.div_mul_cancel hc0
  have q1 : 0 ≤ R .f32 x / R .f32 c := by
    rw [← le_mulR (c := R .f32 c) (by grind), hq, Rat.zero_mul]
    exact a1
  have q2 : R .f32 x / R .f32 c ≤ (b : Rat) := by
    rw [← le_mulR (c := R .f32 c) (by grind), hq, ec]
    exact a2
  have e2 := ub hb2
  exact (rnd_div hx.n hc.n hc0 hq (by grind) (by grind)).bd (by decide) (by omega) q1 q2
/-- a quotient by six, by two -/
theorem Bd.div {x c : Nat} {b n : Int} (hx : Bd x (-b) b) (hc : Bd c n n) (hn : 1 ≤ n) (hb : 0 ≤ b) (hb2 : b ≤ 1000000) : Bd (fdiv x c) (-b) b := by
  have a1 := hx.lo; have a2 := hx.hi; have a3 := hc.lo; have a4 := hc.hi
  rw [Rat.intCast_neg] at a1
  have ec : R .f32 c = (n : Rat) := by grind
  have hn' : (1 : Rat) ≤ (n : Rat) := Rat.intCast_le_intCast (a := 1) |>.2 hn
  have hb' : (0 : Rat) ≤ (b : Rat) := Rat.intCast_le_intCast (a := 0) |>.2 hb
  have hc0 : R .f32 c ≠ 0 := by grind
  have hq : R .f32 x / R .f32 c * R .f32 c = R .f32 x := Rat.div_mul_cancel hc0
  have hm : (b : Rat) ≤ (b : Rat) * (n : Rat) := by
    have := Rat.mul_le_mul_of_nonneg_left hn' hb'
    grind
  have q1 : -(b : Rat) ≤ R .f32 x / R .f32 c := by
    rw [← le_mulR (c := R .f32 c) (by grind), hq, ec]
    grind
  have q2 : R .f32 x / R .f32 c ≤ (b : Rat) := by
    rw [← le_mulR (c := R .f32 c) (by grind), hq, ec]
    grind
  have e2 := ub hb2
  exact (rnd_div hx.n hc.n hc0 hq (by grind) (by grind)).bd (by omega) (by omega) (by rw [Rat.intCast_neg]; exact q1) q2
theorem Bd.isFin {x : Nat} {a b : Int} (h : Bd x a b) : Go.Fl.fin x = true := by rw [fin_isNum]; exact h.n
theorem Bd.isCan {x : Nat} {a b : Int} (h : Bd x a b) : Go.Fl.can .f32 x = x := isN.canN h.n
end Go.Fl
namespace Go.Fl
open Ieee
theorem Bd.zero : Bd 0 0 0 := ⟨by decide +kernel, by rw [R_zero_iff.2 (by decide +kernel)]; exact Rat.le_refl, by rw [R_zero_iff.2 (by decide +kernel)]; exact Rat.le_refl⟩
theorem Bd.const (x : Nat) (n : Int) (h : floatOfInt .f32 n = x) (hn : n.natAbs < 16777216) : Bd x n n := by
  obtain ⟨a, b⟩ := R_int n hn
  rw [h] at a b
  exact ⟨a, by rw [b]; exact Rat.le_refl, by rw [b]; exact Rat.le_refl⟩
theorem sqrt_zero {x : Nat} (hx : isN .f64 x = true) (h0 : V .f64 x = 0) : isN .f64 (sqrtK x) = true ∧ R .f64 (sqrtK x) = 0 := by
  obtain ⟨s, m, i, hr, hi, hv⟩ := isN_read hx
  have hm : m = 0 := by
    have h2 := congrArg Int.natAbs hv
    rw [h0, signed_natAbs] at h2
    have h3 : m * 2 ^ (i + LP .f64).toNat = 0 := h2.symm
    rcases Nat.mul_eq_zero.1 h3 with h | h
    · exact h
    · have := Nat.two_pow_pos (i + LP .f64).toNat
      omega
  subst hm
  have e : sqrtK x = FloatKind.f64.format.write (.number s 0 i) := by
    unfold sqrtK Format.sqrt
    rw [hr]
    rfl
  have e2 : FloatKind.f64.format.write (.number s 0 i) = FloatKind.f64.format.write (.number s 0 0) := by
    show FloatKind.f64.format.nearest s 0 i = FloatKind.f64.format.nearest s 0 0
    unfold Format.nearest
    rw [if_pos rfl, if_pos rfl]
  rw [e, e2, R_zero_iff]
  cases s <;> decide +kernel
theorem Bd.root {x : Nat} {a : Int} (h : Bd x 0 (a * a)) (ha : 0 ≤ a) (h2 : a * a ≤ 10000) : Bd (fsqrt x) 0 (a + 1) := by
  have hlo := h.lo
  have hhi := h.hi
  have e2 := Rat.intCast_le_intCast (b := 10000) |>.2 h2
  have e2' : ((a * a : Int) : Rat) ≤ 10000 := e2
  have ha' : (0 : Rat) ≤ (a : Rat) := Rat.intCast_le_intCast (a := 0) |>.2 ha
  have hlo' : (0 : Rat) ≤ R .f32 x := hlo
  obtain ⟨w1, w2⟩ := wide h.n (by grind) (by grind)
  have ha2 : a ≤ 100 := by
    by_cases hh : a ≤ 100
    · exact hh
    · have : 101 * 101 ≤ a * a := Int.mul_le_mul (by omega) (by omega) (by decide) (by omega)
      omega
  have ha3 : (a : Rat) ≤ 100 := Rat.intCast_le_intCast (b := 100) |>.2 ha2
  have key : isN .f64 (sqrtK (fcv .f32 .f64 x)) = true ∧ 0 ≤ R .f64 (sqrtK (fcv .f32 .f64 x)) ∧ R .f64 (sqrtK (fcv .f32 .f64 x)) ≤ (a : Rat) + 1 := by
    by_cases hz : R .f32 x = 0
    · obtain ⟨k1, k2⟩ := sqrt_zero w1 (by rw [← R_zero_iff, w2]; exact hz)
      refine ⟨k1, by rw [k2]; exact Rat.le_refl, by rw [k2]; grind⟩
    · have hp : 0 < R .f64 (fcv .f32 .f64 x) := by rw [w2]; grind
      obtain ⟨r, hr, hn, s, s0, s1, s2, s3, s4⟩ := root64 w1 hp (by rw [w2]; grind)
      have hk : sqrtK (fcv .f32 .f64 x) = r := by unfold sqrtK; rw [hr]; rfl
      rw [hk]
      refine ⟨hn, by grind, ?_⟩
      have hs : s ≤ (a : Rat) := by
        by_cases hh : s ≤ (a : Rat)
        · exact hh
        · have hh2 : (a : Rat) < s := by grind
          have q1 : (a : Rat) * a ≤ a * s := Rat.mul_le_mul_of_nonneg_left (Rat.le_of_lt hh2) ha'
          have q2 : (0 : Rat) < (s - a) * s := Rat.mul_pos (by grind) (by grind)
          rw [w2] at s1
          rw [Rat.intCast_mul] at hhi
          grind
      grind
  obtain ⟨k1, k2, k3⟩ := key
  have := (narrow k1 (by grind) (by grind)).bd (a := 0) (b := a + 1) (by decide) (by omega) k2 (by rw [Rat.intCast_add]; exact k3)
  exact this
theorem Bd.half {x : Nat} {b : Int} (hx : Bd x 0 (b * 2)) (hb : 0 ≤ b) (hb2 : b ≤ 100000) : Bd (fmul x (can .f32 1056964608)) 0 b := by
  have hn : isN .f32 (can .f32 1056964608) = true := by decide +kernel
  have hv : R .f32 (can .f32 1056964608) = 1 / 2 := by
    have q : Q .f32 (can .f32 1056964608) 1 1 := ⟨hn, by decide +kernel, by decide⟩
    rw [q.R]
    rfl
  have a1 := hx.lo; have a2 := hx.hi
  have e2 := ub (b := b) (by omega)
  rw [Rat.intCast_mul] at a2
  have a1' : 0 ≤ R .f32 x := a1
  have a2' : R .f32 x ≤ b * 2 := a2
  have r := rnd_mul hx.n hn (by rw [hv]; grind) (by rw [hv]; grind)
  rw [hv] at r
  exact r.bd (by decide) (by omega) (by show (0 : Rat) ≤ _; grind) (by grind)
/-- by a number between none and one -/
theorem Bd.part {x c : Nat} {b : Int} (hx : Bd x 0 b) (hc : Bd c 0 1) (hb2 : b ≤ 100000) : Bd (fmul x c) 0 b := by
  have h0 : (0 : Rat) ≤ (b : Rat) := Rat.le_trans hx.lo hx.hi
  have h0 : 0 ≤ b := Rat.intCast_le_intCast (a := 0) |>.1 h0
  have := hx.up hc (by omega) (by omega)
  rwa [Int.mul_one] at this
theorem Bd.quarter {x : Nat} {b : Int} (hx : Bd x 0 (b * 4)) (hb : 0 ≤ b) (hb2 : b ≤ 100000) : Bd (fmul x (can .f32 1048576000)) 0 b := by
  have hn : isN .f32 (can .f32 1048576000) = true := by decide +kernel
  have hv : R .f32 (can .f32 1048576000) = 1 / 4 := by
    have q : Q .f32 (can .f32 1048576000) 1 2 := ⟨hn, by decide +kernel, by decide⟩
    rw [q.R]
    rfl
  have a1 := hx.lo; have a2 := hx.hi
  have e2 := ub (b := b) (by omega)
  rw [Rat.intCast_mul] at a2
  have a1' : 0 ≤ R .f32 x := a1
  have a2' : R .f32 x ≤ b * 4 := a2
  have r := rnd_mul hx.n hn (by rw [hv]; grind) (by rw [hv]; grind)
  rw [hv] at r
  exact r.bd (by decide) (by omega) (by show (0 : Rat) ≤ _; grind) (by grind)
/-- the same number, a zero added -/
theorem add_zero {x y : Nat} {b : Int} (hx : Bd x 0 b) (hb : b ≤ 100000) (hy : isN .f32 y = true) (h0 : R .f32 y = 0) : isN .f32 (fadd x y) = true ∧ R .f32 (fadd x y) = R .f32 x := by
  have a1 : 0 ≤ R .f32 x := hx.lo
  have a2 := hx.hi
  have e2 := ub (b := b) (by omega)
  have r := rnd_add hx.n hy (by rw [h0]; grind) (by rw [h0]; grind)
  rw [h0] at r
  exact ⟨r.num, Rat.le_antisymm (r.le _ hx.n (by grind)) (r.ge _ hx.n (by grind))⟩
theorem mul_zero {x : Nat} {b : Int} (hx : Bd x (-b) b) (_hb : b ≤ 100000) : isN .f32 (fmul x 0) = true ∧ R .f32 (fmul x 0) = 0 := by
  have hn : isN .f32 0 = true := by decide +kernel
  have hv : R .f32 0 = 0 := R_zero_iff.2 (by decide +kernel)
  have r := rnd_mul hx.n hn (by rw [hv]; grind) (by rw [hv]; grind)
  rw [hv] at r
  exact ⟨r.num, Rat.le_antisymm (by have := r.le _ hn (by rw [hv]; grind); rwa [hv] at this) (by have := r.ge _ hn (by rw [hv]; grind); rwa [hv] at this)⟩
theorem Bd.notNeg {x : Nat} {b : Int} (h : Bd x 0 b) : (FloatKind.f32.format.order x 0 == some .lt) = false := by
  have h0 : 0 ≤ R .f32 x := h.lo
  have hv : 0 ≤ V .f32 x := by
    have z : R .f32 0 = 0 := R_zero_iff.2 (by decide +kernel)
    have hz : V .f32 0 = 0 := by decide +kernel
    rw [← z, R_le, hz] at h0
    exact h0
  rw [ord_V h.n (by decide +kernel), show V .f32 0 = 0 by decide +kernel]
  cases hc : compare (V .f32 x) 0
  · have := Int.compare_eq_lt.1 hc; omega
  · rfl
  · rfl
end Go.Fl
namespace Go.Fl
open Ieee
/-- a spot between whole bounds -/
structure SB (p : Sp) (a b : Int) : Prop where
  x : Bd p.1 a b
  y : Bd p.2.1 a b
  z : Bd p.2.2 a b
theorem SB.isFin {p : Sp} {a b : Int} (h : SB p a b) : finSp p = true := by
  unfold finSp
  rw [h.x.isFin, h.y.isFin, h.z.isFin]
  rfl
theorem SB.mono {p : Sp} {a b c d : Int} (h : SB p a b) (h1 : c ≤ a) (h2 : b ≤ d) : SB p c d := ⟨h.x.mono h1 h2, h.y.mono h1 h2, h.z.mono h1 h2⟩
theorem SB.zero : SB (0, 0, 0) 0 0 := ⟨Bd.zero, Bd.zero, Bd.zero⟩
/-- all spots lie between none and b -/
def AllB (b : Int) (ps : List Sp) : Prop := ∀ i, SB (pAt ps i) 0 b
theorem AllB.of {b : Int} {ps : List Sp} (hb : 0 ≤ b) (h : ∀ p ∈ ps, SB p 0 b) : AllB b ps := fun i => by
  unfold pAt
  rw [List.getD_eq_getElem?_getD]
  cases hi : ps[i]? with
  | none => exact SB.zero.mono (Int.le_refl _) hb
  | some p => exact h p (List.mem_of_getElem? hi)
theorem AllB.mem {b : Int} {ps : List Sp} (h : AllB b ps) {p : Sp} (hp : p ∈ ps) : SB p 0 b := by
  obtain ⟨i, hi, e⟩ := List.mem_iff_getElem.1 hp
  have := h i
  unfold pAt at this
  rw [List.getD_eq_getElem?_getD, List.getElem?_eq_getElem hi, e] at this
  exact this
theorem AllB.isFin {b : Int} {ps : List Sp} (h : AllB b ps) : ps.all finSp = true := List.all_eq_true.2 fun _ hp => (h.mem hp).isFin
theorem Bd.cnt (n : Nat) (h : n ≤ 100000) : Bd (cntF n) n n := by
  have e : floatOfInt .f32 (n : Int) = FloatKind.f32.nearest (n : Int) := rfl
  obtain ⟨a, b⟩ := R_int (n : Int) (by omega)
  unfold cntF
  rw [← e, isN.canN a]
  exact ⟨a, by rw [b]; exact Rat.le_refl, by rw [b]; exact Rat.le_refl⟩
theorem sum_SB {b : Int} {qs : List Sp} (hb : 0 ≤ b) (hb2 : b ≤ 8) (h : AllB b qs) : ∀ k : Nat, k ≤ 100000 → SB (sumQ qs k) 0 (b * k)
  | 0, _ => by rw [show b * ((0 : Nat) : Int) = 0 by simp]; exact SB.zero
  | k + 1, hk => by
    have i := sum_SB hb hb2 h k (by omega)
    have j := h k
    have e : b * ((k + 1 : Nat) : Int) = b * k + b := by rw [Int.natCast_add, Int.mul_add]; simp
    have hm : b * (k : Int) ≤ 8 * (k : Int) := Int.mul_le_mul_of_nonneg_right hb2 (by omega)
    have hm0 : 0 ≤ b * (k : Int) := Int.mul_nonneg hb (by omega)
    rw [e]
    have z : (0 : Int) = 0 + 0 := rfl
    exact ⟨i.x.add j.x (by omega) (by omega) (by omega), i.y.add j.y (by omega) (by omega) (by omega), i.z.add j.z (by omega) (by omega) (by omega)⟩
theorem mean_SB {b : Int} {qs : List Sp} (hb : 0 ≤ b) (hb2 : b ≤ 8) (h : AllB b qs) (h1 : 1 ≤ qs.length) (h2 : qs.length ≤ 100000) : SB (meanQ qs) 0 b := by
  have s := sum_SB hb hb2 h qs.length h2
  have c := Bd.cnt qs.length h2
  exact ⟨s.x.quo c (by omega) hb (by omega), s.y.quo c (by omega) hb (by omega), s.z.quo c (by omega) hb (by omega)⟩
theorem qsOf_SB {b : Int} {ps : List Sp} (hb : 0 ≤ b) (h : AllB b ps) (f : List Int) : AllB b (qsOf ps f) := AllB.of hb fun p hp => by
  obtain ⟨c, _, rfl⟩ := List.mem_map.1 hp
  exact h _
theorem mid_SB {b : Int} {ps : List Sp} (hb : 0 ≤ b) (hb2 : b ≤ 8) (h : AllB b ps) {f : List Int} (h1 : 1 ≤ f.length) (h2 : f.length ≤ 100000) : SB (mid ps f) 0 b :=
  mean_SB hb hb2 (qsOf_SB hb h f) (by rw [qsOf_len]; exact h1) (by rw [qsOf_len]; exact h2)
theorem mids_SB {b : Int} {ps : List Sp} {fs : List (List Int)} (hb : 0 ≤ b) (hb2 : b ≤ 8) (h : AllB b ps) (hf : ∀ i, i < fs.length → 3 ≤ (fAt fs i).length ∧ (fAt fs i).length ≤ 8) : AllB b (midsTo ps fs fs.length) := AllB.of hb fun p hp => by
  obtain ⟨i, hi, rfl⟩ := List.mem_map.1 hp
  have := hf i (List.mem_range.1 hi)
  exact mid_SB hb hb2 h (by omega) (by omega)
/-- the share of a triangle -/
theorem tri_SB {a b c : Sp} (ha : SB a 0 4) (hb : SB b 0 4) (hc : SB c 0 4) : Bd (areaG a b c) 0 29 := by
  have u : SB (spSub b a) (-4) 4 := ⟨hb.x.sub ha.x (by decide) (by decide) (by decide), hb.y.sub ha.y (by decide) (by decide) (by decide), hb.z.sub ha.z (by decide) (by decide) (by decide)⟩
  have v : SB (spSub c a) (-4) 4 := ⟨hc.x.sub ha.x (by decide) (by decide) (by decide), hc.y.sub ha.y (by decide) (by decide) (by decide), hc.z.sub ha.z (by decide) (by decide) (by decide)⟩
  have m : ∀ {x y : Nat}, Bd x (-4) 4 → Bd y (-4) 4 → Bd (fmul x y) (-16) 16 := fun h k => h.mul (b := 4) (d := 4) k (by decide) (by decide)
  have t : SB (triC a b c) (-32) 32 := ⟨(m u.y v.z).sub (m u.z v.y) (by decide) (by decide) (by decide), (m u.z v.x).sub (m u.x v.z) (by decide) (by decide) (by decide), (m u.x v.y).sub (m u.y v.x) (by decide) (by decide) (by decide)⟩
  have s : ∀ {x : Nat}, Bd x (-32) 32 → Bd (fmul x x) 0 1024 := fun h => h.sq (b := 32) (by decide) (by decide)
  have d : Bd (spDot (triC a b c) (triC a b c)) 0 (56 * 56) := ((((s t.x).add (s t.y) (by decide) (by decide) (by decide)).add (s t.z) (by decide) (by decide) (by decide)).mono (by decide) (by decide))
  have r : Bd (triLong a b c) 0 57 := d.root (by decide) (by decide)
  have two : Bd 1073741824 2 2 := Bd.const _ 2 (by decide +kernel) (by decide)
  exact (r.mono (c := 0) (d := 29 * 2) (by decide) (by decide)).quo two (by decide) (by decide) (by decide)
/-- the share of a triangle in a volume -/
theorem vol_SB {a b c : Sp} (ha : SB a 0 4) (hb : SB b 0 4) (hc : SB c 0 4) : finSp (spCross b c) = true ∧ Bd (volG a b c) (-384) 384 := by
  have n : ∀ {x : Nat}, Bd x 0 4 → Bd x (-4) 4 := fun h => h.mono (by decide) (by decide)
  have m : ∀ {x y : Nat}, Bd x (-4) 4 → Bd y (-4) 4 → Bd (fmul x y) (-16) 16 := fun h k => h.mul (b := 4) (d := 4) k (by decide) (by decide)
  have t : SB (spCross b c) (-32) 32 := ⟨(m (n hb.y) (n hc.z)).sub (m (n hb.z) (n hc.y)) (by decide) (by decide) (by decide), (m (n hb.z) (n hc.x)).sub (m (n hb.x) (n hc.z)) (by decide) (by decide) (by decide), (m (n hb.x) (n hc.y)).sub (m (n hb.y) (n hc.x)) (by decide) (by decide) (by decide)⟩
  have s : ∀ {x y : Nat}, Bd x (-4) 4 → Bd y (-32) 32 → Bd (fmul x y) (-128) 128 := fun h k => h.mul (b := 4) (d := 32) k (by decide) (by decide)
  exact ⟨t.isFin, ((s (n ha.x) t.x).add (s (n ha.y) t.y) (by decide) (by decide) (by decide)).add (s (n ha.z) t.z) (by decide) (by decide) (by decide)⟩
section
variable {g : Sp → Sp → Sp → Nat} {ps : List Sp}
theorem triJ_Bd {lo hi : Int} (hg : ∀ a b c : Sp, SB a 0 4 → SB b 0 4 → SB c 0 4 → Bd (g a b c) lo hi) (h : AllB 4 ps) (f : List Int) (s : Nat) (n : Nat) (hl : -400 ≤ lo) (hlo : lo ≤ 0) (hhi : 0 ≤ hi) (hh : hi ≤ 400) (hs : Bd s (lo * n) (hi * n)) :
    ∀ k : Nat, n + k ≤ 2100 → Bd (triJ g ps f s k) (lo * ((n + k : Nat) : Int)) (hi * ((n + k : Nat) : Int))
  | 0, _ => hs
  | k + 1, hk => by
    have i := triJ_Bd hg h f s n hl hlo hhi hh hs k (by omega)
    have j := hg _ _ _ (h (iAt f 0).toNat) (h (iAt f (k + 1)).toNat) (h (iAt f (k + 2)).toNat)
    have e1 : lo * ((n + (k + 1) : Nat) : Int) = lo * ((n + k : Nat) : Int) + lo := by
      rw [show n + (k + 1) = (n + k) + 1 by omega, Int.natCast_add (n + k) 1, Int.mul_add]; simp
    have e2 : hi * ((n + (k + 1) : Nat) : Int) = hi * ((n + k : Nat) : Int) + hi := by
      rw [show n + (k + 1) = (n + k) + 1 by omega, Int.natCast_add (n + k) 1, Int.mul_add]; simp
    have b1 : -400 * ((n + k : Nat) : Int) ≤ lo * ((n + k : Nat) : Int) := Int.mul_le_mul_of_nonneg_right hl (by omega)
    have b2 : hi * ((n + k : Nat) : Int) ≤ 400 * ((n + k : Nat) : Int) := Int.mul_le_mul_of_nonneg_right hh (by omega)
    have b3 : lo * ((n + k : Nat) : Int) ≤ 0 := Int.mul_nonpos_of_nonpos_of_nonneg hlo (by omega)
    have b4 : 0 ≤ hi * ((n + k : Nat) : Int) := Int.mul_nonneg hhi (by omega)
    rw [e1, e2]
    exact i.add j (by omega) (by omega) (by omega)
theorem triF_Bd {lo hi : Int} (hg : ∀ a b c : Sp, SB a 0 4 → SB b 0 4 → SB c 0 4 → Bd (g a b c) lo hi) (h : AllB 4 ps) (fs : List (List Int)) (hf : ∀ i, i < fs.length → 3 ≤ (fAt fs i).length ∧ (fAt fs i).length ≤ 8) (hl : -400 ≤ lo) (hlo : lo ≤ 0) (hhi : 0 ≤ hi) (hh : hi ≤ 400) :
    ∀ j : Nat, j ≤ fs.length → j ≤ 256 → ∃ n : Nat, n ≤ 6 * j ∧ Bd (triF g ps fs j) (lo * n) (hi * n)
  | 0, _, _ => ⟨0, by omega, by simp; exact Bd.zero⟩
  | j + 1, hj, hj2 => by
    obtain ⟨n, hn, hb⟩ := triF_Bd hg h fs hf hl hlo hhi hh j (by omega) (by omega)
    have := hf j (by omega)
    exact ⟨n + ((fAt fs j).length - 2), by omega, triJ_Bd hg h (fAt fs j) _ n hl hlo hhi hh hb _ (by omega)⟩
theorem allF_yes {t : Sp → Sp → Sp → Bool} (ht : ∀ a b c : Sp, SB a 0 4 → SB b 0 4 → SB c 0 4 → t a b c = true) (h : AllB 4 ps) (fs : List (List Int)) : ∀ j, allF t ps fs j = true
  | 0 => rfl
  | j + 1 => by
    have : ∀ k, allJ t ps (fAt fs j) (allF t ps fs j) k = true := fun k => by
      induction k with
      | zero => exact allF_yes ht h fs j
      | succ k ih => rw [allJ, ih]; exact ht _ _ _ (h _) (h _) (h _)
    exact this _
end
end Go.Fl
namespace Go.Proofs.Ytkjljajjjhfklaa
open Go.RowKit Go.Fl
theorem area_ok {ps : List Sp} {fs : List (List Int)} (h : OkNet ps fs (colA fs) (colB fs)) (hb : AllB 4 ps) : areaO ps fs = true ∧ ∃ b, Bd (areaV ps fs) 0 b := by
  obtain ⟨n, hn, bd⟩ := triF_Bd (g := areaG) (lo := 0) (hi := 29) (fun a b c => tri_SB) hb fs (fun i hi => ⟨(h.facets i hi).1, (h.facets i hi).2.1⟩) (by decide) (by decide) (by decide) (by decide) fs.length (Nat.le_refl _) h.f256
  rw [Int.zero_mul] at bd
  have ok : okN ps fs = true := dec_yes h
  have hfin := bd.isFin
  refine ⟨by unfold areaO; rw [ok, hfin]; rfl, 29 * n, ?_⟩
  unfold areaV
  rw [if_pos ok, ifFin, if_pos hfin]
  exact bd
theorem vol_ok {ps : List Sp} {fs : List (List Int)} (h : OkNet ps fs (colA fs) (colB fs)) (hb : AllB 4 ps) : volO ps fs = decide ((prL true fs).length = 0) := by
  obtain ⟨n, hn, bd⟩ := triF_Bd (g := volG) (lo := -384) (hi := 384) (fun a b c ha hb hc => (vol_SB ha hb hc).2) hb fs (fun i hi => ⟨(h.facets i hi).1, (h.facets i hi).2.1⟩) (by decide) (by decide) (by decide) (by decide) fs.length (Nat.le_refl _) h.f256
  have ok : okN ps fs = true := dec_yes h
  have hf := h.f256
  have six : Bd 1086324736 6 6 := Bd.const _ 6 (by decide +kernel) (by decide)
  rw [Int.neg_mul] at bd
  have := (bd.div six (by decide) (by omega) (by omega)).isFin
  unfold volO volC
  rw [ok, this, allF_yes (t := volT) (fun a b c ha hb hc => (vol_SB ha hb hc).1) hb fs]
  simp
end Go.Proofs.Ytkjljajjjhfklaa
