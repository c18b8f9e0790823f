/- impl.SameOutlines: outlines that read the same are the same. -/
import Derived.Test.YtjapidajammkbaaORecD
import Derived.Test.YtjapidajammkbaaOSto
import Derived.Test.YtjapidajammkbaaOVi
import Derived.Test.YtjapidajammkbaaOCx
namespace Go.Fl
open Go.RowKit
@[go_sem high] theorem run_wid1 {P : Program} {w : World} {src dst : TypeId} (b : Nat) (h1 : nanB .f32 b = false) (hs : (P.underlying src).isSome = true) (hd : P.underlying dst = some (.float .f64)) :
    (convert src dst (.float .f32 b)).run P w = .ok (.float .f64 (wid b)) w := by
  rw [run_widen b hs hd]
  simp [mcv, mcd, h1, fits_widen b, World.drewN_zero, wid]
end Go.Fl
namespace Go.Proofs.Ytjapidajammkbaa
open Go.RowKit Go.Fl

theorem run_bits64 (b : Nat) (w : World) : (callFunc 55 #[.float .f64 b]).run Try.prog w = .ok (.value (.int .u64 b)) w := by
  rw [run_callFunc_extern (P := Try.prog) (e := Extern.MathFloatBits.float64bits) Try.func55 (by kernel_rfl) (by kernel_rfl) (by kernel_rfl) (by kernel_rfl) #[.float .f64 b] w]
  rfl
theorem signbit (b : Nat) (w : World) : Calls Try.prog 46 #[.float .f64 b] w fun e w' => e = .returned (.bool (decide (wrap64 (b : Int) < 0))) ∧ w' = w := by
  have hbits := run_bits64 b
  go_enter Try.func46, Try.ntmps46
  go_wp2_with fail
  go_ret
  exact ⟨rfl, rfl⟩
theorem sameNumber (x : Nat) (hx : nanB .f32 x = false) (w : World) : Calls Try.prog 40 #[.float .f32 x, .float .f32 x] w fun e w' => e = .returned (.bool true) ∧ w' = w := by
  have h1 : (FloatKind.f32.format.order x x != some Ordering.eq) = false := by rw [order_self hx]; rfl
  have h2 : (FloatKind.f32.format.order x x == some Ordering.eq) = true := by rw [order_self hx]; rfl
  obtain ⟨r, hr⟩ : ∃ r, r = decide (wrap64 (wid x : Int) < 0) := ⟨_, rfl⟩
  have HR := Lib.hid hr
  clear hr
  go_enter Try.func40, Try.ntmps40
  go_wp2_with (go_at_call 46; refine (signbit _ _).mono ?_; rintro e w' ⟨rfl, rfl⟩; rw [← HR.out])
  go_ret
  exact ⟨ret_bool (by first | rfl | simp), rfl⟩
theorem sameComplexI (x y : Nat) (hx : nanB .f32 x = false) (hy : nanB .f32 y = false) (w : World) : Calls Try.prog 29 #[.complex .f32 x y, .complex .f32 x y] w fun e w' => e = .returned (.bool true) ∧ w' = w := by
  have HX := Lib.hid hx
  have HY := Lib.hid hy
  clear hx hy
  go_enter Try.func29, Try.ntmps29
  go_wp2_with fail
  refine (sameNumber x HX.out _).mono ?_
  rintro e w1 ⟨rfl, rfl⟩
  go_wp2_with fail
  refine (sameNumber y HY.out _).mono ?_
  rintro e w2 ⟨rfl, rfl⟩
  go_wp2_with fail
  go_ret
  exact ⟨rfl, rfl⟩

set_option maxHeartbeats 1000000 in
theorem eqF1 (lo hi lo' hi' : Nat) (a b : Option Addr) (ca cb : Nat) (l : List Cx) (hn : l.length ≤ 1048576) (hok : l.all okPt = true) (w : World) (ha : SlC w lo hi a l) (hb : SlC w lo' hi' b l) :
    Calls Try.prog 28 #[.slice a l.length ca, .slice b l.length cb, .func (.func 29) #[] #[]] w fun e w' => e = .returned (.bool true) ∧ w' = w := by
  have HA := Lib.hid ha
  have HB := Lib.hid hb
  have HO := Lib.hid hok
  clear ha hb hok
  go_enter Try.func28, Try.ntmps28
  go_wp2_with fail
  go_loopw [17] (fun i wr => ∃ k : Nat, k ≤ l.length ∧ i = .int .i64 k ∧ wr = w) (fun i _ => l.length - (intOf i).toNat)
  case atStart => exact ⟨0, by omega, rfl, rfl⟩
  case round =>
    obtain ⟨k, hk, rfl, rfl⟩ := hrel
    by_cases hlt : k < l.length
    · obtain ⟨b1, rfl, _, _, hc1⟩ := HA.out (by omega)
      obtain ⟨b2, rfl, _, _, hc2⟩ := HB.out (by omega)
      obtain ⟨x, y, hxy, hx, hy⟩ := okAt HO.out hlt
      have c1 := hc1 k hlt
      have c2 := hc2 k hlt
      rw [hxy] at c1 c2
      simp only [cV] at c1 c2
      clear hc1 hc2 hxy
      have HX := Lib.hid hx
      have HY := Lib.hid hy
      have k0 : (0 : Int) ≤ (k : Int) := by omega
      have k1 : (k : Int) < (l.length : Int) := by omega
      go_wp2_with fail
      refine (sameComplexI x y HX.out HY.out _).mono ?_
      rintro e w3 ⟨rfl, rfl⟩
      go_wp2_with fail
      go_roundw
      case rel => exact ⟨k + 1, by omega, by go_num, trivial⟩
      case measure => simp [intOf]; omega
    · go_wp2_with fail
      go_ret
      exact ⟨rfl, rfl⟩

theorem same11 (lo hi lo' hi' : Nat) (a b : Option Addr) (ca cb : Nat) (l : List Cx) (hn : l.length ≤ 1048576) (hok : l.all okPt = true) (w : World) (ha : SlC w lo hi a l) (hb : SlC w lo' hi' b l) :
    Calls Try.prog 27 #[.slice a l.length ca, .slice b l.length cb] w fun e w' => e = .returned (.bool true) ∧ w' = w := by
  have H := Lib.hid (eqF1 lo hi lo' hi' a b ca cb l hn hok w ha hb)
  clear ha hb hok
  go_enter Try.func27, Try.ntmps27
  go_wp2_with fail
  refine H.out.mono ?_
  rintro e w3 ⟨rfl, rfl⟩
  go_wp2_with fail
  go_ret
  exact ⟨rfl, rfl⟩

set_option maxHeartbeats 1000000 in
theorem eqF2 (lo hi lo' hi' : Nat) (a b : Option Addr) (ca cb : Nat) (ls : List (List Cx)) (hn : ls.length ≤ 1048576) (hok : okAll ls) (w : World) (ha : SlL w lo hi a ls) (hb : SlL w lo' hi' b ls) :
    Calls Try.prog 26 #[.slice a ls.length ca, .slice b ls.length cb, .func (.func 27) #[] #[]] w fun e w' => e = .returned (.bool true) ∧ w' = w := by
  have HA := Lib.hid ha
  have HB := Lib.hid hb
  have HO := Lib.hid hok
  clear ha hb hok
  go_enter Try.func26, Try.ntmps26
  go_wp2_with fail
  go_loopw [17] (fun i wr => ∃ k : Nat, k ≤ ls.length ∧ i = .int .i64 k ∧ wr = w) (fun i _ => ls.length - (intOf i).toNat)
  case atStart => exact ⟨0, by omega, rfl, rfl⟩
  case round =>
    obtain ⟨k, hk, rfl, rfl⟩ := hrel
    by_cases hlt : k < ls.length
    · obtain ⟨b1, rfl, _, _, hc1⟩ := HA.out (by omega)
      obtain ⟨b2, rfl, _, _, hc2⟩ := HB.out (by omega)
      obtain ⟨a1, d1, c1, s1⟩ := hc1 k hlt
      obtain ⟨a2, d2, c2, s2⟩ := hc2 k hlt
      have S1 := Lib.hid s1
      have S2 := Lib.hid s2
      have HK := Lib.hid (HO.out k hlt)
      clear hc1 hc2 s1 s2
      have k0 : (0 : Int) ≤ (k : Int) := by omega
      have k1 : (k : Int) < (ls.length : Int) := by omega
      go_wp2_with fail
      refine (same11 lo hi lo' hi' a1 a2 d1 d2 (lpAt ls k) HK.out.1 HK.out.2 _ S1.out S2.out).mono ?_
      rintro e w3 ⟨rfl, rfl⟩
      go_wp2_with fail
      go_roundw
      case rel => exact ⟨k + 1, by omega, by go_num, trivial⟩
      case measure => simp [intOf]; omega
    · go_wp2_with fail
      go_ret
      exact ⟨rfl, rfl⟩

theorem same1 (lo hi lo' hi' : Nat) (a b : Option Addr) (ca cb : Nat) (nm : ByteArray) (ls : List (List Cx)) (hn : ls.length ≤ 1048576) (hok : okAll ls) (w : World) (ha : SlL w lo hi a ls) (hb : SlL w lo' hi' b ls) (h1 : hi ≤ w.heap.size) (h2 : hi' ≤ w.heap.size) :
    Calls Try.prog 25 #[.agg #[.string nm, .slice a ls.length ca], .agg #[.string nm, .slice b ls.length cb]] w fun e w' => e = .returned (.bool true) ∧ Below w.heap.size w w' := by
  have H := Lib.hid (fun w ha hb => eqF2 lo hi lo' hi' a b ca cb ls hn hok w ha hb)
  have HA := Lib.hid ha
  have HB := Lib.hid hb
  clear ha hb hok
  go_enter Try.func25, Try.ntmps25
  go_wp2_with fail
  refine (H.out _ (HA.out.far (((Far.refl _ _ _).alloc _ h1).alloc _ (by first | omega | (simp; done) | (simp; omega)))) (HB.out.far (((Far.refl _ _ _).alloc _ h2).alloc _ (by first | omega | (simp; done) | (simp; omega))))).mono ?_
  rintro e w3 ⟨rfl, rfl⟩
  go_wp2_with fail
  go_ret
  exact ⟨rfl, by (repeat (first | exact Below.refl _ _ | assumption | refine below_dr ?_ _ | refine Below.alloc ?_ (by first | omega | (simp; done) | (simp; omega)) _ | refine Below.setCell ?_ (by first | omega | (simp; done) | (simp; omega)) _ | refine Below.trans ?_ (Below.mono (by assumption) (by first | omega | (simp; done) | (simp; omega)))))⟩
end Go.Proofs.Ytjapidajammkbaa
