/- Equal outlines, by the law's own functions. -/
import Derived.Test.YtenamfkggeeacaaOCx
import Derived.Test.YtenamfkggeeacaaOTaken
namespace Go.Proofs.Ytenamfkggeeacaa
open Go.RowKit Go.Fl

theorem quiet_of2 {P : Program} {f : FuncId} {args : Array Value} {w : World} {q n : Nat} {v : Value}
    (h : Calls P f args (w.drewN (q + n)) fun e w' => e = .returned v ∧ ∃ m, w' = (w.drewN (q + n)).drewN m) : Calls P f args (w.drewN (q + n)) fun e w'' => e = .returned v ∧ ∃ m, w'' = w.drewN (q + m) :=
  h.mono fun _ _ ⟨he, m, hm⟩ => ⟨he, n + m, by rw [hm, World.drewN_drewN, Nat.add_assoc]⟩

set_option maxHeartbeats 1000000 in
theorem eqC1 (lo hi lo' hi' : Nat) (a b : Option Addr) (ca cb : Nat) (l : List Cx) (hn : l.length ≤ 1048576) (hok : l.all okPt = true) (w : World) (ha : SlC w lo hi a l) (hb : SlC w lo' hi' b l) :
    Calls Try.prog 28 #[.slice a l.length ca, .slice b l.length cb] w fun e w' => e = .returned (.bool true) ∧ ∃ n, w' = w.drewN n := by
  have HA := Lib.hid ha
  have HB := Lib.hid hb
  have HO := Lib.hid hok
  clear ha hb hok
  go_enter Try.func28, Try.ntmps28
  go_wp2_with fail
  go_loopw [5] (fun i wr => ∃ k q : Nat, k ≤ l.length ∧ i = .int .i64 k ∧ wr = w.drewN q) (fun i _ => l.length - (intOf i).toNat)
  case atStart => exact ⟨0, 0, by omega, rfl, rfl⟩
  case round =>
    obtain ⟨k, q, hk, rfl, rfl⟩ := hrel
    by_cases hlt : k < l.length
    · obtain ⟨b1, rfl, _, _, hc1⟩ := HA.out (by omega)
      obtain ⟨b2, rfl, _, _, hc2⟩ := HB.out (by omega)
      obtain ⟨x, y, hxy, hx, hy⟩ := okAt HO.out hlt
      have c1 := hc1 k hlt
      have c2 := hc2 k hlt
      rw [hxy] at c1 c2
      simp only [cV] at c1 c2
      clear hc1 hc2 hxy
      have k0 : (0 : Int) ≤ (k : Int) := by omega
      have k1 : (k : Int) < (l.length : Int) := by omega
      go_wp2_with fail
      go_quiet (first | (go_at_call 42; refine quiet_of2 (sameComplex _ _ _)))
      go_wp2_with fail
      go_roundw
      case rel => exact ⟨k + 1, _, by omega, by go_num, by first | rfl | (simp only [World.drewN_drewN]; done)⟩
      case measure => simp [intOf]; omega
    · go_wp2_with fail
      go_ret
      exact ⟨rfl, _, rfl⟩

/-- .. loops of them -/
def okAll (ls : List (List Cx)) : Prop := ∀ i, i < ls.length → (lpAt ls i).length ≤ 1048576 ∧ (lpAt ls i).all okPt = true
set_option maxHeartbeats 1000000 in
theorem eqC2 (lo hi lo' hi' : Nat) (a b : Option Addr) (ca cb : Nat) (ls : List (List Cx)) (hn : ls.length ≤ 1048576) (hok : okAll ls) (w : World) (ha : SlL w lo hi a ls) (hb : SlL w lo' hi' b ls) :
    Calls Try.prog 17 #[.slice a ls.length ca, .slice b ls.length cb] w fun e w' => e = .returned (.bool true) ∧ ∃ n, w' = w.drewN n := by
  have HA := Lib.hid ha
  have HB := Lib.hid hb
  have HO := Lib.hid hok
  clear ha hb hok
  go_enter Try.func17, Try.ntmps17
  go_wp2_with fail
  go_loopw [5] (fun i wr => ∃ k q : Nat, k ≤ ls.length ∧ i = .int .i64 k ∧ wr = w.drewN q) (fun i _ => ls.length - (intOf i).toNat)
  case atStart => exact ⟨0, 0, by omega, rfl, rfl⟩
  case round =>
    obtain ⟨k, q, hk, rfl, rfl⟩ := hrel
    by_cases hlt : k < ls.length
    · obtain ⟨b1, rfl, _, _, hc1⟩ := HA.out (by omega)
      obtain ⟨b2, rfl, _, _, hc2⟩ := HB.out (by omega)
      obtain ⟨a1, d1, c1, s1⟩ := hc1 k hlt
      obtain ⟨a2, d2, c2, s2⟩ := hc2 k hlt
      have S1 := Lib.hid s1
      have S2 := Lib.hid s2
      have HK := Lib.hid (HO.out k hlt)
      clear hc1 hc2 s1 s2
      have k0 : (0 : Int) ≤ (k : Int) := by omega
      have k1 : (k : Int) < (ls.length : Int) := by omega
      go_wp2_with fail
      go_quiet (first | (go_at_call 28; refine quiet_of2 (eqC1 lo hi lo' hi' a1 a2 d1 d2 (lpAt ls k) HK.out.1 HK.out.2 _ (S1.out.far ((Far.refl _ _ _).drewN _)) (S2.out.far ((Far.refl _ _ _).drewN _)))))
      go_wp2_with fail
      go_roundw
      case rel => exact ⟨k + 1, _, by omega, by go_num, by first | rfl | (simp only [World.drewN_drewN]; done)⟩
      case measure => simp [intOf]; omega
    · go_wp2_with fail
      go_ret
      exact ⟨rfl, _, rfl⟩

set_option maxHeartbeats 1000000 in
theorem eqOl (lo hi lo' hi' : Nat) (a b : Option Addr) (ca cb : Nat) (nm : ByteArray) (ls : List (List Cx)) (hn : ls.length ≤ 1048576) (hok : okAll ls) (w : World) (ha : SlL w lo hi a ls) (hb : SlL w lo' hi' b ls) (h1 : hi ≤ w.heap.size) (h2 : hi' ≤ w.heap.size) :
    Calls Try.prog 7 #[.agg #[.string nm, .slice a ls.length ca], .agg #[.string nm, .slice b ls.length cb]] w fun e w' => e = .returned (.bool true) ∧ Below w.heap.size w w' := by
  have HA := Lib.hid ha
  have HB := Lib.hid hb
  have HO := Lib.hid hok
  clear ha hb hok
  go_enter Try.func7, Try.ntmps7
  go_wp2_with fail
  refine (eqC2 lo hi lo' hi' a b ca cb ls hn HO.out _ (HA.out.far (((Far.refl _ _ _).alloc _ h1).alloc _ (by first | omega | (simp; done) | (simp; omega)))) (HB.out.far (((Far.refl _ _ _).alloc _ h2).alloc _ (by first | omega | (simp; done) | (simp; omega))))).mono ?_
  rintro e w1 ⟨rfl, n, rfl⟩
  go_wp2_with fail
  go_ret
  exact ⟨rfl, by (repeat (first | exact Below.refl _ _ | assumption | refine below_dr ?_ _ | refine Below.alloc ?_ (by first | omega | (simp; done) | (simp; omega)) _ | refine Below.setCell ?_ (by first | omega | (simp; done) | (simp; omega)) _ | refine Below.trans ?_ (Below.mono (by assumption) (by first | omega | (simp; done) | (simp; omega)))))⟩
end Go.Proofs.Ytenamfkggeeacaa
