/- Nets, the law: equal spots, equal nets; the mean of a facet; the Euler number. Exact arithmetic on float32: numbers k / 2 ^ e of fewer than 25 binary digits. Plain Lean. Rounding to the nearest keeps order against every number of the format: bounds on floats that are not exact. Plain Lean. -/
import Derived.Test.YtkjljajjjhfklaaNj12
import Derived.Test.YtkjljajjjhfklaaNj01
namespace Go.Fl
open Go.RowKit
/-- a number that is finite is itself -/
theorem fin_can {x y : Nat} (h : F32 x y) (hf : fin y = true) : x = y ∧ nanB .f32 x = false := by
  unfold F32 can at h
  cases hn : nanB .f32 x
  · rw [hn] at h; exact ⟨h, rfl⟩
  · exfalso
    rw [hn, if_pos rfl] at h
    subst h
    revert hf
    decide +kernel
structure SpN (x y z : Nat) : Prop where
  x : nanB .f32 x = false
  y : nanB .f32 y = false
  z : nanB .f32 z = false
theorem fin_sp {x y z : Nat} {p : Sp} (h : IsSp x y z p) (hf : finSp p = true) : (x = p.1 ∧ y = p.2.1 ∧ z = p.2.2) ∧ SpN x y z := by
  unfold IsSp at h
  unfold finSp at hf
  simp only [Bool.and_eq_true] at hf
  obtain ⟨⟨h1, h2⟩, h3⟩ := hf
  have e1 : can .f32 x = p.1 := by rw [← h]
  have e2 : can .f32 y = p.2.1 := by rw [← h]
  have e3 : can .f32 z = p.2.2 := by rw [← h]
  obtain ⟨a, a'⟩ := fin_can e1 h1
  obtain ⟨b, b'⟩ := fin_can e2 h2
  obtain ⟨c, c'⟩ := fin_can e3 h3
  exact ⟨⟨a, b, c⟩, a', b', c'⟩
theorem all_fin {ps : List Sp} (h : ps.all finSp = true) {i : Nat} (hi : i < ps.length) : finSp (pAt ps i) = true := by
  have := List.all_eq_true.1 h ps[i] (List.getElem_mem hi)
  simpa [pAt, hi] using this

theorem run_wid64 {x : Nat} (h : nanB .f32 x = false) : (∀ w, mcv .f32 .f64 x w = fcv .f32 .f64 x) ∧ mcd .f32 .f64 x = 0 := by
  refine ⟨fun w => ?_, ?_⟩
  · unfold mcv fcv; rw [h, fits_widen]; rfl
  · unfold mcd; rw [h, fits_widen]; rfl
end Go.Fl
namespace Go.Proofs.Ytkjljajjjhfklaa
open Go.RowKit Go.Fl

theorem run_bits64 (b : Nat) (w : World) : (callFunc 86 #[.float .f64 b]).run Try.prog w = .ok (.value (.int .u64 b)) w := by
  rw [run_callFunc_extern (P := Try.prog) (e := Extern.MathFloatBits.float64bits) Try.func86 (by kernel_rfl) (by kernel_rfl) (by kernel_rfl) (by kernel_rfl) #[.float .f64 b] w]
  rfl
theorem signbit (b : Nat) (w : World) : Calls Try.prog 76 #[.float .f64 b] w fun e w' => e = .returned (.bool (decide (wrap64 (b : Int) < 0))) ∧ w' = w := by
  have hbits := run_bits64 b
  go_enter Try.func76, Try.ntmps76
  go_wp2_with fail
  go_ret
  exact ⟨rfl, rfl⟩
theorem sameNumber (x : Nat) (hx : nanB .f32 x = false) (w : World) : Calls Try.prog 60 #[.float .f32 x, .float .f32 x] w fun e w' => e = .returned (.bool true) ∧ w' = w := by
  have h1 : (FloatKind.f32.format.order x x != some Ordering.eq) = false := by rw [order_self hx]; rfl
  have h2 : (FloatKind.f32.format.order x x == some Ordering.eq) = true := by rw [order_self hx]; rfl
  obtain ⟨r, hr⟩ : ∃ r, r = decide (wrap64 ((fcv .f32 .f64 x : Nat) : Int) < 0) := ⟨_, rfl⟩
  have HR := Lib.hid hr
  obtain ⟨mw, dw⟩ := run_wid64 hx
  have dz : ∀ w : World, w.drewN 0 = w := World.drewN_zero
  clear hr
  go_enter Try.func60, Try.ntmps60
  go_wp2_with (go_at_call 76; refine (signbit _ _).mono ?_; rintro e w' ⟨rfl, rfl⟩; rw [← HR.out])
  go_ret
  exact ⟨ret_bool (by first | rfl | simp), rfl⟩

set_option maxHeartbeats 1000000 in
theorem sameSpotN {x y z : Nat} (h : SpN x y z) (w : World) : Calls Try.prog 19 #[spV x y z, spV x y z] w fun e w' => e = .returned (.bool true) ∧ Below w.heap.size w w' := by
  have H1 := Lib.hid (fun w => sameNumber x h.x w)
  have H2 := Lib.hid (fun w => sameNumber y h.y w)
  have H3 := Lib.hid (fun w => sameNumber z h.z w)
  clear h
  unfold spV
  go_enter Try.func19, Try.ntmps19
  go_wp2_with fail
  refine (H1.out _).mono ?_
  rintro e w1 ⟨rfl, rfl⟩
  go_wp2_with fail
  refine (H2.out _).mono ?_
  rintro e w1 ⟨rfl, rfl⟩
  go_wp2_with fail
  refine (H3.out _).mono ?_
  rintro e w1 ⟨rfl, rfl⟩
  go_wp2_with fail
  go_ret
  exact ⟨rfl, by (repeat (first | exact Below.refl _ _ | assumption | refine below_dr ?_ _ | refine Below.alloc ?_ (by first | omega | (simp; done) | (simp; omega)) _ | refine Below.setCell ?_ (by first | omega | (simp; done) | (simp; omega)) _ | refine Below.trans ?_ (Below.mono (by assumption) (by first | omega | (simp; done) | (simp; omega)))))⟩
set_option maxHeartbeats 2000000 in
set_option maxRecDepth 100000 in
theorem eqSpots (lo hi lo' hi' : Nat) (ao bo : Option Addr) (c c' : Nat) (ps : List Sp) (hn : ps.length ≤ 1048576) (hf : ps.all finSp = true) (w : World) (hs : SlP w lo hi ao ps) (ht : SlP w lo' hi' bo ps) (hh : hi ≤ w.heap.size) (hh' : hi' ≤ w.heap.size) :
    Calls Try.prog 37 #[.slice ao ps.length c, .slice bo ps.length c', .func (.func 19) #[] #[]] w fun e w' => e = .returned (.bool true) ∧ Below w.heap.size w w' := by
  have HS := Lib.hid hs
  have HT := Lib.hid ht
  have HF := Lib.hid hf
  clear hs ht hf
  go_enter Try.func37, Try.ntmps37
  go_wp2_with fail
  go_loopw [17] (fun i wr => ∃ k : Nat, k ≤ ps.length ∧ i = .int .i64 k ∧ Hid (Below w.heap.size w wr)) (fun i _ => ps.length - (intOf i).toNat)
  case atStart => exact ⟨0, by omega, rfl, Lib.hid (Below.refl _ _)⟩
  case round =>
    obtain ⟨k, hk, rfl, HW⟩ := hrel
    by_cases hlt : k < ps.length
    · obtain ⟨b1, o1, rfl, _, q1, hc1⟩ := HS.out.far (Far.below HW.out hh) (by omega)
      obtain ⟨x, y, z, c1, c2, c3, f1, f2, f3⟩ := hc1 k hlt
      obtain ⟨b2, o2, rfl, _, q2, hc2⟩ := HT.out.far (Far.below HW.out hh') (by omega)
      obtain ⟨x', y', z', d1, d2, d3, g1, g2, g3⟩ := hc2 k hlt
      have hfin := all_fin HF.out hlt
      obtain ⟨⟨e1, e2, e3⟩, hN⟩ := fin_sp (p := pAt ps k) (IsSp.of f1 f2 f3) hfin
      obtain ⟨⟨e1', e2', e3'⟩, _⟩ := fin_sp (x := x') (y := y') (z := z') (p := pAt ps k) (IsSp.of g1 g2 g3) hfin
      rw [← e1] at e1'
      rw [← e2] at e2'
      rw [← e3] at e3'
      rw [e1'] at d1
      rw [e2'] at d2
      rw [e3'] at d3
      have HSS : Hid (∀ w, Calls Try.prog 19 #[.agg #[.float .f32 x, .float .f32 y, .float .f32 z], .agg #[.float .f32 x, .float .f32 y, .float .f32 z]] w fun e w' => e = .returned (.bool true) ∧ Below w.heap.size w w') := Lib.hid fun w => sameSpotN hN w
      have hz := HW.out.size
      have hb1l : b1 < wr.heap.size := by omega
      have hb2l : b2 < wr.heap.size := by omega
      have hb2n : ¬ b2 = wr.heap.size := by omega
      clear hc1 hc2 f1 f2 f3 g1 g2 g3 e1 e2 e3 e1' e2' e3' hN hfin
      have k0 : (0 : Int) ≤ (k : Int) := by omega
      have k1 : (k : Int) < (ps.length : Int) := by omega
      go_wp2_with fail
      refine (HSS.out _).mono ?_
      rintro e w3 ⟨rfl, hb3⟩
      have HB3 : Hid (Below w.heap.size w w3) := Lib.hid (HW.out.trans (Below.trans (show Below w.heap.size wr _ by (repeat (first | exact Below.refl _ _ | assumption | refine below_dr ?_ _ | refine Below.alloc ?_ (by first | omega | (simp; done) | (simp; omega)) _ | refine Below.setCell ?_ (by first | omega | (simp; done) | (simp; omega)) _ | refine Below.trans ?_ (Below.mono (by assumption) (by first | omega | (simp; done) | (simp; omega)))))) (hb3.mono (by simp; omega))))
      clear hb3
      go_wp2_with fail
      exact ⟨⟨k + 1, by omega, by go_num, HB3⟩, by simp [intOf]; omega⟩
    · obtain rfl : k = ps.length := by omega
      go_wp2_with fail
      go_ret
      exact ⟨rfl, HW.out⟩
set_option maxHeartbeats 2000000 in
set_option maxRecDepth 100000 in
theorem eqInts (lo hi lo' hi' : Nat) (ao bo : Option Addr) (c c' : Nat) (xs : List Int) (hn : xs.length ≤ 1048576) (w : World) (hs : SlI w lo hi ao xs) (ht : SlI w lo' hi' bo xs) :
    Calls Try.prog 40 #[.slice ao xs.length c, .slice bo xs.length c'] w fun e w' => e = .returned (.bool true) ∧ ∃ n, w' = w.drewN n := by
  have HS := Lib.hid hs
  have HT := Lib.hid ht
  clear hs ht
  go_enter Try.func40, Try.ntmps40
  go_wp2_with fail
  go_loopw [13] (fun i wr => ∃ k q : Nat, k ≤ xs.length ∧ i = .int .i64 k ∧ wr = w.drewN q) (fun i _ => xs.length - (intOf i).toNat)
  case atStart => exact ⟨0, 0, by omega, rfl, rfl⟩
  case round =>
    obtain ⟨k, q, hk, rfl, rfl⟩ := hrel
    by_cases hlt : k < xs.length
    · obtain ⟨b1, o1, rfl, _, q1, hc1⟩ := HS.out (by omega)
      obtain ⟨b2, o2, rfl, _, q2, hc2⟩ := HT.out (by omega)
      have c1 := hc1 k hlt
      have c2 := hc2 k hlt
      clear hc1 hc2
      have k0 : (0 : Int) ≤ (k : Int) := by omega
      have k1 : (k : Int) < (xs.length : Int) := by omega
      go_wp2_with fail
      go_quiet (fail)
      go_wp2_with fail
      exact ⟨⟨k + 1, _, by omega, by go_num, by first | rfl | simp only [World.drewN_drewN]⟩, by simp [intOf]; omega⟩
    · obtain rfl : k = xs.length := by omega
      go_wp2_with fail
      go_ret
      exact ⟨rfl, _, rfl⟩
set_option maxHeartbeats 1000000 in
theorem sameNet1 (lo hi lo' hi' : Nat) (ao bo : Option Addr) (c c' : Nat) (xs : List Int) (hn : xs.length ≤ 1048576) (w : World) (hs : SlI w lo hi ao xs) (ht : SlI w lo' hi' bo xs) (hh : hi ≤ w.heap.size) (hh' : hi' ≤ w.heap.size) :
    Calls Try.prog 39 #[.agg #[.slice ao xs.length c], .agg #[.slice bo xs.length c']] w fun e w' => e = .returned (.bool true) ∧ Below w.heap.size w w' := by
  have HE := Lib.hid (fun W (h1 : SlI W lo hi ao xs) (h2 : SlI W lo' hi' bo xs) => eqInts lo hi lo' hi' ao bo c c' xs hn W h1 h2)
  have HS := Lib.hid hs
  have HT := Lib.hid ht
  clear hs ht
  go_enter Try.func39, Try.ntmps39
  go_wp2_with fail
  refine Calls.mono (HE.out _ ?g1 ?g2) ?_
  case g1 => exact HS.out.far (((Far.refl _ _ _).alloc _ hh).alloc _ (by simp; omega))
  case g2 => exact HT.out.far (((Far.refl _ _ _).alloc _ hh').alloc _ (by simp; omega))
  rintro e w1 ⟨rfl, n, rfl⟩
  go_wp2_with fail
  go_ret
  exact ⟨rfl, by (repeat (first | exact Below.refl _ _ | assumption | refine below_dr ?_ _ | refine Below.alloc ?_ (by first | omega | (simp; done) | (simp; omega)) _ | refine Below.setCell ?_ (by first | omega | (simp; done) | (simp; omega)) _ | refine Below.trans ?_ (Below.mono (by assumption) (by first | omega | (simp; done) | (simp; omega)))))⟩
set_option maxHeartbeats 2000000 in
set_option maxRecDepth 100000 in
theorem eqFacets (lo hi lo' hi' : Nat) (ao bo : Option Addr) (c c' : Nat) (fs : List (List Int)) (hn : fs.length ≤ 1048576) (hsh : ∀ i, i < fs.length → (fAt fs i).length ≤ 1048576) (w : World) (hs : SlN w lo hi ao fs) (ht : SlN w lo' hi' bo fs) (hh : hi ≤ w.heap.size) (hh' : hi' ≤ w.heap.size) :
    Calls Try.prog 38 #[.slice ao fs.length c, .slice bo fs.length c', .func (.func 39) #[] #[]] w fun e w' => e = .returned (.bool true) ∧ Below w.heap.size w w' := by
  have HS := Lib.hid hs
  have HT := Lib.hid ht
  have HSH := Lib.hid hsh
  clear hs ht hsh
  go_enter Try.func38, Try.ntmps38
  go_wp2_with fail
  go_loopw [17] (fun i wr => ∃ k : Nat, k ≤ fs.length ∧ i = .int .i64 k ∧ Hid (Below w.heap.size w wr)) (fun i _ => fs.length - (intOf i).toNat)
  case atStart => exact ⟨0, by omega, rfl, Lib.hid (Below.refl _ _)⟩
  case round =>
    obtain ⟨k, hk, rfl, HW⟩ := hrel
    by_cases hlt : k < fs.length
    · obtain ⟨b1, o1, rfl, _, q1, hc1⟩ := HS.out.far (Far.below HW.out hh) (by omega)
      obtain ⟨ai, ci, c1, s1⟩ := hc1 k hlt
      obtain ⟨b2, o2, rfl, _, q2, hc2⟩ := HT.out.far (Far.below HW.out hh') (by omega)
      obtain ⟨aj, cj, c2, s2⟩ := hc2 k hlt
      have hz := HW.out.size
      have HE := Lib.hid (fun W (h1 : SlI W lo hi ai (fAt fs k)) (h2 : SlI W lo' hi' aj (fAt fs k)) (g1 : hi ≤ W.heap.size) (g2 : hi' ≤ W.heap.size) => sameNet1 lo hi lo' hi' ai aj ci cj (fAt fs k) (HSH.out k hlt) W h1 h2 g1 g2)
      have S1 := Lib.hid s1
      have S2 := Lib.hid s2
      obtain ⟨m, hm⟩ : ∃ m, m = (fAt fs k).length := ⟨_, rfl⟩
      rw [← hm] at c1 c2 HE
      have hb1l : b1 < wr.heap.size := by omega
      have hb2l : b2 < wr.heap.size := by omega
      have hb2n : ¬ b2 = wr.heap.size := by omega
      clear hc1 hc2 s1 s2 hm
      have k0 : (0 : Int) ≤ (k : Int) := by omega
      have k1 : (k : Int) < (fs.length : Int) := by omega
      go_wp2_with fail
      refine Calls.mono (HE.out _ ?g1 ?g2 ?g3 ?g4) ?_
      case g1 => exact S1.out.far (((Far.refl _ _ _).alloc _ (by omega)).alloc _ (by simp; omega))
      case g2 => exact S2.out.far (((Far.refl _ _ _).alloc _ (by omega)).alloc _ (by simp; omega))
      case g3 => simp; omega
      case g4 => simp; omega
      rintro e w3 ⟨rfl, hb3⟩
      have HB3 : Hid (Below w.heap.size w w3) := Lib.hid (HW.out.trans (Below.trans (show Below w.heap.size wr _ by (repeat (first | exact Below.refl _ _ | assumption | refine below_dr ?_ _ | refine Below.alloc ?_ (by first | omega | (simp; done) | (simp; omega)) _ | refine Below.setCell ?_ (by first | omega | (simp; done) | (simp; omega)) _ | refine Below.trans ?_ (Below.mono (by assumption) (by first | omega | (simp; done) | (simp; omega)))))) (hb3.mono (by simp; omega))))
      clear hb3
      go_wp2_with fail
      exact ⟨⟨k + 1, by omega, by go_num, HB3⟩, by simp [intOf]; omega⟩
    · obtain rfl : k = fs.length := by omega
      go_wp2_with fail
      go_ret
      exact ⟨rfl, HW.out⟩
set_option maxHeartbeats 1000000 in
theorem sameNetN (lo hi lo' hi' : Nat) (sa fa sb fb : Option Addr) (sc fc sc' fc' : Nat) (ps : List Sp) (fs : List (List Int)) (hp : ps.length ≤ 1048576) (hn : fs.length ≤ 1048576) (hsh : ∀ i, i < fs.length → (fAt fs i).length ≤ 1048576) (hf : ps.all finSp = true) (w : World)
    (hs : NetAt w lo hi sa fa ps fs) (ht : NetAt w lo' hi' sb fb ps fs) (hh : hi ≤ w.heap.size) (hh' : hi' ≤ w.heap.size) :
    Calls Try.prog 11 #[netV sa fa ps.length sc fs.length fc, netV sb fb ps.length sc' fs.length fc'] w fun e w' => e = .returned (.bool true) ∧ Below w.heap.size w w' := by
  have HE := Lib.hid (fun W h1 h2 g1 g2 => eqSpots lo hi lo' hi' sa sb sc sc' ps hp hf W h1 h2 g1 g2)
  have HG := Lib.hid (fun W h1 h2 g1 g2 => eqFacets lo hi lo' hi' fa fb fc fc' fs hn hsh W h1 h2 g1 g2)
  have HS := Lib.hid hs
  have HT := Lib.hid ht
  clear hs ht hf hsh
  unfold netV
  go_enter Try.func11, Try.ntmps11
  go_wp2_with fail
  refine Calls.mono (HE.out _ ?g1 ?g2 ?g3 ?g4) ?_
  case g1 => exact HS.out.spots.far (((Far.refl _ _ _).alloc _ hh).alloc _ (by simp; omega))
  case g2 => exact HT.out.spots.far (((Far.refl _ _ _).alloc _ hh').alloc _ (by simp; omega))
  case g3 => simp; omega
  case g4 => simp; omega
  rintro e w1 ⟨rfl, hb1⟩
  have z1 := hb1.size
  simp at z1
  have a0 : w1.cell? ⟨w.heap.size, 1, none⟩ = some (.slice fa fs.length fc) := (hb1.cell (p := ⟨w.heap.size, 1, none⟩) (by simp; omega)).trans (by rw [World.cell?_alloc_lt _ _ _ (by simp)]; rw [World.cell?_alloc_at _ _ _ _ rfl]; rfl)
  have a1 : w1.cell? ⟨w.heap.size + 1, 1, none⟩ = some (.slice fb fs.length fc') := (hb1.cell (p := ⟨w.heap.size + 1, 1, none⟩) (by simp)).trans (by rw [World.cell?_alloc_at _ _ _ _ (by simp)]; rfl)
  have HB1 := Lib.hid (show Below w.heap.size w w1 from Below.trans (by (repeat (first | exact Below.refl _ _ | assumption | refine below_dr ?_ _ | refine Below.alloc ?_ (by first | omega | (simp; done) | (simp; omega)) _ | refine Below.setCell ?_ (by first | omega | (simp; done) | (simp; omega)) _ | refine Below.trans ?_ (Below.mono (by assumption) (by first | omega | (simp; done) | (simp; omega)))))) (hb1.mono (by simp; omega)))
  clear hb1
  go_wp2_with fail
  refine Calls.mono (HG.out _ ?g1 ?g2 ?g3 ?g4) ?_
  case g1 => exact HS.out.facets.far (Far.below HB1.out hh)
  case g2 => exact HT.out.facets.far (Far.below HB1.out hh')
  case g3 => omega
  case g4 => omega
  rintro e w2 ⟨rfl, hb2⟩
  have HB2 := Lib.hid (HB1.out.trans (hb2.mono HB1.out.size))
  clear hb2
  go_wp2_with fail
  go_ret
  exact ⟨rfl, HB2.out⟩
end Go.Proofs.Ytkjljajjjhfklaa

namespace Go.Fl
open Ieee
theorem signed_mul (s : Bool) (m u : Nat) : signed s m u = (if s then -1 else 1) * ((m * 2 ^ u : Nat) : Int) := by
  unfold signed; rw [Nat.shiftLeft_eq]; cases s <;> simp
/-- the least place of a kind, and the bits of its fraction -/
def LP : FloatKind → Nat | .f32 => 149 | .f64 => 1074
def FB : FloatKind → Nat | .f32 => 23 | .f64 => 52
/-- a float is a number -/
def isN (K : FloatKind) (x : Nat) : Bool := match K.format.read x with | .number .. => true | _ => false
/-- its value in units of the least place -/
def V (K : FloatKind) (x : Nat) : Int := match K.format.read x with | .number s m e => signed s m (e + LP K).toNat | _ => 0
theorem near_exact (K : FloatKind) (s : Bool) (m : Nat) (p : Int) (k e b : Nat) (hk : k < 2 ^ (FB K + 1)) (he : e ≤ LP K) (hb : LP K ≤ b) (hp : -(b : Int) ≤ p) (h : m * 2 ^ (p + b).toNat = k * 2 ^ (b - e)) :
    isN K (K.format.nearest s m p) = true ∧ V K (K.format.nearest s m p) = signed s k (LP K - e) := by
  have lp : K.format.leastPlace = -(LP K : Int) := by cases K <;> decide
  have fb : K.format.fractionBits = FB K := by cases K <;> rfl
  have bn : K.format.binade = 2 ^ FB K := by cases K <;> rfl
  have ir : LP K * 2 ^ FB K + 2 * 2 ^ FB K ≤ K.format.infRung := by cases K <;> decide
  have hB := Nat.two_pow_pos (FB K)
  have hB2 : 2 ^ (FB K + 1) = 2 * 2 ^ FB K := by rw [Nat.pow_succ]; omega
  obtain ⟨B, hBB⟩ : ∃ B, B = 2 ^ FB K := ⟨_, rfl⟩
  rw [← hBB] at bn ir hB hB2
  rcases Nat.eq_zero_or_pos m with rfl | hm
  · have hk0 : k = 0 := by
      rw [Nat.zero_mul] at h
      rcases Nat.mul_eq_zero.1 h.symm with h | h
      · exact h
      · exact absurd h (Nat.ne_of_gt (Nat.two_pow_pos _))
    subst hk0
    have hr : K.format.read (K.format.nearest s 0 p) = .number s 0 (-(LP K : Int)) := by
      have : K.format.nearest s 0 p = K.format.word s 0 := by unfold Format.nearest; rw [if_pos rfl]
      rw [this, read_word K s 0 (by omega), if_pos (by omega), lp]
    unfold isN V
    rw [hr]
    exact ⟨rfl, by simp [signed_mul]⟩
  · obtain ⟨L, hL⟩ : ∃ L, L = m.log2 := ⟨_, rfl⟩
    have hm1 : 2 ^ L ≤ m := by rw [hL]; exact Nat.log2_self_le (by omega)
    have hm2 : m < 2 ^ (L + 1) := by rw [hL]; exact Nat.lt_log2_self
    obtain ⟨q, hq⟩ : ∃ q, q = (p + b).toNat := ⟨_, rfl⟩
    rw [← hq] at h
    have hLk : L + q < (FB K + 1) + (b - e) := by
      have h1 : 2 ^ (L + q) ≤ m * 2 ^ q := by rw [Nat.pow_add]; exact Nat.mul_le_mul_right _ hm1
      have h2 : k * 2 ^ (b - e) < 2 ^ ((FB K + 1) + (b - e)) := by rw [Nat.pow_add]; exact Nat.mul_lt_mul_of_pos_right hk (Nat.two_pow_pos _)
      rw [h] at h1
      exact (Nat.pow_lt_pow_iff_right (by decide)).1 (Nat.lt_of_le_of_lt h1 h2)
    obtain ⟨last, hlast⟩ : ∃ t : Int, t = max (p + L - FB K) (-(LP K : Int)) := ⟨_, rfl⟩
    have hl1 : last ≤ -(e : Int) := by omega
    have hl2 : -(LP K : Int) ≤ last := by omega
    have hl3 : p + L - FB K ≤ last := by omega
    obtain ⟨kept, hkept⟩ : ∃ c, c = Toward.even.cut s (m <<< (p - last).toNat) (last - p).toNat := ⟨_, rfl⟩
    have hkv : kept * 2 ^ (last + b).toNat = m * 2 ^ q := by
      by_cases hc : last ≤ p
      · have h0 : (last - p).toNat = 0 := by omega
        have hcut : kept = m * 2 ^ (p - last).toNat := by
          rw [hkept, h0, Nat.shiftLeft_eq]
          unfold Toward.cut
          simp only [Nat.zero_le, Nat.min_eq_left, Nat.shiftLeft_zero, Nat.div_one, Nat.mod_one]
          rfl
        rw [hcut, Nat.mul_assoc, ← Nat.pow_add]
        congr 2
        omega
      · obtain ⟨d, hd⟩ : ∃ d, d = (last - p).toNat := ⟨_, rfl⟩
        have h0 : (p - last).toNat = 0 := by omega
        have hmk : m = k * 2 ^ (b - e - q) := by
          have hx : b - e = (b - e - q) + q := by omega
          rw [hx, Nat.pow_add, ← Nat.mul_assoc] at h
          exact Nat.eq_of_mul_eq_mul_right (Nat.two_pow_pos q) h
        have hdv : m = (k * 2 ^ (b - e - q - d)) * 2 ^ d := by
          rw [Nat.mul_assoc, ← Nat.pow_add]
          have : b - e - q - d + d = b - e - q := by omega
          rw [this]; exact hmk
        obtain ⟨c, hc2⟩ : ∃ c, c = k * 2 ^ (b - e - q - d) := ⟨_, rfl⟩
        rw [← hc2] at hdv
        have hdL : d ≤ L := by
          have hc0 : 0 < c := by
            rcases Nat.eq_zero_or_pos c with h | h
            · rw [h, Nat.zero_mul] at hdv; omega
            · exact h
          have h1 : 2 ^ d ≤ m := by rw [hdv]; exact Nat.le_mul_of_pos_left _ hc0
          have := (Nat.pow_lt_pow_iff_right (by decide)).1 (Nat.lt_of_le_of_lt h1 hm2)
          omega
        have hcut : kept = c := by
          rw [hkept, h0, Nat.shiftLeft_zero, ← hd]
          unfold Toward.cut
          have hmin : min d (m.log2 + 2) = d := by rw [← hL]; omega
          simp only [hmin, Nat.one_shiftLeft]
          have h3 : m / 2 ^ d = c := by rw [hdv]; exact Nat.mul_div_cancel _ (Nat.two_pow_pos _)
          have h4 : m % 2 ^ d = 0 := by rw [hdv]; exact Nat.mul_mod_left _ _
          rw [h3, h4]
          have h5 : (decide (2 ^ d < 2 * 0) || (2 ^ d == 2 * 0 && c % 2 == 1)) = false := by
            have := Nat.two_pow_pos d
            simp
          rw [h5]; rfl
        rw [hcut, hdv, Nat.mul_assoc, ← Nat.pow_add]
        congr 2
        omega
    have hk24 : kept < 2 ^ (FB K + 1) := by
      have h1 : kept * 2 ^ (last + b).toNat < 2 ^ (L + 1 + q) := by
        rw [hkv, Nat.pow_add]; exact Nat.mul_lt_mul_of_pos_right hm2 (Nat.two_pow_pos _)
      have h2 : 2 ^ (L + 1 + q) ≤ 2 ^ (FB K + 1) * 2 ^ (last + b).toNat := by
        rw [← Nat.pow_add]; exact Nat.pow_le_pow_right (by decide) (by omega)
      exact Nat.lt_of_mul_lt_mul_right (Nat.lt_of_lt_of_le h1 h2)
    have hkv2 : kept * 2 ^ (last + LP K).toNat = k * 2 ^ (LP K - e) := by
      have hx : (last + b).toNat = (last + LP K).toNat + (b - LP K) := by omega
      have hy : b - e = (LP K - e) + (b - LP K) := by omega
      rw [h, hx, hy, Nat.pow_add, Nat.pow_add, ← Nat.mul_assoc, ← Nat.mul_assoc] at hkv
      exact Nat.eq_of_mul_eq_mul_right (Nat.two_pow_pos _) hkv
    obtain ⟨T, hT⟩ : ∃ T, T = (last + LP K).toNat := ⟨_, rfl⟩
    rw [← hT] at hkv2
    have hTB : T * B ≤ LP K * B := Nat.mul_le_mul_right _ (by omega)
    have hr : T * B + kept < K.format.infRung := by omega
    have hnear : K.format.nearest s m p = K.format.word s (T * B + kept) := by
      unfold Format.nearest
      rw [if_neg (by omega)]
      simp only [lp, fb, bn, ← hL]
      have e1 : max (p + (L : Int) - (FB K : Nat)) (-(LP K : Int)) = last := hlast.symm
      rw [e1, ← hkept]
      have e2 : (last - -(LP K : Int)).toNat = T := by omega
      rw [e2, Nat.min_eq_left (Nat.le_of_lt hr)]
    have hread := read_word K s _ hr
    rw [bn, lp] at hread
    have h23 : kept < B → T = 0 := fun hlt => by
      by_cases hc : T = 0
      · exact hc
      · have hl : last = p + L - FB K := by omega
        have h1 : 2 ^ (L + q) ≤ kept * 2 ^ (last + b).toNat := by rw [hkv, Nat.pow_add]; exact Nat.mul_le_mul_right _ hm1
        have h2 : kept * 2 ^ (last + b).toNat < B * 2 ^ (last + b).toNat := Nat.mul_lt_mul_of_pos_right hlt (Nat.two_pow_pos _)
        rw [hBB, ← Nat.pow_add] at h2
        have := (Nat.pow_lt_pow_iff_right (by decide)).1 (Nat.lt_of_le_of_lt h1 h2)
        omega
    have hval : ∃ m' e', K.format.read (K.format.nearest s m p) = .number s m' e' ∧ m' * 2 ^ (e' + LP K).toNat = k * 2 ^ (LP K - e) := by
      rw [hnear, hread]
      by_cases hlt : kept < B
      · have h0 := h23 hlt
        rw [h0] at hkv2 ⊢
        rw [Nat.zero_mul, Nat.zero_add, if_pos hlt]
        refine ⟨_, _, rfl, ?_⟩
        have : (-(LP K : Int) + LP K).toNat = 0 := by omega
        rw [this]
        exact hkv2
      · rw [if_neg (by omega)]
        refine ⟨_, _, rfl, ?_⟩
        have q1 : kept % B = kept - B := by rw [Nat.mod_eq_sub_mod (by omega), Nat.mod_eq_of_lt (by omega)]
        have q2 : kept / B = 1 := by rw [Nat.div_eq_sub_div hB (by omega), Nat.div_eq_of_lt (by omega)]
        have e1 : (T * B + kept) % B = kept - B := by rw [Nat.add_comm, Nat.add_mul_mod_self_right, q1]
        have e2 : (T * B + kept) / B = T + 1 := by rw [Nat.add_comm, Nat.add_mul_div_right _ _ hB, q2]; omega
        rw [e1, e2]
        have e3 : B + (kept - B) = kept := by omega
        have e4 : (-(LP K : Int) + ((T + 1 - 1 : Nat) : Int) + LP K).toNat = T := by omega
        rw [e3, e4]
        exact hkv2
    obtain ⟨m', e', h1, h2⟩ := hval
    unfold isN V
    rw [h1]
    refine ⟨rfl, ?_⟩
    show signed s m' (e' + LP K).toNat = _
    rw [signed_mul, signed_mul, h2]
/-- x is the number k / 2 ^ e -/
structure Q (K : FloatKind) (x : Nat) (k : Int) (e : Nat) : Prop where
  num : isN K x = true
  val : V K x = k * 2 ^ (LP K - e)
  le : e ≤ LP K
theorem isN_read {K : FloatKind} {x : Nat} (h : isN K x = true) : ∃ s m i, K.format.read x = .number s m i ∧ -(LP K : Int) ≤ i ∧ V K x = signed s m (i + LP K).toNat := by
  have lp : K.format.leastPlace = -(LP K : Int) := by cases K <;> decide
  unfold isN at h
  unfold V
  split at h
  · rename_i s m i e
    have := (read_number K x e).2.1
    exact ⟨s, m, i, e, by rw [← lp]; exact this, rfl⟩
  · cases h
theorem pow_i (n : Nat) : ((2 ^ n : Nat) : Int) = 2 ^ n := by simp
theorem natAbs_pow (k : Int) (n : Nat) : (k * 2 ^ n).natAbs = k.natAbs * 2 ^ n := by rw [Int.natAbs_mul, ← pow_i, Int.natAbs_natCast]
theorem signed_abs {s : Bool} {k : Int} (n : Nat) (h : k ≠ 0 → s = decide (k < 0)) : signed s k.natAbs n = k * 2 ^ n := by
  rw [signed_mul, Int.natCast_mul, pow_i, ← Int.mul_assoc]
  congr 1
  by_cases hk : k = 0
  · subst hk; simp
  · rw [h hk]
    by_cases hn : k < 0
    · simp only [hn, decide_true, if_true]; omega
    · simp only [hn, decide_false]; simp; omega
theorem signed_up (s : Bool) (m a b : Nat) : signed s m (a + b) = signed s m a * 2 ^ b := by
  rw [signed_mul, signed_mul, Nat.pow_add, ← Nat.mul_assoc, Int.natCast_mul, pow_i, Int.mul_assoc]
theorem signed_natAbs (s : Bool) (m a : Nat) : (signed s m a).natAbs = m * 2 ^ a := by
  rw [signed_mul, Int.natAbs_mul, Int.natAbs_natCast]; cases s <;> simp
theorem pow_pos_i (n : Nat) : (0 : Int) < 2 ^ n := by rw [← pow_i]; exact Int.natCast_pos.2 (Nat.two_pow_pos n)
theorem neg_of_pow {c : Int} {n : Nat} (h : c * 2 ^ n < 0) : c < 0 := by
  rcases Int.lt_or_le c 0 with h1 | h1
  · exact h1
  · have := Int.mul_nonneg h1 (Int.le_of_lt (pow_pos_i n))
    omega
/-- what is written of a number that the format has is that number -/
theorem Q.of_near {K : FloatKind} {s : Bool} {m : Nat} {p k : Int} {e b : Nat} (hk : k.natAbs < 2 ^ (FB K + 1)) (he : e ≤ LP K) (hb : LP K ≤ b) (hp : -(b : Int) ≤ p) (h : m * 2 ^ (p + b).toNat = k.natAbs * 2 ^ (b - e)) (hs : k ≠ 0 → s = decide (k < 0)) :
    Q K (K.format.nearest s m p) k e := by
  obtain ⟨h1, h2⟩ := near_exact K s m p k.natAbs e b hk he hb hp h
  exact ⟨h1, h2.trans (signed_abs _ hs), he⟩
theorem Q.shift {K : FloatKind} {x : Nat} {k : Int} {e : Nat} (h : Q K x k e) (d : Nat) (hd : e + d ≤ LP K) : Q K x (k * 2 ^ d) (e + d) := by
  refine ⟨h.num, ?_, hd⟩
  rw [h.val, Int.mul_assoc, ← Int.pow_add]
  congr 2
  omega
theorem Q.sum {K : FloatKind} {x : Nat} {k l : Int} {e : Nat} {d : Datum} (hx : Q K x k e) (hd : ∃ t n j, d = .number t n j ∧ -(LP K : Int) ≤ j ∧ signed t n (j + LP K).toNat = l * 2 ^ (LP K - e)) (hk : (k + l).natAbs < 2 ^ (FB K + 1)) :
    ∃ r, ((K.format.read x).sum d).map K.format.write = some r ∧ Q K r (k + l) e := by
  obtain ⟨s, m, i, hr, hi, hv⟩ := isN_read hx.num
  obtain ⟨t, n, j, rfl, hj, hw⟩ := hd
  obtain ⟨base, hbase⟩ : ∃ c, c = min i j := ⟨_, rfl⟩
  obtain ⟨total, htot⟩ : ∃ c, c = signed s m (i - base).toNat + signed t n (j - base).toNat := ⟨_, rfl⟩
  have hT : total * 2 ^ (base + LP K).toNat = (k + l) * 2 ^ (LP K - e) := by
    rw [htot, Int.add_mul, Int.add_mul, ← hw, ← hx.val, hv, ← signed_up, ← signed_up]
    congr 2 <;> omega
  refine ⟨_, by rw [hr]; rfl, ?_⟩
  simp only [← hbase, ← htot]
  have habs : total.natAbs * 2 ^ (base + LP K).toNat = (k + l).natAbs * 2 ^ (LP K - e) := by rw [← natAbs_pow, ← natAbs_pow, hT]
  refine Q.of_near (b := LP K) hk hx.le (Nat.le_refl _) (by omega) habs (fun hne => ?_)
  have p1 := pow_pos_i (base + LP K).toNat
  have p2 := pow_pos_i (LP K - e)
  have h0 : total ≠ 0 := fun h0 => by
    rw [h0, Int.zero_mul] at hT
    rcases Int.mul_eq_zero.1 hT.symm with h | h
    · exact hne h
    · omega
  rw [if_neg h0]
  have : total < 0 ↔ k + l < 0 := by
    constructor
    · intro h
      have h1 : total * 2 ^ (base + LP K).toNat < 0 := Int.mul_neg_of_neg_of_pos h p1
      rw [hT] at h1
      exact neg_of_pow h1
    · intro h
      have h1 : (k + l) * 2 ^ (LP K - e) < 0 := Int.mul_neg_of_neg_of_pos h p2
      rw [← hT] at h1
      exact neg_of_pow h1
  simp [this]
theorem signed_not (t : Bool) (n a : Nat) : signed (!t) n a = -signed t n a := by unfold signed; cases t <;> simp
theorem Q.add {K : FloatKind} {x y : Nat} {k l : Int} {e : Nat} (hx : Q K x k e) (hy : Q K y l e) (hk : (k + l).natAbs < 2 ^ (FB K + 1)) : Q K (fop .add K x y) (k + l) e := by
  obtain ⟨t, n, j, hr, hj, hv⟩ := isN_read hy.num
  obtain ⟨r, h1, h2⟩ := Q.sum hx ⟨t, n, j, rfl, hj, by rw [← hv, hy.val]⟩ hk
  have : fop .add K x y = r := by
    show ((K.format.read x).sum (K.format.read y) |>.map K.format.write).getD _ = r
    rw [hr, h1]; rfl
  rw [this]; exact h2
theorem Q.sub {K : FloatKind} {x y : Nat} {k l : Int} {e : Nat} (hx : Q K x k e) (hy : Q K y l e) (hk : (k - l).natAbs < 2 ^ (FB K + 1)) : Q K (fop .sub K x y) (k - l) e := by
  obtain ⟨t, n, j, hr, hj, hv⟩ := isN_read hy.num
  obtain ⟨r, h1, h2⟩ := Q.sum (l := -l) hx ⟨!t, n, j, rfl, hj, by rw [signed_not, ← hv, hy.val, Int.neg_mul]⟩ (by rw [← Int.sub_eq_add_neg]; exact hk)
  have : fop .sub K x y = r := by
    show ((K.format.read x).sum (K.format.read y).opposite |>.map K.format.write).getD _ = r
    rw [hr]
    show Option.getD (((K.format.read x).sum (.number (!t) n j)).map K.format.write) _ = r
    rw [h1]; rfl
  rw [this, Int.sub_eq_add_neg]; exact h2
theorem signed_neg_iff {s : Bool} {m a : Nat} (h : m ≠ 0) : s = decide (signed s m a < 0) := by
  have hp : 0 < m <<< a := by rw [Nat.shiftLeft_eq]; exact Nat.mul_pos (by omega) (Nat.two_pow_pos _)
  cases s
  · show false = decide (((m <<< a : Nat) : Int) < 0)
    symm; exact decide_eq_false (by omega)
  · show true = decide (-((m <<< a : Nat) : Int) < 0)
    symm; exact decide_eq_true (by omega)
theorem sign_of {s : Bool} {m a n : Nat} {k : Int} (h : signed s m a = k * 2 ^ n) (hk : k ≠ 0) : s = decide (k < 0) := by
  have hm : m ≠ 0 := fun h0 => by
    subst h0
    rw [signed_mul, Nat.zero_mul, Int.natCast_zero, Int.mul_zero] at h
    rcases Int.mul_eq_zero.1 h.symm with h | h
    · exact hk h
    · have := pow_pos_i n; omega
  refine (signed_neg_iff hm (a := a)).trans ?_
  rw [h]
  have : k * 2 ^ n < 0 ↔ k < 0 := ⟨neg_of_pow, fun h => Int.mul_neg_of_neg_of_pos h (pow_pos_i n)⟩
  simp [this]
theorem Q.mul {K : FloatKind} {x y : Nat} {k l : Int} {e f : Nat} (hx : Q K x k e) (hy : Q K y l f) (hk : (k * l).natAbs < 2 ^ (FB K + 1)) (he : e + f ≤ LP K) : Q K (fop .mul K x y) (k * l) (e + f) := by
  obtain ⟨s, m, i, hr, hi, hv⟩ := isN_read hx.num
  obtain ⟨t, n, j, hq, hj, hw⟩ := isN_read hy.num
  have hop : fop .mul K x y = K.format.nearest (s ^^ t) (m * n) (i + j) := by
    show ((K.format.read x).product (K.format.read y) |>.map K.format.write).getD _ = _
    rw [hr, hq]; rfl
  rw [hop]
  have a1 : m * 2 ^ (i + LP K).toNat = k.natAbs * 2 ^ (LP K - e) := by rw [← signed_natAbs s, ← hv, hx.val, natAbs_pow]
  have a2 : n * 2 ^ (j + LP K).toNat = l.natAbs * 2 ^ (LP K - f) := by rw [← signed_natAbs t, ← hw, hy.val, natAbs_pow]
  refine Q.of_near (b := LP K + LP K) hk he (by omega) (by omega) ?_ (fun hne => ?_)
  · have e1 : (i + j + ((LP K + LP K : Nat) : Int)).toNat = (i + LP K).toNat + (j + LP K).toNat := by omega
    have e2 : LP K + LP K - (e + f) = (LP K - e) + (LP K - f) := by have := hx.le; have := hy.le; omega
    rw [e1, e2, Nat.pow_add, Nat.pow_add, Int.natAbs_mul]
    calc m * n * (2 ^ (i + LP K).toNat * 2 ^ (j + LP K).toNat) = (m * 2 ^ (i + LP K).toNat) * (n * 2 ^ (j + LP K).toNat) := by ac_rfl
      _ = (k.natAbs * 2 ^ (LP K - e)) * (l.natAbs * 2 ^ (LP K - f)) := by rw [a1, a2]
      _ = _ := by ac_rfl
  · have hk0 : k ≠ 0 := fun h => hne (by rw [h, Int.zero_mul])
    have hl0 : l ≠ 0 := fun h => hne (by rw [h, Int.mul_zero])
    rw [sign_of (hv.symm.trans hx.val) hk0, sign_of (hw.symm.trans hy.val) hl0]
    by_cases h1 : k < 0 <;> by_cases h2 : l < 0
    · have := Int.mul_pos_of_neg_of_neg h1 h2
      have : ¬ k * l < 0 := by omega
      simp [h1, h2, this]
    · have := Int.mul_neg_of_neg_of_pos h1 (show 0 < l by omega)
      simp [h1, h2, this]
    · have := Int.mul_neg_of_pos_of_neg (show 0 < k by omega) h2
      simp [h1, h2, this]
    · have := Int.mul_pos (show 0 < k by omega) (show 0 < l by omega)
      have : ¬ k * l < 0 := by omega
      simp [h1, h2, this]
theorem compare_scale (a b : Int) (n : Nat) : compare (a * 2 ^ n) (b * 2 ^ n) = compare a b := by
  have hp := pow_pos_i n
  have h1 : a * 2 ^ n < b * 2 ^ n ↔ a < b := by
    constructor
    · intro h; exact Int.lt_of_mul_lt_mul_right h (Int.le_of_lt hp)
    · intro h; exact Int.mul_lt_mul_of_pos_right h hp
  have h2 : a * 2 ^ n = b * 2 ^ n ↔ a = b := ⟨fun h => Int.eq_of_mul_eq_mul_right (by omega) h, fun h => by rw [h]⟩
  show compareOfLessAndEq _ _ = compareOfLessAndEq _ _
  unfold compareOfLessAndEq
  simp only [h1, h2]
theorem Q.order {K : FloatKind} {x y : Nat} {k l : Int} {e : Nat} (hx : Q K x k e) (hy : Q K y l e) : K.format.order x y = some (compare k l) := by
  obtain ⟨s, m, i, hr, hi, hv⟩ := isN_read hx.num
  obtain ⟨t, n, j, hq, hj, hw⟩ := isN_read hy.num
  unfold Format.order
  rw [hr, hq]
  show some (compare (signed s m (i - min i j).toNat) (signed t n (j - min i j).toNat)) = _
  congr 1
  rw [← compare_scale _ _ (min i j + LP K).toNat, ← signed_up, ← signed_up]
  have e1 : (i - min i j).toNat + (min i j + LP K).toNat = (i + LP K).toNat := by omega
  have e2 : (j - min i j).toNat + (min i j + LP K).toNat = (j + LP K).toNat := by omega
  rw [e1, e2, ← hv, ← hw, hx.val, hy.val, compare_scale]
theorem Q.ofInt (K : FloatKind) (n : Int) (h : n.natAbs < 2 ^ (FB K + 1)) : Q K (floatOfInt K n) n 0 := by
  refine Q.of_near (b := LP K) (p := 0) h (Nat.zero_le _) (Nat.le_refl _) (by omega) ?_ (fun _ => rfl)
  simp
theorem Q.widen {x : Nat} {k : Int} {e : Nat} (h : Q .f32 x k e) (hk : k.natAbs < 2 ^ 53) : Q .f64 (fcv .f32 .f64 x) k e := by
  obtain ⟨s, m, i, hr, hi, hv⟩ := isN_read h.num
  have hn : nanB .f32 x = false := by unfold nanB; rw [hr]; rfl
  have hop : fcv .f32 .f64 x = FloatKind.f64.format.nearest s m i := by
    unfold fcv
    rw [hn]
    show FloatKind.f64.encode (FloatKind.f32.format.read x) = _
    rw [hr]; rfl
  rw [hop]
  have a1 : m * 2 ^ (i + LP .f32).toNat = k.natAbs * 2 ^ (LP .f32 - e) := by rw [← signed_natAbs s, ← hv, h.val, natAbs_pow]
  have he := h.le
  have h1 : LP .f32 = 149 := rfl
  have h2 : LP .f64 = 1074 := rfl
  refine Q.of_near (b := 1074) hk (by omega) (Nat.le_refl _) (by omega) ?_ (fun hne => sign_of (hv.symm.trans h.val) hne)
  have e1 : (i + ((1074 : Nat) : Int)).toNat = (i + LP .f32).toNat + 925 := by omega
  have e2 : 1074 - e = (LP .f32 - e) + 925 := by omega
  rw [e1, e2, Nat.pow_add, Nat.pow_add, ← Nat.mul_assoc, ← Nat.mul_assoc, a1]
theorem lt24 {k : Int} (h : k.natAbs < 16777216) : k.natAbs < 2 ^ (FB .f32 + 1) := h
/-- a quotient by a power of two -/
theorem Q.half {K : FloatKind} {x y : Nat} {k : Int} {e d : Nat} (hx : Q K x k e) (hy : K.format.read y = .number false (2 ^ FB K) ((d : Int) - FB K)) (hk : k.natAbs < 2 ^ (FB K + 1)) (hd : e + d ≤ LP K) : Q K (fop .quo K x y) k (e + d) := by
  obtain ⟨s, m, i, hr, hi, hv⟩ := isN_read hx.num
  have a1 : m * 2 ^ (i + LP K).toNat = k.natAbs * 2 ^ (LP K - e) := by rw [← signed_natAbs s, ← hv, hx.val, natAbs_pow]
  have hn0 : (2 : Nat) ^ FB K ≠ 0 := Nat.ne_of_gt (Nat.two_pow_pos _)
  have hlog : (2 ^ FB K).log2 = FB K := Nat.log2_two_pow
  have fb : K.format.fractionBits = FB K := by cases K <;> rfl
  have hmL : m.log2 ≤ FB K := log2_lt (by have := (read_number K x hr).1; rw [fb] at this; exact this)
  obtain ⟨more, hmore⟩ : ∃ c, c = FB K + 2 + FB K - m.log2 := ⟨_, rfl⟩
  have hmo : FB K + 2 ≤ more := by omega
  have hop : fop .quo K x y = K.format.nearest (s ^^ false) (2 * (m * 2 ^ (more - FB K))) (i - ((d : Int) - FB K) - more - 1) := by
    show ((K.format.read x).quotient (K.format.fractionBits + 2) (K.format.read y) |>.map K.format.write).getD _ = _
    rw [hr, hy]
    show Option.getD (Option.map K.format.write (if 2 ^ FB K = 0 then _ else _)) _ = _
    rw [if_neg hn0]
    simp only [fb, hlog, ← hmore, Nat.shiftLeft_eq]
    have hx2 : m * 2 ^ more = (m * 2 ^ (more - FB K)) * 2 ^ FB K := by rw [Nat.mul_assoc, ← Nat.pow_add]; congr 2; omega
    rw [hx2, Nat.mul_div_cancel _ (Nat.two_pow_pos _), Nat.mul_mod_left]
    rfl
  rw [hop]
  have hFB : FB K ≤ 52 := by cases K <;> decide
  have hd2 := hx.le
  refine Q.of_near (b := LP K + 200 + LP K) hk hd (by omega) (by omega) ?_ (fun hne => ?_)
  · have e1 : (i - ((d : Int) - FB K) - more - 1 + ((LP K + 200 + LP K : Nat) : Int)).toNat = (i + LP K).toNat + (200 + LP K + FB K - d - more - 1) := by omega
    have e2 : LP K + 200 + LP K - (e + d) = (LP K - e) + (200 + LP K - d) := by omega
    have e3 : 200 + LP K - d = (200 + LP K + FB K - d - more - 1) + 1 + (more - FB K) := by omega
    rw [e1, e2, e3]
    rw [Nat.pow_add 2 (i + LP K).toNat, Nat.pow_add 2 (LP K - e), Nat.pow_add 2 (_ + 1), Nat.pow_add 2 _ 1]
    calc 2 * (m * 2 ^ (more - FB K)) * (2 ^ (i + LP K).toNat * 2 ^ (200 + LP K + FB K - d - more - 1)) = (m * 2 ^ (i + LP K).toNat) * (2 ^ (200 + LP K + FB K - d - more - 1) * 2 ^ 1 * 2 ^ (more - FB K)) := by rw [Nat.pow_one]; ac_rfl
      _ = _ := by rw [a1]; ac_rfl
  · rw [Bool.xor_false]
    exact sign_of (hv.symm.trans hx.val) hne
end Go.Fl

namespace Go.Fl
open Ieee
theorem rn_le {s : Bool} {N d c : Nat} (_hN : N ≠ 0) (h : N ≤ c * 2 ^ d) : Toward.even.cut s N d ≤ c := by
  unfold Toward.cut
  simp only [Nat.one_shiftLeft]
  by_cases hd : d ≤ N.log2 + 2
  · rw [Nat.min_eq_left hd]
    have hg := Nat.two_pow_pos d
    obtain ⟨g, hgg⟩ : ∃ g, g = 2 ^ d := ⟨_, rfl⟩
    rw [← hgg] at h hg ⊢
    have h1 := Nat.div_add_mod N g
    have h2 : N / g ≤ c := Nat.div_le_of_le_mul (by rw [Nat.mul_comm]; exact h)
    by_cases hr : N % g = 0
    · rw [hr]
      have : (decide (g < 2 * 0) || (g == 2 * 0 && N / g % 2 == 1)) = false := by
        have : ¬ g = 0 := by omega
        simp [this]
      rw [this]
      exact h2
    · have h3 : N / g < c := by
        rcases Nat.lt_or_eq_of_le h2 with h | h3
        · exact h
        · rw [h3, Nat.mul_comm] at h1
          omega
      have := Bool.toNat_le (decide (g < 2 * (N % g)) || (g == 2 * (N % g) && N / g % 2 == 1))
      omega
  · rw [Nat.min_eq_right (by omega)]
    have h1 : N < 2 ^ (N.log2 + 1) := Nat.lt_log2_self
    have h2 : 2 ^ (N.log2 + 2) = 2 * 2 ^ (N.log2 + 1) := by rw [Nat.pow_succ _ (N.log2 + 1)]; omega
    obtain ⟨g, hgg⟩ : ∃ g, g = 2 ^ (N.log2 + 2) := ⟨_, rfl⟩
    rw [← hgg] at h2 ⊢
    have h3 : N / g = 0 := Nat.div_eq_of_lt (by omega)
    have h4 : N % g = N := Nat.mod_eq_of_lt (by omega)
    rw [h3, h4]
    have h5 : (decide (g < 2 * N) || (g == 2 * N && 0 % 2 == 1)) = false := by
      have : ¬ g < 2 * N := by omega
      simp [this]
    rw [h5]
    exact Nat.zero_le _
theorem rn_ge {s : Bool} {N d c : Nat} (h : c * 2 ^ d ≤ N) : c ≤ Toward.even.cut s N d := by
  rcases Nat.eq_zero_or_pos c with rfl | hc
  · exact Nat.zero_le _
  · have hN : N ≠ 0 := by
      have := Nat.mul_pos hc (Nat.two_pow_pos d)
      omega
    have hd : d ≤ N.log2 + 2 := by
      have h1 : 2 ^ d ≤ N := Nat.le_trans (Nat.le_mul_of_pos_left _ hc) h
      have h2 := (Nat.pow_lt_pow_iff_right (by decide)).1 (Nat.lt_of_le_of_lt h1 (Nat.lt_log2_self (n := N)))
      omega
    unfold Toward.cut
    simp only [Nat.one_shiftLeft]
    rw [Nat.min_eq_left hd]
    exact Nat.le_trans ((Nat.le_div_iff_mul_le (Nat.two_pow_pos d)).2 h) (Nat.le_add_right _ _)
/-- what the nearest word of a number stands for, and that it keeps order against every number of the format -/
theorem near_mono (K : FloatKind) (s : Bool) (m : Nat) (p : Int) (b : Nat) (hb : LP K ≤ b) (hp : -(b : Int) ≤ p) (hbig : m * 2 ^ (p + b).toNat ≤ 2 ^ (100 + b)) :
    isN K (K.format.nearest s m p) = true ∧ ∃ v : Nat, V K (K.format.nearest s m p) = (if s then -(v : Int) else v) ∧
      ∀ k a : Nat, k < 2 ^ (FB K + 1) → (m * 2 ^ (p + b).toNat ≤ k * 2 ^ (a + (b - LP K)) → v ≤ k * 2 ^ a) ∧ (k * 2 ^ (a + (b - LP K)) ≤ m * 2 ^ (p + b).toNat → k * 2 ^ a ≤ v) := by
  have lp : K.format.leastPlace = -(LP K : Int) := by cases K <;> decide
  have fb : K.format.fractionBits = FB K := by cases K <;> rfl
  have bn : K.format.binade = 2 ^ FB K := by cases K <;> rfl
  have ir : (LP K + 101) * 2 ^ FB K + 3 * 2 ^ FB K ≤ K.format.infRung := by cases K <;> decide
  have hB := Nat.two_pow_pos (FB K)
  have hB2 : 2 ^ (FB K + 1) = 2 * 2 ^ FB K := by rw [Nat.pow_succ]; omega
  obtain ⟨B, hBB⟩ : ∃ B, B = 2 ^ FB K := ⟨_, rfl⟩
  rw [← hBB] at bn ir hB hB2
  rcases Nat.eq_zero_or_pos m with rfl | hm
  · have hr : K.format.read (K.format.nearest s 0 p) = .number s 0 (-(LP K : Int)) := by
      have : K.format.nearest s 0 p = K.format.word s 0 := by unfold Format.nearest; rw [if_pos rfl]
      rw [this, read_word K s 0 (by omega), if_pos (by omega), lp]
    unfold isN V
    rw [hr]
    refine ⟨rfl, 0, by simp [signed], fun k a hk => ⟨fun _ => Nat.zero_le _, fun h => ?_⟩⟩
    rw [Nat.zero_mul] at h
    rcases Nat.mul_eq_zero.1 (Nat.le_zero.1 h) with h | h
    · rw [h, Nat.zero_mul]; exact Nat.le_refl _
    · exact absurd h (Nat.ne_of_gt (Nat.two_pow_pos _))
  · obtain ⟨L, hL⟩ : ∃ L, L = m.log2 := ⟨_, rfl⟩
    have hm1 : 2 ^ L ≤ m := by rw [hL]; exact Nat.log2_self_le (by omega)
    have hm2 : m < 2 ^ (L + 1) := by rw [hL]; exact Nat.lt_log2_self
    obtain ⟨q, hq⟩ : ∃ q, q = (p + b).toNat := ⟨_, rfl⟩
    rw [← hq] at hbig ⊢
    have hLq : L + q ≤ 100 + b := by
      have h1 : 2 ^ (L + q) ≤ m * 2 ^ q := by rw [Nat.pow_add]; exact Nat.mul_le_mul_right _ hm1
      exact (Nat.pow_le_pow_iff_right (by decide)).1 (Nat.le_trans h1 hbig)
    obtain ⟨last, hlast⟩ : ∃ t : Int, t = max (p + L - FB K) (-(LP K : Int)) := ⟨_, rfl⟩
    have hl2 : -(LP K : Int) ≤ last := by omega
    have hl3 : p + L - FB K ≤ last := by omega
    obtain ⟨N, hN⟩ : ∃ N, N = m <<< (p - last).toNat := ⟨_, rfl⟩
    obtain ⟨d, hd⟩ : ∃ d, d = (last - p).toNat := ⟨_, rfl⟩
    obtain ⟨kept, hkept⟩ : ∃ c, c = Toward.even.cut s N d := ⟨_, rfl⟩
    obtain ⟨T, hT⟩ : ∃ T, T = (last + LP K).toNat := ⟨_, rfl⟩
    have hN0 : N ≠ 0 := by
      rw [hN, Nat.shiftLeft_eq]
      exact Nat.ne_of_gt (Nat.mul_pos hm (Nat.two_pow_pos _))
    -- the exact number in units of 2 ^ -b: N * 2 ^ z, and 2 ^ d of N are one of the last place
    have hu : ∀ c : Nat, (N ≤ c * 2 ^ d ↔ m * 2 ^ q ≤ c * 2 ^ (T + (b - LP K))) ∧ (c * 2 ^ d ≤ N ↔ c * 2 ^ (T + (b - LP K)) ≤ m * 2 ^ q) := fun c => by
      by_cases hc : last ≤ p
      · have h0 : d = 0 := by omega
        have h1 : q = (p - last).toNat + (T + (b - LP K)) := by omega
        have h2 : N = m * 2 ^ (p - last).toNat := by rw [hN, Nat.shiftLeft_eq]
        rw [h0, Nat.pow_zero, Nat.mul_one, h1, Nat.pow_add, ← Nat.mul_assoc, ← h2]
        have := Nat.two_pow_pos (T + (b - LP K))
        exact ⟨(Nat.mul_le_mul_right_iff this).symm, (Nat.mul_le_mul_right_iff this).symm⟩
      · have h1 : T + (b - LP K) = d + q := by omega
        have h2 : N = m := by rw [hN]; have : (p - last).toNat = 0 := by omega
                              rw [this, Nat.shiftLeft_zero]
        rw [h1, Nat.pow_add, ← Nat.mul_assoc, h2]
        have := Nat.two_pow_pos q
        exact ⟨(Nat.mul_le_mul_right_iff this).symm, (Nat.mul_le_mul_right_iff this).symm⟩
    have hle : ∀ c, m * 2 ^ q ≤ c * 2 ^ (T + (b - LP K)) → kept ≤ c := fun c h => by rw [hkept]; exact rn_le hN0 ((hu c).1.2 h)
    have hge : ∀ c, c * 2 ^ (T + (b - LP K)) ≤ m * 2 ^ q → c ≤ kept := fun c h => by rw [hkept]; exact rn_ge ((hu c).2.2 h)
    -- kept has at most FB + 1 digits, or is the next power of two
    have hk2 : kept ≤ 2 * B := hle _ (by
      have h1 : m * 2 ^ q ≤ 2 ^ (L + 1 + q) := by rw [Nat.pow_add]; exact Nat.mul_le_mul_right _ (Nat.le_of_lt hm2)
      refine Nat.le_trans h1 ?_
      rw [← hB2, ← Nat.pow_add]
      exact Nat.pow_le_pow_right (by decide) (by omega))
    have h23 : T ≠ 0 → B ≤ kept := fun hT0 => hge _ (by
      have h1 : 2 ^ (L + q) ≤ m * 2 ^ q := by rw [Nat.pow_add]; exact Nat.mul_le_mul_right _ hm1
      refine Nat.le_trans ?_ h1
      rw [hBB, ← Nat.pow_add]
      exact Nat.pow_le_pow_right (by decide) (by omega))
    have hTB : T * B ≤ (LP K + 100) * B := Nat.mul_le_mul_right _ (by omega)
    have hTB2 : (LP K + 101) * B = (LP K + 100) * B + B := by rw [← Nat.succ_mul]
    have hr : T * B + kept < K.format.infRung := by omega
    have hnear : K.format.nearest s m p = K.format.word s (T * B + kept) := by
      unfold Format.nearest
      rw [if_neg (by omega)]
      simp only [lp, fb, bn, ← hL]
      have e1 : max (p + (L : Int) - (FB K : Nat)) (-(LP K : Int)) = last := hlast.symm
      rw [e1, ← hN, ← hd, ← hkept]
      have e2 : (last - -(LP K : Int)).toNat = T := by omega
      rw [e2, Nat.min_eq_left (Nat.le_of_lt hr)]
    have hread := read_word K s _ hr
    rw [bn, lp] at hread
    have hval : ∃ m' e', K.format.read (K.format.nearest s m p) = .number s m' e' ∧ m' * 2 ^ (e' + LP K).toNat = kept * 2 ^ T := by
      rw [hnear, hread]
      by_cases hlt : T * B + kept < B
      · have h0 : T = 0 := by
          rcases Nat.eq_zero_or_pos T with h | h
          · exact h
          · have := h23 (by omega); omega
        rw [h0] at hlt ⊢
        rw [Nat.zero_mul, Nat.zero_add] at hlt ⊢
        rw [if_pos hlt]
        refine ⟨_, _, rfl, ?_⟩
        have : (-(LP K : Int) + LP K).toNat = 0 := by omega
        rw [this]
      · rw [if_neg hlt]
        refine ⟨_, _, rfl, ?_⟩
        have hkB : B ≤ kept := by
          rcases Nat.eq_zero_or_pos T with h | h
          · rw [h, Nat.zero_mul] at hlt; omega
          · exact h23 (by omega)
        rcases Nat.lt_or_eq_of_le hk2 with h2 | h2
        · have e1 : (T * B + kept) % B = kept - B := by
            rw [Nat.add_comm, Nat.add_mul_mod_self_right, Nat.mod_eq_sub_mod (by omega), Nat.mod_eq_of_lt (by omega)]
          have e2 : (T * B + kept) / B = T + 1 := by
            rw [Nat.add_comm, Nat.add_mul_div_right _ _ hB, Nat.div_eq_sub_div hB (by omega), Nat.div_eq_of_lt (by omega)]; omega
          rw [e1, e2]
          have e3 : B + (kept - B) = kept := by omega
          have e4 : (-(LP K : Int) + ((T + 1 - 1 : Nat) : Int) + LP K).toNat = T := by omega
          rw [e3, e4]
        · have e0 : T * B + kept = (T + 2) * B := by rw [h2, Nat.add_mul]
          rw [e0, Nat.mul_mod_left, Nat.mul_div_cancel _ hB, Nat.add_zero, h2]
          have e4 : (-(LP K : Int) + ((T + 2 - 1 : Nat) : Int) + LP K).toNat = T + 1 := by omega
          rw [e4, Nat.pow_succ, ← Nat.mul_assoc, Nat.mul_right_comm, Nat.mul_comm B 2]
    obtain ⟨m', e', h1, h2⟩ := hval
    unfold isN V
    rw [h1]
    refine ⟨rfl, kept * 2 ^ T, ?_, fun k a hk => ⟨fun h => ?_, fun h => ?_⟩⟩
    · show signed s m' (e' + LP K).toNat = _
      rw [← h2]
      unfold signed
      rw [Nat.shiftLeft_eq]
    · by_cases ha : T ≤ a
      · have e1 : a = (a - T) + T := by omega
        rw [e1, Nat.pow_add, ← Nat.mul_assoc]
        refine Nat.mul_le_mul_right _ (hle _ ?_)
        rw [Nat.mul_assoc, ← Nat.pow_add]
        have e2 : a - T + (T + (b - LP K)) = a + (b - LP K) := by omega
        rw [e2]; exact h
      · exfalso
        have h3 : 2 ^ (L + q) ≤ m * 2 ^ q := by rw [Nat.pow_add]; exact Nat.mul_le_mul_right _ hm1
        have h4 : k * 2 ^ (a + (b - LP K)) < 2 ^ (FB K + 1 + (a + (b - LP K))) := by
          rw [Nat.pow_add (n := a + (b - LP K))]
          exact Nat.mul_lt_mul_of_pos_right hk (Nat.two_pow_pos _)
        have h5 := (Nat.pow_lt_pow_iff_right (by decide)).1 (Nat.lt_of_le_of_lt (Nat.le_trans h3 h) h4)
        omega
    · by_cases ha : T ≤ a
      · have e1 : a = (a - T) + T := by omega
        rw [e1, Nat.pow_add, ← Nat.mul_assoc]
        refine Nat.mul_le_mul_right _ (hge _ ?_)
        rw [Nat.mul_assoc, ← Nat.pow_add]
        have e2 : a - T + (T + (b - LP K)) = a + (b - LP K) := by omega
        rw [e2]; exact h
      · have hkB := h23 (by omega)
        have h4 : k * 2 ^ a ≤ 2 ^ (FB K + 1 + a) := by
          rw [Nat.pow_add]
          exact Nat.mul_le_mul_right _ (Nat.le_of_lt hk)
        refine Nat.le_trans h4 ?_
        have h5 : 2 ^ (FB K + T) ≤ kept * 2 ^ T := by rw [Nat.pow_add, ← hBB]; exact Nat.mul_le_mul_right _ hkB
        exact Nat.le_trans (Nat.pow_le_pow_right (by decide) (by omega)) h5
end Go.Fl
