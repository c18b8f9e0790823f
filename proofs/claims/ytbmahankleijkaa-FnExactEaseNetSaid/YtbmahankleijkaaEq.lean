/- Contracts: equal nets, by the law's own functions. -/
import Derived.Test.YtbmahankleijkaaNf
import Derived.Test.YtbmahankleijkaaTo
import Derived.Deep.QuietTactic
import Derived.BigQuiet
import Derived.Deep.RegionHeld3
namespace Go.Proofs.Ytbmahankleijkaa
open Go.RowKit Go.Fl

set_option maxHeartbeats 1000000 in
theorem eqInt64S (lo hi lo' hi' : Nat) (a b : Option Addr) (ca cb : Nat) (xs : List Int) (hn : xs.length ≤ 1048576) (w : World) (ha : SlI w lo hi a xs) (hb : SlI w lo' hi' b xs) :
    Calls Try.prog 16 #[.slice a xs.length ca, .slice b xs.length cb] w fun e w' => e = .returned (.bool true) ∧ ∃ n, w' = w.drewN n := by
  have HA := Lib.hid ha
  have HB := Lib.hid hb
  clear ha hb
  go_enter Try.func16, Try.ntmps16
  go_wp2_with fail
  go_loopw [5] (fun i wr => ∃ k q : Nat, k ≤ xs.length ∧ i = .int .i64 k ∧ wr = w.drewN q) (fun i _ => xs.length - (intOf i).toNat)
  case atStart => exact ⟨0, 0, by omega, rfl, rfl⟩
  case round =>
    obtain ⟨k, q, hk, rfl, rfl⟩ := hrel
    by_cases hlt : k < xs.length
    · obtain ⟨b1, o1, rfl, _, _, hc1⟩ := HA.out (by omega)
      obtain ⟨b2, o2, rfl, _, _, hc2⟩ := HB.out (by omega)
      have c1 := hc1 k hlt
      have c2 := hc2 k hlt
      clear hc1 hc2
      have k0 : (0 : Int) ≤ (k : Int) := by omega
      have k1 : (k : Int) < (xs.length : Int) := by omega
      go_wp2_with fail
      go_quiet (fail)
      go_wp2_with fail
      go_roundw
      case rel => exact ⟨k + 1, q + nq, by omega, by go_num, by simp only [World.drewN_drewN]⟩
      case measure => simp [intOf]; omega
    · go_wp2_with fail
      go_ret
      exact ⟨rfl, _, rfl⟩

set_option maxHeartbeats 1000000 in
theorem eqSpot (x y z x' y' z' : Nat) (hx : can .f32 x = can .f32 x') (hy : can .f32 y = can .f32 y') (hz : can .f32 z = can .f32 z') (w : World) :
    Calls Try.prog 61 #[spV x y z, spV x' y' z'] w fun e w' => e = .returned (.bool true) ∧ Below w.heap.size w w' := by
  have HX := Lib.hid hx
  have HY := Lib.hid hy
  have HZ := Lib.hid hz
  clear hx hy hz
  unfold spV
  go_enter Try.func61, Try.ntmps61
  go_wp2_with fail
  refine (sameFloat _ _ (can_widen HX.out) _).mono ?_
  rintro e w' ⟨rfl, n, rfl⟩
  go_wp2_with fail
  refine (sameFloat _ _ (can_widen HY.out) _).mono ?_
  rintro e w' ⟨rfl, n, rfl⟩
  go_wp2_with fail
  refine (sameFloat _ _ (can_widen HZ.out) _).mono ?_
  rintro e w' ⟨rfl, n, rfl⟩
  go_wp2_with fail
  go_ret
  exact ⟨rfl, by (repeat (first | exact Below.refl _ _ | assumption | refine below_dr ?_ _ | refine Below.alloc ?_ (by first | omega | (simp; done) | (simp; omega)) _ | refine Below.setCell ?_ (by first | omega | (simp; done) | (simp; omega)) _ | refine Below.trans ?_ (Below.mono (by assumption) (by first | omega | (simp; done) | (simp; omega)))))⟩

set_option maxHeartbeats 1000000 in
theorem eqSpotS (lo hi lo' hi' : Nat) (a b : Option Addr) (ca cb : Nat) (ps : List Sp) (hn : ps.length ≤ 1048576) (w : World) (ha : SlP w lo hi a ps) (hb : SlP w lo' hi' b ps) (h1 : hi ≤ w.heap.size) (h2 : hi' ≤ w.heap.size) :
    Calls Try.prog 27 #[.slice a ps.length ca, .slice b ps.length cb] w fun e w' => e = .returned (.bool true) ∧ Below w.heap.size w w' := by
  have HA := Lib.hid ha
  have HB := Lib.hid hb
  clear ha hb
  go_enter Try.func27, Try.ntmps27
  go_wp2_with fail
  go_loopw [5] (fun i wr => ∃ k : Nat, k ≤ ps.length ∧ i = .int .i64 k ∧ Hid (Below w.heap.size w wr)) (fun i _ => ps.length - (intOf i).toNat)
  case atStart => exact ⟨0, by omega, rfl, Below.refl _ _⟩
  case round =>
    obtain ⟨k, hk, rfl, HW⟩ := hrel
    by_cases hlt : k < ps.length
    · obtain ⟨b1, o1, rfl, _, q1, hc1⟩ := HA.out.far (Far.below HW.out h1) (by omega)
      obtain ⟨b2, o2, rfl, _, q2, hc2⟩ := HB.out.far (Far.below HW.out h2) (by omega)
      obtain ⟨x, y, z, c1, c2, c3, f1, f2, f3⟩ := hc1 k hlt
      obtain ⟨x', y', z', c1', c2', c3', f1', f2', f3'⟩ := hc2 k hlt
      have g1 := f1.trans f1'.symm
      have g2 := f2.trans f2'.symm
      have g3 := f3.trans f3'.symm
      have G1 := Lib.hid g1
      have G2 := Lib.hid g2
      have G3 := Lib.hid g3
      clear hc1 hc2 f1 f2 f3 f1' f2' f3' g1 g2 g3
      have k0 : (0 : Int) ≤ (k : Int) := by omega
      have k1 : (k : Int) < (ps.length : Int) := by omega
      go_wp2_with fail
      go_region_held3 (fun w' => w'.cell? ⟨b1, o1 + k * 3, none⟩ = some (.float .f32 x) ∧ w'.cell? ⟨b1, o1 + k * 3 + 1, none⟩ = some (.float .f32 y) ∧ w'.cell? ⟨b1, o1 + k * 3 + 2, none⟩ = some (.float .f32 z) ∧ w'.cell? ⟨b2, o2 + k * 3, none⟩ = some (.float .f32 x') ∧ w'.cell? ⟨b2, o2 + k * 3 + 1, none⟩ = some (.float .f32 y') ∧ w'.cell? ⟨b2, o2 + k * 3 + 2, none⟩ = some (.float .f32 z')) (first | go_keep | (refine ⟨?_, ?_, ?_, ?_, ?_, ?_⟩ <;> exact keep_cell (by assumption) (by assumption)))
        ((go_at_call 61; refine (eqSpot x y z x' y' z' G1.out G2.out G3.out _).mono ?_; rintro e w3 ⟨rfl, hb3⟩))
      have HW3 := HW.out.drew.trans (hb3.mono HW.out.size)
      clear hb3 HW
      go_wp2_with fail
      go_roundw
      case rel => exact ⟨k + 1, by omega, by go_num, HW3⟩
      case measure => simp [intOf]; omega
    · go_wp2_with fail
      go_ret
      exact ⟨rfl, HW.out⟩

theorem eqFacet (lo hi lo' hi' : Nat) (a b : Option Addr) (ca cb : Nat) (xs : List Int) (hn : xs.length ≤ 1048576) (w : World) (ha : SlI w lo hi a xs) (hb : SlI w lo' hi' b xs) (h1 : hi ≤ w.heap.size) (h2 : hi' ≤ w.heap.size) :
    Calls Try.prog 109 #[.agg #[.slice a xs.length ca], .agg #[.slice b xs.length cb]] w fun e w' => e = .returned (.bool true) ∧ Below w.heap.size w w' := by
  have HA := Lib.hid ha
  have HB := Lib.hid hb
  clear ha hb
  go_enter Try.func109, Try.ntmps109
  go_wp2_with fail
  refine (eqInt64S lo hi lo' hi' a b ca cb xs hn _ (HA.out.far (((Far.refl _ _ _).alloc _ h1).alloc _ (by first | omega | (simp; done) | (simp; omega)))) (HB.out.far (((Far.refl _ _ _).alloc _ h2).alloc _ (by first | omega | (simp; done) | (simp; omega))))).mono ?_
  rintro e w1 ⟨rfl, n, rfl⟩
  go_wp2_with fail
  go_ret
  exact ⟨rfl, by (repeat (first | exact Below.refl _ _ | assumption | refine below_dr ?_ _ | refine Below.alloc ?_ (by first | omega | (simp; done) | (simp; omega)) _ | refine Below.setCell ?_ (by first | omega | (simp; done) | (simp; omega)) _ | refine Below.trans ?_ (Below.mono (by assumption) (by first | omega | (simp; done) | (simp; omega)))))⟩

set_option maxHeartbeats 1000000 in
theorem eqFacetS (lo hi lo' hi' : Nat) (a b : Option Addr) (ca cb : Nat) (fs : List (List Int)) (hn : fs.length ≤ 1048576) (hsh : ∀ i, i < fs.length → (fAt fs i).length ≤ 1048576) (w : World) (ha : SlN w lo hi a fs) (hb : SlN w lo' hi' b fs) (h1 : hi ≤ w.heap.size) (h2 : hi' ≤ w.heap.size) :
    Calls Try.prog 52 #[.slice a fs.length ca, .slice b fs.length cb] w fun e w' => e = .returned (.bool true) ∧ Below w.heap.size w w' := by
  have HA := Lib.hid ha
  have HB := Lib.hid hb
  have HSH := Lib.hid hsh
  clear ha hb hsh
  go_enter Try.func52, Try.ntmps52
  go_wp2_with fail
  go_loopw [5] (fun i wr => ∃ k : Nat, k ≤ fs.length ∧ i = .int .i64 k ∧ Hid (Below w.heap.size w wr)) (fun i _ => fs.length - (intOf i).toNat)
  case atStart => exact ⟨0, by omega, rfl, Below.refl _ _⟩
  case round =>
    obtain ⟨k, hk, rfl, HW⟩ := hrel
    by_cases hlt : k < fs.length
    · obtain ⟨b1, o1, rfl, _, q1, hc1⟩ := HA.out.far (Far.below HW.out h1) (by omega)
      obtain ⟨b2, o2, rfl, _, q2, hc2⟩ := HB.out.far (Far.below HW.out h2) (by omega)
      obtain ⟨a1, d1, c1, s1⟩ := hc1 k hlt
      obtain ⟨a2, d2, c2, s2⟩ := hc2 k hlt
      have S1 := Lib.hid s1
      have S2 := Lib.hid s2
      have hlk := HSH.out k hlt
      have z1 := HW.out.size
      clear hc1 hc2 s1 s2
      have k0 : (0 : Int) ≤ (k : Int) := by omega
      have k1 : (k : Int) < (fs.length : Int) := by omega
      go_wp2_with fail
      go_region_held3 (fun w' => w'.cell? ⟨b1, o1 + k, none⟩ = some (.slice a1 (fAt fs k).length d1) ∧ w'.cell? ⟨b2, o2 + k, none⟩ = some (.slice a2 (fAt fs k).length d2)) (first | go_keep | (refine ⟨?_, ?_⟩ <;> exact keep_cell (by assumption) (by assumption)))
        ((go_at_call 109; refine (eqFacet lo hi lo' hi' a1 a2 d1 d2 (fAt fs k) hlk wr.drew S1.out S2.out (by simp; omega) (by simp; omega)).mono ?_; rintro e w3 ⟨rfl, hb3⟩))
      have HW3 := HW.out.drew.trans (hb3.mono HW.out.size)
      clear hb3 HW
      go_wp2_with fail
      go_roundw
      case rel => exact ⟨k + 1, by omega, by go_num, HW3⟩
      case measure => simp [intOf]; omega
    · go_wp2_with fail
      go_ret
      exact ⟨rfl, HW.out⟩

set_option maxHeartbeats 1000000 in
theorem eqNet (lo hi lo' hi' : Nat) (sa fa sb fb : Option Addr) (c1 c2 c3 c4 : Nat) (ps : List Sp) (fs : List (List Int)) (hp : ps.length ≤ 1048576) (hn : fs.length ≤ 1048576) (hsh : ∀ i, i < fs.length → (fAt fs i).length ≤ 1048576) (w : World)
    (ha : NetAt w lo hi sa fa ps fs) (hb : NetAt w lo' hi' sb fb ps fs) (h1 : hi ≤ w.heap.size) (h2 : hi' ≤ w.heap.size) :
    Calls Try.prog 17 #[netV sa fa ps.length c1 fs.length c2, netV sb fb ps.length c3 fs.length c4] w fun e w' => e = .returned (.bool true) ∧ Below w.heap.size w w' := by
  have HA := Lib.hid ha
  have HB := Lib.hid hb
  have HSH := Lib.hid hsh
  clear ha hb hsh
  unfold netV
  go_enter Try.func17, Try.ntmps17
  go_wp2_with fail
  refine (eqSpotS lo hi lo' hi' sa sb c1 c3 ps hp _ (HA.out.spots.far (((Far.refl _ _ _).alloc _ h1).alloc _ (by first | omega | (simp; done) | (simp; omega)))) (HB.out.spots.far (((Far.refl _ _ _).alloc _ h2).alloc _ (by first | omega | (simp; done) | (simp; omega)))) (by first | omega | (simp; done) | (simp; omega)) (by first | omega | (simp; done) | (simp; omega))).mono ?_
  rintro e w1 ⟨rfl, hb1⟩
  obtain ⟨hcA, hfA⟩ := bcell hb1
  have z1 := hb1.size
  simp only [World.size_alloc] at hcA hfA z1
  have HB1 := Lib.hid hb1
  clear hb1
  go_wp2_with fail
  have hfar : ∀ lo hi, hi ≤ w.heap.size → Far lo hi w w1 := fun lo hi h => (((Far.refl _ _ _).alloc _ h).alloc _ (by first | omega | (simp; done) | (simp; omega))).trans (Far.below HB1.out (by first | omega | (simp; done) | (simp; omega)))
  refine (eqFacetS lo hi lo' hi' fa fb c2 c4 fs hn HSH.out _ (HA.out.facets.far (hfar _ _ h1)) (HB.out.facets.far (hfar _ _ h2)) (by omega) (by omega)).mono ?_
  rintro e w2 ⟨rfl, hb2⟩
  have HB2 : Hid (Below w.heap.size w w2) := by
    have hb3 := HB1.out.mono (B' := w.heap.size) (by first | omega | (simp; done) | (simp; omega))
    have hb4 : Below w.heap.size w w1 := by (repeat (first | exact Below.refl _ _ | assumption | refine below_dr ?_ _ | refine Below.alloc ?_ (by first | omega | (simp; done) | (simp; omega)) _ | refine Below.setCell ?_ (by first | omega | (simp; done) | (simp; omega)) _ | refine Below.trans ?_ (Below.mono (by assumption) (by first | omega | (simp; done) | (simp; omega)))))
    exact hb4.trans (hb2.mono (by omega))
  clear hcA hfA
  go_wp2_with fail
  go_ret
  exact ⟨rfl, HB2.out⟩
end Go.Proofs.Ytbmahankleijkaa
