/- Contracts: sheets: spots copied and compared, whether spots are finite, both ways. -/
import Derived.Test.YtlpgaekkhlinhaaDoorChecked
import Derived.Test.YtlpgaekkhlinhaaDoorMem
import Derived.Test.YtlpgaekkhlinhaaDoorNf
import Derived.Deep.OwnRows
import Derived.Deep.QuietTactic
import Derived.BigQuiet
import Derived.Deep.RegionHeld3
import Derived.Deep.AppendLies
namespace Go.Fl
/-- all three parts are finite -/
def finSp (p : Sp) : Bool := fin p.1 && fin p.2.1 && fin p.2.2
/-- from lo to hi -/
def inB (x lo hi : Int) : Bool := decide (lo ≤ x) && decide (x ≤ hi)
/-- a proposition's answer -/
noncomputable def dec (p : Prop) : Bool := @decide p (Classical.propDecidable p)
theorem dec_yes {p : Prop} (h : p) : dec p = true := @decide_eq_true p (Classical.propDecidable p) h
theorem dec_no {p : Prop} (h : ¬ p) : dec p = false := @decide_eq_false p (Classical.propDecidable p) h
end Go.Fl
namespace Go.Proofs.YtlpgaekkhlinhaaDoor
open Go.RowKit Go.Fl

/-- the value of a spot -/
def spV (x y z : Nat) : Value := .agg #[.float .f32 x, .float .f32 y, .float .f32 z]
theorem toSpot (x y z : Nat) (w : World) :
    Calls Tryd.prog 22 #[spV x y z] w fun e w' => e = .returned (spV x y z) ∧ Below w.heap.size w w' := by
  unfold spV
  go_enter Tryd.func22, Tryd.ntmps22
  go_wp2_with fail
  refine bodyPost_ret (v := .agg #[.float .f32 x, .float .f32 y, .float .f32 z]) (by simp [results, Tryd.results22, go_sem]) rfl ⟨rfl, ?_⟩
  (repeat (first | exact Below.refl _ _ | assumption | refine below_dr ?_ _ | refine Below.alloc ?_ (by first | omega | (simp; done) | (simp; omega)) _ | refine Below.setCell ?_ (by first | omega | (simp; done) | (simp; omega)) _ | refine Below.trans ?_ (Below.mono (by assumption) (by first | omega | (simp; done) | (simp; omega)))))
theorem infoSpot : (Tryd.prog.info? 50).map (fun i => (i.zero, i.size, i.bytes)) = some (some (spV 0 0 0), 3, 12) := by kernel_rfl
theorem run_make_row3 (n : Nat) (h : n ≤ 1048576) (w : World) :
    (Instr.makeSlice 28 (.int .i64 (n : Int)) (.int .i64 (n : Int))).run Tryd.prog w = .ok (.slice (some ⟨w.heap.size, 0, none⟩) n n) (w.alloc (.cells (madeCells #[.float .f32 0, .float .f32 0, .float .f32 0] (n * 3)) 50)) := by
  obtain ⟨i, hi, hzz⟩ := Option.map_eq_some_iff.1 infoSpot
  simp only [Prod.mk.injEq] at hzz
  obtain ⟨hz, hs, hb⟩ := hzz
  have hr := Go.run_make (P := Tryd.prog) w 28 50 i (spV 0 0 0) Tryd.underlying28 hi hz .i64 .i64 n n (by omega) (Int.le_refl _) (by rw [hb]; omega) (by omega)
  simp only [Int.toNat_natCast, hs] at hr
  exact hr
/-- block b is a row of n spots, of which the first k read as ps -/
def SpRow (w : World) (b n k : Nat) (ps : List Sp) : Prop :=
  ∃ g : Nat → Nat, w.rowIs b 50 (n * 3) (fun j => .float .f32 (g j)) ∧ ∀ i, i < k → F32 (g (i * 3)) (pAt ps i).1 ∧ F32 (g (i * 3 + 1)) (pAt ps i).2.1 ∧ F32 (g (i * 3 + 2)) (pAt ps i).2.2
theorem SpRow.made (w : World) (n : Nat) (ps : List Sp) : SpRow (w.alloc (.cells (madeCells #[.float .f32 0, .float .f32 0, .float .f32 0] (n * 3)) 50)) w.heap.size n 0 ps := by
  refine ⟨fun _ => 0, ⟨_, heap_alloc_new _ _, size_madeCells _ _, fun i hi => ?_⟩, fun i hi => by omega⟩
  have hm : i % 3 = 0 ∨ i % 3 = 1 ∨ i % 3 = 2 := by omega
  rcases hm with hm | hm | hm <;> simp [madeCells, hi, hm]
theorem SpRow.put {w : World} {b n k : Nat} {ps : List Sp} (h : SpRow w b n k ps) (x y z : Nat) (hx : F32 x (pAt ps k).1) (hy : F32 y (pAt ps k).2.1) (hz : F32 z (pAt ps k).2.2) :
    SpRow (((w.setCell ⟨b, k * 3, none⟩ (.float .f32 x)).setCell ⟨b, k * 3 + 1, none⟩ (.float .f32 y)).setCell ⟨b, k * 3 + 2, none⟩ (.float .f32 z)) b n (k + 1) ps := by
  obtain ⟨g, hr, hg⟩ := h
  refine ⟨fun j => if j = k * 3 + 2 then z else if j = k * 3 + 1 then y else if j = k * 3 then x else g j, (((hr.set (k * 3) _).set (k * 3 + 1) _).set (k * 3 + 2) _).congr (fun i _ => ?_), fun i hi => ?_⟩
  · dsimp only
    by_cases h1 : i = k * 3 + 2
    · simp [h1]
    · by_cases h2 : i = k * 3 + 1
      · simp [h2]
      · by_cases h3 : i = k * 3
        · simp [h3]
        · simp [h1, h2, h3]
  · by_cases hk : i = k
    · subst hk
      exact ⟨by simp [hx], by simp [hy], by simp [hz]⟩
    · obtain ⟨g1, g2, g3⟩ := hg i (by omega)
      refine ⟨?_, ?_, ?_⟩
      · show F32 (if _ then _ else _) _
        rw [if_neg (by omega), if_neg (by omega), if_neg (by omega)]; exact g1
      · show F32 (if _ then _ else _) _
        rw [if_neg (by omega), if_neg (by omega), if_neg (by omega)]; exact g2
      · show F32 (if _ then _ else _) _
        rw [if_neg (by omega), if_neg (by omega), if_neg (by omega)]; exact g3
theorem SpRow.full {w : World} {b : Nat} {ps : List Sp} (h : SpRow w b ps.length ps.length ps) : SlP w b (b + 1) (some ⟨b, 0, none⟩) ps ∧ Room w b (ps.length * 3) := by
  obtain ⟨g, hr, hg⟩ := h
  refine ⟨fun _ => ⟨b, 0, rfl, Nat.le_refl _, Nat.lt_succ_self _, fun i hi => ?_⟩, ?_⟩
  · obtain ⟨g1, g2, g3⟩ := hg i hi
    refine ⟨_, _, _, ?_, ?_, ?_, g1, g2, g3⟩
    · rw [Nat.zero_add]; exact hr.cell (by omega)
    · rw [Nat.zero_add]; exact hr.cell (by omega)
    · rw [Nat.zero_add]; exact hr.cell (by omega)
  · obtain ⟨cs, h1, h2, h3⟩ := hr
    exact ⟨cs, _, h1, Nat.le_of_eq h2.symm⟩
theorem SpRow.cells {w : World} {b n k i : Nat} {ps : List Sp} (h : SpRow w b n k ps) (hi : i < n) :
    ∃ x y z, w.cell? ⟨b, i * 3, none⟩ = some (.float .f32 x) ∧ w.cell? ⟨b, i * 3 + 1, none⟩ = some (.float .f32 y) ∧ w.cell? ⟨b, i * 3 + 2, none⟩ = some (.float .f32 z) := by
  obtain ⟨g, hr, hg⟩ := h
  exact ⟨_, _, _, hr.cell (by omega), hr.cell (by omega), hr.cell (by omega)⟩
theorem SpRow.free {w : World} {b n k : Nat} {ps : List Sp} (h : SpRow w b n k ps) (i : Nat) : w.frozen? ⟨b, i, none⟩ = false := by
  obtain ⟨g, hr, hg⟩ := h
  exact hr.frozen i
theorem SpRow.below {w w' : World} {b n k B : Nat} {ps : List Sp} (h : SpRow w b n k ps) (hb : Below B w w') (hl : b < B) : SpRow w' b n k ps := by
  obtain ⟨g, hr, hg⟩ := h
  exact ⟨g, hr.of_block (hb.block b hl), hg⟩
set_option maxHeartbeats 1000000 in
theorem toSpotS (lo hi : Nat) (ao : Option Addr) (c : Nat) (ps : List Sp) (hn : ps.length ≤ 1048576) (w : World) (hs : SlP w lo hi ao ps) (hh : hi ≤ w.heap.size) :
    Calls Tryd.prog 12 #[.slice ao ps.length c] w fun e w' => e = .returned (.slice (some ⟨w.heap.size, 0, none⟩) ps.length ps.length) ∧
      SlP w' w.heap.size (w.heap.size + 1) (some ⟨w.heap.size, 0, none⟩) ps ∧ Room w' w.heap.size (ps.length * 3) ∧ w.heap.size < w'.heap.size ∧ Below w.heap.size w w' := by
  have HS := Lib.hid hs
  clear hs
  have hmk := run_make_row3 ps.length hn
  go_enter Tryd.func12, Tryd.ntmps12
  go_wp2_with fail
  go_loopw [4] (fun i wr => ∃ (k : Nat), k ≤ ps.length ∧ i = .int .i64 k ∧ SpRow wr w.heap.size ps.length k ps ∧ w.heap.size < wr.heap.size ∧ Below w.heap.size w wr) (fun i _ => ps.length - (intOf i).toNat)
  case atStart => exact ⟨0, by omega, rfl, SpRow.made _ _ _, by simp, by (repeat (first | exact Below.refl _ _ | assumption | refine below_dr ?_ _ | refine Below.alloc ?_ (by first | omega | (simp; done) | (simp; omega)) _ | refine Below.setCell ?_ (by first | omega | (simp; done) | (simp; omega)) _ | refine Below.trans ?_ (Below.mono (by assumption) (by first | omega | (simp; done) | (simp; omega)))))⟩
  case round =>
    obtain ⟨k, hk, rfl, hrow, hsz, hb⟩ := hrel
    clear hmk
    by_cases hlt : k < ps.length
    · obtain ⟨b, off, rfl, hb1, hb2, hc⟩ := (HS.out.far (Far.below hb hh)) (by omega)
      obtain ⟨x, y, z, c1, c2, c3, f1, f2, f3⟩ := hc k hlt
      have HROW := Lib.hid hrow
      clear hc hrow
      go_wp2_with (go_at_call 22; refine (toSpot x y z _).mono ?_; rintro e w1 ⟨rfl, hb3⟩; have hrow1 := HROW.out.below hb3 hsz; obtain ⟨x1, y1, z1, d1, d2, d3⟩ := hrow1.cells hlt; have e1 := hrow1.free (k * 3); have e2 := hrow1.free (k * 3 + 1); have e3 := hrow1.free (k * 3 + 2); have HR1 := Lib.hid hrow1; clear HROW hrow1; unfold spV)
      go_roundw
      case rel =>
        have hb4 := hb.trans (hb3.mono hb.size)
        have := hb3.size
        exact ⟨k + 1, by omega, by go_num, HR1.out.put x y z f1 f2 f3, by simp; omega, ((hb4.setCell (by simp) _).setCell (by simp) _).setCell (by simp) _⟩
      case measure => simp [intOf]; omega
    · go_wp2_with fail
      go_ret
      have hkk : k = ps.length := by omega
      subst hkk
      exact ⟨rfl, hrow.full.1, hrow.full.2, hsz, hb⟩
set_option maxHeartbeats 1000000 in
theorem eqSpot (x y z x' y' z' : Nat) (hx : can .f32 x = can .f32 x') (hy : can .f32 y = can .f32 y') (hz : can .f32 z = can .f32 z') (w : World) :
    Calls Tryd.prog 29 #[spV x y z, spV x' y' z'] w fun e w' => e = .returned (.bool true) ∧ Below w.heap.size w w' := by
  have HX := Lib.hid hx
  have HY := Lib.hid hy
  have HZ := Lib.hid hz
  clear hx hy hz
  unfold spV
  go_enter Tryd.func29, Tryd.ntmps29
  go_wp2_with fail
  refine (sameFloat _ _ (can_widen HX.out) _).mono ?_
  rintro e w' ⟨rfl, n, rfl⟩
  go_wp2_with fail
  refine (sameFloat _ _ (can_widen HY.out) _).mono ?_
  rintro e w' ⟨rfl, n, rfl⟩
  go_wp2_with fail
  refine (sameFloat _ _ (can_widen HZ.out) _).mono ?_
  rintro e w' ⟨rfl, n, rfl⟩
  go_wp2_with fail
  go_ret
  exact ⟨rfl, by (repeat (first | exact Below.refl _ _ | assumption | refine below_dr ?_ _ | refine Below.alloc ?_ (by first | omega | (simp; done) | (simp; omega)) _ | refine Below.setCell ?_ (by first | omega | (simp; done) | (simp; omega)) _ | refine Below.trans ?_ (Below.mono (by assumption) (by first | omega | (simp; done) | (simp; omega)))))⟩
set_option maxHeartbeats 1000000 in
theorem eqSpotS (lo hi lo' hi' : Nat) (a b : Option Addr) (ca cb : Nat) (ps : List Sp) (hn : ps.length ≤ 1048576) (w : World) (ha : SlP w lo hi a ps) (hb : SlP w lo' hi' b ps) (h1 : hi ≤ w.heap.size) (h2 : hi' ≤ w.heap.size) :
    Calls Tryd.prog 17 #[.slice a ps.length ca, .slice b ps.length cb] w fun e w' => e = .returned (.bool true) ∧ Below w.heap.size w w' := by
  have HA := Lib.hid ha
  have HB := Lib.hid hb
  clear ha hb
  go_enter Tryd.func17, Tryd.ntmps17
  go_wp2_with fail
  go_loopw [5] (fun i wr => ∃ k : Nat, k ≤ ps.length ∧ i = .int .i64 k ∧ Hid (Below w.heap.size w wr)) (fun i _ => ps.length - (intOf i).toNat)
  case atStart => exact ⟨0, by omega, rfl, Below.refl _ _⟩
  case round =>
    obtain ⟨k, hk, rfl, HW⟩ := hrel
    by_cases hlt : k < ps.length
    · obtain ⟨b1, o1, rfl, _, q1, hc1⟩ := HA.out.far (Far.below HW.out h1) (by omega)
      obtain ⟨b2, o2, rfl, _, q2, hc2⟩ := HB.out.far (Far.below HW.out h2) (by omega)
      obtain ⟨x, y, z, c1, c2, c3, f1, f2, f3⟩ := hc1 k hlt
      obtain ⟨x', y', z', c1', c2', c3', f1', f2', f3'⟩ := hc2 k hlt
      have g1 := f1.trans f1'.symm
      have g2 := f2.trans f2'.symm
      have g3 := f3.trans f3'.symm
      have G1 := Lib.hid g1
      have G2 := Lib.hid g2
      have G3 := Lib.hid g3
      clear hc1 hc2 f1 f2 f3 f1' f2' f3' g1 g2 g3
      have k0 : (0 : Int) ≤ (k : Int) := by omega
      have k1 : (k : Int) < (ps.length : Int) := by omega
      go_wp2_with fail
      go_region_held3 (fun w' => w'.cell? ⟨b1, o1 + k * 3, none⟩ = some (.float .f32 x) ∧ w'.cell? ⟨b1, o1 + k * 3 + 1, none⟩ = some (.float .f32 y) ∧ w'.cell? ⟨b1, o1 + k * 3 + 2, none⟩ = some (.float .f32 z) ∧ w'.cell? ⟨b2, o2 + k * 3, none⟩ = some (.float .f32 x') ∧ w'.cell? ⟨b2, o2 + k * 3 + 1, none⟩ = some (.float .f32 y') ∧ w'.cell? ⟨b2, o2 + k * 3 + 2, none⟩ = some (.float .f32 z')) (first | go_keep | (refine ⟨?_, ?_, ?_, ?_, ?_, ?_⟩ <;> exact keep_cell (by assumption) (by assumption)))
        ((go_at_call 29; refine (eqSpot x y z x' y' z' G1.out G2.out G3.out _).mono ?_; rintro e w3 ⟨rfl, hb3⟩))
      have HW3 := HW.out.drew.trans (hb3.mono HW.out.size)
      clear hb3 HW
      go_wp2_with fail
      go_roundw
      case rel => exact ⟨k + 1, by omega, by go_num, HW3⟩
      case measure => simp [intOf]; omega
    · go_wp2_with fail
      go_ret
      exact ⟨rfl, HW.out⟩
theorem l00In (x lo hi : Int) (w : World) : Calls Tryd.prog 30 #[.int .i64 x, .int .i64 lo, .int .i64 hi] w fun e w' => e = .returned (.bool (inB x lo hi)) ∧ w' = w := by
  by_cases h1 : lo ≤ x
  all_goals by_cases h2 : x ≤ hi
  all_goals
    go_enter Tryd.func30, Tryd.ntmps30
    go_wp2_with fail
    go_ret
    exact ⟨ret_bool (by simp [inB, h1, h2]), rfl⟩
set_option maxHeartbeats 1000000 in
theorem l04Spot (x y z : Nat) (w : World) : Calls Tryd.prog 31 #[spV x y z] w fun e w' => e = .returned (.bool (finSp (can .f32 x, can .f32 y, can .f32 z))) ∧ Below w.heap.size w w' := by
  unfold spV
  cases h1 : fin (can .f32 x)
  all_goals cases h2 : fin (can .f32 y)
  all_goals
    go_enter Tryd.func31, Tryd.ntmps31
    go_wp2_with (go_at_call 45; refine (l01Finite _ _).mono ?_; rintro e w' ⟨rfl, n, rfl⟩)
    all_goals
      go_ret
      exact ⟨ret_bool (by simp [finSp, *]), by (repeat (first | exact Below.refl _ _ | assumption | refine below_dr ?_ _ | refine Below.alloc ?_ (by first | omega | (simp; done) | (simp; omega)) _ | refine Below.setCell ?_ (by first | omega | (simp; done) | (simp; omega)) _ | refine Below.trans ?_ (Below.mono (by assumption) (by first | omega | (simp; done) | (simp; omega)))))⟩
set_option maxHeartbeats 1000000 in
theorem l04Spots (lo hi : Nat) (ao : Option Addr) (c : Nat) (ps : List Sp) (hn : ps.length ≤ 1048576) (w : World) (hs : SlP w lo hi ao ps) (hh : hi ≤ w.heap.size) :
    Calls Tryd.prog 19 #[.slice ao ps.length c] w fun e w' => e = .returned (.bool (ps.all finSp)) ∧ Below w.heap.size w w' := by
  have HS := Lib.hid hs
  clear hs
  go_enter Tryd.func19, Tryd.ntmps19
  go_wp2_with fail
  go_loopw [3] (fun i wr => ∃ k : Nat, k ≤ ps.length ∧ i = .int .i64 k ∧ Hid (Below w.heap.size w wr) ∧ Hid ((ps.take k).all finSp = true)) (fun i _ => ps.length - (intOf i).toNat)
  case atStart => exact ⟨0, by omega, rfl, Below.refl _ _, rfl⟩
  case round =>
    obtain ⟨k, hk, rfl, HW, HA⟩ := hrel
    by_cases hlt : k < ps.length
    · obtain ⟨b1, o1, rfl, _, q1, hc1⟩ := HS.out.far (Far.below HW.out hh) (by omega)
      obtain ⟨x, y, z, c1, c2, c3, f1, f2, f3⟩ := hc1 k hlt
      have hp : (can .f32 x, can .f32 y, can .f32 z) = pAt ps k := by
        rw [show can .f32 x = _ from f1, show can .f32 y = _ from f2, show can .f32 z = _ from f3]
      have HP := Lib.hid hp
      clear hc1 f1 f2 f3 hp
      have k0 : (0 : Int) ≤ (k : Int) := by omega
      have k1 : (k : Int) < (ps.length : Int) := by omega
      cases hfin : finSp (pAt ps k)
      all_goals
        go_wp2_with (go_at_call 31; refine (l04Spot x y z _).mono ?_; rintro e w3 ⟨rfl, hb3⟩; rw [HP.out, hfin])
      · go_ret
        refine ⟨ret_bool (Eq.symm ?_), HW.out.trans (hb3.mono HW.out.size)⟩
        rw [List.all_eq_false]
        exact ⟨pAt ps k, by simp [pAt, hlt], by rw [hfin]; decide⟩
      · go_roundw
        case rel => 
          refine ⟨k + 1, by omega, by go_num, HW.out.trans (hb3.mono HW.out.size), ?_⟩
          show _ = true
          rw [List.take_succ_eq_append_getElem hlt, List.all_append, HA.out]
          have : ps[k] = pAt ps k := by simp [pAt, hlt]
          simp [this, hfin]
        case measure => simp [intOf]; omega
    · go_wp2_with fail
      go_ret
      refine ⟨ret_bool ?_, HW.out⟩
      have := HA.out
      rw [List.take_of_length_le (by omega)] at this
      exact this.symm
theorem within (x lo hi : Int) (w : World) : Calls Tryd.prog 34 #[.int .i64 x, .int .i64 lo, .int .i64 hi] w fun e w' => e = .returned (.bool (inB x lo hi)) ∧ w' = w := by
  by_cases h1 : lo ≤ x
  all_goals by_cases h2 : x ≤ hi
  all_goals
    go_enter Tryd.func34, Tryd.ntmps34
    go_wp2_with fail
    go_ret
    exact ⟨ret_bool (by simp [inB, h1, h2]), rfl⟩
set_option maxHeartbeats 1000000 in
theorem isSpot (x y z : Nat) (w : World) : Calls Tryd.prog 37 #[spV x y z] w fun e w' => e = .returned (.bool (finSp (can .f32 x, can .f32 y, can .f32 z))) ∧ Below w.heap.size w w' := by
  unfold spV
  go_enter Tryd.func37, Tryd.ntmps37
  go_wp2_with (go_at_call 48; refine (areFinite [x, y, z] _ _ (slF_new _ [x, y, z] _ _ _ (by simp) (by simp) _ rfl rfl)).mono ?_; rintro e w' ⟨rfl, n, rfl⟩)
  go_ret
  refine ⟨ret_bool (by simp [finSp, List.all_cons, Bool.and_assoc]), by (repeat (first | exact Below.refl _ _ | assumption | refine below_dr ?_ _ | refine Below.alloc ?_ (by first | omega | (simp; done) | (simp; omega)) _ | refine Below.setCell ?_ (by first | omega | (simp; done) | (simp; omega)) _ | refine Below.trans ?_ (Below.mono (by assumption) (by first | omega | (simp; done) | (simp; omega)))))⟩
theorem areSpots1 (x y z : Nat) (w : World) : Calls Tryd.prog 36 #[spV x y z] w fun e w' => e = .returned (.bool (!finSp (can .f32 x, can .f32 y, can .f32 z))) ∧ Below w.heap.size w w' := by
  have hs : ∀ w, Calls Tryd.prog 37 #[.agg #[.float .f32 x, .float .f32 y, .float .f32 z]] w fun e w' => e = .returned (.bool (finSp (can .f32 x, can .f32 y, can .f32 z))) ∧ Below w.heap.size w w' := isSpot x y z
  have HS := Lib.hid hs
  clear hs
  unfold spV
  go_enter Tryd.func36, Tryd.ntmps36
  go_wp2_with (go_at_call 37; refine (HS.out _).mono ?_; rintro e w' ⟨rfl, hb⟩)
  go_ret
  exact ⟨rfl, Below.trans (by (repeat (first | exact Below.refl _ _ | assumption | refine below_dr ?_ _ | refine Below.alloc ?_ (by first | omega | (simp; done) | (simp; omega)) _ | refine Below.setCell ?_ (by first | omega | (simp; done) | (simp; omega)) _ | refine Below.trans ?_ (Below.mono (by assumption) (by first | omega | (simp; done) | (simp; omega)))))) (hb.mono (by simp))⟩
set_option maxHeartbeats 1000000 in
theorem indexSpots (lo hi : Nat) (ao : Option Addr) (c : Nat) (ps : List Sp) (hn : ps.length ≤ 1048576) (w : World) (hs : SlP w lo hi ao ps) (hh : hi ≤ w.heap.size) :
    Calls Tryd.prog 47 #[.slice ao ps.length c, .func (.func 36) #[] #[]] w fun e w' => e = .returned (.int .i64 (idx (fun p => !finSp p) ps)) ∧ Below w.heap.size w w' := by
  have HS := Lib.hid hs
  clear hs
  go_enter Tryd.func47, Tryd.ntmps47
  go_wp2_with fail
  go_loopw [8] (fun i wr => ∃ k : Nat, k ≤ ps.length ∧ i = .int .i64 k ∧ Hid (Below w.heap.size w wr) ∧ Hid ((ps.take k).any (fun p => !finSp p) = false)) (fun i _ => ps.length - (intOf i).toNat)
  case atStart => exact ⟨0, by omega, rfl, Below.refl _ _, rfl⟩
  case round =>
    obtain ⟨k, hk, rfl, HW, HA⟩ := hrel
    by_cases hlt : k < ps.length
    · obtain ⟨b1, o1, rfl, _, q1, hc1⟩ := HS.out.far (Far.below HW.out hh) (by omega)
      obtain ⟨x, y, z, c1, c2, c3, f1, f2, f3⟩ := hc1 k hlt
      have hp : (can .f32 x, can .f32 y, can .f32 z) = ps[k] := by
        have : ps[k] = pAt ps k := by simp [pAt, hlt]
        rw [show can .f32 x = _ from f1, show can .f32 y = _ from f2, show can .f32 z = _ from f3, this]
      have HP := Lib.hid hp
      have HI := Lib.hid (idx_some (p := fun p => !finSp p) hlt HA.out)
      have HN := Lib.hid (any_snoc (p := fun p => !finSp p) hlt HA.out)
      clear hc1 f1 f2 f3 hp
      have k0 : (0 : Int) ≤ (k : Int) := by omega
      have k1 : (k : Int) < (ps.length : Int) := by omega
      cases hfin : finSp ps[k]
      all_goals
        have HF := Lib.hid hfin
        clear hfin
        go_wp2_with (go_at_call 36; refine (areSpots1 x y z _).mono ?_; rintro e w3 ⟨rfl, hb3⟩; rw [HP.out, HF.out])
      · go_ret
        exact ⟨ret_int (HI.out (by simp [HF.out])).symm, HW.out.trans (hb3.mono HW.out.size)⟩
      · go_roundw
        case rel => exact ⟨k + 1, by omega, by go_num, HW.out.trans (hb3.mono HW.out.size), HN.out (by simp [HF.out])⟩
        case measure => simp [intOf]; omega
    · go_wp2_with fail
      go_ret
      refine ⟨ret_int ?_, HW.out⟩
      have := HA.out
      rw [List.take_of_length_le (by omega)] at this
      exact (idx_none this).symm
theorem containsSpots (lo hi : Nat) (ao : Option Addr) (c : Nat) (ps : List Sp) (hn : ps.length ≤ 1048576) (w : World) (hs : SlP w lo hi ao ps) (hh : hi ≤ w.heap.size) :
    Calls Tryd.prog 35 #[.slice ao ps.length c, .func (.func 36) #[] #[]] w fun e w' => e = .returned (.bool (ps.any fun p => !finSp p)) ∧ Below w.heap.size w w' := by
  have HS := Lib.hid hs
  clear hs
  go_enter Tryd.func35, Tryd.ntmps35
  go_wp2_with fail
  refine (indexSpots lo hi ao c ps hn _ HS.out hh).mono ?_
  rintro e w' ⟨rfl, hb⟩
  go_wp2_with fail
  go_ret
  exact ⟨ret_bool (idx_ge _ ps), hb⟩
set_option maxRecDepth 100000 in
theorem areSpots (lo hi : Nat) (ao : Option Addr) (c : Nat) (ps : List Sp) (hn : ps.length ≤ 1048576) (w : World) (hs : SlP w lo hi ao ps) (hh : hi ≤ w.heap.size) :
    Calls Tryd.prog 24 #[.slice ao ps.length c] w fun e w' => e = .returned (.bool (ps.all finSp)) ∧ Below w.heap.size w w' := by
  have HS := Lib.hid hs
  clear hs
  go_enter Tryd.func24, Tryd.ntmps24
  go_wp2_with fail
  refine (containsSpots lo hi ao c ps hn _ HS.out hh).mono ?_
  rintro e w' ⟨rfl, hb⟩
  go_wp2_with fail
  go_ret
  exact ⟨ret_bool (any_not _ _), hb⟩
end Go.Proofs.YtlpgaekkhlinhaaDoor
