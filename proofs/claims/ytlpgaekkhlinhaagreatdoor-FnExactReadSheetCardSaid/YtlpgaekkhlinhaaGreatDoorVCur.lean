/- Valid curves, the program's; the reference's. -/
import Derived.Test.YtlpgaekkhlinhaaGreatDoorDB
namespace Go.Fl
open Go.RowKit
theorem SlF.below {w w' : World} {v : Value} {xs : List Nat} (h : SlF w v xs) (hb : Below w.heap.size w w') : SlF w' v xs := by
  rcases h with h | ⟨b, off, cap, h1, h2, hc⟩
  · exact .inl h
  · exact .inr ⟨b, off, cap, h1, h2, fun i hi => keep_cell hb (hc i hi)⟩
/-- a valid curve -/
def okCurve (pts : List Cx) (ws : List Nat) : Bool := decide (2 ≤ pts.length) && decide (pts.length ≤ 8) && decide (ws.length = pts.length) && pts.all okPt && ws.all fun x => above (can .f32 x)
end Go.Fl
namespace Go.Proofs.YtlpgaekkhlinhaaGreatDoor
open Go.RowKit Go.Fl

set_option maxRecDepth 100000 in
theorem degreeC (a b : Option Addr) (n ca m cb : Nat) (hn : n ≤ 1048576) (w : World) :
    Calls Tryz.prog 78 #[.agg #[.slice a n ca, .slice b m cb]] w fun e w' => e = .returned (.int .i64 ((n : Int) - 1)) ∧ Below w.heap.size w w' := by
  go_enter Tryz.func78, Tryz.ntmps78
  go_wp2_with fail
  go_ret
  exact ⟨ret_int (by go_num), by (repeat (first | exact Below.refl _ _ | assumption | refine below_dr ?_ _ | refine Below.alloc ?_ (by first | omega | (simp; done) | (simp; omega)) _ | refine Below.setCell ?_ (by first | omega | (simp; done) | (simp; omega)) _ | refine Below.trans ?_ (Below.mono (by assumption) (by first | omega | (simp; done) | (simp; omega)))))⟩
set_option maxRecDepth 100000 in
theorem isDegree (x : Int) (w : World) : Calls Tryz.prog 77 #[.int .i64 x] w fun e w' => e = .returned (.bool (inB x 1 7)) ∧ w' = w := by
  by_cases h1 : (1 : Int) ≤ x
  all_goals by_cases h2 : x ≤ 7
  all_goals
    go_enter Tryz.func77, Tryz.ntmps77
    go_wp2_with fail
    go_ret
    exact ⟨ret_bool (by simp [inB, h1, h2]), rfl⟩
set_option maxHeartbeats 1000000 in
set_option maxRecDepth 100000 in
theorem validCurve (lo hi : Nat) (a b : Option Addr) (ca cb : Nat) (pts : List Cx) (ws : List Nat) (hn : pts.length ≤ 1048576) (hm : ws.length ≤ 1048576) (w : World) (hp : SlC w lo hi a pts) (hh : hi ≤ w.heap.size) (hw : SlF w (.slice b ws.length cb) ws) :
    Calls Tryz.prog 52 #[.agg #[.slice a pts.length ca, .slice b ws.length cb]] w fun e w' => e = .returned (.bool (okCurve pts ws)) ∧ Below w.heap.size w w' := by
  have HP := Lib.hid hp
  have HW := Lib.hid hw
  have HO := Lib.hid (show okCurve pts ws = (decide (2 ≤ pts.length) && decide (pts.length ≤ 8) && decide (ws.length = pts.length) && pts.all okPt && ws.all fun x => above (can .f32 x)) from rfl)
  clear hp hw
  cases hd : inB ((pts.length : Int) - 1) 1 7
  · have HNO := Lib.hid (show okCurve pts ws = false by
      rw [HO.out]
      unfold inB at hd
      by_cases h2 : 2 ≤ pts.length
      · by_cases h8 : pts.length ≤ 8
        · rw [decide_eq_true (show (1 : Int) ≤ (pts.length : Int) - 1 by omega), decide_eq_true (show (pts.length : Int) - 1 ≤ 7 by omega)] at hd; cases hd
        · simp [h8]
      · simp [h2])
    go_enter Tryz.func52, Tryz.ntmps52
    go_wp2_with (first | (go_at_call 78; refine (degreeC a b _ ca _ cb hn _).mono ?_; rintro e w1 ⟨rfl, hb1⟩) | (go_at_call 77; refine (isDegree _ _).mono ?_; rintro e w2 ⟨rfl, rfl⟩; rw [hd]))
    go_ret
    exact ⟨ret_bool HNO.out.symm, Below.trans (by (repeat (first | exact Below.refl _ _ | assumption | refine below_dr ?_ _ | refine Below.alloc ?_ (by first | omega | (simp; done) | (simp; omega)) _ | refine Below.setCell ?_ (by first | omega | (simp; done) | (simp; omega)) _ | refine Below.trans ?_ (Below.mono (by assumption) (by first | omega | (simp; done) | (simp; omega)))))) (hb1.mono (by simp))⟩
  · have hnum : 2 ≤ pts.length ∧ pts.length ≤ 8 := by
      unfold inB at hd
      simp at hd
      omega
    by_cases hl : ws.length = pts.length
    · have hlb : ((ws.length : Int) == (pts.length : Int)) = true := beq_iff_eq.2 (by omega)
      cases hA : pts.all okPt
      · have HNO := Lib.hid (show okCurve pts ws = false by rw [HO.out, hA]; simp)
        clear hl
        go_enter Tryz.func52, Tryz.ntmps52
        go_wp2_with (first | (go_at_call 78; refine (degreeC a b _ ca _ cb hn _).mono ?_; rintro e w1 ⟨rfl, hb1⟩; have e0 := keep_cell hb1 (show (w.alloc (.cells #[.slice a pts.length ca, .slice b ws.length cb] 25)).cell? ⟨w.heap.size, 0, none⟩ = some (.slice a pts.length ca) by rw [Lib.cell_of_heap (heap_alloc_new _ _)]; rfl); have e1 := keep_cell hb1 (show (w.alloc (.cells #[.slice a pts.length ca, .slice b ws.length cb] 25)).cell? ⟨w.heap.size, 1, none⟩ = some (.slice b ws.length cb) by rw [Lib.cell_of_heap (heap_alloc_new _ _)]; rfl); have HB1 := Lib.hid hb1; clear hb1) | (go_at_call 77; refine (isDegree _ _).mono ?_; rintro e w2 ⟨rfl, rfl⟩; rw [hd]) | (go_at_call 79; refine (arePoints lo hi a ca pts hn _ (HP.out.far (((Far.refl _ _ _).alloc _ hh).trans (Far.below HB1.out (by simp; omega))))).mono ?_; rintro e w3 ⟨rfl, q3, rfl⟩; rw [hA]))
        go_ret
        exact ⟨ret_bool HNO.out.symm, below_dr (Below.trans (show Below w.heap.size w (w.alloc (.cells #[.slice a pts.length ca, .slice b ws.length cb] 25)) from Below.alloc (Below.refl _ _) (Nat.le_refl _) _) (HB1.out.mono (by simp))) _⟩
      · have HY := Lib.hid (show okCurve pts ws = ws.all fun x => above (can .f32 x) by rw [HO.out, hA]; simp [hnum, hl])
        clear hl
        go_enter Tryz.func52, Tryz.ntmps52
        go_wp2_with (first | (go_at_call 78; refine (degreeC a b _ ca _ cb hn _).mono ?_; rintro e w1 ⟨rfl, hb1⟩; have e0 := keep_cell hb1 (show (w.alloc (.cells #[.slice a pts.length ca, .slice b ws.length cb] 25)).cell? ⟨w.heap.size, 0, none⟩ = some (.slice a pts.length ca) by rw [Lib.cell_of_heap (heap_alloc_new _ _)]; rfl); have e1 := keep_cell hb1 (show (w.alloc (.cells #[.slice a pts.length ca, .slice b ws.length cb] 25)).cell? ⟨w.heap.size, 1, none⟩ = some (.slice b ws.length cb) by rw [Lib.cell_of_heap (heap_alloc_new _ _)]; rfl); have HB1 := Lib.hid hb1; clear hb1) | (go_at_call 77; refine (isDegree _ _).mono ?_; rintro e w2 ⟨rfl, rfl⟩; rw [hd]) | (go_at_call 79; refine (arePoints lo hi a ca pts hn _ (HP.out.far (((Far.refl _ _ _).alloc _ hh).trans (Far.below HB1.out (by simp; omega))))).mono ?_; rintro e w3 ⟨rfl, q3, rfl⟩; rw [hA]) | (go_at_call 80; refine (areMore ws (.slice b ws.length cb) _ ((HW.out.below ((Below.alloc (Below.refl _ _) (Nat.le_refl _) _).trans (HB1.out.mono (by simp)))).drewN _)).mono ?_; rintro e w4 ⟨rfl, q4, rfl⟩))
        go_ret
        exact ⟨ret_bool (by rw [HY.out]), below_dr ((Below.trans (show Below w.heap.size w (w.alloc (.cells #[.slice a pts.length ca, .slice b ws.length cb] 25)) from Below.alloc (Below.refl _ _) (Nat.le_refl _) _) (HB1.out.mono (by simp)))) _⟩
    · have hlb : ((ws.length : Int) == (pts.length : Int)) = false := beq_eq_false_iff_ne.2 (by omega)
      have HNO := Lib.hid (show okCurve pts ws = false by rw [HO.out]; simp [hl])
      clear hl
      go_enter Tryz.func52, Tryz.ntmps52
      go_wp2_with (first | (go_at_call 78; refine (degreeC a b _ ca _ cb hn _).mono ?_; rintro e w1 ⟨rfl, hb1⟩; have e0 := keep_cell hb1 (show (w.alloc (.cells #[.slice a pts.length ca, .slice b ws.length cb] 25)).cell? ⟨w.heap.size, 0, none⟩ = some (.slice a pts.length ca) by rw [Lib.cell_of_heap (heap_alloc_new _ _)]; rfl); have e1 := keep_cell hb1 (show (w.alloc (.cells #[.slice a pts.length ca, .slice b ws.length cb] 25)).cell? ⟨w.heap.size, 1, none⟩ = some (.slice b ws.length cb) by rw [Lib.cell_of_heap (heap_alloc_new _ _)]; rfl); have HB1 := Lib.hid hb1; clear hb1) | (go_at_call 77; refine (isDegree _ _).mono ?_; rintro e w2 ⟨rfl, rfl⟩; rw [hd]))
      go_ret
      exact ⟨ret_bool HNO.out.symm, Below.trans (show Below w.heap.size w (w.alloc (.cells #[.slice a pts.length ca, .slice b ws.length cb] 25)) from Below.alloc (Below.refl _ _) (Nat.le_refl _) _) (HB1.out.mono (by simp))⟩
end Go.Proofs.YtlpgaekkhlinhaaGreatDoor
