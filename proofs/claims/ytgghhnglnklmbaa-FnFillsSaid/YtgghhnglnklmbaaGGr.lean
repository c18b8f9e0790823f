/- WindingOf, IsInside, FillGrid, FillShared, the program's. -/
import Derived.Test.YtgghhnglnklmbaaGIn
namespace Go.Fl
open Go.RowKit
theorem Q.can {x : Nat} {k : Int} {e : Nat} (h : Q .f32 x k e) : Go.Fl.can .f32 x = x := can_of_not (by
  obtain ⟨s, m, i, hr, _⟩ := isN_read h.num
  unfold nanB; rw [hr]; rfl)
theorem Q.canQ {x : Nat} {k : Int} {e : Nat} (h : Q .f32 x k e) : Q .f32 (Go.Fl.can .f32 x) k e := by rw [h.can]; exact h
theorem q_half : Q .f32 1056964608 16 5 := ⟨by decide +kernel, by decide +kernel, by decide⟩
/-- the middle of a cell -/
theorem mid_q {r : Nat} {x : Nat} (hx : x ≤ 16) (h : F32 r (fadd (can .f32 (floatOfInt .f32 (x : Int))) (can .f32 1056964608))) : Q .f32 (can .f32 r) (32 * (x : Int) + 16) 5 := by
  have h1 := (Q.ofInt .f32 (x : Int) (lt24 (by omega))).shift 5 (by decide)
  have h2 : Q .f32 (floatOfInt .f32 (x : Int)) (32 * (x : Int)) 5 := by
    have e : (x : Int) * 2 ^ 5 = 32 * (x : Int) := by omega
    rw [e] at h1; simpa using h1
  rw [h]
  exact h2.canQ.add q_half.canQ (lt24 (by omega))
theorem fin_q {x : Nat} {k : Int} {e : Nat} (h : Q .f32 x k e) : fin x = true := by
  have h1 := h.sub h (lt24 (by rw [Int.sub_self]; decide))
  rw [Int.sub_self] at h1
  have h0 : Q .f32 0 0 e := by have := Q.zero e h.le; rwa [can_l5] at this
  unfold fin feq
  rw [show fsub x x = fop .sub .f32 x x from rfl, h1.order h0]
  decide
theorem okPt_q {z : Cx} {p : Zp} {e : Nat} (h : PtQ z p e) : okPt z = true := by
  unfold okPt
  rw [fin_q h.1, fin_q h.2]; rfl
/-- what is filled -/
def cellZ (side k : Nat) : Zp := (32 * ((k % side : Nat) : Int) + 16, 32 * ((k / side : Nat) : Int) + 16)
def fillL (kls : List (List Zp)) (side : Nat) (even : Bool) (m : Nat) : List Bool := (List.range m).map fun k => insZ kls (cellZ side k) even
theorem fillL_succ (kls : List (List Zp)) (side : Nat) (even : Bool) (m : Nat) : fillL kls side even (m + 1) = fillL kls side even m ++ [insZ kls (cellZ side m) even] := by simp [fillL, List.range_succ]
theorem fillL_len (kls : List (List Zp)) (side : Nat) (even : Bool) (m : Nat) : (fillL kls side even m).length = m := by simp [fillL]
end Go.Fl
namespace Go.Proofs.Ytgghhnglnklmbaa
open Go.RowKit Go.Fl

theorem withinB (n l h : Int) (w : World) : Calls Try.prog 43 #[.int .i64 n, .int .i64 l, .int .i64 h] w fun e w' => e = .returned (.bool (decide (l ≤ n) && decide (n ≤ h))) ∧ w' = w := by
  go_enter Try.func43, Try.ntmps43
  by_cases h1 : l ≤ n
  · by_cases h2 : n ≤ h
    · go_wp2_with fail
      go_ret
      exact ⟨ret_bool (by simp [h1, h2]), rfl⟩
    · go_wp2_with fail
      go_ret
      exact ⟨ret_bool (by simp [h1, h2]), rfl⟩
  · go_wp2_with fail
    go_ret
    exact ⟨ret_bool (by rw [decide_eq_false (show ¬ l ≤ n by omega)]; rfl), rfl⟩
theorem areWorkers (n : Int) (h1 : 1 ≤ n) (h8 : n ≤ 8) (w : World) : Calls Try.prog 22 #[.int .i64 n] w fun e w' => e = .returned (.bool true) ∧ w' = w := by
  go_enter Try.func22, Try.ntmps22
  go_wp2_with (go_at_call 43; refine (withinB _ _ _ _).mono ?_; rintro e w1 ⟨rfl, rfl⟩)
  go_ret
  exact ⟨ret_bool (by simp [h1, h8]), rfl⟩

set_option maxHeartbeats 1000000 in
theorem windingOf (lo hi : Nat) (ao : Option Addr) (c : Nat) (nm : ByteArray) (ls : List (List Cx)) (kls : List (List Zp)) (z : Cx) (kz : Zp) (w : World) (h : OL w lo hi ao nm ls kls) (hkz : PtQ z kz 5) (hlz : lowZ kz 1024) :
    Calls Try.prog 14 #[.agg #[.string nm, .slice ao ls.length c], cV z] w fun e w' => e = .returned (.tuple #[.int .i64 (windA kls kz), .bool true]) ∧ Below w.heap.size w w' := by
  obtain ⟨za, zb⟩ := z
  have HO := Lib.hid (h.alloc (.cells #[.string nm, .slice ao ls.length c] 26))
  have HB := Lib.hid (show Below w.heap.size w (w.alloc (.cells #[.string nm, .slice ao ls.length c] 26)) from Below.alloc (Below.refl _ _) (Nat.le_refl _) _)
  have HV := Lib.hid (validOutline lo hi ao c nm ls h.short.1 (by have := h.short.2.1; omega) h.short.2.2.2 _ HO.out.sl HO.out.top)
  have hok : decide (okOut nm ls) = true := decide_eq_true h.ok
  have HOK := Lib.hid hok
  have hz := okPt_q hkz
  have HZ := Lib.hid hz
  have hoc : OwnC (w.alloc (.cells #[.string nm, .slice ao ls.length c] 26)) w.heap.size #[.string nm, .slice ao ls.length c] 26 := OwnC.new rfl
  have HOC := Lib.hid hoc
  clear h hok hz hoc
  unfold cV
  go_enter Try.func14, Try.ntmps14
  go_wp2_with fail
  refine HV.out.mono ?_
  rintro e w1 ⟨rfl, hb1⟩
  rw [HOK.out]
  have z1 : w.heap.size < w1.heap.size := by have := hb1.size; simp at this; omega
  have HO1 := Lib.hid (HO.out.below hb1 HO.out.top)
  have HB1 := Lib.hid (HB.out.trans (hb1.mono (by simp)))
  have HOC1 := HOC.out.below hb1 (by simp)
  have c0 := HOC1.cell 0
  have c1 := HOC1.cell 1
  simp at c0 c1
  have HA := Lib.hid (arePoints w1.heap.size (w1.heap.size + 1) (some ⟨w1.heap.size, 0, none⟩) 1 [(za, zb)] (by simp) (w1.alloc (.cells #[.complex .f32 za zb] 44)) (fun _ => ⟨w1.heap.size, rfl, Nat.le_refl _, Nat.lt_succ_self _, fun i hi => by
    have : i = 0 := by simpa using hi
    subst this
    exact news_new w1 #[.complex .f32 za zb] _ 0 _ rfl⟩))
  clear hb1 HOC1
  go_wp2_with fail
  refine HA.out.mono ?_
  rintro e w2 ⟨rfl, n2, rfl⟩
  have hall : [(za, zb)].all okPt = true := by simp [HZ.out]
  rw [hall]
  have hbz : Below w1.heap.size w1 ((w1.alloc (.cells #[.complex .f32 za zb] 44)).drewN n2) := below_dr (Below.alloc (Below.refl _ _) (Nat.le_refl _) _) n2
  have d0 := keep_cell hbz c0
  have d1 := keep_cell hbz c1
  have HO2 := Lib.hid (HO1.out.below hbz HO1.out.top)
  have HB2 := Lib.hid (HB1.out.trans (hbz.mono (by omega)))
  clear hbz c0 c1 hall
  go_wp2_with fail
  refine (winding lo hi ao c nm ls kls (za, zb) kz _ HO2.out HZ.out hkz hlz).mono ?_
  rintro e w3 ⟨rfl, hb3⟩
  have HB3 := Lib.hid (HB2.out.trans (hb3.mono (by simp; omega)))
  clear hb3 d0 d1
  go_wp2_with fail
  go_ret2
  exact ⟨rfl, HB3.out⟩
set_option maxHeartbeats 1000000 in
theorem isInside (lo hi : Nat) (ao : Option Addr) (c : Nat) (nm : ByteArray) (ls : List (List Cx)) (kls : List (List Zp)) (z : Cx) (kz : Zp) (even : Bool) (w : World) (h : OL w lo hi ao nm ls kls) (hkz : PtQ z kz 5) (hlz : lowZ kz 1024) :
    Calls Try.prog 15 #[.agg #[.string nm, .slice ao ls.length c], cV z, .bool even] w fun e w' => e = .returned (.tuple #[  .bool (insZ kls kz even), .bool true]) ∧ Below w.heap.size w w' := by
  obtain ⟨za, zb⟩ := z
  have HO := Lib.hid (h.alloc (.cells #[.string nm, .slice ao ls.length c] 26))
  have HB := Lib.hid (show Below w.heap.size w (w.alloc (.cells #[.string nm, .slice ao ls.length c] 26)) from Below.alloc (Below.refl _ _) (Nat.le_refl _) _)
  have HV := Lib.hid (validOutline lo hi ao c nm ls h.short.1 (by have := h.short.2.1; omega) h.short.2.2.2 _ HO.out.sl HO.out.top)
  have hok : decide (okOut nm ls) = true := decide_eq_true h.ok
  have HOK := Lib.hid hok
  have hz := okPt_q hkz
  have HZ := Lib.hid hz
  have hoc : OwnC (w.alloc (.cells #[.string nm, .slice ao ls.length c] 26)) w.heap.size #[.string nm, .slice ao ls.length c] 26 := OwnC.new rfl
  have HOC := Lib.hid hoc
  clear h hok hz hoc
  unfold cV
  go_enter Try.func15, Try.ntmps15
  go_wp2_with fail
  refine HV.out.mono ?_
  rintro e w1 ⟨rfl, hb1⟩
  rw [HOK.out]
  have z1 : w.heap.size < w1.heap.size := by have := hb1.size; simp at this; omega
  have HO1 := Lib.hid (HO.out.below hb1 HO.out.top)
  have HB1 := Lib.hid (HB.out.trans (hb1.mono (by simp)))
  have HOC1 := HOC.out.below hb1 (by simp)
  have c0 := HOC1.cell 0
  have c1 := HOC1.cell 1
  simp at c0 c1
  have HA := Lib.hid (arePoints w1.heap.size (w1.heap.size + 1) (some ⟨w1.heap.size, 0, none⟩) 1 [(za, zb)] (by simp) (w1.alloc (.cells #[.complex .f32 za zb] 44)) (fun _ => ⟨w1.heap.size, rfl, Nat.le_refl _, Nat.lt_succ_self _, fun i hi => by
    have : i = 0 := by simpa using hi
    subst this
    exact news_new w1 #[.complex .f32 za zb] _ 0 _ rfl⟩))
  clear hb1 HOC1
  go_wp2_with fail
  refine HA.out.mono ?_
  rintro e w2 ⟨rfl, n2, rfl⟩
  have hall : [(za, zb)].all okPt = true := by simp [HZ.out]
  rw [hall]
  have hbz : Below w1.heap.size w1 ((w1.alloc (.cells #[.complex .f32 za zb] 44)).drewN n2) := below_dr (Below.alloc (Below.refl _ _) (Nat.le_refl _) _) n2
  have d0 := keep_cell hbz c0
  have d1 := keep_cell hbz c1
  have HO2 := Lib.hid (HO1.out.below hbz HO1.out.top)
  have HB2 := Lib.hid (HB1.out.trans (hbz.mono (by omega)))
  clear hbz c0 c1 hall
  go_wp2_with fail
  refine (insideP lo hi ao c nm ls kls (za, zb) kz even _ HO2.out HZ.out hkz hlz).mono ?_
  rintro e w3 ⟨rfl, hb3⟩
  have HB3 := Lib.hid (HB2.out.trans (hb3.mono (by simp; omega)))
  clear hb3 d0 d1
  go_wp2_with fail
  go_ret2
  exact ⟨rfl, HB3.out⟩

set_option maxHeartbeats 1000000 in
theorem isGrid (lo hi : Nat) (ao : Option Addr) (c : Nat) (nm : ByteArray) (ls : List (List Cx)) (kls : List (List Zp)) (side : Nat) (hs : 1 ≤ side) (hs2 : side ≤ 16) (w : World) (h : OL w lo hi ao nm ls kls) :
    Calls Try.prog 20 #[.agg #[.string nm, .slice ao ls.length c], .int .i64 side] w fun e w' => e = .returned (.bool true) ∧ Below w.heap.size w w' := by
  have HO := Lib.hid (h.alloc (.cells #[.string nm, .slice ao ls.length c] 26))
  have HB := Lib.hid (show Below w.heap.size w (w.alloc (.cells #[.string nm, .slice ao ls.length c] 26)) from Below.alloc (Below.refl _ _) (Nat.le_refl _) _)
  have HV := Lib.hid (validOutline lo hi ao c nm ls h.short.1 (by have := h.short.2.1; omega) h.short.2.2.2 _ HO.out.sl HO.out.top)
  have hok : decide (okOut nm ls) = true := decide_eq_true h.ok
  have HOK := Lib.hid hok
  clear h hok
  go_enter Try.func20, Try.ntmps20
  go_wp2_with fail
  refine HV.out.mono ?_
  rintro e w1 ⟨rfl, hb1⟩
  rw [HOK.out]
  have HB1 := Lib.hid (HB.out.trans (hb1.mono (by simp)))
  have hw : (decide ((1 : Int) ≤ (side : Int)) && decide ((side : Int) ≤ 16)) = true := by
    rw [decide_eq_true (by omega), decide_eq_true (by omega)]; rfl
  have HW := Lib.hid hw
  clear hb1 hw
  go_wp2_with (go_at_call 43; refine (withinB _ _ _ _).mono ?_; rintro e w2 ⟨rfl, rfl⟩; rw [HW.out])
  go_ret
  exact ⟨rfl, HB1.out⟩

theorem infoBool : (Try.prog.info? 4).map (fun i => (i.zero, i.size, i.bytes)) = some (some (.bool false), 1, 1) := by kernel_rfl

set_option maxHeartbeats 4000000 in
set_option maxRecDepth 100000 in
theorem fillGrid (lo hi : Nat) (ao : Option Addr) (c : Nat) (nm : ByteArray) (ls : List (List Cx)) (kls : List (List Zp)) (side : Nat) (hs : 1 ≤ side) (hs2 : side ≤ 16) (even : Bool) (w : World) (h : OL w lo hi ao nm ls kls) :
    Calls Try.prog 7 #[.agg #[.string nm, .slice ao ls.length c], .int .i64 side, .bool even] w fun e w' => (∃ b cap, e = .returned (.tuple #[.slice (some ⟨b, 0, none⟩) (side * side) cap, .bool true]) ∧ ORow w' 4 1 b cap (side * side) ((fillL kls side even (side * side)).map Value.bool) ∧ w.heap.size ≤ b) ∧ Below w.heap.size w w' := by
  have HO := Lib.hid (h.alloc (.cells #[.string nm, .slice ao ls.length c] 26))
  have HB := Lib.hid (show Below w.heap.size w (w.alloc (.cells #[.string nm, .slice ao ls.length c] 26)) from Below.alloc (Below.refl _ _) (Nat.le_refl _) _)
  have HOC := Lib.hid (show OwnC (w.alloc (.cells #[.string nm, .slice ao ls.length c] 26)) w.heap.size #[.string nm, .slice ao ls.length c] 26 from OwnC.new rfl)
  have HGR := Lib.hid (isGrid lo hi ao c nm ls kls side hs hs2 _ HO.out)
  clear h
  obtain ⟨N, hN⟩ : ∃ N, N = side * side := ⟨_, rfl⟩
  have hN256 : N ≤ 256 := by rw [hN]; exact Nat.mul_le_mul hs2 hs2
  rw [← hN]
  have HN := Lib.hid hN
  clear hN
  go_enter Try.func7, Try.ntmps7
  go_wp2_with fail
  refine HGR.out.mono ?_
  rintro e w1 ⟨rfl, hb1⟩
  have z1 : w.heap.size < w1.heap.size := by have := hb1.size; simp at this; omega
  have HO1 := Lib.hid (HO.out.below hb1 HO.out.top)
  have HB1 := Lib.hid (HB.out.trans (hb1.mono (by simp)))
  have HOC1 := Lib.hid (HOC.out.below hb1 (by simp))
  clear hb1
  have HB2 := Lib.hid (show Below w.heap.size w (w1.alloc (.cells #[] 4)) from HB1.out.alloc HB1.out.size _)
  have HR2 := Lib.hid (ORow.new w1 4 1)
  have HO2 := Lib.hid (HO1.out.alloc (.cells #[] 4))
  have HOC2 := Lib.hid (HOC1.out.alloc (.cells #[] 4))
  go_wp2_with fail
  go_loopw [8, 17] (fun o i wr => ∃ (y m b cap : Nat), y ≤ side ∧ Hid (m = y * side) ∧ m ≤ N ∧ i = .int .i64 y ∧ o = .slice (some ⟨b, 0, none⟩) m cap ∧ Hid (ORow wr 4 1 b cap m ((fillL kls side even m).map Value.bool)) ∧ w.heap.size < b ∧ hi ≤ b ∧ Hid (OL wr lo hi ao nm ls kls) ∧ Hid (OwnC wr w.heap.size #[.string nm, .slice ao ls.length c] 26) ∧ Hid (Below w.heap.size w wr)) (fun _ i _ => side - (intOf i).toNat)
  case atStart => exact ⟨0, 0, w1.heap.size, 0, by omega, Lib.hid (by simp), by omega, rfl, rfl, HR2, by omega, HO1.out.top, HO2, HOC2, HB2⟩
  case round =>
    obtain ⟨y, m, b, cap, hy, HM, hmN, rfl, rfl, HR, hb, hbh, HOL, HC, HW⟩ := hrel
    by_cases hlt : y < side
    · have k1 : (y : Int) < (side : Int) := by omega
      go_wp2_with fail
      go_loopw [8, 21] (fun o i wr2 => ∃ (x m2 b2 cap2 : Nat), x ≤ side ∧ Hid (m2 = y * side + x) ∧ i = .int .i64 x ∧ o = .slice (some ⟨b2, 0, none⟩) m2 cap2 ∧ Hid (ORow wr2 4 1 b2 cap2 m2 ((fillL kls side even m2).map Value.bool)) ∧ w.heap.size < b2 ∧ hi ≤ b2 ∧ Hid (OL wr2 lo hi ao nm ls kls) ∧ Hid (OwnC wr2 w.heap.size #[.string nm, .slice ao ls.length c] 26) ∧ Hid (Below w.heap.size w wr2)) (fun _ i _ => side - (intOf i).toNat)
      case atStart => exact ⟨0, m, b, cap, by omega, HM, rfl, rfl, HR, hb, hbh, HOL, HC, HW⟩
      case round =>
        obtain ⟨x, m2, b2, cap2, hx, HM2, rfl, rfl, HR2, hb2, hbh2, HOL2, HC2, HW2⟩ := hrel
        have hz := HW2.out.size
        by_cases hxl : x < side
        · have k2 : (x : Int) < (side : Int) := by omega
          have hm2 : m2 < N := by
            have h1 : y * side + side ≤ side * side := by rw [← Nat.succ_mul]; exact Nat.mul_le_mul_right _ hlt
            have := HM2.out
            have := HN.out
            omega
          have hcell : cellZ side m2 = (32 * (x : Int) + 16, 32 * (y : Int) + 16) := by
            unfold cellZ
            have e1 : m2 % side = x := by rw [HM2.out, Nat.mul_comm, Nat.mul_add_mod]; exact Nat.mod_eq_of_lt hxl
            have e2 : m2 / side = y := by rw [HM2.out, Nat.mul_comm, Nat.mul_add_div (by omega), Nat.div_eq_of_lt hxl]; omega
            rw [e1, e2]
          have HCE := Lib.hid hcell
          have c0 := HC2.out.cell 0
          have c1 := HC2.out.cell 1
          simp at c0 c1
          clear hcell
          go_wp2_with (first | (refine wpList_f (x := .tmp 27) rfl rfl rfl rfl (by decide) ?_; intro r1 n1 h1; simp only [Act.put, List.setIfInBounds_toArray, List.set_cons_succ, List.set_cons_zero]) | (refine wpList_f (x := .tmp 30) rfl rfl rfl rfl (by decide) ?_; intro r2 n2 h2; simp only [Act.put, List.setIfInBounds_toArray, List.set_cons_succ, List.set_cons_zero]))
          have hpq : PtQ (r1, r2) (cellZ side m2) 5 := by rw [HCE.out]; exact ⟨mid_q (by omega) h1, mid_q (by omega) h2⟩
          have hlow : lowZ (cellZ side m2) 1024 := by rw [HCE.out]; exact ⟨by show (32 * (x : Int) + 16).natAbs ≤ 1024; omega, by show (32 * (y : Int) + 16).natAbs ≤ 1024; omega⟩
          have HIN := Lib.hid (fun q => insideP lo hi ao c nm ls kls (r1, r2) (cellZ side m2) even (wr.drewN q) (HOL2.out.drewN q) (okPt_q hpq) hpq hlow)
          clear h1 h2 hpq hlow
          refine (HIN.out _).mono ?_
          rintro e w3 ⟨rfl, hb3⟩
          have hb3' : Below wr.heap.size wr w3 := (below_dr (Below.refl _ wr) _).trans hb3
          have hz3 := hb3'.size
          have hlr2 := HR2.out.lt
          have HR3 := Lib.hid (HR2.out.below hb3' HR2.out.lt)
          have HOL3 := Lib.hid (HOL2.out.below hb3' HOL2.out.top)
          have HC3 := Lib.hid (HC2.out.below hb3' (by omega))
          have HW3 := Lib.hid (HW2.out.trans (hb3'.mono hz))
          have HFS := Lib.hid (fillL_succ kls side even m2)
          obtain ⟨Bv, hBv⟩ : ∃ Bv, Bv = insZ kls (cellZ side m2) even := ⟨_, rfl⟩
          rw [← hBv] at HFS ⊢
          clear hb3 hb3' HIN c0 c1 hBv
          go_wp2_with (at_builtin; refine wpList_app2 rfl _ _ _ rfl 4 (.bool false) 1 1 Try.underlying29 infoBool rfl (by decide) w3 #[.bool Bv] 4 rfl (by simp [Value.oneCell']) w3.heap.size b2 cap2 m2 _ rfl rfl rfl HR3.out (by omega) (by decide) ?_; intro b6 cap6 w6 hr6 hbb6 hgr6; have HR6 := Lib.hid hr6; have HB6 := Lib.hid hbb6; have HG6 := Lib.hid hgr6; clear hr6 hbb6 hgr6)
          have hbb := HB6.out
          have htop := HOL3.out.top
          go_roundw
          case rel =>
            refine ⟨x + 1, m2 + 1, b6, cap6, by omega, Lib.hid (by rw [HM2.out]; omega), by go_num, rfl, ?_, by omega, by omega, Lib.hid (HOL3.out.far (HG6.out.far (by omega) (by omega)) HG6.out.size), Lib.hid (own_grew HC3.out HG6.out (by omega)), Lib.hid (HW3.out.trans (HG6.out.below (by omega) (by omega)))⟩
            rw [HFS.out, List.map_append]; exact HR6
          case measure => simp [intOf]; omega
        · have hxs : x = side := by omega
          have k2 : ¬ (x : Int) < (side : Int) := by omega
          have HXS := Lib.hid hxs
          clear hxs
          go_wp2_with fail
          go_roundw
          case rel =>
            have e := HXS.out
            exact ⟨y + 1, m2, b2, cap2, by omega, Lib.hid (by rw [HM2.out, e, Nat.succ_mul]), by rw [HM2.out, e, ← Nat.succ_mul, HN.out]; exact Nat.mul_le_mul_right _ hlt, by go_num, rfl, HR2, hb2, hbh2, HOL2, HC2, HW2⟩
          case measure => simp [intOf]; omega
    · have hys : y = side := by omega
      subst hys
      have HMN : Hid (m = N) := Lib.hid (by rw [HM.out, HN.out])
      go_wp2_with fail
      go_ret2
      have e := HMN.out
      refine ⟨⟨b, cap, by rw [← e]; rfl, ?_, by omega⟩, HW.out⟩
      rw [← e]; exact HR.out
end Go.Proofs.Ytgghhnglnklmbaa
