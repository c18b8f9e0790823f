/- FillShared, CoverGrid, the program's. (Written by mkgco.py.) -/
import Derived.Test.YtgghhnglnklmbaaGGr
namespace Go.Fl
open Go.RowKit
/-- a part of a cell, from nothing to all -/
def cov (x : Nat) : Prop := ∃ n : Nat, n ≤ 16 ∧ Q .f32 (can .f32 x) (n : Int) 4
theorem eight_read : FloatKind.f32.format.read 1090519040 = .number false (2 ^ FB .f32) (((3 : Nat) : Int) - FB .f32) := by decide
theorem sixteen_read : FloatKind.f32.format.read 1098907648 = .number false (2 ^ FB .f32) (((4 : Nat) : Int) - FB .f32) := by decide
theorem can_eight : can .f32 1090519040 = 1090519040 := by decide +kernel
theorem can_sixteen : can .f32 1098907648 = 1098907648 := by decide +kernel
theorem off_q {a b x j : Nat} (hx : x ≤ 16) (hj : j ≤ 4) (h1 : F32 a (fdiv (can .f32 (floatOfInt .f32 (2 * (j : Int) + 1))) (can .f32 1090519040))) (h2 : F32 b (fadd (can .f32 (floatOfInt .f32 (x : Int))) (can .f32 a))) : Q .f32 (can .f32 b) (32 * (x : Int) + 8 * (j : Int) + 4) 5 := by
  have q1 := (Q.ofInt .f32 (2 * (j : Int) + 1) (lt24 (by omega))).canQ
  have q2 : Q .f32 (can .f32 a) (2 * (j : Int) + 1) 3 := by
    rw [h1, can_eight]
    exact Q.half (e := 0) q1 eight_read (lt24 (by omega)) (by decide)
  have q3 := q2.shift 2 (by decide)
  have q4 := ((Q.ofInt .f32 (x : Int) (lt24 (by omega))).shift 5 (by decide)).canQ
  rw [h2]
  have e1 : (2 * (j : Int) + 1) * 2 ^ 2 = 8 * (j : Int) + 4 := by omega
  have e2 : (x : Int) * 2 ^ 5 = 32 * (x : Int) := by omega
  rw [e1] at q3
  rw [e2, Nat.zero_add] at q4
  have e3 : 32 * (x : Int) + 8 * (j : Int) + 4 = 32 * (x : Int) + (8 * (j : Int) + 4) := by omega
  rw [e3]
  exact q4.add q3 (lt24 (by omega))
theorem cov_q {a n : Nat} (hn : n ≤ 16) (h : F32 a (fdiv (can .f32 (floatOfInt .f32 (n : Int))) (can .f32 1098907648))) : cov a := by
  refine ⟨n, hn, ?_⟩
  have q1 := (Q.ofInt .f32 (n : Int) (lt24 (by omega))).canQ
  rw [h, can_sixteen]
  exact Q.half (e := 0) q1 sixteen_read (lt24 (by omega)) (by decide)
end Go.Fl
namespace Go.Proofs.Ytgghhnglnklmbaa
open Go.RowKit Go.Fl

theorem infoF32 : (Try.prog.info? 38).map (fun i => (i.zero, i.size, i.bytes)) = some (some (.float .f32 0), 1, 4) := by kernel_rfl
set_option maxHeartbeats 1000000 in
theorem fillShared (lo hi : Nat) (ao : Option Addr) (c : Nat) (nm : ByteArray) (ls : List (List Cx)) (kls : List (List Zp)) (side : Nat) (hs : 1 ≤ side) (hs2 : side ≤ 16) (even : Bool) (n : Int) (h1 : 1 ≤ n) (h8 : n ≤ 8) (w : World) (h : OL w lo hi ao nm ls kls) :
    Calls Try.prog 8 #[.agg #[.string nm, .slice ao ls.length c], .int .i64 side, .bool even, .int .i64 n] w fun e w' => (∃ b cap, e = .returned (.tuple #[.slice (some ⟨b, 0, none⟩) (side * side) cap, .bool true]) ∧ ORow w' 4 1 b cap (side * side) ((fillL kls side even (side * side)).map Value.bool) ∧ w.heap.size ≤ b) ∧ Below w.heap.size w w' := by
  have HF := Lib.hid (fillGrid lo hi ao c nm ls kls side hs hs2 even _ (h.alloc (.cells #[.string nm, .slice ao ls.length c] 26)))
  have HB := Lib.hid (show Below w.heap.size w (w.alloc (.cells #[.string nm, .slice ao ls.length c] 26)) from Below.alloc (Below.refl _ _) (Nat.le_refl _) _)
  clear h
  go_enter Try.func8, Try.ntmps8
  go_wp2_with (go_at_call 22; refine (areWorkers _ h1 h8 _).mono ?_; rintro e w1 ⟨rfl, rfl⟩)
  refine HF.out.mono ?_
  rintro e w2 ⟨⟨b, cap, rfl, hr, hb⟩, hb2⟩
  have HR := Lib.hid hr
  simp at hb
  have HB2 := Lib.hid (HB.out.trans (hb2.mono (by simp)))
  clear hr hb2
  go_wp2_with fail
  go_ret2
  exact ⟨⟨b, cap, rfl, HR.out, by omega⟩, HB2.out⟩

set_option maxHeartbeats 4000000 in
set_option maxRecDepth 100000 in
theorem coverGrid (lo hi : Nat) (ao : Option Addr) (c : Nat) (nm : ByteArray) (ls : List (List Cx)) (kls : List (List Zp)) (side : Nat) (hs : 1 ≤ side) (hs2 : side ≤ 16) (even : Bool) (w : World) (h : OL w lo hi ao nm ls kls) :
    Calls Try.prog 9 #[.agg #[.string nm, .slice ao ls.length c], .int .i64 side, .bool even] w fun e w' => (∃ (b cap : Nat), e = .returned (.tuple #[.slice (some ⟨b, 0, none⟩) (side * side) cap, .bool true]) ∧ ∃ cs : List Nat, cs.length = side * side ∧ (∀ x, x ∈ cs → cov x) ∧ ORow w' 38 1 b cap (side * side) (cs.map (Value.float .f32)) ∧ w.heap.size ≤ b) ∧ Below w.heap.size w w' := by
  have HO := Lib.hid (h.alloc (.cells #[.string nm, .slice ao ls.length c] 26))
  have HB := Lib.hid (show Below w.heap.size w (w.alloc (.cells #[.string nm, .slice ao ls.length c] 26)) from Below.alloc (Below.refl _ _) (Nat.le_refl _) _)
  have HOC := Lib.hid (show OwnC (w.alloc (.cells #[.string nm, .slice ao ls.length c] 26)) w.heap.size #[.string nm, .slice ao ls.length c] 26 from OwnC.new rfl)
  have HGR := Lib.hid (isGrid lo hi ao c nm ls kls side hs hs2 _ HO.out)
  clear h
  obtain ⟨N, hN⟩ : ∃ N, N = side * side := ⟨_, rfl⟩
  have hN256 : N ≤ 256 := by rw [hN]; exact Nat.mul_le_mul hs2 hs2
  rw [← hN]
  have HN := Lib.hid hN
  clear hN
  go_enter Try.func9, Try.ntmps9
  go_wp2_with fail
  refine HGR.out.mono ?_
  rintro e w1 ⟨rfl, hb1⟩
  have z1 : w.heap.size < w1.heap.size := by have := hb1.size; simp at this; omega
  have HO1 := Lib.hid (HO.out.below hb1 HO.out.top)
  have HB1 := Lib.hid (HB.out.trans (hb1.mono (by simp)))
  have HOC1 := Lib.hid (HOC.out.below hb1 (by simp))
  clear hb1
  have HB2 := Lib.hid (show Below w.heap.size w (w1.alloc (.cells #[] 38)) from HB1.out.alloc HB1.out.size _)
  have HR2 := Lib.hid (ORow.new w1 38 1)
  have HO2 := Lib.hid (HO1.out.alloc (.cells #[] 38))
  have HOC2 := Lib.hid (HOC1.out.alloc (.cells #[] 38))
  go_wp2_with fail
  go_loopw [8, 20] (fun o i wr => ∃ (y m b cap : Nat) (cs : List Nat), y ≤ side ∧ Hid (m = y * side) ∧ m ≤ N ∧ cs.length = m ∧ Hid (∀ x, x ∈ cs → cov x) ∧ i = .int .i64 y ∧ o = .slice (some ⟨b, 0, none⟩) m cap ∧ Hid (ORow wr 38 1 b cap m (cs.map (Value.float .f32))) ∧ w.heap.size < b ∧ hi ≤ b ∧ Hid (OL wr lo hi ao nm ls kls) ∧ Hid (OwnC wr w.heap.size #[.string nm, .slice ao ls.length c] 26) ∧ Hid (Below w.heap.size w wr)) (fun _ i _ => side - (intOf i).toNat)
  case atStart => exact ⟨0, 0, w1.heap.size, 0, [], by omega, Lib.hid (by simp), by omega, rfl, Lib.hid (fun x hx => by cases hx), rfl, rfl, HR2, by omega, HO1.out.top, HO2, HOC2, HB2⟩
  case round =>
    obtain ⟨y, m, b, cap, cs, hy, HM, hmN, hcl, HCV, rfl, rfl, HR, hb, hbh, HOL, HC, HW⟩ := hrel
    have HCL := Lib.hid hcl
    clear hcl
    by_cases hlt : y < side
    · have k1 : (y : Int) < (side : Int) := by omega
      go_wp2_with fail
      go_loopw [8, 24] (fun o i wr => ∃ (x m b cap : Nat) (cs : List Nat), x ≤ side ∧ Hid (m = y * side + x) ∧ Hid (cs.length = m) ∧ Hid (∀ x, x ∈ cs → cov x) ∧ i = .int .i64 x ∧ o = .slice (some ⟨b, 0, none⟩) m cap ∧ Hid (ORow wr 38 1 b cap m (cs.map (Value.float .f32))) ∧ w.heap.size < b ∧ hi ≤ b ∧ Hid (OL wr lo hi ao nm ls kls) ∧ Hid (OwnC wr w.heap.size #[.string nm, .slice ao ls.length c] 26) ∧ Hid (Below w.heap.size w wr)) (fun _ i _ => side - (intOf i).toNat)
      case atStart => exact ⟨0, m, b, cap, cs, by omega, HM, HCL, HCV, rfl, rfl, HR, hb, hbh, HOL, HC, HW⟩
      case round =>
        clear HR HOL HC HW HCV HCL hb hbh
        obtain ⟨x, m2, b, cap, cs, hx, HM2, HCL, HCV, rfl, rfl, HR, hb, hbh, HOL, HC, HW⟩ := hrel
        by_cases hxl : x < side
        · have k2 : (x : Int) < (side : Int) := by omega
          have hm2 : m2 < N := by
            have h1 : y * side + side ≤ side * side := by rw [← Nat.succ_mul]; exact Nat.mul_le_mul_right _ hlt
            have := HM2.out
            have := HN.out
            omega
          go_wp2_with fail
          go_loopw [11, 27] (fun cn i wr => ∃ (n j : Nat), j ≤ 4 ∧ n ≤ 4 * j ∧ i = .int .i64 j ∧ cn = .int .i64 n ∧ Hid (ORow wr 38 1 b cap m2 (cs.map (Value.float .f32))) ∧ w.heap.size < b ∧ hi ≤ b ∧ Hid (OL wr lo hi ao nm ls kls) ∧ Hid (OwnC wr w.heap.size #[.string nm, .slice ao ls.length c] 26) ∧ Hid (Below w.heap.size w wr)) (fun _ i _ => 4 - (intOf i).toNat)
          case atStart => exact ⟨0, 0, by omega, by omega, rfl, rfl, HR, hb, hbh, HOL, HC, HW⟩
          case round =>
            clear HR HOL HC HW hb hbh
            obtain ⟨n, j, hj, hn, rfl, rfl, HR, hb, hbh, HOL, HC, HW⟩ := hrel
            by_cases hjl : j < 4
            · have k3 : (j : Int) < 4 := by omega
              go_wp2_with fail
              go_loopw [11, 30] (fun cn i wr => ∃ (n k : Nat), k ≤ 4 ∧ n ≤ 4 * j + k ∧ i = .int .i64 k ∧ cn = .int .i64 n ∧ Hid (ORow wr 38 1 b cap m2 (cs.map (Value.float .f32))) ∧ w.heap.size < b ∧ hi ≤ b ∧ Hid (OL wr lo hi ao nm ls kls) ∧ Hid (OwnC wr w.heap.size #[.string nm, .slice ao ls.length c] 26) ∧ Hid (Below w.heap.size w wr)) (fun _ i _ => 4 - (intOf i).toNat)
              case atStart => exact ⟨n, 0, by omega, by omega, rfl, rfl, HR, hb, hbh, HOL, HC, HW⟩
              case round =>
                clear HR HOL HC HW hb hbh
                obtain ⟨n, k, hk, hn, rfl, rfl, HR, hb, hbh, HOL, HC, HW⟩ := hrel
                by_cases hkl : k < 4
                · have k4 : (k : Int) < 4 := by omega
                  have c0 := HC.out.cell 0
                  have c1 := HC.out.cell 1
                  simp at c0 c1
                  go_wp2_with (first | (refine wpList_f (x := .tmp 39) rfl rfl rfl rfl (by decide) ?_; intro r40 n40 h40; simp only [Act.put, List.setIfInBounds_toArray, List.set_cons_succ, List.set_cons_zero]) | (refine wpList_f (x := .tmp 35) rfl rfl rfl rfl (by decide) ?_; intro r41 n41 h41; simp only [Act.put, List.setIfInBounds_toArray, List.set_cons_succ, List.set_cons_zero]) | (refine wpList_f (x := .tmp 47) rfl rfl rfl rfl (by decide) ?_; intro r48 n48 h48; simp only [Act.put, List.setIfInBounds_toArray, List.set_cons_succ, List.set_cons_zero]) | (refine wpList_f (x := .tmp 43) rfl rfl rfl rfl (by decide) ?_; intro r49 n49 h49; simp only [Act.put, List.setIfInBounds_toArray, List.set_cons_succ, List.set_cons_zero]))
                  have hpq : PtQ (r41, r49) (32 * (x : Int) + 8 * (j : Int) + 4, 32 * (y : Int) + 8 * (k : Int) + 4) 5 := ⟨off_q (by omega) (by omega) h40 h41, off_q (by omega) (by omega) h48 h49⟩
                  have hlow : lowZ (32 * (x : Int) + 8 * (j : Int) + 4, 32 * (y : Int) + 8 * (k : Int) + 4) 1024 := ⟨by show (32 * (x : Int) + 8 * (j : Int) + 4).natAbs ≤ 1024; omega, by show (32 * (y : Int) + 8 * (k : Int) + 4).natAbs ≤ 1024; omega⟩
                  have HIN := Lib.hid (fun q => insideP lo hi ao c nm ls kls (r41, r49) _ even (wr.drewN q) (HOL.out.drewN q) (okPt_q hpq) hpq hlow)
                  clear h40 h41 h48 h49 hpq hlow
                  refine (HIN.out _).mono ?_
                  rintro e w3 ⟨rfl, hb3⟩
                  have hb3' : Below wr.heap.size wr w3 := (below_dr (Below.refl _ wr) _).trans hb3
                  have hz3 := hb3'.size
                  have hlr := HR.out.lt
                  have hzw := HW.out.size
                  have HR3 := Lib.hid (HR.out.below hb3' hlr)
                  have HOL3 := Lib.hid (HOL.out.below hb3' HOL.out.top)
                  have HC3 := Lib.hid (HC.out.below hb3' (by omega))
                  have HW3 := Lib.hid (HW.out.trans (hb3'.mono hzw))
                  obtain ⟨Bv, hBv⟩ : ∃ Bv, Bv = insZ kls (32 * (x : Int) + 8 * (j : Int) + 4, 32 * (y : Int) + 8 * (k : Int) + 4) even := ⟨_, rfl⟩
                  rw [← hBv]
                  clear hb3 hb3' HIN c0 c1 hBv
                  cases Bv
                  · go_wp2_with fail
                    exact ⟨⟨n, k + 1, by omega, by omega, by go_num, rfl, HR3, hb, hbh, HOL3, HC3, HW3⟩, by simp [intOf]; omega⟩
                  · go_wp2_with fail
                    exact ⟨⟨n + 1, k + 1, by omega, by omega, by go_num, by go_num, HR3, hb, hbh, HOL3, HC3, HW3⟩, by simp [intOf]; omega⟩
                · have k4 : ¬ (k : Int) < 4 := by omega
                  have hk4 : k = 4 := by omega
                  have HK4 := Lib.hid hk4
                  clear hk4
                  go_wp2_with fail
                  exact ⟨⟨n, j + 1, by omega, by have := HK4.out; omega, by go_num, rfl, HR, hb, hbh, HOL, HC, HW⟩, by simp [intOf]; omega⟩
            · have k3 : ¬ (j : Int) < 4 := by omega
              have hn16 : n ≤ 16 := by omega
              have hzw := HW.out.size
              go_wp2_with (first | (refine wpList_f (x := .tmp 59) rfl rfl rfl rfl (by decide) ?_; intro r60 n60 h60; simp only [Act.put, List.setIfInBounds_toArray, List.set_cons_succ, List.set_cons_zero]) | (at_builtin; refine wpList_app2 rfl _ _ _ rfl 38 (.float .f32 0) 1 4 Try.underlying33 infoF32 rfl (by decide) (wr.drewN n60) #[.float .f32 r60] 38 rfl (by simp [Value.oneCell']) wr.heap.size b cap m2 _ rfl rfl rfl HR.out (by omega) (by decide) ?_; intro b6 cap6 w6 hr6 hbb6 hgr6; have HR6 := Lib.hid hr6; have HB6 := Lib.hid hbb6; have HG6 := Lib.hid (show Grew b wr w6 from ⟨hgr6.os, hgr6.tape, hgr6.output, hgr6.size, hgr6.block⟩); have HCQ := Lib.hid (cov_q hn16 h60); clear hr6 hbb6 hgr6 h60))
              have hbb : b6 = b ∨ wr.heap.size < b6 := HB6.out
              have htop := HOL.out.top
              go_roundw
              case rel =>
                refine ⟨x + 1, m2 + 1, b6, cap6, cs ++ [r60], by omega, Lib.hid (by rw [HM2.out]; omega), Lib.hid (by rw [List.length_append, HCL.out]; rfl), Lib.hid (fun q hq => ?_), by go_num, rfl, ?_, by omega, by omega, Lib.hid (HOL.out.far (HG6.out.far (by omega) (by omega)) HG6.out.size), Lib.hid (own_grew HC.out HG6.out (by omega)), Lib.hid (HW.out.trans (HG6.out.below (by omega) (by omega)))⟩
                · rcases List.mem_append.1 hq with hq | hq
                  · exact HCV.out q hq
                  · obtain rfl : q = r60 := by simpa using hq
                    exact HCQ.out
                · rw [List.map_append]; exact HR6
              case measure => simp [intOf]; omega
        · have hxs : x = side := by omega
          have k2 : ¬ (x : Int) < (side : Int) := by omega
          have HXS := Lib.hid hxs
          clear hxs
          go_wp2_with fail
          go_roundw
          case rel =>
            have e := HXS.out
            exact ⟨y + 1, m2, b, cap, cs, by omega, Lib.hid (by rw [HM2.out, e, Nat.succ_mul]), by rw [HM2.out, e, ← Nat.succ_mul, HN.out]; exact Nat.mul_le_mul_right _ hlt, HCL.out, HCV, by go_num, rfl, HR, hb, hbh, HOL, HC, HW⟩
          case measure => simp [intOf]; omega
    · have hys : y = side := by omega
      have k1 : ¬ (y : Int) < (side : Int) := by omega
      have HMN : Hid (m = N) := Lib.hid (by rw [HM.out, HN.out, hys])
      clear hys
      go_wp2_with fail
      go_ret2
      have e := HMN.out
      refine ⟨⟨b, cap, by rw [← e]; rfl, cs, by rw [HCL.out, e], HCV.out, ?_, by omega⟩, HW.out⟩
      rw [← e]; exact HR.out
end Go.Proofs.Ytgghhnglnklmbaa
