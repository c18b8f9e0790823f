/- The law FnExactReadSpline: what it returns. (Written by mkrpl.py.) -/
import Derived.Test.YtlpgaekkhlinhaaGreatDoorRcE
import Derived.Test.YtlpgaekkhlinhaaGreatDoorRpR
import Derived.Test.YtlpgaekkhlinhaaGreatDoorRpQ
namespace Go.Fl
theorem RdSpline.valid {s : List UInt8} {d : Int} {xs : List Nat} {zs : List Cx} (h : RdSpline s d xs zs) : SplY d xs zs := by
  obtain ⟨_, _, _, _, _, _, _, h⟩ := h
  exact h
end Go.Fl
namespace Go.Proofs.YtlpgaekkhlinhaaGreatDoor
open Go.RowKit Go.Fl

theorem eqF0 (w : World) : Calls Tryz.prog 27 #[.slice none 0 0, .slice none 0 0] w fun e w' => e = .returned (.bool true) ∧ w' = w := by
  go_enter Tryz.func27, Tryz.ntmps27
  go_wp2_with fail
  refine wp_loop_rounds 1 ?_
  rw [rounds_succ]
  go_wp2_with fail
  go_ret
  exact ⟨rfl, rfl⟩
theorem eqC0 (w : World) : Calls Tryz.prog 26 #[.slice none 0 0, .slice none 0 0] w fun e w' => e = .returned (.bool true) ∧ w' = w := by
  go_enter Tryz.func26, Tryz.ntmps26
  go_wp2_with fail
  refine wp_loop_rounds 1 ?_
  rw [rounds_succ]
  go_wp2_with fail
  go_ret
  exact ⟨rfl, rfl⟩
theorem markC0 (w : World) : Calls Tryz.prog 28 #[.slice none 0 0, .int .i64 1] w fun e w' => e = .returned (.int .i64 1) ∧ w' = w := by
  go_enter Tryz.func28, Tryz.ntmps28
  go_wp2_with fail
  refine wp_loop_rounds 1 ?_
  rw [rounds_succ]
  go_wp2_with fail
  go_ret
  exact ⟨rfl, rfl⟩
theorem markF0 (w : World) : Calls Tryz.prog 29 #[.slice none 0 0, .int .i64 1] w fun e w' => e = .returned (.int .i64 1) ∧ w' = w := by
  go_enter Tryz.func29, Tryz.ntmps29
  go_wp2_with fail
  refine wp_loop_rounds 1 ?_
  rw [rounds_succ]
  go_wp2_with fail
  go_ret
  exact ⟨rfl, rfl⟩
theorem heldC0 (w : World) : Calls Tryz.prog 30 #[.slice none 0 0, .int .i64 1] w fun e w' => e = .returned (.int .i64 1) ∧ w' = w := by
  go_enter Tryz.func30, Tryz.ntmps30
  go_wp2_with fail
  refine wp_loop_rounds 1 ?_
  rw [rounds_succ]
  go_wp2_with fail
  go_ret
  exact ⟨rfl, rfl⟩
theorem heldF0 (w : World) : Calls Tryz.prog 31 #[.slice none 0 0, .int .i64 1] w fun e w' => e = .returned (.int .i64 1) ∧ w' = w := by
  go_enter Tryz.func31, Tryz.ntmps31
  go_wp2_with fail
  refine wp_loop_rounds 1 ?_
  rw [rounds_succ]
  go_wp2_with fail
  go_ret
  exact ⟨rfl, rfl⟩
set_option maxHeartbeats 1000000 in
theorem eqSpn0 (w : World) : Calls Tryz.prog 18 #[.agg #[.int .i64 0, .slice none 0 0, .slice none 0 0], .agg #[.int .i64 0, .slice none 0 0, .slice none 0 0]] w fun e w' => e = .returned (.bool true) ∧ Below w.heap.size w w' := by
  go_enter Tryz.func18, Tryz.ntmps18
  go_wp2_with (first | (go_at_call 26; refine (eqC0 _).mono ?_; rintro e w1 ⟨rfl, rfl⟩) | (go_at_call 27; refine (eqF0 _).mono ?_; rintro e w2 ⟨rfl, rfl⟩))
  go_ret
  exact ⟨rfl, by (repeat (first | exact Below.refl _ _ | assumption | refine below_dr ?_ _ | refine Below.alloc ?_ (by first | omega | (simp; done) | (simp; omega)) _ | refine Below.setCell ?_ (by first | omega | (simp; done) | (simp; omega)) _ | refine Below.trans ?_ (Below.mono (by assumption) (by first | omega | (simp; done) | (simp; omega)))))⟩
set_option maxHeartbeats 1000000 in
theorem markSpn0 (w : World) : Calls Tryz.prog 19 #[.agg #[.int .i64 0, .slice none 0 0, .slice none 0 0], .int .i64 1] w fun e w' => e = .returned (.int .i64 1) ∧ Below w.heap.size w w' := by
  go_enter Tryz.func19, Tryz.ntmps19
  go_wp2_with (first | (go_at_call 28; refine (markC0 _).mono ?_; rintro e w1 ⟨rfl, rfl⟩) | (go_at_call 29; refine (markF0 _).mono ?_; rintro e w2 ⟨rfl, rfl⟩))
  go_ret
  exact ⟨rfl, by (repeat (first | exact Below.refl _ _ | assumption | refine below_dr ?_ _ | refine Below.alloc ?_ (by first | omega | (simp; done) | (simp; omega)) _ | refine Below.setCell ?_ (by first | omega | (simp; done) | (simp; omega)) _ | refine Below.trans ?_ (Below.mono (by assumption) (by first | omega | (simp; done) | (simp; omega)))))⟩
set_option maxHeartbeats 1000000 in
theorem heldSpn0 (w : World) : Calls Tryz.prog 20 #[.agg #[.int .i64 0, .slice none 0 0, .slice none 0 0], .int .i64 1] w fun e w' => e = .returned (.int .i64 1) ∧ Below w.heap.size w w' := by
  go_enter Tryz.func20, Tryz.ntmps20
  go_wp2_with (first | (go_at_call 30; refine (heldC0 _).mono ?_; rintro e w1 ⟨rfl, rfl⟩) | (go_at_call 31; refine (heldF0 _).mono ?_; rintro e w2 ⟨rfl, rfl⟩))
  go_ret
  exact ⟨rfl, by (repeat (first | exact Below.refl _ _ | assumption | refine below_dr ?_ _ | refine Below.alloc ?_ (by first | omega | (simp; done) | (simp; omega)) _ | refine Below.setCell ?_ (by first | omega | (simp; done) | (simp; omega)) _ | refine Below.trans ?_ (Below.mono (by assumption) (by first | omega | (simp; done) | (simp; omega)))))⟩

set_option maxHeartbeats 4000000 in
set_option maxRecDepth 100000 in
theorem lawRp (s : ByteArray) (w : World) (hm : Mx w) (he : Er w) (hg : Eg w) (ht : Tz w) (htb : Tab w) :
    Calls Tryz.prog 5 #[.string s] w fun e w' => e = .returned (.bool true) ∧ Below w.heap.size w w' := by
  have HM := Lib.hid hm
  have HE := Lib.hid he
  have HT := Lib.hid ht
  have HG := Lib.hid hg
  have HTB := Lib.hid htb
  clear hm he hg ht htb
  go_enter Tryz.func5, Tryz.ntmps5
  by_cases hsz : s.size ≤ 1048576
  rotate_left
  · have hsz1 : (1048576 : Int) < (s.size : Int) := by omega
    go_wp2_with fail
    go_ret
    exact ⟨rfl, Below.refl _ _⟩
  have hsz1 : ¬ (1048576 : Int) < (s.size : Int) := by omega
  by_cases hv : ∃ d xs zs, RdSpline s.data.toList d xs zs
  · obtain ⟨d, xs, zs, hr⟩ := hv
    have HR := Lib.hid hr
    obtain ⟨D, hdD, hok5⟩ := hr.valid
    have hz8 : zs.length ≤ 24 := hok5.n24
    have hx8 : xs.length ≤ 64 := by have := hok5.kl; have := hok5.d5; omega
    have hok := hok5.fp
    have hfin := hok5.fk
    clear hok5 hdD
    have HOK := Lib.hid hok
    have HFIN := Lib.hid hfin
    clear hr hok hfin
    go_wp2_with fail
    refine (specReadSpline s hsz _).mono ?_
    rintro e w1 ⟨hy1, _, hb1⟩
    obtain ⟨p1, cp1, p2, cp2, rfl, hP1, hP2, hp1, hp2, hpne⟩ := hy1 d xs zs HR.out
    have HP1 := Lib.hid hP1
    have HP2 := Lib.hid hP2
    have lp1 := hP1.1.lt
    have lp2 := hP2.1.lt
    have HB1 := Lib.hid hb1
    have z1 := hb1.size
    have HC3 := Lib.hid (OwnC.new (w := w1) (cs := #[.int .i64 d, .slice (some ⟨p1, 0, none⟩) xs.length cp1, .slice (some ⟨p2, 0, none⟩) zs.length cp2]) (T := 39) rfl)
    clear hy1 hP1 hP2 hb1
    go_wp2_with fail
    refine (implReadSpline s hsz _ (HM.out.on (HB1.out.alloc z1 _)) (HE.out.on (HB1.out.alloc z1 _)) (HG.out.on (HB1.out.alloc z1 _)) (HT.out.on (HB1.out.alloc z1 _)) (HTB.out.on (HB1.out.alloc z1 _))).mono ?_
    rintro e w2 ⟨hy2, _, hb2⟩
    obtain ⟨q1, cq1, q2, cq2, rfl, hQ1, hQ2, hq1, hq2, hqne⟩ := hy2 d xs zs HR.out
    have hb2' : Below (w1.heap.size + 1) (w1.alloc (.cells #[.int .i64 d, .slice (some ⟨p1, 0, none⟩) xs.length cp1, .slice (some ⟨p2, 0, none⟩) zs.length cp2] 39)) w2 := by simpa using hb2
    have z2 : w1.heap.size + 1 ≤ w2.heap.size := by simpa using hb2'.size
    have lq1 := hQ1.1.lt
    have lq2 := hQ2.1.lt
    have hq1' : w1.heap.size + 1 ≤ q1 := by simpa using hq1
    have hq2' : w1.heap.size + 1 ≤ q2 := by simpa using hq2
    have HQ1 := Lib.hid hQ1
    have HQ2 := Lib.hid hQ2
    have hf12 : Far 0 w1.heap.size w1 w2 := ((Far.refl _ _ _).alloc (.cells #[.int .i64 d, .slice (some ⟨p1, 0, none⟩) xs.length cp1, .slice (some ⟨p2, 0, none⟩) zs.length cp2] 39) (Nat.le_refl _)).trans (Far.below hb2' (by omega))
    have HP1 := Lib.hid (HP1.out.far hf12 (Nat.zero_le _) lp1)
    have HP2 := Lib.hid (HP2.out.far hf12 (Nat.zero_le _) lp2)
    have HC3 := Lib.hid (HC3.out.below hb2' (by omega))
    have HC5 := Lib.hid (OwnC.new (w := w2) (cs := #[.int .i64 d, .slice (some ⟨q1, 0, none⟩) xs.length cq1, .slice (some ⟨q2, 0, none⟩) zs.length cq2]) (T := 39) rfl)
    have HB2 : Hid (Below w.heap.size w w2) := Lib.hid ((HB1.out.alloc z1 _).trans (hb2'.mono (by omega)))
    have c30 := HC3.out.cell 0
    have c31 := HC3.out.cell 1
    have c32 := HC3.out.cell 2
    simp at c30 c31 c32
    have n3 : w1.heap.size < w2.heap.size := z2
    clear hy2 hb2 hb2' hQ1 hQ2 hq1 hq2 hf12
    go_wp2_with fail
    refine (eqSpn d q1 cq1 q2 cq2 p1 cp1 p2 cp2 xs zs (by omega) (by omega) HOK.out HFIN.out _ (HQ1.out.far ((Far.refl 0 w2.heap.size _).alloc _ (Nat.le_refl _)) (Nat.zero_le _) (by omega)) (HQ2.out.far ((Far.refl 0 w2.heap.size _).alloc _ (Nat.le_refl _)) (Nat.zero_le _) (by omega)) (HP1.out.far ((Far.refl 0 w2.heap.size _).alloc _ (Nat.le_refl _)) (Nat.zero_le _) (by omega)) (HP2.out.far ((Far.refl 0 w2.heap.size _).alloc _ (Nat.le_refl _)) (Nat.zero_le _) (by omega))).mono ?_
    rintro e w3 ⟨rfl, hb3⟩
    have hb3' : Below (w2.heap.size + 1) (w2.alloc (.cells #[.int .i64 d, .slice (some ⟨q1, 0, none⟩) xs.length cq1, .slice (some ⟨q2, 0, none⟩) zs.length cq2] 39)) w3 := by simpa using hb3
    have z3 : w2.heap.size + 1 ≤ w3.heap.size := by simpa using hb3'.size
    have hf23 : Far 0 w2.heap.size w2 w3 := ((Far.refl _ _ _).alloc (.cells #[.int .i64 d, .slice (some ⟨q1, 0, none⟩) xs.length cq1, .slice (some ⟨q2, 0, none⟩) zs.length cq2] 39) (Nat.le_refl _)).trans (Far.below hb3' (by omega))
    have HP1 := Lib.hid (HP1.out.far hf23 (Nat.zero_le _) (by omega))
    have HP2 := Lib.hid (HP2.out.far hf23 (Nat.zero_le _) (by omega))
    have HQ1 := Lib.hid (HQ1.out.far hf23 (Nat.zero_le _) lq1)
    have HQ2 := Lib.hid (HQ2.out.far hf23 (Nat.zero_le _) lq2)
    have HC3 := Lib.hid ((HC3.out.alloc _).below hb3' (by omega))
    have HC5 := Lib.hid (HC5.out.below hb3' (by omega))
    have HB3 : Hid (Below w.heap.size w w3) := Lib.hid ((HB2.out.alloc (by omega) _).trans (hb3'.mono (by omega)))
    have c50 := HC5.out.cell 0
    have c51 := HC5.out.cell 1
    have c52 := HC5.out.cell 2
    simp at c50 c51 c52
    clear hb3 hb3' HB2 c30 c31 c32 hf23
    go_wp2_with fail
    refine (markSpn d q1 q2 xs.length cq1 zs.length cq2 1 (by omega) hqne _ HQ1.out.1 HQ2.out.1).mono ?_
    rintro e w4 ⟨rfl, hk1, hk2, ch4⟩
    have z4 := ch4.size
    have HK1 := Lib.hid hk1
    have HK2 := Lib.hid hk2
    have hf34 : ∀ c, c ≠ q1 → c ≠ q2 → c < w3.heap.size → Far c (c + 1) w3 w4 := fun c h1 h2 h3 => ch4.farS (by omega) (by intro x hx; omega)
    have HP1 := Lib.hid (HP1.out.far (hf34 p1 (by omega) (by omega) (by omega)) (Nat.le_refl _) (by omega))
    have HP2 := Lib.hid (HP2.out.far (hf34 p2 (by omega) (by omega) (by omega)) (Nat.le_refl _) (by omega))
    have HC3 := Lib.hid (ch4.own HC3.out (by omega))
    have HC5 := Lib.hid (ch4.own HC5.out (by omega))
    have HB4 : Hid (Below w.heap.size w w4) := Lib.hid (HB3.out.trans (ch4.toBelow (by omega) (by intro x hx; omega)))
    have c50 := HC5.out.cell 0
    have c51 := HC5.out.cell 1
    have c52 := HC5.out.cell 2
    simp at c50 c51 c52
    obtain ⟨kn, hkn⟩ : ∃ x : Int, x = (((1 + xs.length) + zs.length : Nat) : Int) := ⟨_, rfl⟩
    have HN := Lib.hid hkn
    have k2 : ¬ kn < 0 := by omega
    have HCALL := Lib.hid (fun (W : World) (h1 : SlK W q1 (q1 + 1) (some ⟨q1, 0, none⟩) xs.length ((1 : Nat) : Int)) (h2 : SlC W q2 (q2 + 1) (some ⟨q2, 0, none⟩) (mL (1 + xs.length) zs.length)) (h3 : q1 < W.heap.size) (h4 : q2 < W.heap.size) => heldSpn d q1 q2 xs.length cq1 zs.length cq2 1 (by omega) W h1 h2 h3 h4)
    rw [← hkn] at HCALL ⊢
    clear hk1 hk2 ch4 HB3 hkn hf34
    go_wp2_with fail
    refine (HCALL.out _ HK1.out HK2.out (by omega) (by omega)).mono ?_
    rintro e w5 ⟨rfl, hb5⟩
    have z5 := hb5.size
    have HK1 := Lib.hid (HK1.out.far (Far.below hb5 (by omega)))
    have HK2 := Lib.hid (HK2.out.far (Far.below hb5 (by omega)))
    have HP1 := Lib.hid (HP1.out.below hb5 (by omega))
    have HP2 := Lib.hid (HP2.out.below hb5 (by omega))
    have HC3 := Lib.hid (HC3.out.below hb5 (by omega))
    have HC5 := Lib.hid (HC5.out.below hb5 (by omega))
    have HB5 : Hid (Below w.heap.size w w5) := Lib.hid (HB4.out.trans (hb5.mono (by omega)))
    clear hb5 HB4 c50 c51 c52
    go_wp2_with fail
    refine (implReadSpline s hsz _ (HM.out.on HB5.out) (HE.out.on HB5.out) (HG.out.on HB5.out) (HT.out.on HB5.out) (HTB.out.on HB5.out)).mono ?_
    rintro e w6 ⟨hy6, _, hb6⟩
    obtain ⟨r1, cr1, r2, cr2, rfl, hR1, hR2, hr1, hr2, hrne⟩ := hy6 d xs zs HR.out
    have z6 := hb6.size
    have lr1 := hR1.1.lt
    have lr2 := hR2.1.lt
    have HR1 := Lib.hid hR1
    have HR2 := Lib.hid hR2
    have HK1 := Lib.hid (HK1.out.far (Far.below hb6 (by omega)))
    have HK2 := Lib.hid (HK2.out.far (Far.below hb6 (by omega)))
    have HP1 := Lib.hid (HP1.out.below hb6 (by omega))
    have HP2 := Lib.hid (HP2.out.below hb6 (by omega))
    have HC3 := Lib.hid (HC3.out.below hb6 (by omega))
    have HC5 := Lib.hid (HC5.out.below hb6 (by omega))
    have HC9 := Lib.hid (OwnC.new (w := w6) (cs := #[.int .i64 d, .slice (some ⟨r1, 0, none⟩) xs.length cr1, .slice (some ⟨r2, 0, none⟩) zs.length cr2]) (T := 39) rfl)
    have HB6 : Hid (Below w.heap.size w w6) := Lib.hid (HB5.out.trans (hb6.mono (by omega)))
    have c30 := HC3.out.cell 0
    have c31 := HC3.out.cell 1
    have c32 := HC3.out.cell 2
    simp at c30 c31 c32
    have n3 : w1.heap.size < w6.heap.size := by omega
    clear hy6 hb6 hR1 hR2 hr1 hr2 HB5
    go_wp2_with fail
    refine (eqSpn d r1 cr1 r2 cr2 p1 cp1 p2 cp2 xs zs (by omega) (by omega) HOK.out HFIN.out _ (HR1.out.far ((Far.refl 0 w6.heap.size _).alloc _ (Nat.le_refl _)) (Nat.zero_le _) (by omega)) (HR2.out.far ((Far.refl 0 w6.heap.size _).alloc _ (Nat.le_refl _)) (Nat.zero_le _) (by omega)) (HP1.out.far ((Far.refl 0 w6.heap.size _).alloc _ (Nat.le_refl _)) (Nat.zero_le _) (by omega)) (HP2.out.far ((Far.refl 0 w6.heap.size _).alloc _ (Nat.le_refl _)) (Nat.zero_le _) (by omega))).mono ?_
    rintro e w7 ⟨rfl, hb7⟩
    have hb7' : Below (w6.heap.size + 1) (w6.alloc (.cells #[.int .i64 d, .slice (some ⟨r1, 0, none⟩) xs.length cr1, .slice (some ⟨r2, 0, none⟩) zs.length cr2] 39)) w7 := by simpa using hb7
    have z7 : w6.heap.size + 1 ≤ w7.heap.size := by simpa using hb7'.size
    have hf67 : Far 0 w6.heap.size w6 w7 := ((Far.refl _ _ _).alloc (.cells #[.int .i64 d, .slice (some ⟨r1, 0, none⟩) xs.length cr1, .slice (some ⟨r2, 0, none⟩) zs.length cr2] 39) (Nat.le_refl _)).trans (Far.below hb7' (by omega))
    have HK1 := Lib.hid (HK1.out.far (fun c h1 h2 => hf67 c (Nat.zero_le _) (by omega)))
    have HK2 := Lib.hid (HK2.out.far (fun c h1 h2 => hf67 c (Nat.zero_le _) (by omega)))
    have HC5 := Lib.hid ((HC5.out.alloc _).below hb7' (by omega))
    have HB7 : Hid (Below w.heap.size w w7) := Lib.hid ((HB6.out.alloc (by omega) _).trans (hb7'.mono (by omega)))
    have c50 := HC5.out.cell 0
    have c51 := HC5.out.cell 1
    have c52 := HC5.out.cell 2
    simp at c50 c51 c52
    clear hb7 hb7' HB6 c30 c31 c32 hf67
    go_wp2_with fail
    refine (HCALL.out _ HK1.out HK2.out (by omega) (by omega)).mono ?_
    rintro e w8 ⟨rfl, hb8⟩
    have HB8 := Lib.hid (HB7.out.trans (hb8.mono (by omega)))
    clear hb8 HB7
    go_wp2_with fail
    go_ret
    exact ⟨rfl, HB8.out⟩
  · have HNO : Hid (∀ d xs zs, ¬ RdSpline s.data.toList d xs zs) := Lib.hid fun d xs zs h => hv ⟨d, xs, zs, h⟩
    clear hv
    go_wp2_with fail
    refine (specReadSpline s hsz _).mono ?_
    rintro e w1 ⟨_, hn1, hb1⟩
    obtain rfl := hn1 HNO.out
    have HB1 := Lib.hid hb1
    have z1 := hb1.size
    have HC3 := Lib.hid (OwnC.new (w := w1) (cs := #[.int .i64 0, .slice none 0 0, .slice none 0 0]) (T := 39) rfl)
    clear hn1 hb1
    go_wp2_with fail
    refine (implReadSpline s hsz _ (HM.out.on (HB1.out.alloc z1 _)) (HE.out.on (HB1.out.alloc z1 _)) (HG.out.on (HB1.out.alloc z1 _)) (HT.out.on (HB1.out.alloc z1 _)) (HTB.out.on (HB1.out.alloc z1 _))).mono ?_
    rintro e w2 ⟨_, hn2, hb2⟩
    obtain rfl := hn2 HNO.out
    have hb2' : Below (w1.heap.size + 1) (w1.alloc (.cells #[.int .i64 0, .slice none 0 0, .slice none 0 0] 39)) w2 := by simpa using hb2
    have z2 : w1.heap.size + 1 ≤ w2.heap.size := by simpa using hb2'.size
    have HC3 := Lib.hid (HC3.out.below hb2' (by omega))
    have HC5 := Lib.hid (OwnC.new (w := w2) (cs := #[.int .i64 0, .slice none 0 0, .slice none 0 0]) (T := 39) rfl)
    have HB2 : Hid (Below w.heap.size w w2) := Lib.hid ((HB1.out.alloc z1 _).trans (hb2'.mono (by omega)))
    have c30 := HC3.out.cell 0
    have c31 := HC3.out.cell 1
    have c32 := HC3.out.cell 2
    simp at c30 c31 c32
    have n3 : w1.heap.size < w2.heap.size := z2
    clear hn2 hb2 hb2'
    go_wp2_with fail
    refine (eqSpn0 _).mono ?_
    rintro e w3 ⟨rfl, hb3⟩
    have hb3' : Below (w2.heap.size + 1) (w2.alloc (.cells #[.int .i64 0, .slice none 0 0, .slice none 0 0] 39)) w3 := by simpa using hb3
    have z3 : w2.heap.size + 1 ≤ w3.heap.size := by simpa using hb3'.size
    have HC3 := Lib.hid ((HC3.out.alloc _).below hb3' (by omega))
    have HC5 := Lib.hid (HC5.out.below hb3' (by omega))
    have HB3 : Hid (Below w.heap.size w w3) := Lib.hid ((HB2.out.alloc (by omega) _).trans (hb3'.mono (by omega)))
    have c50 := HC5.out.cell 0
    have c51 := HC5.out.cell 1
    have c52 := HC5.out.cell 2
    simp at c50 c51 c52
    clear hb3 hb3' HB2 c30 c31 c32
    go_wp2_with fail
    refine (markSpn0 _).mono ?_
    rintro e w4 ⟨rfl, hb4⟩
    have z4 := hb4.size
    have HC3 := Lib.hid (HC3.out.below hb4 (by omega))
    have HC5 := Lib.hid (HC5.out.below hb4 (by omega))
    have HB4 : Hid (Below w.heap.size w w4) := Lib.hid (HB3.out.trans (hb4.mono (by omega)))
    have c50 := HC5.out.cell 0
    have c51 := HC5.out.cell 1
    have c52 := HC5.out.cell 2
    simp at c50 c51 c52
    clear hb4 HB3
    go_wp2_with fail
    refine (heldSpn0 _).mono ?_
    rintro e w5 ⟨rfl, hb5⟩
    have z5 := hb5.size
    have HC3 := Lib.hid (HC3.out.below hb5 (by omega))
    have HC5 := Lib.hid (HC5.out.below hb5 (by omega))
    have HB5 : Hid (Below w.heap.size w w5) := Lib.hid (HB4.out.trans (hb5.mono (by omega)))
    clear hb5 HB4 c50 c51 c52
    go_wp2_with fail
    refine (implReadSpline s hsz _ (HM.out.on HB5.out) (HE.out.on HB5.out) (HG.out.on HB5.out) (HT.out.on HB5.out) (HTB.out.on HB5.out)).mono ?_
    rintro e w6 ⟨_, hn6, hb6⟩
    obtain rfl := hn6 HNO.out
    have z6 := hb6.size
    have HC3 := Lib.hid (HC3.out.below hb6 (by omega))
    have HC5 := Lib.hid (HC5.out.below hb6 (by omega))
    have HB6 : Hid (Below w.heap.size w w6) := Lib.hid (HB5.out.trans (hb6.mono (by omega)))
    have c30 := HC3.out.cell 0
    have c31 := HC3.out.cell 1
    have c32 := HC3.out.cell 2
    simp at c30 c31 c32
    have n3 : w1.heap.size < w6.heap.size := by omega
    clear hn6 hb6 HB5
    go_wp2_with fail
    refine (eqSpn0 _).mono ?_
    rintro e w7 ⟨rfl, hb7⟩
    have hb7' : Below (w6.heap.size + 1) (w6.alloc (.cells #[.int .i64 0, .slice none 0 0, .slice none 0 0] 39)) w7 := by simpa using hb7
    have z7 : w6.heap.size + 1 ≤ w7.heap.size := by simpa using hb7'.size
    have HC5 := Lib.hid ((HC5.out.alloc _).below hb7' (by omega))
    have HB7 : Hid (Below w.heap.size w w7) := Lib.hid ((HB6.out.alloc (by omega) _).trans (hb7'.mono (by omega)))
    have c50 := HC5.out.cell 0
    have c51 := HC5.out.cell 1
    have c52 := HC5.out.cell 2
    simp at c50 c51 c52
    clear hb7 hb7' HB6 c30 c31 c32
    go_wp2_with fail
    refine (heldSpn0 _).mono ?_
    rintro e w8 ⟨rfl, hb8⟩
    have HB8 := Lib.hid (HB7.out.trans (hb8.mono (by omega)))
    clear hb8 HB7
    go_wp2_with fail
    go_ret
    exact ⟨rfl, HB8.out⟩
end Go.Proofs.YtlpgaekkhlinhaaGreatDoor
