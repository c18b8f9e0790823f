/- The law FnExactReadSheet: what it returns. (Written by mkrhl.py.) -/
import Derived.Test.YtlpgaekkhlinhaaGreatDoorRhA
import Derived.Test.YtlpgaekkhlinhaaGreatDoorRhB
namespace Go.Fl
theorem RdSheet.valid {s : List UInt8} {a l : Int} {ps : List Sp} (h : RdSheet s a l ps) : okSh a l ps = true ∧ ∀ p, p ∈ ps → can .f32 p.1 = p.1 ∧ can .f32 p.2.1 = p.2.1 ∧ can .f32 p.2.2 = p.2.2 := by
  obtain ⟨p, q, xs, m, h1, h2, h3, h4, h5, h6⟩ := h
  exact ⟨h6, by rw [h5]; exact spotsOf_own h3.2.1 h4⟩
end Go.Fl
namespace Go.Proofs.YtlpgaekkhlinhaaGreatDoor
open Go.RowKit Go.Fl

theorem eqP0 (w : World) : Calls Tryz.prog 36 #[.slice none 0 0, .slice none 0 0] w fun e w' => e = .returned (.bool true) ∧ w' = w := by
  go_enter Tryz.func36, Tryz.ntmps36
  go_wp2_with fail
  refine wp_loop_rounds 1 ?_
  rw [rounds_succ]
  go_wp2_with fail
  go_ret
  exact ⟨rfl, rfl⟩
theorem markP0 (w : World) : Calls Tryz.prog 37 #[.slice none 0 0, .int .i64 1] w fun e w' => e = .returned (.int .i64 1) ∧ w' = w := by
  go_enter Tryz.func37, Tryz.ntmps37
  go_wp2_with fail
  refine wp_loop_rounds 1 ?_
  rw [rounds_succ]
  go_wp2_with fail
  go_ret
  exact ⟨rfl, rfl⟩
theorem heldP0 (w : World) : Calls Tryz.prog 38 #[.slice none 0 0, .int .i64 1] w fun e w' => e = .returned (.int .i64 1) ∧ w' = w := by
  go_enter Tryz.func38, Tryz.ntmps38
  go_wp2_with fail
  refine wp_loop_rounds 1 ?_
  rw [rounds_succ]
  go_wp2_with fail
  go_ret
  exact ⟨rfl, rfl⟩
set_option maxHeartbeats 1000000 in
theorem eqSht0 (w : World) : Calls Tryz.prog 13 #[.agg #[.int .i64 0, .int .i64 0, .slice none 0 0], .agg #[.int .i64 0, .int .i64 0, .slice none 0 0]] w fun e w' => e = .returned (.bool true) ∧ Below w.heap.size w w' := by
  go_enter Tryz.func13, Tryz.ntmps13
  go_wp2_with (go_at_call 36; refine (eqP0 _).mono ?_; rintro e w1 ⟨rfl, rfl⟩)
  go_ret
  exact ⟨rfl, by (repeat (first | exact Below.refl _ _ | assumption | refine below_dr ?_ _ | refine Below.alloc ?_ (by first | omega | (simp; done) | (simp; omega)) _ | refine Below.setCell ?_ (by first | omega | (simp; done) | (simp; omega)) _ | refine Below.trans ?_ (Below.mono (by assumption) (by first | omega | (simp; done) | (simp; omega)))))⟩
set_option maxHeartbeats 1000000 in
theorem markSht0 (w : World) : Calls Tryz.prog 14 #[.agg #[.int .i64 0, .int .i64 0, .slice none 0 0], .int .i64 1] w fun e w' => e = .returned (.int .i64 1) ∧ Below w.heap.size w w' := by
  go_enter Tryz.func14, Tryz.ntmps14
  go_wp2_with (go_at_call 37; refine (markP0 _).mono ?_; rintro e w1 ⟨rfl, rfl⟩)
  go_ret
  exact ⟨rfl, by (repeat (first | exact Below.refl _ _ | assumption | refine below_dr ?_ _ | refine Below.alloc ?_ (by first | omega | (simp; done) | (simp; omega)) _ | refine Below.setCell ?_ (by first | omega | (simp; done) | (simp; omega)) _ | refine Below.trans ?_ (Below.mono (by assumption) (by first | omega | (simp; done) | (simp; omega)))))⟩
set_option maxHeartbeats 1000000 in
theorem heldSht0 (w : World) : Calls Tryz.prog 15 #[.agg #[.int .i64 0, .int .i64 0, .slice none 0 0], .int .i64 1] w fun e w' => e = .returned (.int .i64 1) ∧ Below w.heap.size w w' := by
  go_enter Tryz.func15, Tryz.ntmps15
  go_wp2_with (go_at_call 38; refine (heldP0 _).mono ?_; rintro e w1 ⟨rfl, rfl⟩)
  go_ret
  exact ⟨rfl, by (repeat (first | exact Below.refl _ _ | assumption | refine below_dr ?_ _ | refine Below.alloc ?_ (by first | omega | (simp; done) | (simp; omega)) _ | refine Below.setCell ?_ (by first | omega | (simp; done) | (simp; omega)) _ | refine Below.trans ?_ (Below.mono (by assumption) (by first | omega | (simp; done) | (simp; omega)))))⟩

set_option maxHeartbeats 4000000 in
set_option maxRecDepth 100000 in
theorem lawRh (s : ByteArray) (w : World) (hm : Mx w) (he : Er w) (hg : Eg w) (ht : Tz w) (htb : Tab w) :
    Calls Tryz.prog 4 #[.string s] w fun e w' => e = .returned (.bool true) ∧ Below w.heap.size w w' := by
  have HM := Lib.hid hm
  have HE := Lib.hid he
  have HT := Lib.hid ht
  have HG := Lib.hid hg
  have HTB := Lib.hid htb
  clear hm he hg ht htb
  go_enter Tryz.func4, Tryz.ntmps4
  by_cases hsz : s.size ≤ 1048576
  rotate_left
  · have hsz1 : (1048576 : Int) < (s.size : Int) := by omega
    go_wp2_with fail
    go_ret
    exact ⟨rfl, Below.refl _ _⟩
  have hsz1 : ¬ (1048576 : Int) < (s.size : Int) := by omega
  by_cases hv : ∃ a l ps, RdSheet s.data.toList a l ps
  · obtain ⟨a, l, ps, hr⟩ := hv
    have HR := Lib.hid hr
    obtain ⟨hok5, hcn⟩ := hr.valid
    have hz8 : ps.length ≤ 36 := (okSh_parts hok5).2.1
    have HCN := Lib.hid hcn
    clear hr hok5 hcn
    go_wp2_with fail
    refine (specReadSheet s hsz _).mono ?_
    rintro e w1 ⟨hy1, _, hb1⟩
    obtain ⟨p1, cp1, rfl, hP1, hp1⟩ := hy1 a l ps HR.out
    have HP1 := Lib.hid hP1
    have lp1 := hP1.1.lt
    have HB1 := Lib.hid hb1
    have z1 := hb1.size
    have HC3 := Lib.hid (OwnC.new (w := w1) (cs := #[.int .i64 a, .int .i64 l, .slice (some ⟨p1, 0, none⟩) ps.length cp1]) (T := 33) rfl)
    clear hy1 hP1 hb1
    go_wp2_with fail
    refine (implReadSheet s hsz _ (HM.out.on (HB1.out.alloc z1 _)) (HE.out.on (HB1.out.alloc z1 _)) (HG.out.on (HB1.out.alloc z1 _)) (HT.out.on (HB1.out.alloc z1 _)) (HTB.out.on (HB1.out.alloc z1 _))).mono ?_
    rintro e w2 ⟨hy2, _, hb2⟩
    obtain ⟨q1, cq1, rfl, hQ1, hq1⟩ := hy2 a l ps HR.out
    have hb2' : Below (w1.heap.size + 1) (w1.alloc (.cells #[.int .i64 a, .int .i64 l, .slice (some ⟨p1, 0, none⟩) ps.length cp1] 33)) w2 := by simpa using hb2
    have z2 : w1.heap.size + 1 ≤ w2.heap.size := by simpa using hb2'.size
    have lq1 := hQ1.1.lt
    have hq1' : w1.heap.size + 1 ≤ q1 := by simpa using hq1
    have HQ1 := Lib.hid hQ1
    have hf12 : Far 0 w1.heap.size w1 w2 := ((Far.refl _ _ _).alloc (.cells #[.int .i64 a, .int .i64 l, .slice (some ⟨p1, 0, none⟩) ps.length cp1] 33) (Nat.le_refl _)).trans (Far.below hb2' (by omega))
    have HP1 := Lib.hid (HP1.out.far hf12 (Nat.zero_le _) lp1)
    have HC3 := Lib.hid (HC3.out.below hb2' (by omega))
    have HC5 := Lib.hid (OwnC.new (w := w2) (cs := #[.int .i64 a, .int .i64 l, .slice (some ⟨q1, 0, none⟩) ps.length cq1]) (T := 33) rfl)
    have HB2 : Hid (Below w.heap.size w w2) := Lib.hid ((HB1.out.alloc z1 _).trans (hb2'.mono (by omega)))
    have c30 := HC3.out.cell 0
    have c31 := HC3.out.cell 1
    have c32 := HC3.out.cell 2
    simp at c30 c31 c32
    have n3 : w1.heap.size < w2.heap.size := z2
    clear hy2 hb2 hb2' hQ1 hq1 hf12
    go_wp2_with fail
    refine (eqSht a l q1 cq1 p1 cp1 ps (by omega) HCN.out _ (HQ1.out.far ((Far.refl 0 w2.heap.size _).alloc _ (Nat.le_refl _)) (Nat.zero_le _) (by omega)) (HP1.out.far ((Far.refl 0 w2.heap.size _).alloc _ (Nat.le_refl _)) (Nat.zero_le _) (by omega))).mono ?_
    rintro e w3 ⟨rfl, hb3⟩
    have hb3' : Below (w2.heap.size + 1) (w2.alloc (.cells #[.int .i64 a, .int .i64 l, .slice (some ⟨q1, 0, none⟩) ps.length cq1] 33)) w3 := by simpa using hb3
    have z3 : w2.heap.size + 1 ≤ w3.heap.size := by simpa using hb3'.size
    have hf23 : Far 0 w2.heap.size w2 w3 := ((Far.refl _ _ _).alloc (.cells #[.int .i64 a, .int .i64 l, .slice (some ⟨q1, 0, none⟩) ps.length cq1] 33) (Nat.le_refl _)).trans (Far.below hb3' (by omega))
    have HP1 := Lib.hid (HP1.out.far hf23 (Nat.zero_le _) (by omega))
    have HQ1 := Lib.hid (HQ1.out.far hf23 (Nat.zero_le _) lq1)
    have HC3 := Lib.hid ((HC3.out.alloc _).below hb3' (by omega))
    have HC5 := Lib.hid (HC5.out.below hb3' (by omega))
    have HB3 : Hid (Below w.heap.size w w3) := Lib.hid ((HB2.out.alloc (by omega) _).trans (hb3'.mono (by omega)))
    have c50 := HC5.out.cell 0
    have c51 := HC5.out.cell 1
    have c52 := HC5.out.cell 2
    simp at c50 c51 c52
    clear hb3 hb3' HB2 c30 c31 c32 hf23
    go_wp2_with fail
    refine (markSht a l q1 ps.length cq1 1 (by omega) (by decide) (by decide) _ HQ1.out.1).mono ?_
    rintro e w4 ⟨rfl, hk1, ch4⟩
    have z4 := ch4.size
    have HK1 := Lib.hid hk1
    have hf34 : ∀ c, c ≠ q1 → c < w3.heap.size → Far c (c + 1) w3 w4 := fun c h1 h3 => ch4.far (by omega) (by intro x hx1 hx2 e; omega)
    have HP1 := Lib.hid (HP1.out.far (hf34 p1 (by omega) (by omega)) (Nat.le_refl _) (by omega))
    have HC3 := Lib.hid (ch4.own HC3.out (by omega))
    have HC5 := Lib.hid (ch4.own HC5.out (by omega))
    have HB4 : Hid (Below w.heap.size w w4) := Lib.hid (HB3.out.trans (ch4.toBelow (by omega) (by intro x hx; omega)))
    have c50 := HC5.out.cell 0
    have c51 := HC5.out.cell 1
    have c52 := HC5.out.cell 2
    simp at c50 c51 c52
    obtain ⟨kn, hkn⟩ : ∃ x : Int, x = 1 + (ps.length : Int) * 3 := ⟨_, rfl⟩
    have k2 : ¬ kn < 0 := by omega
    have HCALL := Lib.hid (fun (W : World) (h1 : SlM W q1 (q1 + 1) (some ⟨q1, 0, none⟩) ps.length 1) (h3 : q1 < W.heap.size) => heldSht a l q1 ps.length cq1 1 (by omega) (by decide) (by decide) W h1 h3)
    rw [← hkn] at HCALL ⊢
    clear hk1 ch4 HB3 hkn hf34
    go_wp2_with fail
    refine (HCALL.out _ HK1.out (by omega)).mono ?_
    rintro e w5 ⟨rfl, hb5⟩
    have z5 := hb5.size
    have HK1 := Lib.hid (HK1.out.far (Far.below hb5 (by omega)))
    have HP1 := Lib.hid (HP1.out.below hb5 (by omega))
    have HC3 := Lib.hid (HC3.out.below hb5 (by omega))
    have HC5 := Lib.hid (HC5.out.below hb5 (by omega))
    have HB5 : Hid (Below w.heap.size w w5) := Lib.hid (HB4.out.trans (hb5.mono (by omega)))
    clear hb5 HB4 c50 c51 c52
    go_wp2_with fail
    refine (implReadSheet s hsz _ (HM.out.on HB5.out) (HE.out.on HB5.out) (HG.out.on HB5.out) (HT.out.on HB5.out) (HTB.out.on HB5.out)).mono ?_
    rintro e w6 ⟨hy6, _, hb6⟩
    obtain ⟨r1, cr1, rfl, hR1, hr1⟩ := hy6 a l ps HR.out
    have z6 := hb6.size
    have lr1 := hR1.1.lt
    have HR1 := Lib.hid hR1
    have HK1 := Lib.hid (HK1.out.far (Far.below hb6 (by omega)))
    have HP1 := Lib.hid (HP1.out.below hb6 (by omega))
    have HC3 := Lib.hid (HC3.out.below hb6 (by omega))
    have HC5 := Lib.hid (HC5.out.below hb6 (by omega))
    have HC9 := Lib.hid (OwnC.new (w := w6) (cs := #[.int .i64 a, .int .i64 l, .slice (some ⟨r1, 0, none⟩) ps.length cr1]) (T := 33) rfl)
    have HB6 : Hid (Below w.heap.size w w6) := Lib.hid (HB5.out.trans (hb6.mono (by omega)))
    have c30 := HC3.out.cell 0
    have c31 := HC3.out.cell 1
    have c32 := HC3.out.cell 2
    simp at c30 c31 c32
    have n3 : w1.heap.size < w6.heap.size := by omega
    clear hy6 hb6 hR1 hr1 HB5
    go_wp2_with fail
    refine (eqSht a l r1 cr1 p1 cp1 ps (by omega) HCN.out _ (HR1.out.far ((Far.refl 0 w6.heap.size _).alloc _ (Nat.le_refl _)) (Nat.zero_le _) (by omega)) (HP1.out.far ((Far.refl 0 w6.heap.size _).alloc _ (Nat.le_refl _)) (Nat.zero_le _) (by omega))).mono ?_
    rintro e w7 ⟨rfl, hb7⟩
    have hb7' : Below (w6.heap.size + 1) (w6.alloc (.cells #[.int .i64 a, .int .i64 l, .slice (some ⟨r1, 0, none⟩) ps.length cr1] 33)) w7 := by simpa using hb7
    have z7 : w6.heap.size + 1 ≤ w7.heap.size := by simpa using hb7'.size
    have hf67 : Far 0 w6.heap.size w6 w7 := ((Far.refl _ _ _).alloc (.cells #[.int .i64 a, .int .i64 l, .slice (some ⟨r1, 0, none⟩) ps.length cr1] 33) (Nat.le_refl _)).trans (Far.below hb7' (by omega))
    have HK1 := Lib.hid (HK1.out.far (fun c h1 h2 => hf67 c (Nat.zero_le _) (by omega)))
    have HC5 := Lib.hid ((HC5.out.alloc _).below hb7' (by omega))
    have HB7 : Hid (Below w.heap.size w w7) := Lib.hid ((HB6.out.alloc (by omega) _).trans (hb7'.mono (by omega)))
    have c50 := HC5.out.cell 0
    have c51 := HC5.out.cell 1
    have c52 := HC5.out.cell 2
    simp at c50 c51 c52
    clear hb7 hb7' HB6 c30 c31 c32 hf67
    go_wp2_with fail
    refine (HCALL.out _ HK1.out (by omega)).mono ?_
    rintro e w8 ⟨rfl, hb8⟩
    have HB8 := Lib.hid (HB7.out.trans (hb8.mono (by omega)))
    clear hb8 HB7
    go_wp2_with fail
    go_ret
    exact ⟨rfl, HB8.out⟩
  · have HNO : Hid (∀ a l ps, ¬ RdSheet s.data.toList a l ps) := Lib.hid fun a l ps h => hv ⟨a, l, ps, h⟩
    clear hv
    go_wp2_with fail
    refine (specReadSheet s hsz _).mono ?_
    rintro e w1 ⟨_, hn1, hb1⟩
    obtain rfl := hn1 HNO.out
    have HB1 := Lib.hid hb1
    have z1 := hb1.size
    have HC3 := Lib.hid (OwnC.new (w := w1) (cs := #[.int .i64 0, .int .i64 0, .slice none 0 0]) (T := 33) rfl)
    clear hn1 hb1
    go_wp2_with fail
    refine (implReadSheet s hsz _ (HM.out.on (HB1.out.alloc z1 _)) (HE.out.on (HB1.out.alloc z1 _)) (HG.out.on (HB1.out.alloc z1 _)) (HT.out.on (HB1.out.alloc z1 _)) (HTB.out.on (HB1.out.alloc z1 _))).mono ?_
    rintro e w2 ⟨_, hn2, hb2⟩
    obtain rfl := hn2 HNO.out
    have hb2' : Below (w1.heap.size + 1) (w1.alloc (.cells #[.int .i64 0, .int .i64 0, .slice none 0 0] 33)) w2 := by simpa using hb2
    have z2 : w1.heap.size + 1 ≤ w2.heap.size := by simpa using hb2'.size
    have HC3 := Lib.hid (HC3.out.below hb2' (by omega))
    have HC5 := Lib.hid (OwnC.new (w := w2) (cs := #[.int .i64 0, .int .i64 0, .slice none 0 0]) (T := 33) rfl)
    have HB2 : Hid (Below w.heap.size w w2) := Lib.hid ((HB1.out.alloc z1 _).trans (hb2'.mono (by omega)))
    have c30 := HC3.out.cell 0
    have c31 := HC3.out.cell 1
    have c32 := HC3.out.cell 2
    simp at c30 c31 c32
    have n3 : w1.heap.size < w2.heap.size := z2
    clear hn2 hb2 hb2'
    go_wp2_with fail
    refine (eqSht0 _).mono ?_
    rintro e w3 ⟨rfl, hb3⟩
    have hb3' : Below (w2.heap.size + 1) (w2.alloc (.cells #[.int .i64 0, .int .i64 0, .slice none 0 0] 33)) w3 := by simpa using hb3
    have z3 : w2.heap.size + 1 ≤ w3.heap.size := by simpa using hb3'.size
    have HC3 := Lib.hid ((HC3.out.alloc _).below hb3' (by omega))
    have HC5 := Lib.hid (HC5.out.below hb3' (by omega))
    have HB3 : Hid (Below w.heap.size w w3) := Lib.hid ((HB2.out.alloc (by omega) _).trans (hb3'.mono (by omega)))
    have c50 := HC5.out.cell 0
    have c51 := HC5.out.cell 1
    have c52 := HC5.out.cell 2
    simp at c50 c51 c52
    clear hb3 hb3' HB2 c30 c31 c32
    go_wp2_with fail
    refine (markSht0 _).mono ?_
    rintro e w4 ⟨rfl, hb4⟩
    have z4 := hb4.size
    have HC3 := Lib.hid (HC3.out.below hb4 (by omega))
    have HC5 := Lib.hid (HC5.out.below hb4 (by omega))
    have HB4 : Hid (Below w.heap.size w w4) := Lib.hid (HB3.out.trans (hb4.mono (by omega)))
    have c50 := HC5.out.cell 0
    have c51 := HC5.out.cell 1
    have c52 := HC5.out.cell 2
    simp at c50 c51 c52
    clear hb4 HB3
    go_wp2_with fail
    refine (heldSht0 _).mono ?_
    rintro e w5 ⟨rfl, hb5⟩
    have z5 := hb5.size
    have HC3 := Lib.hid (HC3.out.below hb5 (by omega))
    have HC5 := Lib.hid (HC5.out.below hb5 (by omega))
    have HB5 : Hid (Below w.heap.size w w5) := Lib.hid (HB4.out.trans (hb5.mono (by omega)))
    clear hb5 HB4 c50 c51 c52
    go_wp2_with fail
    refine (implReadSheet s hsz _ (HM.out.on HB5.out) (HE.out.on HB5.out) (HG.out.on HB5.out) (HT.out.on HB5.out) (HTB.out.on HB5.out)).mono ?_
    rintro e w6 ⟨_, hn6, hb6⟩
    obtain rfl := hn6 HNO.out
    have z6 := hb6.size
    have HC3 := Lib.hid (HC3.out.below hb6 (by omega))
    have HC5 := Lib.hid (HC5.out.below hb6 (by omega))
    have HB6 : Hid (Below w.heap.size w w6) := Lib.hid (HB5.out.trans (hb6.mono (by omega)))
    have c30 := HC3.out.cell 0
    have c31 := HC3.out.cell 1
    have c32 := HC3.out.cell 2
    simp at c30 c31 c32
    have n3 : w1.heap.size < w6.heap.size := by omega
    clear hn6 hb6 HB5
    go_wp2_with fail
    refine (eqSht0 _).mono ?_
    rintro e w7 ⟨rfl, hb7⟩
    have hb7' : Below (w6.heap.size + 1) (w6.alloc (.cells #[.int .i64 0, .int .i64 0, .slice none 0 0] 33)) w7 := by simpa using hb7
    have z7 : w6.heap.size + 1 ≤ w7.heap.size := by simpa using hb7'.size
    have HC5 := Lib.hid ((HC5.out.alloc _).below hb7' (by omega))
    have HB7 : Hid (Below w.heap.size w w7) := Lib.hid ((HB6.out.alloc (by omega) _).trans (hb7'.mono (by omega)))
    have c50 := HC5.out.cell 0
    have c51 := HC5.out.cell 1
    have c52 := HC5.out.cell 2
    simp at c50 c51 c52
    clear hb7 hb7' HB6 c30 c31 c32
    go_wp2_with fail
    refine (heldSht0 _).mono ?_
    rintro e w8 ⟨rfl, hb8⟩
    have HB8 := Lib.hid (HB7.out.trans (hb8.mono (by omega)))
    clear hb8 HB7
    go_wp2_with fail
    go_ret
    exact ⟨rfl, HB8.out⟩
end Go.Proofs.YtlpgaekkhlinhaaGreatDoor
