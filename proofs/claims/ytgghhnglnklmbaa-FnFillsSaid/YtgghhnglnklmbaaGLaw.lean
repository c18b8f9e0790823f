/- The law FnFills: what it walks. (Written by mkglaw.py.) -/
import Derived.Test.YtgghhnglnklmbaaGFx
namespace Go.Fl
theorem lowK_reverse {kls : List (List Zp)} (h : lowK kls) : lowK (kls.map List.reverse) := fun i hi => by
  rw [List.length_map] at hi
  have e : kAt (kls.map List.reverse) i = (kAt kls i).reverse := by simp [kAt, hi]
  rw [e, List.length_reverse]
  refine ⟨(h i hi).1, fun j hj => ?_⟩
  have e2 : zAt (kAt kls i).reverse j = zAt (kAt kls i) ((kAt kls i).length - 1 - j) := by
    unfold zAt
    rw [List.getD_eq_getElem?_getD, List.getD_eq_getElem?_getD, List.getElem?_reverse hj]
  rw [e2]
  exact (h i hi).2 _ (by omega)
theorem areaA_small {kls : List (List Zp)} (h : lowK kls) (h2 : kls.length ≤ 2) : (areaA kls).natAbs < 2 ^ 53 := by
  have h1 := areaL_bound h kls.length (Nat.le_refl _)
  have : (2 : Nat) ^ 53 = 9007199254740992 := by decide
  unfold areaA
  omega
theorem wide_q {r : Nat} {k : Int} {e : Nat} (h : Q .f32 (can .f32 r) k e) (hk : k.natAbs < 2 ^ 53) (w : World) : Q .f64 (can .f64 (mcv .f32 .f64 r w)) k e := by
  rw [can_mcv .f32 .f64 r w (fits_widen r)]
  exact h.widen hk
theorem neg_q {r : Nat} {k : Int} {e : Nat} (h : Q .f64 (can .f64 r) k e) : Q .f64 (can .f64 (Op.negFloat .f64 r)) (-k) e := by
  rw [can_neg]
  unfold fnegK
  rw [h.neg.canK]
  exact h.neg
theorem half_run {x : Nat} (hx : x ≤ 64) : ∃ z, Q .f32 (can .f32 z) (32 * (x : Int) + 16) 5 ∧ (∀ w, mop .add .f32 (floatOfInt .f32 (x : Int)) 1056964608 w = z) ∧ mdr .add .f32 (floatOfInt .f32 (x : Int)) 1056964608 = 0 := by
  have q1 := (Q.ofInt .f32 (x : Int) (lt24 (by omega))).shift 5 (by decide)
  have q2 : Q .f32 1056964608 16 5 := ⟨by decide +kernel, by decide +kernel, by decide⟩
  rw [Nat.zero_add] at q1
  have e : (x : Int) * 2 ^ 5 = 32 * (x : Int) := by omega
  rw [e] at q1
  obtain ⟨z, h1, h2, h3⟩ := q1.add_run q2 (lt24 (by omega))
  exact ⟨z, h1.canQ, h2, h3⟩
theorem four_read : FloatKind.f32.format.read 1082130432 = .number false (2 ^ FB .f32) (((2 : Nat) : Int) - FB .f32) := by decide
theorem can_four : can .f32 1082130432 = 1082130432 := by decide +kernel
theorem quarter_q {m : Int} (hm : m.natAbs ≤ 64) {b : Nat} {c : Int} (hb : Q .f32 b c 5) (hc : c.natAbs ≤ 32) (w1 w2 : World) : Q .f32 (can .f32 (mop .add .f32 (mop .quo .f32 (floatOfInt .f32 m) 1082130432 w1) b w2)) (8 * m + c) 5 := by
  rw [can_mop, can_mop, can_four]
  have q1 := (Q.ofInt .f32 m (lt24 (by omega))).canQ
  have q2 := (Q.half (e := 0) q1 four_read (lt24 (by omega)) (by decide)).shift 3 (by decide)
  have e1 : m * 2 ^ 3 = 8 * m := by omega
  rw [e1] at q2
  exact q2.add hb.canQ (lt24 (by omega))
theorem run_of {op : BinOp} {K : FloatKind} {x y : Nat} {k : Int} {e : Nat} (h : Q K (fop op K x y) k e) : ∃ z, floatBits op K x y = some z ∧ (∀ w, mop op K x y w = z) ∧ mdr op K x y = 0 ∧ Q K z k e := by
  unfold fop at h
  cases hb : floatBits op K x y with
  | some r =>
    rw [hb] at h
    exact ⟨r, rfl, fun w => by unfold mop; rw [hb], by unfold mdr; rw [hb]; rfl, h⟩
  | none =>
    rw [hb] at h
    have hn := h.num
    exfalso
    revert hn
    cases K <;> decide +kernel
theorem quarter_run {m : Int} (hm : m.natAbs ≤ 64) {b : Nat} {c : Int} (hb : Q .f32 b c 5) (hc : c.natAbs ≤ 32) : ∃ q z, (∀ w, mop .quo .f32 (floatOfInt .f32 m) 1082130432 w = q) ∧ mdr .quo .f32 (floatOfInt .f32 m) 1082130432 = 0 ∧ (∀ w, mop .add .f32 q b w = z) ∧ mdr .add .f32 q b = 0 ∧ Q .f32 z (8 * m + c) 5 := by
  have q1 := Q.ofInt .f32 m (lt24 (by omega))
  have q2 := Q.half (e := 0) q1 four_read (lt24 (by omega)) (by decide)
  obtain ⟨q, _, h1, h2, h3⟩ := run_of q2
  have q3 := h3.shift 3 (by decide)
  have e1 : m * 2 ^ 3 = 8 * m := by omega
  rw [e1] at q3
  obtain ⟨z, _, h4, h5, h6⟩ := run_of (Q.add q3 hb (lt24 (by omega)))
  exact ⟨q, z, h1, h2, h4, h5, h6⟩
theorem windA_move (kls : List (List Zp)) (z d : Zp) : windA (kls.map fun ks => ks.map (addZ · d)) (addZ z d) = windA kls z := by
  have h : ∀ k, k ≤ kls.length → windL (kls.map fun ks => ks.map (addZ · d)) (addZ z d) k = windL kls z k := by
    intro k
    induction k with
    | zero => intro _; rfl
    | succ k ih =>
      intro hk
      show windL _ _ k + windZ _ _ = windL _ _ k + windZ _ _
      rw [ih (by omega), kAt_map (by omega), windZ_move]
  unfold windA
  rw [List.length_map]
  exact h _ (Nat.le_refl _)
theorem int_q {m : Int} (hm : m.natAbs ≤ 64) : Q .f32 (can .f32 (floatOfInt .f32 m)) (32 * m) 5 := by
  have q1 := ((Q.ofInt .f32 m (lt24 (by omega))).shift 5 (by decide)).canQ
  have e1 : m * 2 ^ 5 = 32 * m := by omega
  rw [e1] at q1
  exact q1
theorem int_q' {m : Int} (hm : m.natAbs ≤ 64) : Q .f32 (floatOfInt .f32 m) (32 * m) 5 := by
  have q1 := (Q.ofInt .f32 m (lt24 (by omega))).shift 5 (by decide)
  have e1 : m * 2 ^ 5 = 32 * m := by omega
  rw [e1] at q1
  exact q1
theorem gap_small {r : Nat} (h : Q .f64 (can .f64 r) 0 11) : (FloatKind.f64.format.order r 4576918229304087675 == some .gt) = false := by
  have h0 : Q .f64 (can .f64 r) 0 59 := by have := h.shift 48 (by decide); rwa [Int.zero_mul] at this
  have h1 : Q .f64 4576918229304087675 5764607523034235 59 := ⟨by decide +kernel, by decide +kernel, by decide⟩
  rw [← h1.canK, ← order_can, can_can, h0.order (h1.canK.symm ▸ h1)]
  rfl
end Go.Fl
namespace Go.Proofs.Ytgghhnglnklmbaa
open Go.RowKit Go.Fl

theorem meas_down {k N : Nat} (h : (k : Int) < (N : Int)) : N - (intOf (.int .i64 ((k : Int) + 1))).toNat < N - (intOf (.int .i64 (k : Int))).toNat := by
  show N - ((k : Int) + 1).toNat < N - ((k : Int)).toNat
  omega

set_option maxHeartbeats 16000000 in
set_option maxRecDepth 100000 in
theorem lawF (a1 a2 : Option Addr) (n1 n2 ca1 ca2 : Nat) (w : World) (h1 : CodeAt w w.heap.size a1 n1) (h2 : CodeAt w w.heap.size a2 n2) :
    Calls Try.prog 3 #[.slice a1 n1 ca1, .slice a2 n2 ca2] w fun e w' => e = .returned (.bool true) ∧ Below w.heap.size w w' := by
  have H1 := Lib.hid h1
  have H2 := Lib.hid h2
  clear h1 h2
  go_enter Try.func3, Try.ntmps3
  by_cases hsz : n1 ≤ 1048576 ∧ n2 ≤ 1048576
  · obtain ⟨hn1, hn2⟩ := hsz
    go_wp2_with fail
    refine (b10LongNo a1 a2 n1 n2 ca1 ca2 hn1 hn2 w).mono ?_
    rintro e w0 ⟨rfl, rfl⟩
    go_wp2_with fail
    refine (b10Outline a1 n1 ca1 hn1 w0 H1.out).mono ?_
    rintro e w1 ⟨⟨nm, ls, ao, co, rfl, hl2, kls, hol, hlow⟩, hb1⟩
    have HOL1 := Lib.hid hol
    have HLOW := Lib.hid hlow
    have HB1 := Lib.hid hb1
    have HC1 := Lib.hid (H2.out.far (Far.below hb1 (Nat.le_refl _)))
    have HZ1 := Lib.hid hb1.size
    clear hol hlow hb1
    go_wp2_with fail
    obtain ⟨P, hP⟩ : ∃ P, P = w1.heap.size := ⟨_, rfl⟩
    obtain ⟨w2, hw2⟩ : ∃ x : World, x = w1.alloc (.cells #[.string nm, .slice ao ls.length co] 26) := ⟨_, rfl⟩
    have HZ2 := Lib.hid (show w2.heap.size = P + 1 by rw [hw2, hP]; simp)
    have HPW := Lib.hid (show w0.heap.size ≤ P by rw [hP]; exact HZ1.out)
    have HP2 := Lib.hid (show OwnC w2 P #[.string nm, .slice ao ls.length co] 26 by rw [hw2, hP]; exact OwnC.new rfl)
    have HOL2 := Lib.hid (show OL w2 w0.heap.size P ao nm ls kls by rw [hw2, hP]; exact HOL1.out.alloc _)
    have HC2 := Lib.hid (show CodeAt w2 w0.heap.size a2 n2 by rw [hw2]; exact HC1.out.far ((Far.refl _ _ _).alloc _ HZ1.out))
    have HB2 := Lib.hid (show Below w0.heap.size w0 w2 by rw [hw2]; exact HB1.out.alloc HZ1.out _)
    rw [← hP, ← hw2]
    clear hP hw2 HOL1 HC1 HB1 HZ1
    refine (b10At w0.heap.size a2 n2 ca2 0 6 hn2 (by decide) (by decide) (by decide) w2 HC2.out).mono ?_
    rintro e wx ⟨⟨r0, rfl, hr0⟩, rfl⟩
    obtain ⟨S, hS⟩ : ∃ S, S = 1 + r0 := ⟨_, rfl⟩
    have q0 : (1 : Int) + (r0 : Int) = (S : Int) := by omega
    have hS1 : 1 ≤ S := by omega
    have hS6 : S ≤ 6 := by omega
    clear hS
    go_wp2_with fail
    refine (b10At w0.heap.size a2 n2 ca2 1 2 hn2 (by decide) (by decide) (by decide) wx HC2.out).mono ?_
    rintro e w2 ⟨⟨r1, rfl, hr1⟩, rfl⟩
    have c0 := HP2.out.cell 0
    have c1 := HP2.out.cell 1
    simp at c0 c1
    go_wp2_with fail
    obtain ⟨ev, hev⟩ : ∃ b, b = ((r1 : Int) == 0) := ⟨_, rfl⟩
    rw [← hev]
    clear hev hr1
    refine (fillGrid w0.heap.size P ao co nm ls kls S hS1 (by omega) ev w2 HOL2.out).mono ?_
    rintro e w3 ⟨⟨b3, cap3, rfl, hr3, hb3⟩, hbl3⟩
    obtain ⟨N, hN⟩ : ∃ N, N = S * S := ⟨_, rfl⟩
    have hN36 : N ≤ 36 := by rw [hN]; exact Nat.mul_le_mul hS6 hS6
    rw [← hN] at hr3 ⊢
    have q1 : (S : Int) * (S : Int) = (N : Int) := by rw [hN]; simp
    have HN := Lib.hid hN
    have HR3 := Lib.hid hr3
    have HBL3 := Lib.hid hbl3
    have HZ3 := Lib.hid hbl3.size
    have hz2 := HZ2.out
    have HLB3 := Lib.hid hb3
    have HP3 := Lib.hid (HP2.out.below hbl3 (by omega))
    have HOL3 := Lib.hid (HOL2.out.below hbl3 HOL2.out.top)
    have HC3 := Lib.hid (HC2.out.far (Far.below hbl3 (by have := HPW.out; omega)))
    have HB3 := Lib.hid (HB2.out.trans (hbl3.mono (by have := HPW.out; omega)))
    clear hN hr3 hbl3 hz2 hb3 c0 c1
    have c0 := HP3.out.cell 0
    have c1 := HP3.out.cell 1
    simp at c0 c1
    go_wp2_with fail
    have hS0 : (fun w' : World => w'.cell? ⟨P, 0, none⟩ = some (.string nm) ∧ w'.cell? ⟨P, 1, none⟩ = some (.slice ao ls.length co)) w3.drew := ⟨c0, c1⟩
    refine wp_region_held_drew (S := (fun w' : World => w'.cell? ⟨P, 0, none⟩ = some (.string nm) ∧ w'.cell? ⟨P, 1, none⟩ = some (.slice ao ls.length co))) (by kernel_rfl) hS0 (fun _ => ?_)
    refine wpAnyH_take (i := 0) (v := ?v0) rfl (by kernel_rfl) (by kernel_rfl) (by kernel_rfl) (fun _ _ _ h => h) (Or.inl ⟨by rfl, ?y0⟩) hS0 ?r0
    case y0 => (intro w hSw; obtain ⟨hSx, hSy⟩ := hSw; go_simp <;> with_reducible rfl)
    try simp only [Act.put, List.setIfInBounds_toArray, List.set_cons_zero, List.set_cons_succ]
    refine wpAnyH_take (i := 1) (v := ?v1) rfl (by kernel_rfl) (by kernel_rfl) (by kernel_rfl) (fun _ _ _ h => h) (Or.inl ⟨by rfl, ?y1⟩) hS0 ?r1
    case y1 => (intro w hSw; obtain ⟨hSx, hSy⟩ := hSw; go_simp <;> with_reducible rfl)
    try simp only [Act.put, List.setIfInBounds_toArray, List.set_cons_zero, List.set_cons_succ]
    refine wpAnyH_take (i := 2) (v := ?v2) rfl (by kernel_rfl) (by kernel_rfl) (by kernel_rfl) (fun _ _ _ h => h) (Or.inl ⟨by rfl, ?y2⟩) hS0 ?r2
    case y2 => (intro w hSw; obtain ⟨hSx, hSy⟩ := hSw; go_simp <;> with_reducible rfl)
    try simp only [Act.put, List.setIfInBounds_toArray, List.set_cons_zero, List.set_cons_succ]
    refine wpAnyH_take (i := 3) (v := ?v3) rfl (by kernel_rfl) (by kernel_rfl) (by kernel_rfl) (fun _ _ _ h => h) (Or.inl ⟨by rfl, ?y3⟩) hS0 ?r3
    case y3 => (intro w hSw; obtain ⟨hSx, hSy⟩ := hSw; go_simp <;> with_reducible rfl)
    try simp only [Act.put, List.setIfInBounds_toArray, List.set_cons_zero, List.set_cons_succ]
    refine wpAnyH_ready (rs := [4]) (by kernel_rfl) (by simp) ?_
    refine AllReadyH.cons rfl (fun K hK => ?_) AllReadyH.nil
    go_simp
    refine (b10At w0.heap.size a2 n2 ca2 2 8 hn2 (by decide) (by decide) (by decide) w3.drew (HC3.out.far ((Far.refl _ _ _).drewN 1))).mono ?_
    rintro e wx ⟨⟨r2, rfl, hr2⟩, rfl⟩
    obtain ⟨U, hU⟩ : ∃ U, U = 1 + r2 := ⟨_, rfl⟩
    have q2 : (1 : Int) + (r2 : Int) = (U : Int) := by omega
    have hU1 : (1 : Int) ≤ (U : Int) := by omega
    have hU8 : (U : Int) ≤ 8 := by omega
    have HWU := Lib.hid (show IntKind.i64.wrap (U : Int) = (U : Int) by rw [IntKind.wrap_i64]; omega)
    clear hU
    refine hK.out _ _ hS0 (fun _ => ?_)
    clear hK K
    try simp only [Act.put, List.setIfInBounds_toArray, List.set_cons_zero, List.set_cons_succ]
    refine wpAnyH_take (i := 5) (v := ?v5) rfl (by kernel_rfl) (by kernel_rfl) (by kernel_rfl) (fun _ _ _ h => h) (Or.inl ⟨by rfl, ?y5⟩) hS0 ?r5
    case y5 => (intro w hSw; obtain ⟨hSx, hSy⟩ := hSw; go_simp <;> with_reducible rfl)
    try simp only [Act.put, List.setIfInBounds_toArray, List.set_cons_zero, List.set_cons_succ]
    refine wpAnyH_ready (rs := [6]) (by kernel_rfl) (by simp) ?_
    refine AllReadyH.cons rfl (fun K hK => ?_) AllReadyH.nil
    go_simp
    rw [HWU.out]
    refine (fillShared w0.heap.size P ao co nm ls kls S hS1 (by omega) ev (U : Int) hU1 hU8 w3.drew (HOL3.out.drewN 1)).mono ?_
    rintro e w4 ⟨⟨b4, cap4, rfl, hr4, hb4⟩, hbl4'⟩
    have hbl4 : Below w3.heap.size w3 w4 := (below_dr (Below.refl _ w3) 1).trans hbl4'
    rw [← HN.out] at hr4 ⊢
    have HR4 := Lib.hid hr4
    have HBL4 := Lib.hid hbl4
    have hz3 := HZ3.out
    have hz2 := HZ2.out
    have HZ4 := Lib.hid hbl4.size
    have HLB4 := Lib.hid (show w3.heap.size ≤ b4 from hb4)
    have HP4 := Lib.hid (HP3.out.below hbl4 (by omega))
    have HOL4 := Lib.hid (HOL3.out.below hbl4 HOL3.out.top)
    have HC4 := Lib.hid (HC3.out.far (Far.below hbl4 (by have := HPW.out; omega)))
    have HB4 := Lib.hid (HB3.out.trans (hbl4.mono (by have := HPW.out; omega)))
    have HR34 := Lib.hid (HR3.out.below hbl4 HR3.out.lt)
    have d0 := HP4.out.cell 0
    have d1 := HP4.out.cell 1
    simp at d0 d1
    have hSw : (fun w' : World => w'.cell? ⟨P, 0, none⟩ = some (.string nm) ∧ w'.cell? ⟨P, 1, none⟩ = some (.slice ao ls.length co)) w4 := ⟨d0, d1⟩
    clear hr4 hbl4 hbl4' hz2 hz3 hb4 c0 c1
    refine hK.out _ _ hSw (fun _ => ?_)
    clear hK K
    try simp only [Act.put, List.setIfInBounds_toArray, List.set_cons_zero, List.set_cons_succ]
    refine wpAnyH_take (i := 7) (v := ?v7) rfl (by kernel_rfl) (by kernel_rfl) (by kernel_rfl) (fun _ _ _ h => h) (Or.inl ⟨by rfl, ?y7⟩) hSw ?r7
    case y7 => (intro w hSw; obtain ⟨hSx, hSy⟩ := hSw; go_simp <;> with_reducible rfl)
    try simp only [Act.put, List.setIfInBounds_toArray, List.set_cons_zero, List.set_cons_succ]
    refine wpAnyH_take (i := 8) (v := ?v8) rfl (by kernel_rfl) (by kernel_rfl) (by kernel_rfl) (fun _ _ _ h => h) (Or.inl ⟨by rfl, ?y8⟩) hSw ?r8
    case y8 => (intro w hSw; obtain ⟨hSx, hSy⟩ := hSw; go_simp <;> with_reducible rfl)
    try simp only [Act.put, List.setIfInBounds_toArray, List.set_cons_zero, List.set_cons_succ]
    refine wpAnyH_take (i := 9) (v := ?v9) rfl (by kernel_rfl) (by kernel_rfl) (by kernel_rfl) (fun _ _ _ h => h) (Or.inl ⟨by rfl, ?y9⟩) hSw ?r9
    case y9 => (intro w hSw; obtain ⟨hSx, hSy⟩ := hSw; go_simp <;> with_reducible rfl)
    try simp only [Act.put, List.setIfInBounds_toArray, List.set_cons_zero, List.set_cons_succ]
    refine wpAnyH_take (i := 10) (v := ?v10) rfl (by kernel_rfl) (by kernel_rfl) (by kernel_rfl) (fun _ _ _ h => h) (Or.inl ⟨by rfl, ?y10⟩) hSw ?r10
    case y10 => (intro w hSw; obtain ⟨hSx, hSy⟩ := hSw; go_simp <;> with_reducible rfl)
    try simp only [Act.put, List.setIfInBounds_toArray, List.set_cons_zero, List.set_cons_succ]
    refine wpAnyH_take (i := 11) (v := ?v11) rfl (by kernel_rfl) (by kernel_rfl) (by kernel_rfl) (fun _ _ _ h => h) (Or.inl ⟨by rfl, ?y11⟩) hSw ?r11
    case y11 => (intro w hSw; obtain ⟨hSx, hSy⟩ := hSw; go_simp <;> with_reducible rfl)
    try simp only [Act.put, List.setIfInBounds_toArray, List.set_cons_zero, List.set_cons_succ]
    refine wpAnyH_done (by kernel_rfl) ?_ _
    have z4 : P + 1 ≤ w4.heap.size := by have h1 := HZ2.out; have h2 := HZ3.out; have h3 := HZ4.out; omega
    have hb4 : P + 1 ≤ b4 := by have h1 := HZ2.out; have h2 := HZ3.out; have h3 := HLB4.out; omega
    have hb3 : P + 1 ≤ b3 := by have h1 := HZ2.out; have h3 := HLB3.out; omega
    clear hSw hS0 HP2 HOL2 HC2 HB2 HP3 HOL3 HC3 HB3 HR3 HBL3 HBL4 HZ2 HZ3 HZ4 HLB3 HLB4 HWU
    go_wp2_with fail
    refine (coverGrid w0.heap.size P ao co nm ls kls S hS1 (by omega) ev w4 HOL4.out).mono ?_
    rintro e w5 ⟨⟨b5, cap5, rfl, cs, hcl, hcv, hr5, hb5⟩, hbl⟩
    rw [← HN.out] at hr5 hcl ⊢
    have HR5 := Lib.hid hr5
    have HCL := Lib.hid hcl
    have HCV := Lib.hid hcv
    have z5 : P + 1 ≤ w5.heap.size := by have := hbl.size; omega
    have HP5 := Lib.hid (HP4.out.below hbl (by omega))
    have HOL5 := Lib.hid (HOL4.out.below hbl HOL4.out.top)
    have HC5 := Lib.hid (HC4.out.far (Far.below hbl (by have := HPW.out; omega)))
    have HB5 := Lib.hid (HB4.out.trans (hbl.mono (by have := HPW.out; omega)))
    replace HR34 := Lib.hid (HR34.out.below hbl HR34.out.lt)
    replace HR4 := Lib.hid (HR4.out.below hbl HR4.out.lt)
    clear hbl HP4 HOL4 HC4 HB4 d0 d1
    have d0 := HP5.out.cell 0
    have d1 := HP5.out.cell 1
    simp at d0 d1
    have hb5' : P + 1 ≤ b5 := by omega
    clear hr5 hcl hcv hb5
    go_wp2_with fail
    refine (backLoops w0.heap.size P ao co nm ls kls w5 HOL5.out).mono ?_
    rintro e w6 ⟨⟨aob, cob, rfl, lsb, hlb, holb⟩, hbl⟩
    have HLB := Lib.hid hlb
    have HOB6 := Lib.hid holb
    have z6 : P + 1 ≤ w6.heap.size := by have := hbl.size; omega
    have HP6 := Lib.hid (HP5.out.below hbl (by omega))
    have HOL6 := Lib.hid (HOL5.out.below hbl HOL5.out.top)
    have HC6 := Lib.hid (HC5.out.far (Far.below hbl (by have := HPW.out; omega)))
    have HB6 := Lib.hid (HB5.out.trans (hbl.mono (by have := HPW.out; omega)))
    replace HR34 := Lib.hid (HR34.out.below hbl HR34.out.lt)
    replace HR4 := Lib.hid (HR4.out.below hbl HR4.out.lt)
    replace HR5 := Lib.hid (HR5.out.below hbl HR5.out.lt)
    clear hbl HP5 HOL5 HC5 HB5 d0 d1
    have d0 := HP6.out.cell 0
    have d1 := HP6.out.cell 1
    simp at d0 d1
    clear hlb holb
    go_wp2_with fail
    obtain ⟨PB, hPB⟩ : ∃ PB, PB = w6.heap.size := ⟨_, rfl⟩
    obtain ⟨w7, hw7⟩ : ∃ x : World, x = w6.alloc (.cells #[.string nm, .slice aob ls.length cob] 26) := ⟨_, rfl⟩
    have hbl : Below w6.heap.size w6 w7 := by rw [hw7]; exact Below.alloc (Below.refl _ _) (Nat.le_refl _) _
    have HQ7 := Lib.hid (show OwnC w7 PB #[.string nm, .slice aob ls.length cob] 26 by rw [hw7, hPB]; exact OwnC.new rfl)
    have HOB7 := Lib.hid (show OL w7 w5.heap.size PB aob nm lsb (kls.map List.reverse) by rw [hPB]; exact HOB6.out.below hbl (Nat.le_refl _))
    have zb7 : PB + 1 ≤ w7.heap.size := by rw [hw7, hPB]; simp
    rw [← hPB, ← hw7]
    have z7 : P + 1 ≤ w7.heap.size := by have := hbl.size; omega
    have HP7 := Lib.hid (HP6.out.below hbl (by omega))
    have HOL7 := Lib.hid (HOL6.out.below hbl HOL6.out.top)
    have HC7 := Lib.hid (HC6.out.far (Far.below hbl (by have := HPW.out; omega)))
    have HB7 := Lib.hid (HB6.out.trans (hbl.mono (by have := HPW.out; omega)))
    replace HR34 := Lib.hid (HR34.out.below hbl HR34.out.lt)
    replace HR4 := Lib.hid (HR4.out.below hbl HR4.out.lt)
    replace HR5 := Lib.hid (HR5.out.below hbl HR5.out.lt)
    clear hbl HP6 HOL6 HC6 HB6 d0 d1
    have d0 := HP7.out.cell 0
    have d1 := HP7.out.cell 1
    simp at d0 d1
    clear HOB6 hPB hw7
    have hfg := fillGrid w5.heap.size PB aob cob nm lsb (kls.map List.reverse) S hS1 (by omega) ev w7 HOB7.out
    rw [HLB.out] at hfg
    have HFG := Lib.hid hfg
    clear hfg
    refine HFG.out.mono ?_
    rintro e w8 ⟨⟨b8, cap8, rfl, _, _⟩, hbl⟩
    rw [← HN.out]
    clear HFG
    have zb8 : PB + 1 ≤ w8.heap.size := by have := hbl.size; omega
    have HQ8 := Lib.hid (HQ7.out.below hbl (by omega))
    have HOB8 := Lib.hid (HOB7.out.below hbl HOB7.out.top)
    have z8 : P + 1 ≤ w8.heap.size := by have := hbl.size; omega
    have HP8 := Lib.hid (HP7.out.below hbl (by omega))
    have HOL8 := Lib.hid (HOL7.out.below hbl HOL7.out.top)
    have HC8 := Lib.hid (HC7.out.far (Far.below hbl (by have := HPW.out; omega)))
    have HB8 := Lib.hid (HB7.out.trans (hbl.mono (by have := HPW.out; omega)))
    replace HR34 := Lib.hid (HR34.out.below hbl HR34.out.lt)
    replace HR4 := Lib.hid (HR4.out.below hbl HR4.out.lt)
    replace HR5 := Lib.hid (HR5.out.below hbl HR5.out.lt)
    clear hbl HP7 HOL7 HC7 HB7 d0 d1
    have d0 := HP8.out.cell 0
    have d1 := HP8.out.cell 1
    simp at d0 d1
    clear HQ7 HOB7
    go_wp2_with fail
    refine (outlineArea w0.heap.size P ao co nm ls kls w8 HOL8.out HLOW.out).mono ?_
    rintro e w9 ⟨⟨r9, rfl, hq9⟩, hbl⟩
    have HA9 := Lib.hid hq9
    have zb9 : PB + 1 ≤ w9.heap.size := by have := hbl.size; omega
    have HQ9 := Lib.hid (HQ8.out.below hbl (by omega))
    have HOB9 := Lib.hid (HOB8.out.below hbl HOB8.out.top)
    have z9 : P + 1 ≤ w9.heap.size := by have := hbl.size; omega
    have HP9 := Lib.hid (HP8.out.below hbl (by omega))
    have HOL9 := Lib.hid (HOL8.out.below hbl HOL8.out.top)
    have HC9 := Lib.hid (HC8.out.far (Far.below hbl (by have := HPW.out; omega)))
    have HB9 := Lib.hid (HB8.out.trans (hbl.mono (by have := HPW.out; omega)))
    replace HR34 := Lib.hid (HR34.out.below hbl HR34.out.lt)
    replace HR4 := Lib.hid (HR4.out.below hbl HR4.out.lt)
    replace HR5 := Lib.hid (HR5.out.below hbl HR5.out.lt)
    clear hbl HP8 HOL8 HC8 HB8 d0 d1
    have d0 := HP9.out.cell 0
    have d1 := HP9.out.cell 1
    simp at d0 d1
    clear HQ8 HOB8 hq9
    have e0 := HQ9.out.cell 0
    have e1 := HQ9.out.cell 1
    simp at e0 e1
    go_wp2_with fail
    have hoa := outlineArea w5.heap.size PB aob cob nm lsb (kls.map List.reverse) w9 HOB9.out (lowK_reverse HLOW.out)
    rw [HLB.out, areaA_reverse] at hoa
    have HOA := Lib.hid hoa
    clear hoa
    refine HOA.out.mono ?_
    rintro e w10 ⟨⟨r10, rfl, hq10⟩, hbl⟩
    have HA10 := Lib.hid hq10
    clear HOA hq10 e0 e1 HQ9 HOB9 zb9 zb8 zb7
    have z10 : P + 1 ≤ w10.heap.size := by have := hbl.size; omega
    have HP10 := Lib.hid (HP9.out.below hbl (by omega))
    have HOL10 := Lib.hid (HOL9.out.below hbl HOL9.out.top)
    have HC10 := Lib.hid (HC9.out.far (Far.below hbl (by have := HPW.out; omega)))
    have HB10 := Lib.hid (HB9.out.trans (hbl.mono (by have := HPW.out; omega)))
    replace HR34 := Lib.hid (HR34.out.below hbl HR34.out.lt)
    replace HR4 := Lib.hid (HR4.out.below hbl HR4.out.lt)
    replace HR5 := Lib.hid (HR5.out.below hbl HR5.out.lt)
    clear hbl HP9 HOL9 HC9 HB9 d0 d1
    have d0 := HP10.out.cell 0
    have d1 := HP10.out.cell 1
    simp at d0 d1
    have HVO := Lib.hid (validOutline w0.heap.size P ao co nm ls HOL10.out.short.1 (by have := HOL10.out.short.2.1; omega) HOL10.out.short.2.2.2 w10 HOL10.out.sl HOL10.out.top)
    have HOK := Lib.hid (decide_eq_true HOL10.out.ok)
    rw [HOK.out] at HVO
    go_wp2_with fail
    refine HVO.out.mono ?_
    rintro e w11 ⟨rfl, hbl⟩
    clear HVO HOK
    have z11 : P + 1 ≤ w11.heap.size := by have := hbl.size; omega
    have HP11 := Lib.hid (HP10.out.below hbl (by omega))
    have HOL11 := Lib.hid (HOL10.out.below hbl HOL10.out.top)
    have HC11 := Lib.hid (HC10.out.far (Far.below hbl (by have := HPW.out; omega)))
    have HB11 := Lib.hid (HB10.out.trans (hbl.mono (by have := HPW.out; omega)))
    replace HR34 := Lib.hid (HR34.out.below hbl HR34.out.lt)
    replace HR4 := Lib.hid (HR4.out.below hbl HR4.out.lt)
    replace HR5 := Lib.hid (HR5.out.below hbl HR5.out.lt)
    clear hbl HP10 HOL10 HC10 HB10 d0 d1
    have d0 := HP11.out.cell 0
    have d1 := HP11.out.cell 1
    simp at d0 d1
    have q3 : (N : Int) ≤ 36 := by omega
    have hbd := areaA_small HLOW.out (by rw [HOL11.out.len]; exact hl2)
    have HW9 := Lib.hid (fun w => wide_q HA9.out hbd w)
    have HW10 := Lib.hid (fun w => neg_q (wide_q HA10.out (by rw [Int.natAbs_neg]; exact hbd) w))
    have HNN := Lib.hid (Int.neg_neg (areaA kls))
    clear hbd HA9 HA10
    go_wp2_with fail
    refine (b10Gap _ _ (areaA kls) 11 (HW9.out _) (by have := HW10.out (w11.drewN (mcd FloatKind.f32 FloatKind.f64 r9)); rw [HNN.out] at this; exact this) _).mono ?_
    rintro e wx ⟨⟨rg, rfl, hqg⟩, ng, rfl⟩
    have og : (FloatKind.f64.format.order rg 4576918229304087675 == some .gt) = false := gap_small hqg
    clear HW9 HW10 HNN hqg
    go_wp2_with fail
    go_loopw [169] (fun i wr => ∃ k : Nat, k ≤ N ∧ i = .int .i64 k ∧ P + 1 ≤ wr.heap.size ∧ Hid (OwnC wr P #[.string nm, .slice ao ls.length co] 26) ∧ Hid (OL wr w0.heap.size P ao nm ls kls) ∧ Hid (CodeAt wr w0.heap.size a2 n2) ∧ Hid (Below w0.heap.size w0 wr) ∧ Hid (ORow wr 4 1 b3 cap3 N ((fillL kls S ev N).map Value.bool)) ∧ Hid (ORow wr 4 1 b4 cap4 N ((fillL kls S ev N).map Value.bool)) ∧ Hid (ORow wr 38 1 b5 cap5 N (cs.map (Value.float .f32)))) (fun i _ => N - (intOf i).toNat)
    case atStart => exact ⟨0, by omega, rfl, z11, Lib.hid (HP11.out.drewN _), Lib.hid (HOL11.out.drewN _), Lib.hid (HC11.out.far ((Far.refl _ _ _).drewN _)), Lib.hid (below_dr HB11.out _), Lib.hid (HR34.out.far ((Far.refl 0 (b3 + 1) _).drewN _) (Nat.zero_le _) (Nat.lt_succ_self _)), Lib.hid (HR4.out.far ((Far.refl 0 (b4 + 1) _).drewN _) (Nat.zero_le _) (Nat.lt_succ_self _)), Lib.hid (HR5.out.far ((Far.refl 0 (b5 + 1) _).drewN _) (Nat.zero_le _) (Nat.lt_succ_self _))⟩
    case round =>
      clear d0 d1 HP11 HOL11 HC11 HB11 HR34 HR4 HR5
      obtain ⟨k, hk, rfl, zr, HP, HOL, HC, HB, HR34, HR4, HR5⟩ := hrel
      by_cases hlt : k < N
      · have k0 : (0 : Int) ≤ (k : Int) := by omega
        have k1 : (k : Int) < (N : Int) := by omega
        obtain ⟨x, hx⟩ : ∃ x, x = k % S := ⟨_, rfl⟩
        obtain ⟨y, hy⟩ : ∃ y, y = k / S := ⟨_, rfl⟩
        have hxS : x < S := by rw [hx]; exact Nat.mod_lt _ (by omega)
        have hyS : y < S := by rw [hy]; exact Nat.div_lt_of_lt_mul (by rw [← HN.out]; exact hlt)
        have k2 : (k : Int) % (S : Int) = (x : Int) := by rw [hx]; rfl
        have k3 : (k : Int) / (S : Int) = (y : Int) := by rw [hy]; rfl
        have k4 : ¬ S = 0 := by omega
        have k5 : (k : Int).tmod (S : Int) = (x : Int) := by rw [Int.tmod_eq_emod_of_nonneg k0]; exact k2
        have k6 : (k : Int).tdiv (S : Int) = (y : Int) := by rw [Int.tdiv_eq_ediv_of_nonneg k0]; exact k3
        have k7 : IntKind.i64.wrap (y : Int) = (y : Int) := by rw [IntKind.wrap_i64]; omega
        have k8 : IntKind.i64.wrap (x : Int) = (x : Int) := by rw [IntKind.wrap_i64]; omega
        obtain ⟨z1, hz1, hm1, hd1⟩ := half_run (show x ≤ 64 by omega)
        obtain ⟨z2, hz2, hm2, hd2⟩ := half_run (show y ≤ 64 by omega)
        have HCZ : Hid (cellZ S k = (32 * (x : Int) + 16, 32 * (y : Int) + 16)) := Lib.hid (by rw [hx, hy]; rfl)
        have HZ1 := Lib.hid hz1
        have HZ2 := Lib.hid hz2
        clear hx hy hz1 hz2
        go_wp2_with fail
        refine wp_region_held_drew (S := (fun _ : World => True)) (by kernel_rfl) trivial (fun _ => ?_)
        refine wpAnyH_take (i := 0) (v := ?x0) rfl (by kernel_rfl) (by kernel_rfl) (by kernel_rfl) (fun _ _ _ h => h) (Or.inl ⟨by rfl, ?n0⟩) trivial ?s0
        case n0 => (intro w _; go_simp <;> first | with_reducible rfl | (refine ⟨?_, ?_⟩ <;> first | with_reducible rfl | exact World.drewN_zero _))
        try simp only [Act.put, List.setIfInBounds_toArray, List.set_cons_zero, List.set_cons_succ]
        refine wpAnyH_take (i := 1) (v := ?x1) rfl (by kernel_rfl) (by kernel_rfl) (by kernel_rfl) (fun _ _ _ h => h) (Or.inl ⟨by rfl, ?n1⟩) trivial ?s1
        case n1 => (intro w _; go_simp <;> first | with_reducible rfl | (refine ⟨?_, ?_⟩ <;> first | with_reducible rfl | exact World.drewN_zero _))
        try simp only [Act.put, List.setIfInBounds_toArray, List.set_cons_zero, List.set_cons_succ]
        refine wpAnyH_take (i := 2) (v := ?x2) rfl (by kernel_rfl) (by kernel_rfl) (by kernel_rfl) (fun _ _ _ h => h) (Or.inl ⟨by rfl, ?n2⟩) trivial ?s2
        case n2 => (intro w _; go_simp <;> first | with_reducible rfl | (refine ⟨?_, ?_⟩ <;> first | with_reducible rfl | exact World.drewN_zero _))
        try simp only [Act.put, List.setIfInBounds_toArray, List.set_cons_zero, List.set_cons_succ]
        refine wpAnyH_take (i := 3) (v := ?x3) rfl (by kernel_rfl) (by kernel_rfl) (by kernel_rfl) (fun _ _ _ h => h) (Or.inl ⟨by rfl, ?n3⟩) trivial ?s3
        case n3 => (intro w _; go_simp <;> first | with_reducible rfl | (refine ⟨?_, ?_⟩ <;> first | with_reducible rfl | exact World.drewN_zero _))
        try simp only [Act.put, List.setIfInBounds_toArray, List.set_cons_zero, List.set_cons_succ]
        refine wpAnyH_take (i := 4) (v := ?x4) rfl (by kernel_rfl) (by kernel_rfl) (by kernel_rfl) (fun _ _ _ h => h) (Or.inl ⟨by rfl, ?n4⟩) trivial ?s4
        case n4 => (intro w _; go_simp <;> first | with_reducible rfl | (refine ⟨?_, ?_⟩ <;> first | with_reducible rfl | exact World.drewN_zero _))
        try simp only [Act.put, List.setIfInBounds_toArray, List.set_cons_zero, List.set_cons_succ]
        refine wpAnyH_take (i := 5) (v := ?x5) rfl (by kernel_rfl) (by kernel_rfl) (by kernel_rfl) (fun _ _ _ h => h) (Or.inl ⟨by rfl, ?n5⟩) trivial ?s5
        case n5 => (intro w _; go_simp <;> first | with_reducible rfl | (refine ⟨?_, ?_⟩ <;> first | with_reducible rfl | exact World.drewN_zero _))
        try simp only [Act.put, List.setIfInBounds_toArray, List.set_cons_zero, List.set_cons_succ]
        refine wpAnyH_take (i := 6) (v := ?x6) rfl (by kernel_rfl) (by kernel_rfl) (by kernel_rfl) (fun _ _ _ h => h) (Or.inl ⟨by rfl, ?n6⟩) trivial ?s6
        case n6 => (intro w _; go_simp <;> first | with_reducible rfl | (refine ⟨?_, ?_⟩ <;> first | with_reducible rfl | exact World.drewN_zero _))
        try simp only [Act.put, List.setIfInBounds_toArray, List.set_cons_zero, List.set_cons_succ]
        refine wpAnyH_take (i := 7) (v := ?x7) rfl (by kernel_rfl) (by kernel_rfl) (by kernel_rfl) (fun _ _ _ h => h) (Or.inl ⟨by rfl, ?n7⟩) trivial ?s7
        case n7 => (intro w _; go_simp <;> first | with_reducible rfl | (refine ⟨?_, ?_⟩ <;> first | with_reducible rfl | exact World.drewN_zero _))
        try simp only [Act.put, List.setIfInBounds_toArray, List.set_cons_zero, List.set_cons_succ]
        refine wpAnyH_take (i := 8) (v := ?x8) rfl (by kernel_rfl) (by kernel_rfl) (by kernel_rfl) (fun _ _ _ h => h) (Or.inl ⟨by rfl, ?n8⟩) trivial ?s8
        case n8 => (intro w _; go_simp <;> first | with_reducible rfl | (refine ⟨?_, ?_⟩ <;> first | with_reducible rfl | exact World.drewN_zero _))
        try simp only [Act.put, List.setIfInBounds_toArray, List.set_cons_zero, List.set_cons_succ]
        refine wpAnyH_take (i := 9) (v := ?x9) rfl (by kernel_rfl) (by kernel_rfl) (by kernel_rfl) (fun _ _ _ h => h) (Or.inl ⟨by rfl, ?n9⟩) trivial ?s9
        case n9 => (intro w _; go_simp <;> first | with_reducible rfl | (refine ⟨?_, ?_⟩ <;> first | with_reducible rfl | exact World.drewN_zero _))
        try simp only [Act.put, List.setIfInBounds_toArray, List.set_cons_zero, List.set_cons_succ]
        refine wpAnyH_take (i := 10) (v := ?x10) rfl (by kernel_rfl) (by kernel_rfl) (by kernel_rfl) (fun _ _ _ h => h) (Or.inl ⟨by rfl, ?n10⟩) trivial ?s10
        case n10 => (intro w _; go_simp <;> first | with_reducible rfl | (refine ⟨?_, ?_⟩ <;> first | with_reducible rfl | exact World.drewN_zero _))
        try simp only [Act.put, List.setIfInBounds_toArray, List.set_cons_zero, List.set_cons_succ]
        refine wpAnyH_take (i := 11) (v := ?x11) rfl (by kernel_rfl) (by kernel_rfl) (by kernel_rfl) (fun _ _ _ h => h) (Or.inl ⟨by rfl, ?n11⟩) trivial ?s11
        case n11 => (intro w _; go_simp <;> first | with_reducible rfl | (refine ⟨?_, ?_⟩ <;> first | with_reducible rfl | exact World.drewN_zero _))
        try simp only [Act.put, List.setIfInBounds_toArray, List.set_cons_zero, List.set_cons_succ]
        refine wpAnyH_done (by kernel_rfl) ?_ _
        obtain ⟨wA, hwA⟩ : ∃ x : World, x = wr.drew := ⟨_, rfl⟩
        try simp only [hm1, hm2, hd1, hd2]
        have HPT : Hid (PtQ (z1, z2) (cellZ S k) 5) := Lib.hid (by rw [HCZ.out]; exact ⟨HZ1.out, HZ2.out⟩)
        have HLZ : Hid (lowZ (cellZ S k) 1024) := Lib.hid (by rw [HCZ.out]; unfold lowZ; simp only; omega)
        have HPA := Lib.hid (show OwnC wA P #[.string nm, .slice ao ls.length co] 26 by rw [hwA]; exact HP.out)
        have HOLA := Lib.hid (show OL wA w0.heap.size P ao nm ls kls by rw [hwA]; exact HOL.out.drewN 1)
        have HCA := Lib.hid (show CodeAt wA w0.heap.size a2 n2 by rw [hwA]; exact HC.out.far ((Far.refl _ _ _).drewN 1))
        have HBA := Lib.hid (show Below w0.heap.size w0 wA by rw [hwA]; exact below_dr HB.out 1)
        have HR3A := Lib.hid (show ORow wA 4 1 b3 cap3 N ((fillL kls S ev N).map Value.bool) by rw [hwA]; exact HR34.out.far ((Far.refl 0 (b3 + 1) _).drewN 1) (Nat.zero_le _) (Nat.lt_succ_self _))
        have HR4A := Lib.hid (show ORow wA 4 1 b4 cap4 N ((fillL kls S ev N).map Value.bool) by rw [hwA]; exact HR4.out.far ((Far.refl 0 (b4 + 1) _).drewN 1) (Nat.zero_le _) (Nat.lt_succ_self _))
        have HR5A := Lib.hid (show ORow wA 38 1 b5 cap5 N (cs.map (Value.float .f32)) by rw [hwA]; exact HR5.out.far ((Far.refl 0 (b5 + 1) _).drewN 1) (Nat.zero_le _) (Nat.lt_succ_self _))
        have zA : P + 1 ≤ wA.heap.size := by rw [hwA]; exact zr
        rw [← hwA]
        clear HCZ HZ1 HZ2 hwA HP HOL HC HB HR34 HR4 HR5 hm1 hm2 hd1 hd2
        have d0 := HPA.out.cell 0
        have d1 := HPA.out.cell 1
        simp at d0 d1
        go_wp2_with fail
        refine (windingOf w0.heap.size P ao co nm ls kls (z1, z2) (cellZ S k) wA HOLA.out HPT.out HLZ.out).mono ?_
        rintro e wB ⟨rfl, hbl⟩
        have zB : P + 1 ≤ wB.heap.size := by have := hbl.size; omega
        have HPB := Lib.hid (HPA.out.below hbl (by omega))
        have HOLB := Lib.hid (HOLA.out.below hbl HOLA.out.top)
        have HCB := Lib.hid (HCA.out.far (Far.below hbl (by have := HPW.out; omega)))
        have HBB := Lib.hid (HBA.out.trans (hbl.mono (by have := HPW.out; omega)))
        have HR3B := Lib.hid (HR3A.out.below hbl HR3A.out.lt)
        have HR4B := Lib.hid (HR4A.out.below hbl HR4A.out.lt)
        have HR5B := Lib.hid (HR5A.out.below hbl HR5A.out.lt)
        clear hbl HPA HOLA HCA HBA HR3A HR4A HR5A d0 d1
        have d0 := HPB.out.cell 0
        have d1 := HPB.out.cell 1
        simp at d0 d1
        obtain ⟨B, hB⟩ : ∃ B, B = insZ kls (cellZ S k) ev := ⟨_, rfl⟩
        obtain ⟨A, hA⟩ : ∃ A, A = windA kls (cellZ S k) := ⟨_, rfl⟩
        rw [← hA]
        have hII := isInside w0.heap.size P ao co nm ls kls (z1, z2) (cellZ S k) ev wB HOLB.out HPT.out HLZ.out
        rw [← hB] at hII
        have HII := Lib.hid hII
        have HBV : Hid (B = if ev then decide (A % 2 ≠ 0) else decide (A ≠ 0)) := Lib.hid (by rw [hB, hA]; rfl)
        have HF : Hid (((fillL kls S ev N).map Value.bool)[k]? = some (.bool B)) := Lib.hid (by rw [hB]; simp [fillL, hlt])
        clear hB hA hII HPT HLZ
        go_wp2_with fail
        refine HII.out.mono ?_
        rintro e wC ⟨rfl, hbl⟩
        clear HII
        have zC : P + 1 ≤ wC.heap.size := by have := hbl.size; omega
        have HPC := Lib.hid (HPB.out.below hbl (by omega))
        have HOLC := Lib.hid (HOLB.out.below hbl HOLB.out.top)
        have HCC := Lib.hid (HCB.out.far (Far.below hbl (by have := HPW.out; omega)))
        have HBC := Lib.hid (HBB.out.trans (hbl.mono (by have := HPW.out; omega)))
        have HR3C := Lib.hid (HR3B.out.below hbl HR3B.out.lt)
        have HR4C := Lib.hid (HR4B.out.below hbl HR4B.out.lt)
        have HR5C := Lib.hid (HR5B.out.below hbl HR5B.out.lt)
        clear hbl HPB HOLB HCB HBB HR3B HR4B HR5B d0 d1
        have f3 : wC.cell? ⟨b3, k, none⟩ = some (.bool B) := by rw [HR3C.out.cell k (by omega)]; exact HF.out
        have f4 : wC.cell? ⟨b4, k, none⟩ = some (.bool B) := by rw [HR4C.out.cell k (by omega)]; exact HF.out
        have hkc : k < cs.length := by rw [HCL.out]; exact hlt
        obtain ⟨cv, hcv⟩ : ∃ x, x = cs[k] := ⟨_, rfl⟩
        have f5 : wC.cell? ⟨b5, k, none⟩ = some (.float .f32 cv) := by rw [HR5C.out.cell k (by omega), hcv]; simp [hkc]
        obtain ⟨n, hn16, hqn⟩ := HCV.out cv (by rw [hcv]; exact List.getElem_mem hkc)
        have o1 : (FloatKind.f32.format.order cv 0 == some .lt) = false := by
          rw [ord_lt hqn (l := 0) (show Q .f32 (can .f32 0) 0 4 from ⟨by decide +kernel, by decide +kernel, by decide⟩)]; exact decide_eq_false (by omega)
        have o2 : (FloatKind.f32.format.order cv 1065353216 == some .gt) = false := by
          rw [ord_gt hqn (l := 16) (show Q .f32 (can .f32 1065353216) 16 4 from ⟨by decide +kernel, by decide +kernel, by decide⟩)]; exact decide_eq_false (by omega)
        clear hqn hcv hkc HF
        cases ev
        · by_cases hA0 : A = 0
          · have hBf : B = false := by rw [HBV.out]; simp [hA0]
            subst hBf hA0
            clear HBV
            go_wp2_with fail
            exact ⟨⟨k + 1, by omega, by simp, zC, HPC, HOLC, HCC, HBC, HR3C, HR4C, HR5C⟩, meas_down k1⟩
          · have hBt : B = true := by rw [HBV.out]; simp [hA0]
            have hA1 : (A == 0) = false := by simp [hA0]
            have hA2 : decide (A = 0) = false := by simp [hA0]
            have hA3 : (A != 0) = true := by simp [hA0]
            subst hBt
            clear HBV
            go_wp2_with fail
            exact ⟨⟨k + 1, by omega, by simp, zC, HPC, HOLC, HCC, HBC, HR3C, HR4C, HR5C⟩, meas_down k1⟩
        · have ht : A.tmod 2 = 0 ↔ A % 2 = 0 := (Int.dvd_iff_tmod_eq_zero).symm.trans Int.dvd_iff_emod_eq_zero
          by_cases hA0 : A % 2 = 0
          · have hBf : B = false := by rw [HBV.out]; simp [hA0]
            have hA1 := ht.2 hA0
            subst hBf
            clear HBV ht
            go_wp2_with fail
            exact ⟨⟨k + 1, by omega, by simp, zC, HPC, HOLC, HCC, HBC, HR3C, HR4C, HR5C⟩, meas_down k1⟩
          · have hBt : B = true := by rw [HBV.out]; simp [hA0]
            have hA4 : ¬ A.tmod 2 = 0 := fun h => hA0 (ht.1 h)
            have hA1 : (A.tmod 2 == 0) = false := by simp [hA4]
            have hA2 : decide (A.tmod 2 = 0) = false := by simp [hA4]
            have hA3 : (A.tmod 2 != 0) = true := by simp [hA4]
            clear hA0
            subst hBt
            clear HBV ht
            go_wp2_with fail
            exact ⟨⟨k + 1, by omega, by simp, zC, HPC, HOLC, HCC, HBC, HR3C, HR4C, HR5C⟩, meas_down k1⟩
      · have k1 : ¬ (k : Int) < (N : Int) := by omega
        clear HR34 HR4 HR5 k1
        go_wp2_with fail
        refine (b10At w0.heap.size a2 n2 ca2 3 33 hn2 (by decide) (by decide) (by decide) wr HC.out).mono ?_
        rintro e wx ⟨⟨r3, rfl, hr3⟩, rfl⟩
        have HY := Lib.hid (fun w1 w2 => quarter_q (m := (r3 : Int) - 8) (by omega) (b := 1040187392) (c := 4) ⟨by decide +kernel, by decide +kernel, by decide⟩ (by decide) w1 w2)
        have hr3' : (r3 : Int) < 33 := by omega
        have d0 := HP.out.cell 0
        have d1 := HP.out.cell 1
        simp at d0 d1
        go_wp2_with fail
        refine (spansAt w0.heap.size P ao co nm ls kls _ (8 * ((r3 : Int) - 8) + 4) _ (HOL.out.drewN _) HLOW.out hl2 (HY.out _ _) (by omega)).mono ?_
        rintro e w12 ⟨⟨b12, cap12, n, rfl, hn12, hn2', ys, hyl, hyo, hys, hyg⟩, hbl'⟩
        have hbl := (below_dr (Below.refl wx.heap.size wx) _).trans hbl'
        have z12 : P + 1 ≤ w12.heap.size := by have := hbl.size; omega
        have HP12 := Lib.hid (HP.out.below hbl (by omega))
        have HOL12 := Lib.hid (HOL.out.below hbl HOL.out.top)
        have HC12 := Lib.hid (HC.out.far (Far.below hbl (by have := HPW.out; omega)))
        have HB12 := Lib.hid (HB.out.trans (hbl.mono (by have := HPW.out; omega)))
        have HYL := Lib.hid hyl
        have HYO := Lib.hid hyo
        have HYS := Lib.hid hys
        have HYG := Lib.hid hyg
        have ht : (n : Int).tmod 2 = 0 := by rw [Int.tmod_eq_emod_of_nonneg (by omega)]; omega
        have hn12' : (n : Int) ≤ 12 := by omega
        clear hbl hbl' HP HOL HC HB HY hyl hyo hys hyg d0 d1 hr3' hr3
        go_wp2_with fail
        go_loopw [266] (fun i wr => ∃ k : Nat, k ≤ n ∧ i = .int .i64 k ∧ P + 1 ≤ wr.heap.size ∧ Hid (OwnC wr P #[.string nm, .slice ao ls.length co] 26) ∧ Hid (OL wr w0.heap.size P ao nm ls kls) ∧ Hid (CodeAt wr w0.heap.size a2 n2) ∧ Hid (Below w0.heap.size w0 wr) ∧ Hid (GRow wr b12 ys)) (fun i _ => n - (intOf i).toNat)
        case atStart => exact ⟨0, by omega, rfl, z12, HP12, HOL12, HC12, HB12, HYG⟩
        case round =>
          clear HP12 HOL12 HC12 HB12 HYG
          obtain ⟨k, hk, rfl, zr, HP, HOL, HC, HB, HYG⟩ := hrel
          by_cases hlt : k < n
          · have k1 : (k : Int) < (n : Int) := by omega
            cases k with
            | zero =>
              go_wp2_with fail
              go_quiet (fail)
              go_wp2_with fail
              exact ⟨⟨1, by omega, rfl, zr, Lib.hid (HP.out.drewN _), Lib.hid (HOL.out.drewN _), Lib.hid (HC.out.far ((Far.refl _ _ _).drewN _)), Lib.hid (below_dr HB.out _), Lib.hid (HYG.out.far ((Far.refl _ _ _).drewN _))⟩, by simp [intOf]; omega⟩
            | succ j =>
              have g1 := HYG.out.2 (j + 1) (by rw [HYL.out]; exact hlt)
              have g2 := HYG.out.2 j (by rw [HYL.out]; omega)
              have ho : (FloatKind.f32.format.order (nA ys (j + 1)) (nA ys j) == some .lt) = false := by
                have h1 : nA ys (j + 1) ∈ ys := by unfold nA; rw [List.getD_eq_getElem?_getD, List.getElem?_eq_getElem (by rw [HYL.out]; exact hlt)]; exact List.getElem_mem _
                have h2 : nA ys j ∈ ys := by unfold nA; rw [List.getD_eq_getElem?_getD, List.getElem?_eq_getElem (by rw [HYL.out]; omega)]; exact List.getElem_mem _
                rw [(HYO.out _ h1).lt (HYO.out _ h2)]
                have := HYS.out j (j + 1) (by omega) hlt
                exact decide_eq_false (by unfold vA at this; omega)
              go_wp2_with fail
              go_quiet (fail)
              go_wp2_with fail
              exact ⟨⟨j + 1 + 1, by omega, by simp, zr, Lib.hid (HP.out.drewN _), Lib.hid (HOL.out.drewN _), Lib.hid (HC.out.far ((Far.refl _ _ _).drewN _)), Lib.hid (below_dr HB.out _), Lib.hid (HYG.out.far ((Far.refl _ _ _).drewN _))⟩, by simp [intOf]; omega⟩
          · have k1 : ¬ (k : Int) < (n : Int) := by omega
            clear HYG k1 hk
            go_wp2_with fail
            refine (b10At w0.heap.size a2 n2 ca2 4 9 hn2 (by decide) (by decide) (by decide) wr HC.out).mono ?_
            rintro e wx ⟨⟨r4, rfl, hr4⟩, rfl⟩
            have hr4' : (r4 : Int) < 9 := by omega
            go_wp2_with fail
            refine (b10At w0.heap.size a2 n2 ca2 5 9 hn2 (by decide) (by decide) (by decide) _ HC.out).mono ?_
            rintro e wx ⟨⟨r5, rfl, hr5⟩, rfl⟩
            have hr5' : (r5 : Int) < 9 := by omega
            have d0 := HP.out.cell 0
            have d1 := HP.out.cell 1
            simp at d0 d1
            have HBY : Hid (PtQ (floatOfInt .f32 ((r4 : Int) - 4), floatOfInt .f32 ((r5 : Int) - 4)) (32 * ((r4 : Int) - 4), 32 * ((r5 : Int) - 4)) 5) := Lib.hid ⟨int_q (by omega), int_q (by omega)⟩
            have HLB : Hid (lowZ (32 * ((r4 : Int) - 4), 32 * ((r5 : Int) - 4)) 256) := Lib.hid (by unfold lowZ; simp only; omega)
            go_wp2_with fail
            refine (moveOutline w0.heap.size P ao co nm ls kls (floatOfInt .f32 ((r4 : Int) - 4), floatOfInt .f32 ((r5 : Int) - 4)) _ _ HOL.out HLOW.out HBY.out HLB.out).mono ?_
            rintro e w13 ⟨⟨ao', cap', rfl, ls', hl', hol'⟩, hbl⟩
            have z13 : P + 1 ≤ w13.heap.size := by have := hbl.size; omega
            have HP13 := Lib.hid (HP.out.below hbl (by omega))
            have HOL13 := Lib.hid (HOL.out.below hbl HOL.out.top)
            have HC13 := Lib.hid (HC.out.far (Far.below hbl (by have := HPW.out; omega)))
            have HB13 := Lib.hid (HB.out.trans (hbl.mono (by have := HPW.out; omega)))
            have HM13 := Lib.hid (show OL w13 wx.heap.size w13.heap.size ao' nm ls' _ from hol')
            have HLL := Lib.hid hl'
            clear hbl HP HOL HC HB hl' hol' d0 d1 hr4 hr5
            go_wp2_with fail
            obtain ⟨P2, hP2⟩ : ∃ P2, P2 = w13.heap.size := ⟨_, rfl⟩
            obtain ⟨w14, hw14⟩ : ∃ x : World, x = w13.alloc (.cells #[.string nm, .slice ao' ls.length cap'] 26) := ⟨_, rfl⟩
            have hbl : Below w13.heap.size w13 w14 := by rw [hw14]; exact Below.alloc (Below.refl _ _) (Nat.le_refl _) _
            have HQ14 := Lib.hid (show OwnC w14 P2 #[.string nm, .slice ao' ls.length cap'] 26 by rw [hw14, hP2]; exact OwnC.new rfl)
            have HM14 := Lib.hid (HM13.out.below hbl (Nat.le_refl _))
            rw [← hP2] at HM14
            have zq14 : P2 + 1 ≤ w14.heap.size := by rw [hw14, hP2]; simp
            have z14 : P + 1 ≤ w14.heap.size := by have := hbl.size; omega
            have HP14 := Lib.hid (HP13.out.below hbl (by omega))
            have HOL14 := Lib.hid (HOL13.out.below hbl HOL13.out.top)
            have HC14 := Lib.hid (HC13.out.far (Far.below hbl (by have := HPW.out; omega)))
            have HB14 := Lib.hid (HB13.out.trans (hbl.mono (by have := HPW.out; omega)))
            rw [← hP2, ← hw14]
            clear hbl hP2 hw14 HP13 HOL13 HC13 HB13 HM13 z13
            refine (b10At w0.heap.size a2 n2 ca2 6 33 hn2 (by decide) (by decide) (by decide) w14 HC14.out).mono ?_
            rintro e wy ⟨⟨r6, rfl, hr6⟩, rfl⟩
            have hr6' : (r6 : Int) < 33 := by omega
            obtain ⟨qa, za, hqa, hda, hza, hdz, hQa⟩ := quarter_run (m := (r6 : Int) - 8) (by omega) (b := 1031798784) (c := 2) ⟨by decide +kernel, by decide +kernel, by decide⟩ (by decide)
            have HZ6 := Lib.hid hQa
            clear hQa
            go_wp2_with fail
            refine (b10At w0.heap.size a2 n2 ca2 7 33 hn2 (by decide) (by decide) (by decide) _ HC14.out).mono ?_
            rintro e wz ⟨⟨r7, rfl, hr7⟩, rfl⟩
            have hr7' : (r7 : Int) < 33 := by omega
            obtain ⟨qb, zb, hqb, hdb, hzb, hdz2, hQb⟩ := quarter_run (m := (r7 : Int) - 8) (by omega) (b := 1023410176) (c := 1) ⟨by decide +kernel, by decide +kernel, by decide⟩ (by decide)
            have HZ7 := Lib.hid hQb
            clear hQb
            have d0 := HP14.out.cell 0
            have d1 := HP14.out.cell 1
            simp at d0 d1
            go_wp2_with fail
            have HZZ : Hid (PtQ (za, zb) (8 * ((r6 : Int) - 8) + 2, 8 * ((r7 : Int) - 8) + 1) 5) := Lib.hid ⟨HZ6.out.canQ, HZ7.out.canQ⟩
            refine (windingOf w0.heap.size P ao co nm ls kls (za, zb) (8 * ((r6 : Int) - 8) + 2, 8 * ((r7 : Int) - 8) + 1) _ HOL14.out HZZ.out (by unfold lowZ; simp only; omega)).mono ?_
            rintro e w15 ⟨rfl, hbl'⟩
            have hbl : Below wz.heap.size wz w15 := hbl'
            have hw0 : w0.heap.size ≤ w15.heap.size := by have h1 := hbl.size; have h2 := HPW.out; omega
            have HQ15 := Lib.hid (HQ14.out.below hbl (by omega))
            have HM15 := Lib.hid (HM14.out.below hbl HM14.out.top)
            have HB15 := Lib.hid (HB14.out.trans (hbl.mono (by have := HPW.out; omega)))
            clear hbl hbl' HP14 HOL14 HC14 HB14 HQ14 HM14 d0 d1
            have e0 := HQ15.out.cell 0
            have e1 := HQ15.out.cell 1
            simp at e0 e1
            obtain ⟨A, hA⟩ : ∃ A, A = windA kls (8 * ((r6 : Int) - 8) + 2, 8 * ((r7 : Int) - 8) + 1) := ⟨_, rfl⟩
            rw [← hA]
            have HMV : Hid (windA (kls.map fun ks => ks.map (addZ · (32 * ((r4 : Int) - 4), 32 * ((r5 : Int) - 4)))) (addZ (8 * ((r6 : Int) - 8) + 2, 8 * ((r7 : Int) - 8) + 1) (32 * ((r4 : Int) - 4), 32 * ((r5 : Int) - 4))) = A) := Lib.hid (by rw [windA_move, hA])
            obtain ⟨sa, hsa, _, _, hqsa⟩ := run_of (HZ6.out.add (int_q' (m := (r4 : Int) - 4) (by omega)) (lt24 (by omega)))
            obtain ⟨sb, hsb, _, _, hqsb⟩ := run_of (HZ7.out.add (int_q' (m := (r5 : Int) - 4) (by omega)) (lt24 (by omega)))
            have hadd : ∀ w, Sem.run Try.prog (binOp BinOp.add 44 (.complex .f32 za zb) (.complex .f32 (floatOfInt .f32 ((r4 : Int) - 4)) (floatOfInt .f32 ((r5 : Int) - 4)))) w = .ok (.complex .f32 sa sb) w := fun w => run_complex_sum w .add (Or.inl rfl) _ .f32 _ _ _ _ sa sb (by simp [cSumBits, hsa, hsb])
            have hlz : lowZ (addZ (8 * ((r6 : Int) - 8) + 2, 8 * ((r7 : Int) - 8) + 1) (32 * ((r4 : Int) - 4), 32 * ((r5 : Int) - 4))) 1024 := by unfold lowZ addZ; simp only; omega
            have hps : PtQ (sa, sb) (addZ (8 * ((r6 : Int) - 8) + 2, 8 * ((r7 : Int) - 8) + 1) (32 * ((r4 : Int) - 4), 32 * ((r5 : Int) - 4))) 5 := ⟨hqsa.canQ, hqsb.canQ⟩
            have hwo := windingOf _ _ ao' cap' nm ls' _ (sa, sb) _ w15 HM15.out hps hlz
            rw [HLL.out, HMV.out] at hwo
            have HWO := Lib.hid hwo
            clear hA hsa hsb hqsa hqsb hlz hps hwo hqa hda hza hdz hqb hdb hzb hdz2
            go_wp2_with fail
            refine HWO.out.mono ?_
            rintro e w16 ⟨rfl, hbl⟩
            have HB16 := Lib.hid (HB15.out.trans (hbl.mono hw0))
            clear hbl HWO e0 e1
            go_wp2_with fail
            go_ret
            exact ⟨by simp, HB16.out⟩
  · go_wp2_with fail
    refine (b10LongYes a1 a2 n1 n2 ca1 ca2 hsz w).mono ?_
    rintro e w0 ⟨rfl, rfl⟩
    go_wp2_with fail
    go_ret
    exact ⟨rfl, Below.refl _ _⟩
end Go.Proofs.Ytgghhnglnklmbaa
