/- PROVED: FnExactPlanWaySaid: for every plan and every time the program's PlanWay and the reference's return the same. No condition. -/
import Derived.Test.YtjcofdengndhgaaRows
import Derived.Test.YtjcofdengndhgaaPlanWayI
import Derived.Test.YtjcofdengndhgaaOpen
namespace Go.Proofs.Ytjcofdengndhgaa
open Go.ChangeShapes Go.WideShapes Go.ChangeAt Go.RowKit Go.Joins Go.Fl

set_option maxHeartbeats 1000000 in
theorem fnPlanWay (j r hd c t : Nat) (w : World) :
    Calls Try.prog 4 #[agg4 j r hd c, .float .f32 t] w fun e w' => e = .returned (.bool true) ∧ Below w.heap.size w w' := by
  cases h0 : (planOk (can .f32 j) (can .f32 r) (can .f32 hd) (can .f32 c) && least (can .f32 t))
  · have H0 := Lib.hid h0
    clear h0
    unfold agg4
    go_enter Try.func4, Try.ntmps4
    go_wp2_with fail
    refine (toPlan j r hd c _).mono ?_
    rintro e w1 ⟨rfl, hb1⟩
    go_wp2_with fail
    refine (planWayS_no j r hd c t _ H0.out).mono ?_
    rintro e w2 ⟨rfl, hb2⟩
    obtain ⟨hcA, hfA⟩ := bcell hb1
    obtain ⟨hcB, hfB⟩ := bcell hb2
    have z1 := hb1.size
    have z2 := hb2.size
    simp only [World.size_alloc] at z1
    have hz1 : w.heap.size < w1.heap.size := by omega
    go_wp2_with fail
    refine (toPlan j r hd c _).mono ?_
    rintro e w3 ⟨rfl, hb3⟩
    have z3 := hb3.size
    go_wp2_with fail
    refine (planWayI_no j r hd c t _ H0.out).mono ?_
    rintro e w4 ⟨rfl, hb4⟩
    have z4 := hb4.size
    clear hcA hfA hcB hfB
    go_wp2_with fail
    refine (sameFloat _ _ (can_widen rfl) _).mono ?_
    rintro e w5 ⟨rfl, n, rfl⟩
    go_wp2_with fail
    go_ret
    exact ⟨rfl, by (repeat (first | exact Below.refl _ _ | assumption | refine below_dr ?_ _ | refine Below.alloc ?_ (by first | omega | (simp; done) | (simp; omega)) _ | refine Below.setCell ?_ (by first | omega | (simp; done) | (simp; omega)) _ | refine Below.trans ?_ (Below.mono (by assumption) (by first | omega | (simp; done) | (simp; omega)))))⟩
  · simp only [Bool.and_eq_true] at h0
    have H0 := Lib.hid h0
    clear h0
    unfold agg4
    go_enter Try.func4, Try.ntmps4
    go_wp2_with fail
    refine (toPlan j r hd c _).mono ?_
    rintro e w1 ⟨rfl, hb1⟩
    go_wp2_with fail
    refine (planWayS_yes j r hd c t _ H0.out.1 H0.out.2).mono ?_
    rintro e w2 ⟨⟨x, rfl, hx⟩, hb2⟩
    obtain ⟨hcA, hfA⟩ := bcell hb1
    obtain ⟨hcB, hfB⟩ := bcell hb2
    have z1 := hb1.size
    have z2 := hb2.size
    simp only [World.size_alloc] at z1
    have hz1 : w.heap.size < w1.heap.size := by omega
    go_wp2_with fail
    refine (toPlan j r hd c _).mono ?_
    rintro e w3 ⟨rfl, hb3⟩
    have z3 := hb3.size
    go_wp2_with fail
    refine (planWayI_yes j r hd c t _ H0.out.1 H0.out.2).mono ?_
    rintro e w4 ⟨⟨y, rfl, hy⟩, hb4⟩
    have z4 := hb4.size
    clear hcA hfA hcB hfB
    go_wp2_with fail
    refine (sameFloat _ _ (can_widen (hy.trans hx.symm)) _).mono ?_
    rintro e w5 ⟨rfl, n, rfl⟩
    go_wp2_with fail
    go_ret
    exact ⟨rfl, by (repeat (first | exact Below.refl _ _ | assumption | refine below_dr ?_ _ | refine Below.alloc ?_ (by first | omega | (simp; done) | (simp; omega)) _ | refine Below.setCell ?_ (by first | omega | (simp; done) | (simp; omega)) _ | refine Below.trans ?_ (Below.mono (by assumption) (by first | omega | (simp; done) | (simp; omega)))))⟩

set_option maxRecDepth 100000 in
theorem planWayLifted (os : Os) (started : os.Started) (H : Type) (enc : TypeId × Value → H) :
    ReturnsInHanded {} Try.checked os 4 .any (Rows.fnExactPlanWaySpec.pre6 enc Try.prog Try.f4 Rows.fnExactPlanWayRow.domain false) (Rows.fnExactPlanWaySpec.post enc Try.prog Try.f4 false true false false) := by
  refine returnsInHanded_of_change (C := Try.checked) own started (by kernel_rfl) Try.func4
    (ChangeSpec.witness6 (enc := enc) (C := Try.checked) false ⟨#[], #[.agg #[.float .f32 0, .float .f32 0, .float .f32 0, .float .f32 0], .float .f32 0], []⟩ 8 (by kernel_rfl) (by kernel_rfl) (by kernel_rfl) (by kernel_rfl)) ?_
  intro W base args ds gs before hval0 hW hcnd _
  have hval : ∀ (j : Nat) t v, Try.f4.params[j]? = some t → args[j]? = some v → Value.okWide Try.prog W .any base t v := hval0
  have hW' := hW
  obtain ⟨p, q, hA0, hV, rfl, hfz, hnd⟩ := hW
  have hA : DataW.TrodAll enc Try.prog W 0 (fun _ => true) true Try.f4.params.toList args.toList ds p := hA0
  rw [Try.params4] at hA hval
  obtain ⟨v0, vs0, d0, ds0, p0, q0, hargs, rfl, rfl, h0, r0⟩ := trodAll_cons hA
  obtain ⟨v1, vs1, d1, ds1, p1, q1, rfl, rfl, rfl, h1, r1⟩ := trodAll_cons r0
  obtain ⟨rfl, rfl, rfl⟩ := trodAll_nil r1
  obtain rfl : args = #[v0, v1] := by cases args; simp_all
  obtain ⟨rfl, rfl⟩ := trodVars_none hV
  have k0 := h0
  have k1 := h1
  have lt0 : ∀ x ∈ p0, x.block < W.heap.size := by obtain ⟨m, hm⟩ := k0; exact DataW.trod_lt m _ _ _ hm
  have lt1 : ∀ x ∈ p1, x.block < W.heap.size := by obtain ⟨m, hm⟩ := k1; exact DataW.trod_lt m _ _ _ hm
  obtain ⟨c0, c1, c2, c3, y0, y1, y2, y3, m, rfl, hd, hp, hy0, hy1, hy2, hy3⟩ := open_agg4 Try.underlying24 (by kernel_rfl) cellsPlan (hval 0 24 v0 rfl rfl) h0
  obtain ⟨a, rfl, _⟩ := trod_float Try.underlying22 hy0
  obtain ⟨b, rfl, _⟩ := trod_float Try.underlying22 hy1
  obtain ⟨c, rfl, _⟩ := trod_float Try.underlying22 hy2
  obtain ⟨d, rfl, _⟩ := trod_float Try.underlying22 hy3
  obtain ⟨t, rfl⟩ := okWide_float Try.underlying22 (hval 1 22 v1 rfl rfl)
  clear hA0 hval0
  refine (fnPlanWay a b c d t W).mono fun e W' ⟨he, bel⟩ => ?_
  subst he
  exact ⟨_, rfl, _, _, _, [], _, [], hW', trodAll_mk1 (shut_bool Try.underlying4 _), (trodAll_cons_mk (Below.trod laidOut (by kernel_rfl) (of_decide_eq_true (by kernel_rfl)) k0 bel lt0) (trodAll_cons_mk (Below.trod laidOut (by kernel_rfl) (of_decide_eq_true (by kernel_rfl)) k1 bel lt1) trodAll_mk0)), rfl, bel.frame _, fun h => by cases h⟩

theorem planWay_holds : Rows.FnExactPlanWaySaid :=
  OpenClaim.holds_of_wide 4 Try.f4 rfl rfl rfl rfl rfl rfl rfl ⟨rfl, rfl, rfl, rfl, rfl⟩ rfl rfl rfl rfl rfl (by kernel_rfl) Try.func4 (by kernel_rfl)
    (of_decide_eq_true (by kernel_rfl)) (by unfold Func.isWrapper; first | (rw [if_pos (by decide +kernel)]; kernel_rfl) | (rw [if_neg (by decide +kernel)]; exact ⟨rfl, rfl⟩))
    (fun os started H enc _ => planWayLifted os started H enc)
#print axioms planWay_holds
end Go.Proofs.Ytjcofdengndhgaa
