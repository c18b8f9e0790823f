/- PROVED: FnExactJerkPlanSaid: for all numbers the program's JerkPlan and the reference's return the same. No condition. -/
import Derived.Test.YtjcofdengndhgaaRows
import Derived.Test.YtjcofdengndhgaaJerkI
import Derived.Test.YtjcofdengndhgaaOpen
namespace Go.Proofs.Ytjcofdengndhgaa
open Go.ChangeShapes Go.WideShapes Go.ChangeAt Go.RowKit Go.Joins Go.Fl

set_option maxHeartbeats 1000000 in
theorem eqPlan (a b c d a' b' c' d' : Nat) (w : World) (ha : can .f32 a = can .f32 a') (hb : can .f32 b = can .f32 b') (hc : can .f32 c = can .f32 c') (hd : can .f32 d = can .f32 d') :
    Calls Try.prog 15 #[agg4 a b c d, agg4 a' b' c' d'] w fun e w' => e = .returned (.bool true) ∧ Below w.heap.size w w' := by
  have HA := Lib.hid ha
  have HB := Lib.hid hb
  have HC := Lib.hid hc
  have HD := Lib.hid hd
  clear ha hb hc hd
  unfold agg4
  go_enter Try.func15, Try.ntmps15
  go_wp2_with fail
  refine (sameFloat _ _ (can_widen HA.out) _).mono ?_
  rintro e w' ⟨rfl, n, rfl⟩
  go_wp2_with fail
  refine (sameFloat _ _ (can_widen HB.out) _).mono ?_
  rintro e w' ⟨rfl, n, rfl⟩
  go_wp2_with fail
  refine (sameFloat _ _ (can_widen HC.out) _).mono ?_
  rintro e w' ⟨rfl, n, rfl⟩
  go_wp2_with fail
  refine (sameFloat _ _ (can_widen HD.out) _).mono ?_
  rintro e w' ⟨rfl, n, rfl⟩
  go_wp2_with fail
  go_ret
  exact ⟨rfl, by (repeat (first | exact Below.refl _ _ | assumption | refine below_dr ?_ _ | refine Below.alloc ?_ (by first | omega | (simp; done) | (simp; omega)) _ | refine Below.setCell ?_ (by first | omega | (simp; done) | (simp; omega)) _ | refine Below.trans ?_ (Below.mono (by assumption) (by first | omega | (simp; done) | (simp; omega)))))⟩

set_option maxHeartbeats 1000000 in
theorem fnJerkPlan (long m r j : Nat) (w : World) :
    Calls Try.prog 5 #[.float .f32 long, .float .f32 m, .float .f32 r, .float .f32 j] w fun e w' => e = .returned (.bool true) ∧ Below w.heap.size w w' := by
  have hS : ∀ w, Calls Try.prog 13 #[.float .f32 long, .float .f32 m, .float .f32 r, .float .f32 j] w fun e w' => JkRet (can .f32 long) (can .f32 m) (can .f32 r) (can .f32 j) e ∧ Below w.heap.size w w' := by
    intro w
    cases h : jkArgs (can .f32 long) (can .f32 m) (can .f32 r) (can .f32 j)
    · exact jerkS_no long m r j w h
    · exact jerkS_yes long m r j w h
  have hI : ∀ w, Calls Try.prog 14 #[.float .f32 long, .float .f32 m, .float .f32 r, .float .f32 j] w fun e w' => JkRet (can .f32 long) (can .f32 m) (can .f32 r) (can .f32 j) e ∧ Below w.heap.size w w' := by
    intro w
    cases h : jkArgs (can .f32 long) (can .f32 m) (can .f32 r) (can .f32 j)
    · exact jerkI_no long m r j w h
    · exact jerkI_yes long m r j w h
  have HS := Lib.hid hS
  have HI := Lib.hid hI
  clear hS hI
  go_enter Try.func5, Try.ntmps5
  go_wp2_with fail
  refine (HS.out _).mono ?_
  rintro e w1 ⟨⟨a, b, c, d, rfl, fa, fb, fc, fd⟩, hb1⟩
  have z1 := hb1.size
  unfold agg4
  go_wp2_with fail
  refine (HI.out _).mono ?_
  rintro e w2 ⟨⟨a', b', c', d', rfl, fa', fb', fc', fd'⟩, hb2⟩
  have z2 := hb2.size
  simp only [World.size_alloc] at z2
  have hz2 : w1.heap.size < w2.heap.size := by omega
  obtain ⟨hcA, hfA⟩ := bcell hb2
  unfold agg4
  go_wp2_with fail
  refine (eqPlan a' b' c' d' a b c d _ (fa'.trans fa.symm) (fb'.trans fb.symm) (fc'.trans fc.symm) (fd'.trans fd.symm)).mono ?_
  rintro e w3 ⟨rfl, hb3⟩
  have z3 := hb3.size
  clear hcA hfA
  go_wp2_with fail
  go_ret
  exact ⟨rfl, by (repeat (first | exact Below.refl _ _ | assumption | refine below_dr ?_ _ | refine Below.alloc ?_ (by first | omega | (simp; done) | (simp; omega)) _ | refine Below.setCell ?_ (by first | omega | (simp; done) | (simp; omega)) _ | refine Below.trans ?_ (Below.mono (by assumption) (by first | omega | (simp; done) | (simp; omega)))))⟩

set_option maxRecDepth 100000 in
theorem jerkPlanLifted (os : Os) (started : os.Started) (H : Type) (enc : TypeId × Value → H) :
    ReturnsInHanded {} Try.checked os 5 .any (Rows.fnExactJerkPlanSpec.pre6 enc Try.prog Try.f5 Rows.fnExactJerkPlanRow.domain false) (Rows.fnExactJerkPlanSpec.post enc Try.prog Try.f5 false true false false) := by
  refine returnsInHanded_of_change (C := Try.checked) own started (by kernel_rfl) Try.func5
    (ChangeSpec.witness6 (enc := enc) (C := Try.checked) false ⟨#[], #[.float .f32 0, .float .f32 0, .float .f32 0, .float .f32 0], []⟩ 8 (by kernel_rfl) (by kernel_rfl) (by kernel_rfl) (by kernel_rfl)) ?_
  intro W base args ds gs before hval0 hW hcnd _
  have hval : ∀ (j : Nat) t v, Try.f5.params[j]? = some t → args[j]? = some v → Value.okWide Try.prog W .any base t v := hval0
  have hW' := hW
  obtain ⟨p, q, hA0, hV, rfl, hfz, hnd⟩ := hW
  have hA : DataW.TrodAll enc Try.prog W 0 (fun _ => true) true Try.f5.params.toList args.toList ds p := hA0
  rw [Try.params5] at hA hval
  obtain ⟨v0, vs0, d0, ds0, p0, q0, hargs, rfl, rfl, h0, r0⟩ := trodAll_cons hA
  obtain ⟨v1, vs1, d1, ds1, p1, q1, rfl, rfl, rfl, h1, r1⟩ := trodAll_cons r0
  obtain ⟨v2, vs2, d2, ds2, p2, q2, rfl, rfl, rfl, h2, r2⟩ := trodAll_cons r1
  obtain ⟨v3, vs3, d3, ds3, p3, q3, rfl, rfl, rfl, h3, r3⟩ := trodAll_cons r2
  obtain ⟨rfl, rfl, rfl⟩ := trodAll_nil r3
  obtain rfl : args = #[v0, v1, v2, v3] := by cases args; simp_all
  obtain ⟨rfl, rfl⟩ := trodVars_none hV
  have lt0 : ∀ x ∈ p0, x.block < W.heap.size := by obtain ⟨m, hm⟩ := h0; exact DataW.trod_lt m _ _ _ hm
  have lt1 : ∀ x ∈ p1, x.block < W.heap.size := by obtain ⟨m, hm⟩ := h1; exact DataW.trod_lt m _ _ _ hm
  have lt2 : ∀ x ∈ p2, x.block < W.heap.size := by obtain ⟨m, hm⟩ := h2; exact DataW.trod_lt m _ _ _ hm
  have lt3 : ∀ x ∈ p3, x.block < W.heap.size := by obtain ⟨m, hm⟩ := h3; exact DataW.trod_lt m _ _ _ hm
  obtain ⟨a, rfl⟩ := okWide_float Try.underlying22 (hval 0 22 v0 rfl rfl)
  obtain ⟨b, rfl⟩ := okWide_float Try.underlying22 (hval 1 22 v1 rfl rfl)
  obtain ⟨c, rfl⟩ := okWide_float Try.underlying22 (hval 2 22 v2 rfl rfl)
  obtain ⟨d, rfl⟩ := okWide_float Try.underlying22 (hval 3 22 v3 rfl rfl)
  clear hA0 hval0
  refine (fnJerkPlan a b c d W).mono fun e W' ⟨he, bel⟩ => ?_
  subst he
  exact ⟨_, rfl, _, _, _, [], _, [], hW', trodAll_mk1 (shut_bool Try.underlying4 _), (trodAll_cons_mk (Below.trod laidOut (by kernel_rfl) (of_decide_eq_true (by kernel_rfl)) h0 bel lt0) (trodAll_cons_mk (Below.trod laidOut (by kernel_rfl) (of_decide_eq_true (by kernel_rfl)) h1 bel lt1) (trodAll_cons_mk (Below.trod laidOut (by kernel_rfl) (of_decide_eq_true (by kernel_rfl)) h2 bel lt2) (trodAll_cons_mk (Below.trod laidOut (by kernel_rfl) (of_decide_eq_true (by kernel_rfl)) h3 bel lt3) trodAll_mk0)))), rfl, bel.frame _, fun h => by cases h⟩

theorem jerkPlan_holds : Rows.FnExactJerkPlanSaid :=
  OpenClaim.holds_of_wide 5 Try.f5 rfl rfl rfl rfl rfl rfl rfl ⟨rfl, rfl, rfl, rfl, rfl⟩ rfl rfl rfl rfl rfl (by kernel_rfl) Try.func5 (by kernel_rfl)
    (of_decide_eq_true (by kernel_rfl)) (by unfold Func.isWrapper; first | (rw [if_pos (by decide +kernel)]; kernel_rfl) | (rw [if_neg (by decide +kernel)]; exact ⟨rfl, rfl⟩))
    (fun os started H enc _ => jerkPlanLifted os started H enc)
#print axioms jerkPlan_holds
end Go.Proofs.Ytjcofdengndhgaa
