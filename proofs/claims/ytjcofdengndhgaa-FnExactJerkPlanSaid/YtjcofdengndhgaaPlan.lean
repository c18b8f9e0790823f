/- Contracts of PlanTime and what it calls. -/
import Derived.Test.YtjcofdengndhgaaLf
namespace Go.Proofs.Ytjcofdengndhgaa
open Go.RowKit Go.Fl

/-- a plan is valid -/
def planOk (j r h c : Nat) : Bool := above j && least r && least h && least c
def planTime (r h c : Nat) : Nat := fadd (fadd (fmul 1082130432 r) (fmul 1073741824 h)) c
def agg4 (a b c d : Nat) : Value := .agg #[.float .f32 a, .float .f32 b, .float .f32 c, .float .f32 d]

set_option maxHeartbeats 1000000 in
theorem l07Plan (j r h c b : Nat) (w : World) (h0 : w.cell? ⟨b, 0, none⟩ = some (.float .f32 j)) (h1 : w.cell? ⟨b, 1, none⟩ = some (.float .f32 r))
    (h2 : w.cell? ⟨b, 2, none⟩ = some (.float .f32 h)) (h3 : w.cell? ⟨b, 3, none⟩ = some (.float .f32 c)) :
    Calls Try.prog 22 #[.pointer (some ⟨b, 0, none⟩)] w fun e w' => e = .returned (.bool (planOk (can .f32 j) (can .f32 r) (can .f32 h) (can .f32 c))) ∧ ∃ n, w' = w.drewN n := by
  unfold planOk
  cases e0 : above (can .f32 j)
  · go_enter Try.func22, Try.ntmps22
    go_wp2_with (first | (go_at_call 29; refine (l02Above _ _).mono ?_; rintro e w' ⟨rfl, n, rfl⟩) | (go_at_call 26; refine (l02Least _ _).mono ?_; rintro e w' ⟨rfl, n, rfl⟩))
    go_ret
    exact ⟨by simp, _, rfl⟩
  cases e1 : least (can .f32 r)
  · go_enter Try.func22, Try.ntmps22
    go_wp2_with (first | (go_at_call 29; refine (l02Above _ _).mono ?_; rintro e w' ⟨rfl, n, rfl⟩) | (go_at_call 26; refine (l02Least _ _).mono ?_; rintro e w' ⟨rfl, n, rfl⟩))
    go_ret
    exact ⟨by simp, _, rfl⟩
  cases e2 : least (can .f32 h)
  · go_enter Try.func22, Try.ntmps22
    go_wp2_with (first | (go_at_call 29; refine (l02Above _ _).mono ?_; rintro e w' ⟨rfl, n, rfl⟩) | (go_at_call 26; refine (l02Least _ _).mono ?_; rintro e w' ⟨rfl, n, rfl⟩))
    go_ret
    exact ⟨by simp, _, rfl⟩
  · go_enter Try.func22, Try.ntmps22
    go_wp2_with (first | (go_at_call 29; refine (l02Above _ _).mono ?_; rintro e w' ⟨rfl, n, rfl⟩) | (go_at_call 26; refine (l02Least _ _).mono ?_; rintro e w' ⟨rfl, n, rfl⟩))
    go_ret
    exact ⟨by simp, _, rfl⟩

set_option maxHeartbeats 1000000 in
theorem isPlan (j r h c : Nat) (w : World) :
    Calls Try.prog 24 #[agg4 j r h c] w fun e w' => e = .returned (.bool (planOk (can .f32 j) (can .f32 r) (can .f32 h) (can .f32 c))) ∧ Below w.heap.size w w' := by
  unfold planOk agg4
  cases e0 : above (can .f32 j)
  · go_enter Try.func24, Try.ntmps24
    go_wp2_with fail
    refine (areMore [j] _ _ ?_).mono ?_
    · exact slF_new _ [j] _ _ _ (by simp) (by simp) _ rfl rfl
    rintro e w' ⟨rfl, n, rfl⟩
    go_wp2_with fail
    go_ret
    exact ⟨rfl, by (repeat (first | exact Below.refl _ _ | assumption | refine below_dr ?_ _ | refine Below.alloc ?_ (by first | omega | (simp; done) | (simp; omega)) _ | refine Below.setCell ?_ (by first | omega | (simp; done) | (simp; omega)) _ | refine Below.trans ?_ (Below.mono (by assumption) (by first | omega | (simp; done) | (simp; omega)))))⟩
  · go_enter Try.func24, Try.ntmps24
    go_wp2_with fail
    refine (areMore [j] _ _ ?_).mono ?_
    · exact slF_new _ [j] _ _ _ (by simp) (by simp) _ rfl rfl
    rintro e w' ⟨rfl, n, rfl⟩
    go_wp2_with fail
    refine (areFinite [r, h, c] _ _ ?_).mono ?_
    · exact (slF_new _ [r, h, c] _ _ _ (by simp) (by simp) _ rfl rfl)
    rintro e w' ⟨rfl, n, rfl⟩
    generalize hB : (List.all [r, h, c] fun x => fin (can .f32 x)) = B
    have HB := Lib.hid hB
    clear hB
    go_wp2_with fail
    all_goals
      go_ret
      refine ⟨ret_bool ?_, by (repeat (first | exact Below.refl _ _ | assumption | refine below_dr ?_ _ | refine Below.alloc ?_ (by first | omega | (simp; done) | (simp; omega)) _ | refine Below.setCell ?_ (by first | omega | (simp; done) | (simp; omega)) _ | refine Below.trans ?_ (Below.mono (by assumption) (by first | omega | (simp; done) | (simp; omega)))))⟩
      have hb := HB.out
      simp only [List.all_cons, List.all_nil] at hb
      simp only [least, ← F32.ge (F32.mk r) F32.zero, ← F32.ge (F32.mk h) F32.zero, ← F32.ge (F32.mk c) F32.zero]
      generalize fin (can .f32 r) = b1 at *
      generalize fin (can .f32 h) = b2 at *
      generalize fin (can .f32 c) = b3 at *
      cases b1 <;> cases b2 <;> cases b3 <;> simp_all

theorem planTimeS (j r hd c : Nat) (w : World) :
    Calls Try.prog 7 #[agg4 j r hd c] w fun e w' => (∃ x, e = .returned (.tuple #[.float .f32 x, .bool (planOk (can .f32 j) (can .f32 r) (can .f32 hd) (can .f32 c) && fin (planTime (can .f32 r) (can .f32 hd) (can .f32 c)))]) ∧
      F32 x (if planOk (can .f32 j) (can .f32 r) (can .f32 hd) (can .f32 c) then ifFin (planTime (can .f32 r) (can .f32 hd) (can .f32 c)) else 0)) ∧ Below w.heap.size w w' := by
  unfold agg4
  cases e0 : planOk (can .f32 j) (can .f32 r) (can .f32 hd) (can .f32 c)
  · go_enter Try.func7, Try.ntmps7
    go_wp2_with fail
    refine (l07Plan j r hd c _ _ (by simp) (by simp) (by simp) (by simp)).mono ?_
    rintro e w' ⟨rfl, n, rfl⟩
    go_wp2_with fail
    go_ret2
    exact ⟨⟨_, rfl, F32.zero⟩, by (repeat (first | exact Below.refl _ _ | assumption | refine below_dr ?_ _ | refine Below.alloc ?_ (by first | omega | (simp; done) | (simp; omega)) _ | refine Below.setCell ?_ (by first | omega | (simp; done) | (simp; omega)) _ | refine Below.trans ?_ (Below.mono (by assumption) (by first | omega | (simp; done) | (simp; omega)))))⟩
  · go_enter Try.func7, Try.ntmps7
    go_wp2_with fail
    refine (l07Plan j r hd c _ _ (by simp) (by simp) (by simp) (by simp)).mono ?_
    rintro e w' ⟨rfl, n, rfl⟩
    go_wp2_with (refine wpList_f rfl rfl rfl rfl (by decide) ?_; intro _ _ _; simp only [Act.put, List.setIfInBounds_toArray, List.set_cons_succ, List.set_cons_zero])
    refine (l02Number _ _).mono ?_
    rintro e w' ⟨⟨x, rfl, hx⟩, n, rfl⟩
    go_wp2_with fail
    go_ret2
    refine ⟨⟨x, ret_fb ?_, ?_⟩, by (repeat (first | exact Below.refl _ _ | assumption | refine below_dr ?_ _ | refine Below.alloc ?_ (by first | omega | (simp; done) | (simp; omega)) _ | refine Below.setCell ?_ (by first | omega | (simp; done) | (simp; omega)) _ | refine Below.trans ?_ (Below.mono (by assumption) (by first | omega | (simp; done) | (simp; omega)))))⟩
    · simp only [F32] at *
      simp only [*, can_l1, can_l2, can_l3, can_l4, can_l5, can_l6, planTime, fadd, fmul, Bool.true_and]
    · simp only [F32] at *
      simp only [*, can_l1, can_l2, can_l3, can_l4, can_l5, can_l6, planTime, fadd, fmul, if_true]

theorem planTimeI (j r hd c : Nat) (w : World) :
    Calls Try.prog 9 #[agg4 j r hd c] w fun e w' => (∃ x, e = .returned (.tuple #[.float .f32 x, .bool (planOk (can .f32 j) (can .f32 r) (can .f32 hd) (can .f32 c) && fin (planTime (can .f32 r) (can .f32 hd) (can .f32 c)))]) ∧
      F32 x (if planOk (can .f32 j) (can .f32 r) (can .f32 hd) (can .f32 c) then ifFin (planTime (can .f32 r) (can .f32 hd) (can .f32 c)) else 0)) ∧ Below w.heap.size w w' := by
  cases e0 : planOk (can .f32 j) (can .f32 r) (can .f32 hd) (can .f32 c)
  · unfold agg4
    go_enter Try.func9, Try.ntmps9
    go_wp2_with fail
    refine (isPlan j r hd c _).mono ?_
    rintro e w1 ⟨rfl, hb⟩
    go_wp2_with fail
    go_ret2
    exact ⟨⟨_, rfl, F32.zero⟩, by (repeat (first | exact Below.refl _ _ | assumption | refine below_dr ?_ _ | refine Below.alloc ?_ (by first | omega | (simp; done) | (simp; omega)) _ | refine Below.setCell ?_ (by first | omega | (simp; done) | (simp; omega)) _ | refine Below.trans ?_ (Below.mono (by assumption) (by first | omega | (simp; done) | (simp; omega)))))⟩
  · unfold agg4
    go_enter Try.func9, Try.ntmps9
    go_wp2_with fail
    refine (isPlan j r hd c _).mono ?_
    rintro e w1 ⟨rfl, hb⟩
    have hc0 := hb.cell (p := ⟨w.heap.size, 0, none⟩) (by simp)
    have hc1 := hb.cell (p := ⟨w.heap.size, 1, none⟩) (by simp)
    have hc2 := hb.cell (p := ⟨w.heap.size, 2, none⟩) (by simp)
    have hc3 := hb.cell (p := ⟨w.heap.size, 3, none⟩) (by simp)
    simp only [World.cell?_alloc_new] at hc0 hc1 hc2 hc3
    go_wp2_with (refine wpList_f rfl rfl rfl rfl (by decide) ?_; intro _ _ _; simp only [Act.put, List.setIfInBounds_toArray, List.set_cons_succ, List.set_cons_zero])
    refine (ifNumber _ _).mono ?_
    rintro e w' ⟨⟨x, rfl, hx⟩, n, rfl⟩
    go_wp2_with fail
    go_ret2
    refine ⟨⟨x, ret_fb ?_, ?_⟩, by (repeat (first | exact Below.refl _ _ | assumption | refine below_dr ?_ _ | refine Below.alloc ?_ (by first | omega | (simp; done) | (simp; omega)) _ | refine Below.setCell ?_ (by first | omega | (simp; done) | (simp; omega)) _ | refine Below.trans ?_ (Below.mono (by assumption) (by first | omega | (simp; done) | (simp; omega)))))⟩
    · simp only [F32] at *
      simp only [*, can_l1, can_l2, can_l3, can_l4, can_l5, can_l6, planTime, fadd, fmul, Bool.true_and]
    · simp only [F32] at *
      simp only [*, can_l1, can_l2, can_l3, can_l4, can_l5, can_l6, planTime, fadd, fmul, if_true]

/-- laws.toPlan: a copy of another type -/
theorem toPlan (j r hd c : Nat) (w : World) :
    Calls Try.prog 8 #[agg4 j r hd c] w fun e w' => e = .returned (agg4 j r hd c) ∧ Below w.heap.size w w' := by
  unfold agg4
  go_enter Try.func8, Try.ntmps8
  go_wp2_with fail
  refine bodyPost_ret (v := .agg #[.float .f32 j, .float .f32 r, .float .f32 hd, .float .f32 c]) (by simp [results, Try.results8, go_sem]) rfl ⟨rfl, ?_⟩
  (repeat (first | exact Below.refl _ _ | assumption | refine below_dr ?_ _ | refine Below.alloc ?_ (by first | omega | (simp; done) | (simp; omega)) _ | refine Below.setCell ?_ (by first | omega | (simp; done) | (simp; omega)) _ | refine Below.trans ?_ (Below.mono (by assumption) (by first | omega | (simp; done) | (simp; omega)))))

theorem sameFloat (a b : Nat) (hab : can .f64 a = can .f64 b) (w : World) :
    Calls Try.prog 10 #[.float .f64 a, .float .f64 b] w fun e w' => e = .returned (.bool true) ∧ ∃ n, w' = w.drewN n := by
  rcases can_eq_cases hab with ⟨ha, hb⟩ | ⟨ha, rfl⟩
  · have h1 : (FloatKind.f64.format.order a a != some Ordering.eq) = true := by rw [order_nan ha]; rfl
    have h2 : (FloatKind.f64.format.order b b != some Ordering.eq) = true := by rw [order_nan hb]; rfl
    clear hab
    go_enter Try.func10, Try.ntmps10
    go_wp2_with fail
    go_ret
    exact ⟨rfl, 0, rfl⟩
  · have h1 : (FloatKind.f64.format.order a a != some Ordering.eq) = false := by rw [order_self ha]; rfl
    have h2 : (FloatKind.f64.format.order a a == some Ordering.eq) = true := by rw [order_self ha]; rfl
    clear hab
    cases h3 : (FloatKind.f64.format.order a 0 == some Ordering.eq)
    · go_enter Try.func10, Try.ntmps10
      go_wp2_with fail
      go_ret
      exact ⟨ret_bool (by first | rfl | simp), 0, rfl⟩
    · go_enter Try.func10, Try.ntmps10
      go_wp2_with fail
      go_ret
      refine ⟨ret_bool (beq_iff_eq.2 ?_), _, rfl⟩
      rw [order_mop (w := w.drewN _) (w' := w)]

theorem fnPlanTime (j r hd c : Nat) (w : World) :
    Calls Try.prog 3 #[agg4 j r hd c] w fun e w' => e = .returned (.bool true) ∧ Below w.heap.size w w' := by
  unfold agg4
  go_enter Try.func3, Try.ntmps3
  go_wp2_with fail
  refine (toPlan j r hd c _).mono ?_
  rintro e w1 ⟨rfl, hb1⟩
  go_wp2_with fail
  refine (planTimeS j r hd c _).mono ?_
  rintro e w2 ⟨⟨x, rfl, hx⟩, hb2⟩
  obtain ⟨hcA, hfA⟩ := bcell hb1
  obtain ⟨hcB, hfB⟩ := bcell hb2
  have z1 := hb1.size
  have z2 := hb2.size
  simp only [World.size_alloc] at z1
  have hz1 : w.heap.size < w1.heap.size := by omega
  go_wp2_with fail
  refine (toPlan j r hd c _).mono ?_
  rintro e w3 ⟨rfl, hb3⟩
  have z3 := hb3.size
  go_wp2_with fail
  refine (planTimeI j r hd c _).mono ?_
  rintro e w4 ⟨⟨y, rfl, hy⟩, hb4⟩
  have z4 := hb4.size
  clear hcA hfA hcB hfB
  go_wp2_with fail
  refine (sameFloat _ _ (can_widen (by unfold F32 at hx hy; rw [hx, hy])) _).mono ?_
  rintro e w5 ⟨rfl, n, rfl⟩
  go_wp2_with fail
  go_ret
  exact ⟨rfl, by (repeat (first | exact Below.refl _ _ | assumption | refine below_dr ?_ _ | refine Below.alloc ?_ (by first | omega | (simp; done) | (simp; omega)) _ | refine Below.setCell ?_ (by first | omega | (simp; done) | (simp; omega)) _ | refine Below.trans ?_ (Below.mono (by assumption) (by first | omega | (simp; done) | (simp; omega)))))⟩
end Go.Proofs.Ytjcofdengndhgaa
