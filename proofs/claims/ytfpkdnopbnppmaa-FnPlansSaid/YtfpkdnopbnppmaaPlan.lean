/- Contracts of PlanTime and what it calls. -/
import Derived.Test.YtfpkdnopbnppmaaLf
namespace Go.Proofs.Ytfpkdnopbnppmaa
open Go.RowKit Go.Fl

/-- a plan is valid -/
def planOk (j r h c : Nat) : Bool := above j && least r && least h && least c
def planTime (r h c : Nat) : Nat := fadd (fadd (fmul 1082130432 r) (fmul 1073741824 h)) c
def agg4 (a b c d : Nat) : Value := .agg #[.float .f32 a, .float .f32 b, .float .f32 c, .float .f32 d]

set_option maxHeartbeats 1000000 in
theorem isPlan (j r h c : Nat) (w : World) :
    Calls Try.prog 20 #[agg4 j r h c] w fun e w' => e = .returned (.bool (planOk (can .f32 j) (can .f32 r) (can .f32 h) (can .f32 c))) ∧ Below w.heap.size w w' := by
  unfold planOk agg4
  cases e0 : above (can .f32 j)
  · go_enter Try.func20, Try.ntmps20
    go_wp2_with fail
    refine (areMore [j] _ _ ?_).mono ?_
    · exact slF_new _ [j] _ _ _ (by simp) (by simp) _ rfl rfl
    rintro e w' ⟨rfl, n, rfl⟩
    go_wp2_with fail
    go_ret
    exact ⟨rfl, by (repeat (first | exact Below.refl _ _ | assumption | refine below_dr ?_ _ | refine Below.alloc ?_ (by first | omega | (simp; done) | (simp; omega)) _ | refine Below.setCell ?_ (by first | omega | (simp; done) | (simp; omega)) _ | refine Below.trans ?_ (Below.mono (by assumption) (by first | omega | (simp; done) | (simp; omega)))))⟩
  · go_enter Try.func20, Try.ntmps20
    go_wp2_with fail
    refine (areMore [j] _ _ ?_).mono ?_
    · exact slF_new _ [j] _ _ _ (by simp) (by simp) _ rfl rfl
    rintro e w' ⟨rfl, n, rfl⟩
    go_wp2_with fail
    refine (areFinite [r, h, c] _ _ ?_).mono ?_
    · exact (slF_new _ [r, h, c] _ _ _ (by simp) (by simp) _ rfl rfl)
    rintro e w' ⟨rfl, n, rfl⟩
    generalize hB : (List.all [r, h, c] fun x => fin (can .f32 x)) = B
    have HB := Lib.hid hB
    clear hB
    go_wp2_with fail
    all_goals
      go_ret
      refine ⟨ret_bool ?_, by (repeat (first | exact Below.refl _ _ | assumption | refine below_dr ?_ _ | refine Below.alloc ?_ (by first | omega | (simp; done) | (simp; omega)) _ | refine Below.setCell ?_ (by first | omega | (simp; done) | (simp; omega)) _ | refine Below.trans ?_ (Below.mono (by assumption) (by first | omega | (simp; done) | (simp; omega)))))⟩
      have hb := HB.out
      simp only [List.all_cons, List.all_nil] at hb
      simp only [least, ← F32.ge (F32.mk r) F32.zero, ← F32.ge (F32.mk h) F32.zero, ← F32.ge (F32.mk c) F32.zero]
      generalize fin (can .f32 r) = b1 at *
      generalize fin (can .f32 h) = b2 at *
      generalize fin (can .f32 c) = b3 at *
      cases b1 <;> cases b2 <;> cases b3 <;> simp_all

theorem planTimeI (j r hd c : Nat) (w : World) :
    Calls Try.prog 9 #[agg4 j r hd c] w fun e w' => (∃ x, e = .returned (.tuple #[.float .f32 x, .bool (planOk (can .f32 j) (can .f32 r) (can .f32 hd) (can .f32 c) && fin (planTime (can .f32 r) (can .f32 hd) (can .f32 c)))]) ∧
      F32 x (if planOk (can .f32 j) (can .f32 r) (can .f32 hd) (can .f32 c) then ifFin (planTime (can .f32 r) (can .f32 hd) (can .f32 c)) else 0)) ∧ Below w.heap.size w w' := by
  cases e0 : planOk (can .f32 j) (can .f32 r) (can .f32 hd) (can .f32 c)
  · unfold agg4
    go_enter Try.func9, Try.ntmps9
    go_wp2_with fail
    refine (isPlan j r hd c _).mono ?_
    rintro e w1 ⟨rfl, hb⟩
    go_wp2_with fail
    go_ret2
    exact ⟨⟨_, rfl, F32.zero⟩, by (repeat (first | exact Below.refl _ _ | assumption | refine below_dr ?_ _ | refine Below.alloc ?_ (by first | omega | (simp; done) | (simp; omega)) _ | refine Below.setCell ?_ (by first | omega | (simp; done) | (simp; omega)) _ | refine Below.trans ?_ (Below.mono (by assumption) (by first | omega | (simp; done) | (simp; omega)))))⟩
  · unfold agg4
    go_enter Try.func9, Try.ntmps9
    go_wp2_with fail
    refine (isPlan j r hd c _).mono ?_
    rintro e w1 ⟨rfl, hb⟩
    have hc0 := hb.cell (p := ⟨w.heap.size, 0, none⟩) (by simp)
    have hc1 := hb.cell (p := ⟨w.heap.size, 1, none⟩) (by simp)
    have hc2 := hb.cell (p := ⟨w.heap.size, 2, none⟩) (by simp)
    have hc3 := hb.cell (p := ⟨w.heap.size, 3, none⟩) (by simp)
    simp only [World.cell?_alloc_new] at hc0 hc1 hc2 hc3
    go_wp2_with (refine wpList_f rfl rfl rfl rfl (by decide) ?_; intro _ _ _; simp only [Act.put, List.setIfInBounds_toArray, List.set_cons_succ, List.set_cons_zero])
    refine (ifNumber _ _).mono ?_
    rintro e w' ⟨⟨x, rfl, hx⟩, n, rfl⟩
    go_wp2_with fail
    go_ret2
    refine ⟨⟨x, ret_fb ?_, ?_⟩, by (repeat (first | exact Below.refl _ _ | assumption | refine below_dr ?_ _ | refine Below.alloc ?_ (by first | omega | (simp; done) | (simp; omega)) _ | refine Below.setCell ?_ (by first | omega | (simp; done) | (simp; omega)) _ | refine Below.trans ?_ (Below.mono (by assumption) (by first | omega | (simp; done) | (simp; omega)))))⟩
    · simp only [F32] at *
      simp only [*, can_l1, can_l2, can_l3, can_l4, can_l5, can_l6, planTime, fadd, fmul, Bool.true_and]
    · simp only [F32] at *
      simp only [*, can_l1, can_l2, can_l3, can_l4, can_l5, can_l6, planTime, fadd, fmul, if_true]

end Go.Proofs.Ytfpkdnopbnppmaa
