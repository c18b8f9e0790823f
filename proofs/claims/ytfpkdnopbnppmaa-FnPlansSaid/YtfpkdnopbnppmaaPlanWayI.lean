/- The contract of impl.PlanWay. -/
import Derived.Test.YtfpkdnopbnppmaaPlanWay
namespace Go.Proofs.Ytfpkdnopbnppmaa
open Go.RowKit Go.Fl

set_option maxHeartbeats 1000000 in
theorem planWayI_no (j r hd c t : Nat) (w : World) (h0 : (planOk (can .f32 j) (can .f32 r) (can .f32 hd) (can .f32 c) && least (can .f32 t)) = false) :
    Calls Try.prog 10 #[agg4 j r hd c, .float .f32 t] w fun e w' => e = .returned (.tuple #[.float .f32 0, .bool false]) ∧ Below w.heap.size w w' := by
  cases e0 : planOk (can .f32 j) (can .f32 r) (can .f32 hd) (can .f32 c)
  · clear h0
    unfold agg4
    go_enter Try.func10, Try.ntmps10
    go_wp2_with fail
    refine (isPlan j r hd c _).mono ?_
    rintro e w1 ⟨rfl, hb⟩
    go_wp2_with fail
    go_ret2
    exact ⟨rfl, by (repeat (first | exact Below.refl _ _ | assumption | refine below_dr ?_ _ | refine Below.alloc ?_ (by first | omega | (simp; done) | (simp; omega)) _ | refine Below.setCell ?_ (by first | omega | (simp; done) | (simp; omega)) _ | refine Below.trans ?_ (Below.mono (by assumption) (by first | omega | (simp; done) | (simp; omega)))))⟩
  cases e1 : fin (can .f32 t)
  · clear h0
    unfold agg4
    go_enter Try.func10, Try.ntmps10
    go_wp2_with fail
    refine (isPlan j r hd c _).mono ?_
    rintro e w1 ⟨rfl, hb⟩
    go_wp2_with fail
    refine (implIsFinite t _).mono ?_
    rintro e w' ⟨rfl, m, rfl⟩
    go_wp2_with fail
    go_ret2
    exact ⟨rfl, by (repeat (first | exact Below.refl _ _ | assumption | refine below_dr ?_ _ | refine Below.alloc ?_ (by first | omega | (simp; done) | (simp; omega)) _ | refine Below.setCell ?_ (by first | omega | (simp; done) | (simp; omega)) _ | refine Below.trans ?_ (Below.mono (by assumption) (by first | omega | (simp; done) | (simp; omega)))))⟩
  · have e2 : (FloatKind.f32.format.order t 0 == some .gt || FloatKind.f32.format.order t 0 == some .eq) = false := by
      rw [F32.ge (F32.mk t) F32.zero]
      simpa [e0, least, e1] using h0
    clear h0
    unfold agg4
    go_enter Try.func10, Try.ntmps10
    go_wp2_with fail
    refine (isPlan j r hd c _).mono ?_
    rintro e w1 ⟨rfl, hb⟩
    go_wp2_with fail
    refine (implIsFinite t _).mono ?_
    rintro e w' ⟨rfl, m, rfl⟩
    go_wp2_with fail
    go_ret2
    exact ⟨rfl, by (repeat (first | exact Below.refl _ _ | assumption | refine below_dr ?_ _ | refine Below.alloc ?_ (by first | omega | (simp; done) | (simp; omega)) _ | refine Below.setCell ?_ (by first | omega | (simp; done) | (simp; omega)) _ | refine Below.trans ?_ (Below.mono (by assumption) (by first | omega | (simp; done) | (simp; omega)))))⟩

theorem prod4 (a b c d : Nat) : prodTo [a, b, c, d] 3 = fmul (fmul (fmul (can .f32 a) (can .f32 b)) (can .f32 c)) (can .f32 d) := by
  simp [prodTo]

theorem cells4 (w : World) (nb q : Nat) (T : TypeId) (hb : nb = w.heap.size) (a b c d : Nat) : ∀ i, i < [a, b, c, d].length → ((w.alloc (.cells #[.float .f32 a, .float .f32 b, .float .f32 c, .float .f32 d] T)).drewN q).cell? ⟨nb, i, none⟩ = some (.float .f32 ([a, b, c, d].getD i 0)) := by
  intro i hi
  rw [World.cell?_drewN, World.cell?_alloc_at _ _ _ _ hb]
  simp only [List.length_cons, List.length_nil] at hi
  have : i = 0 ∨ i = 1 ∨ i = 2 ∨ i = 3 := by omega
  rcases this with rfl | rfl | rfl | rfl <;> rfl

theorem Cells7.below {w w' : World} {b B : Nat} {f : Nat → Nat} (h : Cells7 w b f) (hb : Below B w w') (hl : b < B) : Cells7 w' b f := fun k hk => by
  rw [hb.cell (p := ⟨b, k, none⟩) hl]; exact h k hk

set_option maxHeartbeats 4000000 in
set_option maxRecDepth 100000 in
theorem planWayI_yes (j r hd c t : Nat) (w : World) (e0 : planOk (can .f32 j) (can .f32 r) (can .f32 hd) (can .f32 c) = true) (e1 : least (can .f32 t) = true) :
    Calls Try.prog 10 #[agg4 j r hd c, .float .f32 t] w fun e w' => (∃ x, e = .returned (.tuple #[.float .f32 x, .bool (fin (pwTo (can .f32 j) (can .f32 r) (can .f32 hd) (can .f32 c) (can .f32 t) 7).1)]) ∧
      F32 x (ifFin (pwTo (can .f32 j) (can .f32 r) (can .f32 hd) (can .f32 c) (can .f32 t) 7).1)) ∧ Below w.heap.size w w' := by
  have e2 : (FloatKind.f32.format.order t 0 == some .gt || FloatKind.f32.format.order t 0 == some .eq) = true := by
    rw [F32.ge (F32.mk t) F32.zero]
    simp [least] at e1; exact e1.2
  have e3 : fin (can .f32 t) = true := by simp [least] at e1; exact e1.1
  clear e1
  unfold agg4
  go_enter Try.func10, Try.ntmps10
  go_wp2_with fail
  refine (isPlan j r hd c _).mono ?_
  rintro e w1 ⟨rfl, hb⟩
  go_wp2_with fail
  refine (implIsFinite t _).mono ?_
  rintro e w' ⟨rfl, m, rfl⟩
  obtain ⟨hcA, hfA⟩ := bcell hb
  have z1 := hb.size
  simp only [World.size_alloc] at z1
  have hz1 : w.heap.size < w1.heap.size := by omega
  go_wp2_with fail
  clear hcA hfA
  go_loopw [1, 6, 7, 8, 54] (fun u x v a i wr => ∃ k ub xb vb ab : Nat, k ≤ 7 ∧ i = .int .i64 k ∧ u = .float .f32 ub ∧ x = .float .f32 xb ∧ v = .float .f32 vb ∧ a = .float .f32 ab ∧
    F32 xb (pwTo (can .f32 j) (can .f32 r) (can .f32 hd) (can .f32 c) (can .f32 t) k).1 ∧ F32 vb (pwTo (can .f32 j) (can .f32 r) (can .f32 hd) (can .f32 c) (can .f32 t) k).2.1 ∧
    F32 ab (pwTo (can .f32 j) (can .f32 r) (can .f32 hd) (can .f32 c) (can .f32 t) k).2.2.1 ∧ F32 ub (pwTo (can .f32 j) (can .f32 r) (can .f32 hd) (can .f32 c) (can .f32 t) k).2.2.2 ∧
    Below w.heap.size w wr ∧ w1.heap.size + 2 ≤ wr.heap.size ∧ Cells7 wr (w1.heap.size + 1) (nth7 j 0 (Op.negFloat .f32 j) 0 (Op.negFloat .f32 j) 0 j)) (fun _ _ _ _ i _ => 7 - (intOf i).toNat)
  case atStart =>
    refine ⟨0, t, 0, 0, 0, by omega, rfl, rfl, rfl, rfl, rfl, F32.zero, F32.zero, F32.zero, F32.mk t, by (repeat (first | exact Below.refl _ _ | assumption | refine below_dr ?_ _ | refine Below.alloc ?_ (by first | omega | (simp; done) | (simp; omega)) _ | refine Below.setCell ?_ (by first | omega | (simp; done) | (simp; omega)) _ | refine Below.trans ?_ (Below.mono (by assumption) (by first | omega | (simp; done) | (simp; omega))))), by simp, fun k hk => ?_⟩
    rw [World.cell?_drewN, World.cell?_alloc_at _ _ _ _ (by simp)]; exact cell7 _ _ _ _ _ _ _ k hk
  case round =>
    obtain ⟨k, ub, xb, vb, ab, hk, rfl, rfl, rfl, rfl, rfl, hx, hv, ha, hu, hB, hsz, hj⟩ := hrel
    by_cases hlt : k < 7
    · have hcj := hj k hlt
      have hsucc := pwTo_succ (can .f32 j) (can .f32 r) (can .f32 hd) (can .f32 c) (can .f32 t) k hlt
      rw [phase_nth j r hd c k hlt] at hsucc
      have HS := Lib.hid hsucc
      have HJ := Lib.hid hj
      clear hj hsucc
      have hix : ∀ w, (Instr.index 50 (.agg #[.float .f32 r, .float .f32 hd, .float .f32 r, .float .f32 c, .float .f32 r, .float .f32 hd, .float .f32 r]) (.int .i64 k)).run Try.prog w = .ok (.float .f32 (nth7 r hd r c r hd r k)) w := by
        have : k = 0 ∨ k = 1 ∨ k = 2 ∨ k = 3 ∨ k = 4 ∨ k = 5 ∨ k = 6 := by omega
        rcases this with rfl | rfl | rfl | rfl | rfl | rfl | rfl <;> (intro w; rfl)
      generalize nth7 r hd r c r hd r k = sb at hix HS
      generalize nth7 j 0 (Op.negFloat .f32 j) 0 (Op.negFloat .f32 j) 0 j k = jb at hcj HS
      generalize pwTo (can .f32 j) (can .f32 r) (can .f32 hd) (can .f32 c) (can .f32 t) k = st at hx hv ha hu HS
      cases hl : (FloatKind.f32.format.order ub sb == some .lt)
      · have hf : flt st.2.2.2 (can .f32 sb) = _ := (F32.lt hu (F32.mk sb)).symm.trans hl
        have HF := Lib.hid hf
        clear hf
        go_wp2_with (refine wpList_f rfl rfl rfl rfl (by decide) ?_; intro _ _ _; simp only [Act.put, List.setIfInBounds_toArray, List.set_cons_succ, List.set_cons_zero])
        refine (productOf [1056964608, ab, sb, sb] _ _ (by simp) (by simp) (cells4 _ _ _ _ (by simp) _ _ _ _)).mono ?_
        rintro e w' ⟨⟨p1, rfl, hp1⟩, n1, rfl⟩
        go_wp2_with (refine wpList_f rfl rfl rfl rfl (by decide) ?_; intro _ _ _; simp only [Act.put, List.setIfInBounds_toArray, List.set_cons_succ, List.set_cons_zero])
        refine (productOf [jb, sb, sb, sb] _ _ (by simp) (by simp) (cells4 _ _ _ _ (by simp) _ _ _ _)).mono ?_
        rintro e w' ⟨⟨p2, rfl, hp2⟩, n2, rfl⟩
        go_wp2_with (refine wpList_f rfl rfl rfl rfl (by decide) ?_; intro _ _ _; simp only [Act.put, List.setIfInBounds_toArray, List.set_cons_succ, List.set_cons_zero])
        refine (productOf [1056964608, jb, sb, sb] _ _ (by simp) (by simp) (cells4 _ _ _ _ (by simp) _ _ _ _)).mono ?_
        rintro e w' ⟨⟨p3, rfl, hp3⟩, n3, rfl⟩
        go_wp2_with (refine wpList_f rfl rfl rfl rfl (by decide) ?_; intro _ _ _; simp only [Act.put, List.setIfInBounds_toArray, List.set_cons_succ, List.set_cons_zero])
        simp only [List.length_cons, List.length_nil, Nat.reduceAdd, Nat.reduceSub, prod4] at hp1 hp2 hp3
        go_roundw
        case rel =>
          refine ⟨k + 1, _, _, _, _, by omega, by go_num, rfl, rfl, rfl, rfl, ?_, ?_, ?_, ?_, by (repeat (first | exact Below.refl _ _ | assumption | refine below_dr ?_ _ | refine Below.alloc ?_ (by first | omega | (simp; done) | (simp; omega)) _ | refine Below.setCell ?_ (by first | omega | (simp; done) | (simp; omega)) _ | refine Below.trans ?_ (Below.mono (by assumption) (by first | omega | (simp; done) | (simp; omega))))), by first | omega | (simp; omega), HJ.out.below (B := wr.heap.size) (by (repeat (first | exact Below.refl _ _ | assumption | refine below_dr ?_ _ | refine Below.alloc ?_ (by first | omega | (simp; done) | (simp; omega)) _ | refine Below.setCell ?_ (by first | omega | (simp; done) | (simp; omega)) _ | refine Below.trans ?_ (Below.mono (by assumption) (by first | omega | (simp; done) | (simp; omega)))))) (by omega)⟩
          all_goals
            have hf := HF.out
            rw [HS.out]
            simp only [F32] at *
            simp [pwStep, *, can_l1, can_l2, can_l3, can_l4, can_l5, can_l6, fadd, fmul, fdiv, fsub]
        case measure => simp [intOf]; omega
      · have hf : flt st.2.2.2 (can .f32 sb) = _ := (F32.lt hu (F32.mk sb)).symm.trans hl
        have HF := Lib.hid hf
        clear hf
        go_wp2_with (refine wpList_f rfl rfl rfl rfl (by decide) ?_; intro _ _ _; simp only [Act.put, List.setIfInBounds_toArray, List.set_cons_succ, List.set_cons_zero])
        refine (productOf [1056964608, ab, ub, ub] _ _ (by simp) (by simp) (cells4 _ _ _ _ (by simp) _ _ _ _)).mono ?_
        rintro e w' ⟨⟨p1, rfl, hp1⟩, n1, rfl⟩
        go_wp2_with (refine wpList_f rfl rfl rfl rfl (by decide) ?_; intro _ _ _; simp only [Act.put, List.setIfInBounds_toArray, List.set_cons_succ, List.set_cons_zero])
        refine (productOf [jb, ub, ub, ub] _ _ (by simp) (by simp) (cells4 _ _ _ _ (by simp) _ _ _ _)).mono ?_
        rintro e w' ⟨⟨p2, rfl, hp2⟩, n2, rfl⟩
        go_wp2_with (refine wpList_f rfl rfl rfl rfl (by decide) ?_; intro _ _ _; simp only [Act.put, List.setIfInBounds_toArray, List.set_cons_succ, List.set_cons_zero])
        refine (productOf [1056964608, jb, ub, ub] _ _ (by simp) (by simp) (cells4 _ _ _ _ (by simp) _ _ _ _)).mono ?_
        rintro e w' ⟨⟨p3, rfl, hp3⟩, n3, rfl⟩
        go_wp2_with (refine wpList_f rfl rfl rfl rfl (by decide) ?_; intro _ _ _; simp only [Act.put, List.setIfInBounds_toArray, List.set_cons_succ, List.set_cons_zero])
        simp only [List.length_cons, List.length_nil, Nat.reduceAdd, Nat.reduceSub, prod4] at hp1 hp2 hp3
        go_roundw
        case rel =>
          refine ⟨k + 1, _, _, _, _, by omega, by go_num, rfl, rfl, rfl, rfl, ?_, ?_, ?_, ?_, by (repeat (first | exact Below.refl _ _ | assumption | refine below_dr ?_ _ | refine Below.alloc ?_ (by first | omega | (simp; done) | (simp; omega)) _ | refine Below.setCell ?_ (by first | omega | (simp; done) | (simp; omega)) _ | refine Below.trans ?_ (Below.mono (by assumption) (by first | omega | (simp; done) | (simp; omega))))), by first | omega | (simp; omega), HJ.out.below (B := wr.heap.size) (by (repeat (first | exact Below.refl _ _ | assumption | refine below_dr ?_ _ | refine Below.alloc ?_ (by first | omega | (simp; done) | (simp; omega)) _ | refine Below.setCell ?_ (by first | omega | (simp; done) | (simp; omega)) _ | refine Below.trans ?_ (Below.mono (by assumption) (by first | omega | (simp; done) | (simp; omega)))))) (by omega)⟩
          all_goals
            have hf := HF.out
            rw [HS.out]
            simp only [F32] at *
            simp [pwStep, *, can_l1, can_l2, can_l3, can_l4, can_l5, can_l6, fadd, fmul, fdiv, fsub]
        case measure => simp [intOf]; omega
    · have e7 : k = 7 := by omega
      subst e7
      have HX := Lib.hid hx
      clear hj hx hv ha hu
      go_wp2_with fail
      refine (ifNumber _ _).mono ?_
      rintro e w' ⟨⟨y, rfl, hyy⟩, q, rfl⟩
      go_wp2_with fail
      go_ret2
      have e : can .f32 xb = _ := HX.out
      rw [e] at hyy
      exact ⟨⟨y, ret_fb (by rw [e]), hyy⟩, by (repeat (first | exact Below.refl _ _ | assumption | refine below_dr ?_ _ | refine Below.alloc ?_ (by first | omega | (simp; done) | (simp; omega)) _ | refine Below.setCell ?_ (by first | omega | (simp; done) | (simp; omega)) _ | refine Below.trans ?_ (Below.mono (by assumption) (by first | omega | (simp; done) | (simp; omega)))))⟩
end Go.Proofs.Ytfpkdnopbnppmaa
