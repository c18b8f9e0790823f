/- Contracts of PlanWay and what it calls. -/
import Derived.Test.YtjcofdengndhgaaPlan
namespace Go.Proofs.Ytjcofdengndhgaa
open Go.RowKit Go.Fl

def prodTo (xs : List Nat) (k : Nat) : Nat := ((xs.tail.take k).map (can .f32)).foldl fmul (can .f32 (xs.getD 0 0))
theorem prodTo_succ (xs : List Nat) (k : Nat) (h : k + 1 < xs.length) : prodTo xs (k + 1) = fmul (prodTo xs k) (can .f32 (xs.getD (1 + k) 0)) := by
  unfold prodTo
  cases xs with
  | nil => simp at h
  | cons x r =>
    simp only [List.length_cons, Nat.add_lt_add_iff_right] at h
    simp only [List.tail_cons]
    rw [List.take_succ_eq_append_getElem h, List.map_append, List.foldl_append, Nat.add_comm 1 k]
    simp only [List.map_cons, List.map_nil, List.foldl_cons, List.foldl_nil]
    congr 2
    simp [h]

set_option maxHeartbeats 400000 in
theorem productOf (xs : List Nat) (b : Nat) (w : World) (h2 : 2 ≤ xs.length) (hm : xs.length ≤ 1000)
    (hc : ∀ i, i < xs.length → w.cell? ⟨b, i, none⟩ = some (.float .f32 (xs.getD i 0))) :
    Calls Try.prog 28 #[.slice (some ⟨b, 0, none⟩) xs.length xs.length] w fun e w' => (∃ r, e = .returned (.float .f32 r) ∧ F32 r (prodTo xs (xs.length - 1))) ∧ ∃ n, w' = w.drewN n := by
  have hc0 := hc 0 (by omega)
  have h3 : 1 ≤ xs.length := by omega
  have h4 : 1 < xs.length := by omega
  generalize hx0 : xs.getD 0 0 = x0 at hc0
  have HX := Lib.hid hx0
  clear hx0
  go_enter Try.func28, Try.ntmps28
  go_wp2_with fail
  go_loopw [3, 12] (fun p i wr => ∃ k q r : Nat, k + 1 ≤ xs.length ∧ i = .int .i64 k ∧ p = .float .f32 r ∧ wr = w.drewN q ∧ F32 r (prodTo xs k)) (fun _ i _ => xs.length - (intOf i).toNat)
  case atStart => exact ⟨0, 0, x0, by omega, rfl, rfl, rfl, by unfold prodTo; rw [HX.out]; exact F32.mk _⟩
  case round =>
    obtain ⟨k, q, r, hk, rfl, rfl, rfl, hr⟩ := hrel
    by_cases hlt : k + 1 < xs.length
    · have hcell := hc (1 + k) (by omega)
      clear hc
      generalize hx1 : xs.getD (1 + k) 0 = x1 at hcell
      have HX1 := Lib.hid hx1
      clear hx1
      go_wp2_with (refine wpList_f rfl rfl rfl rfl (by decide) ?_; intro _ _ _; simp only [Act.put, List.setIfInBounds_toArray, List.set_cons_succ, List.set_cons_zero])
      go_roundw
      case rel =>
        refine ⟨k + 1, _, _, by omega, by go_num, rfl, rfl, ?_⟩
        rw [prodTo_succ xs k hlt, HX1.out, ← hr]
        assumption
      case measure => simp [intOf]; omega
    · clear hc
      go_wp2_with (refine wpList_f rfl rfl rfl rfl (by decide) ?_; intro _ _ _; simp only [Act.put, List.setIfInBounds_toArray, List.set_cons_succ, List.set_cons_zero])
      go_ret
      have e : xs.length - 1 = k := by omega
      exact ⟨⟨r, rfl, by rw [e]; exact hr⟩, _, rfl⟩

/-- one phase of a plan: place, speed, change of speed, time; how long it takes at most; its jerk -/
def pwStep (st : Nat × Nat × Nat × Nat) (p : Nat × Nat) : Nat × Nat × Nat × Nat :=
  let x := st.1; let v := st.2.1; let a := st.2.2.1; let t := st.2.2.2
  let s := if flt t p.1 then t else p.1
  (fadd x (fadd (fadd (fmul v s) (fmul (fmul (fmul 1056964608 a) s) s)) (fdiv (fmul (fmul (fmul p.2 s) s) s) 1086324736)),
   fadd v (fadd (fmul a s) (fmul (fmul (fmul 1056964608 p.2) s) s)), fadd a (fmul p.2 s), fsub t s)
def phases (j r h c : Nat) : List (Nat × Nat) := [(r, j), (h, 0), (r, fnegK .f32 j), (c, 0), (r, fnegK .f32 j), (h, 0), (r, j)]
def pwTo (j r h c t k : Nat) : Nat × Nat × Nat × Nat := ((phases j r h c).take k).foldl pwStep (0, 0, 0, t)
theorem pwTo_succ (j r h c t k : Nat) (hk : k < 7) : pwTo j r h c t (k + 1) = pwStep (pwTo j r h c t k) ((phases j r h c).getD k (0, 0)) := by
  unfold pwTo
  rw [List.take_succ_eq_append_getElem (by exact hk), List.foldl_append]
  simp only [List.foldl_cons, List.foldl_nil]
  congr 1
  simp [phases] at *
  have : k = 0 ∨ k = 1 ∨ k = 2 ∨ k = 3 ∨ k = 4 ∨ k = 5 ∨ k = 6 := by omega
  rcases this with rfl | rfl | rfl | rfl | rfl | rfl | rfl <;> rfl

set_option maxHeartbeats 1000000 in
theorem planWayS_no (j r hd c t : Nat) (w : World) (h0 : (planOk (can .f32 j) (can .f32 r) (can .f32 hd) (can .f32 c) && least (can .f32 t)) = false) :
    Calls Try.prog 11 #[agg4 j r hd c, .float .f32 t] w fun e w' => e = .returned (.tuple #[.float .f32 0, .bool false]) ∧ Below w.heap.size w w' := by
  unfold agg4
  cases e0 : planOk (can .f32 j) (can .f32 r) (can .f32 hd) (can .f32 c)
  · clear h0
    go_enter Try.func11, Try.ntmps11
    go_wp2_with fail
    refine (l07Plan j r hd c _ _ (by simp) (by simp) (by simp) (by simp)).mono ?_
    rintro e w' ⟨rfl, n, rfl⟩
    go_wp2_with fail
    go_ret2
    exact ⟨rfl, by (repeat (first | exact Below.refl _ _ | assumption | refine below_dr ?_ _ | refine Below.alloc ?_ (by first | omega | (simp; done) | (simp; omega)) _ | refine Below.setCell ?_ (by first | omega | (simp; done) | (simp; omega)) _ | refine Below.trans ?_ (Below.mono (by assumption) (by first | omega | (simp; done) | (simp; omega)))))⟩
  · have e1 : least (can .f32 t) = false := by simpa [e0] using h0
    clear h0
    go_enter Try.func11, Try.ntmps11
    go_wp2_with fail
    refine (l07Plan j r hd c _ _ (by simp) (by simp) (by simp) (by simp)).mono ?_
    rintro e w' ⟨rfl, n, rfl⟩
    go_wp2_with fail
    refine (l02Least t _).mono ?_
    rintro e w' ⟨rfl, m, rfl⟩
    go_wp2_with fail
    go_ret2
    exact ⟨rfl, by (repeat (first | exact Below.refl _ _ | assumption | refine below_dr ?_ _ | refine Below.alloc ?_ (by first | omega | (simp; done) | (simp; omega)) _ | refine Below.setCell ?_ (by first | omega | (simp; done) | (simp; omega)) _ | refine Below.trans ?_ (Below.mono (by assumption) (by first | omega | (simp; done) | (simp; omega)))))⟩

def nth7 (a b c d e f g : Nat) (k : Nat) : Nat := [a, b, c, d, e, f, g].getD k 0
theorem cell7 (a b c d e f g k : Nat) (hk : k < 7) : (#[Value.float .f32 a, .float .f32 b, .float .f32 c, .float .f32 d, .float .f32 e, .float .f32 f, .float .f32 g] : Array Value)[k]? = some (.float .f32 (nth7 a b c d e f g k)) := by
  have : k = 0 ∨ k = 1 ∨ k = 2 ∨ k = 3 ∨ k = 4 ∨ k = 5 ∨ k = 6 := by omega
  rcases this with rfl | rfl | rfl | rfl | rfl | rfl | rfl <;> rfl
theorem phase_nth (j r h c k : Nat) (hk : k < 7) : (phases (can .f32 j) (can .f32 r) (can .f32 h) (can .f32 c)).getD k (0, 0) =
    (can .f32 (nth7 r h r c r h r k), can .f32 (nth7 j 0 (Op.negFloat .f32 j) 0 (Op.negFloat .f32 j) 0 j k)) := by
  have : k = 0 ∨ k = 1 ∨ k = 2 ∨ k = 3 ∨ k = 4 ∨ k = 5 ∨ k = 6 := by omega
  rcases this with rfl | rfl | rfl | rfl | rfl | rfl | rfl <;> simp [phases, nth7, can_neg, can_l5]

def Cells7 (wr : World) (b : Nat) (f : Nat → Nat) : Prop := ∀ k, k < 7 → wr.cell? ⟨b, k, none⟩ = some (.float .f32 (f k))

set_option maxHeartbeats 2000000 in
set_option maxRecDepth 100000 in
theorem planWayS_yes (j r hd c t : Nat) (w : World) (e0 : planOk (can .f32 j) (can .f32 r) (can .f32 hd) (can .f32 c) = true) (e1 : least (can .f32 t) = true) :
    Calls Try.prog 11 #[agg4 j r hd c, .float .f32 t] w fun e w' => (∃ x, e = .returned (.tuple #[.float .f32 x, .bool (fin (pwTo (can .f32 j) (can .f32 r) (can .f32 hd) (can .f32 c) (can .f32 t) 7).1)]) ∧
      F32 x (ifFin (pwTo (can .f32 j) (can .f32 r) (can .f32 hd) (can .f32 c) (can .f32 t) 7).1)) ∧ Below w.heap.size w w' := by
  unfold agg4
  go_enter Try.func11, Try.ntmps11
  go_wp2_with fail
  refine (l07Plan j r hd c _ _ (by simp) (by simp) (by simp) (by simp)).mono ?_
  rintro e w' ⟨rfl, n, rfl⟩
  go_wp2_with fail
  refine (l02Least t _).mono ?_
  rintro e w' ⟨rfl, m, rfl⟩
  go_wp2_with fail
  go_loopw [1, 8, 9, 10, 49] (fun u x v a i wr => ∃ k ub xb vb ab : Nat, k ≤ 7 ∧ i = .int .i64 k ∧ u = .float .f32 ub ∧ x = .float .f32 xb ∧ v = .float .f32 vb ∧ a = .float .f32 ab ∧
    F32 xb (pwTo (can .f32 j) (can .f32 r) (can .f32 hd) (can .f32 c) (can .f32 t) k).1 ∧ F32 vb (pwTo (can .f32 j) (can .f32 r) (can .f32 hd) (can .f32 c) (can .f32 t) k).2.1 ∧
    F32 ab (pwTo (can .f32 j) (can .f32 r) (can .f32 hd) (can .f32 c) (can .f32 t) k).2.2.1 ∧ F32 ub (pwTo (can .f32 j) (can .f32 r) (can .f32 hd) (can .f32 c) (can .f32 t) k).2.2.2 ∧
    Below w.heap.size w wr ∧ Cells7 wr (w.heap.size + 1) (nth7 r hd r c r hd r) ∧ Cells7 wr (w.heap.size + 1 + 1) (nth7 j 0 (Op.negFloat .f32 j) 0 (Op.negFloat .f32 j) 0 j)) (fun _ _ _ _ i _ => 7 - (intOf i).toNat)
  case atStart =>
    refine ⟨0, t, 0, 0, 0, by omega, rfl, rfl, rfl, rfl, rfl, F32.zero, F32.zero, F32.zero, F32.mk t, by (repeat (first | exact Below.refl _ _ | assumption | refine below_dr ?_ _ | refine Below.alloc ?_ (by first | omega | (simp; done) | (simp; omega)) _ | refine Below.setCell ?_ (by first | omega | (simp; done) | (simp; omega)) _ | refine Below.trans ?_ (Below.mono (by assumption) (by first | omega | (simp; done) | (simp; omega))))), fun k hk => ?_, fun k hk => ?_⟩
    · rw [World.cell?_drewN, World.cell?_alloc_past _ _ _ (by simp), World.cell?_alloc_at _ _ _ _ (by simp)]; exact cell7 _ _ _ _ _ _ _ k hk
    · rw [World.cell?_drewN, World.cell?_alloc_at _ _ _ _ (by simp)]; exact cell7 _ _ _ _ _ _ _ k hk
  case round =>
    obtain ⟨k, ub, xb, vb, ab, hk, rfl, rfl, rfl, rfl, rfl, hx, hv, ha, hu, hB, hp, hj⟩ := hrel
    by_cases hlt : k < 7
    · have hcp := hp k hlt
      have hcj := hj k hlt
      have hsucc := pwTo_succ (can .f32 j) (can .f32 r) (can .f32 hd) (can .f32 c) (can .f32 t) k hlt
      rw [phase_nth j r hd c k hlt] at hsucc
      have HS := Lib.hid hsucc
      have HP := Lib.hid hp
      have HJ := Lib.hid hj
      clear hp hj hsucc
      generalize nth7 r hd r c r hd r k = sb at hcp HS
      generalize nth7 j 0 (Op.negFloat .f32 j) 0 (Op.negFloat .f32 j) 0 j k = jb at hcj HS
      generalize pwTo (can .f32 j) (can .f32 r) (can .f32 hd) (can .f32 c) (can .f32 t) k = st at hx hv ha hu HS
      cases hl : (FloatKind.f32.format.order ub sb == some .lt)
      all_goals
        have hf : flt st.2.2.2 (can .f32 sb) = _ := (F32.lt hu (F32.mk sb)).symm.trans hl
        have HF := Lib.hid hf
        clear hf
        go_wp2_with (refine wpList_f rfl rfl rfl rfl (by decide) ?_; intro _ _ _; simp only [Act.put, List.setIfInBounds_toArray, List.set_cons_succ, List.set_cons_zero])
        go_roundw
        case rel =>
          refine ⟨k + 1, _, _, _, _, by omega, by go_num, rfl, rfl, rfl, rfl, ?_, ?_, ?_, ?_, by (repeat (first | exact Below.refl _ _ | assumption | refine below_dr ?_ _ | refine Below.alloc ?_ (by first | omega | (simp; done) | (simp; omega)) _ | refine Below.setCell ?_ (by first | omega | (simp; done) | (simp; omega)) _ | refine Below.trans ?_ (Below.mono (by assumption) (by first | omega | (simp; done) | (simp; omega))))), HP.out, HJ.out⟩
          all_goals
            have hf := HF.out
            rw [HS.out]
            simp only [F32] at *
            simp [pwStep, *, can_l1, can_l2, can_l3, can_l4, can_l5, can_l6, fadd, fmul, fdiv, fsub]
        case measure => simp [intOf]; omega
    · have e7 : k = 7 := by omega
      subst e7
      clear hp hj
      have HX := Lib.hid hx
      clear hx hv ha hu
      go_wp2_with fail
      refine (l02Number _ _).mono ?_
      rintro e w' ⟨⟨y, rfl, hyy⟩, q, rfl⟩
      go_wp2_with fail
      go_ret2
      have e : can .f32 xb = _ := HX.out
      rw [e] at hyy
      exact ⟨⟨y, ret_fb (by rw [e]), hyy⟩, by (repeat (first | exact Below.refl _ _ | assumption | refine below_dr ?_ _ | refine Below.alloc ?_ (by first | omega | (simp; done) | (simp; omega)) _ | refine Below.setCell ?_ (by first | omega | (simp; done) | (simp; omega)) _ | refine Below.trans ?_ (Below.mono (by assumption) (by first | omega | (simp; done) | (simp; omega)))))⟩
end Go.Proofs.Ytjcofdengndhgaa
