/- Contracts of PlanWay and what it calls. -/
import Derived.Test.YtfpkdnopbnppmaaPlan
namespace Go.Proofs.Ytfpkdnopbnppmaa
open Go.RowKit Go.Fl

def prodTo (xs : List Nat) (k : Nat) : Nat := ((xs.tail.take k).map (can .f32)).foldl fmul (can .f32 (xs.getD 0 0))
theorem prodTo_succ (xs : List Nat) (k : Nat) (h : k + 1 < xs.length) : prodTo xs (k + 1) = fmul (prodTo xs k) (can .f32 (xs.getD (1 + k) 0)) := by
  unfold prodTo
  cases xs with
  | nil => simp at h
  | cons x r =>
    simp only [List.length_cons, Nat.add_lt_add_iff_right] at h
    simp only [List.tail_cons]
    rw [List.take_succ_eq_append_getElem h, List.map_append, List.foldl_append, Nat.add_comm 1 k]
    simp only [List.map_cons, List.map_nil, List.foldl_cons, List.foldl_nil]
    congr 2
    simp [h]

set_option maxHeartbeats 400000 in
theorem productOf (xs : List Nat) (b : Nat) (w : World) (h2 : 2 ≤ xs.length) (hm : xs.length ≤ 1000)
    (hc : ∀ i, i < xs.length → w.cell? ⟨b, i, none⟩ = some (.float .f32 (xs.getD i 0))) :
    Calls Try.prog 19 #[.slice (some ⟨b, 0, none⟩) xs.length xs.length] w fun e w' => (∃ r, e = .returned (.float .f32 r) ∧ F32 r (prodTo xs (xs.length - 1))) ∧ ∃ n, w' = w.drewN n := by
  have hc0 := hc 0 (by omega)
  have h3 : 1 ≤ xs.length := by omega
  have h4 : 1 < xs.length := by omega
  generalize hx0 : xs.getD 0 0 = x0 at hc0
  have HX := Lib.hid hx0
  clear hx0
  go_enter Try.func19, Try.ntmps19
  go_wp2_with fail
  go_loopw [3, 12] (fun p i wr => ∃ k q r : Nat, k + 1 ≤ xs.length ∧ i = .int .i64 k ∧ p = .float .f32 r ∧ wr = w.drewN q ∧ F32 r (prodTo xs k)) (fun _ i _ => xs.length - (intOf i).toNat)
  case atStart => exact ⟨0, 0, x0, by omega, rfl, rfl, rfl, by unfold prodTo; rw [HX.out]; exact F32.mk _⟩
  case round =>
    obtain ⟨k, q, r, hk, rfl, rfl, rfl, hr⟩ := hrel
    by_cases hlt : k + 1 < xs.length
    · have hcell := hc (1 + k) (by omega)
      clear hc
      generalize hx1 : xs.getD (1 + k) 0 = x1 at hcell
      have HX1 := Lib.hid hx1
      clear hx1
      go_wp2_with (refine wpList_f rfl rfl rfl rfl (by decide) ?_; intro _ _ _; simp only [Act.put, List.setIfInBounds_toArray, List.set_cons_succ, List.set_cons_zero])
      go_roundw
      case rel =>
        refine ⟨k + 1, _, _, by omega, by go_num, rfl, rfl, ?_⟩
        rw [prodTo_succ xs k hlt, HX1.out, ← hr]
        assumption
      case measure => simp [intOf]; omega
    · clear hc
      go_wp2_with (refine wpList_f rfl rfl rfl rfl (by decide) ?_; intro _ _ _; simp only [Act.put, List.setIfInBounds_toArray, List.set_cons_succ, List.set_cons_zero])
      go_ret
      have e : xs.length - 1 = k := by omega
      exact ⟨⟨r, rfl, by rw [e]; exact hr⟩, _, rfl⟩

/-- one phase of a plan: place, speed, change of speed, time; how long it takes at most; its jerk -/
def pwStep (st : Nat × Nat × Nat × Nat) (p : Nat × Nat) : Nat × Nat × Nat × Nat :=
  let x := st.1; let v := st.2.1; let a := st.2.2.1; let t := st.2.2.2
  let s := if flt t p.1 then t else p.1
  (fadd x (fadd (fadd (fmul v s) (fmul (fmul (fmul 1056964608 a) s) s)) (fdiv (fmul (fmul (fmul p.2 s) s) s) 1086324736)),
   fadd v (fadd (fmul a s) (fmul (fmul (fmul 1056964608 p.2) s) s)), fadd a (fmul p.2 s), fsub t s)
def phases (j r h c : Nat) : List (Nat × Nat) := [(r, j), (h, 0), (r, fnegK .f32 j), (c, 0), (r, fnegK .f32 j), (h, 0), (r, j)]
def pwTo (j r h c t k : Nat) : Nat × Nat × Nat × Nat := ((phases j r h c).take k).foldl pwStep (0, 0, 0, t)
theorem pwTo_succ (j r h c t k : Nat) (hk : k < 7) : pwTo j r h c t (k + 1) = pwStep (pwTo j r h c t k) ((phases j r h c).getD k (0, 0)) := by
  unfold pwTo
  rw [List.take_succ_eq_append_getElem (by exact hk), List.foldl_append]
  simp only [List.foldl_cons, List.foldl_nil]
  congr 1
  simp [phases] at *
  have : k = 0 ∨ k = 1 ∨ k = 2 ∨ k = 3 ∨ k = 4 ∨ k = 5 ∨ k = 6 := by omega
  rcases this with rfl | rfl | rfl | rfl | rfl | rfl | rfl <;> rfl

def nth7 (a b c d e f g : Nat) (k : Nat) : Nat := [a, b, c, d, e, f, g].getD k 0
theorem cell7 (a b c d e f g k : Nat) (hk : k < 7) : (#[Value.float .f32 a, .float .f32 b, .float .f32 c, .float .f32 d, .float .f32 e, .float .f32 f, .float .f32 g] : Array Value)[k]? = some (.float .f32 (nth7 a b c d e f g k)) := by
  have : k = 0 ∨ k = 1 ∨ k = 2 ∨ k = 3 ∨ k = 4 ∨ k = 5 ∨ k = 6 := by omega
  rcases this with rfl | rfl | rfl | rfl | rfl | rfl | rfl <;> rfl
theorem phase_nth (j r h c k : Nat) (hk : k < 7) : (phases (can .f32 j) (can .f32 r) (can .f32 h) (can .f32 c)).getD k (0, 0) =
    (can .f32 (nth7 r h r c r h r k), can .f32 (nth7 j 0 (Op.negFloat .f32 j) 0 (Op.negFloat .f32 j) 0 j k)) := by
  have : k = 0 ∨ k = 1 ∨ k = 2 ∨ k = 3 ∨ k = 4 ∨ k = 5 ∨ k = 6 := by omega
  rcases this with rfl | rfl | rfl | rfl | rfl | rfl | rfl <;> simp [phases, nth7, can_neg, can_l5]

def Cells7 (wr : World) (b : Nat) (f : Nat → Nat) : Prop := ∀ k, k < 7 → wr.cell? ⟨b, k, none⟩ = some (.float .f32 (f k))

end Go.Proofs.Ytfpkdnopbnppmaa
