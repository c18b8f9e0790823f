/- The plain laws of rings: rounder rings are no rougher, limits stay, lines stay lines, masks of one change nothing. Plain Lean. -/
import Derived.Test.YtkpjhoiaegioeaaRgR
namespace Go.Fl
open Ieee Go.RowKit
theorem nx_pv {n i : Nat} (h : i < n) : nx n (pv n i) = i := by
  unfold nx pv
  by_cases h0 : i = 0
  · rw [if_pos h0, if_pos (by omega)]; omega
  · rw [if_neg h0, if_neg (by omega)]; omega
theorem pv_nx {n i : Nat} (h : i < n) : pv n (nx n i) = i := by
  unfold nx pv
  by_cases h0 : i + 1 = n
  · rw [if_pos h0, if_pos rfl]; omega
  · rw [if_neg h0, if_neg (by omega)]; omega
def ringN (closed : Bool) (n : Nat) : Nat := 2 * n - (if closed then 0 else 1)
theorem pv_even {closed : Bool} {n i : Nat} (hn : 2 ≤ n) (hi : i < n) (hb : both closed (ringN closed n) (2 * i)) : pv (ringN closed n) (2 * i) = 2 * pv n i + 1 ∧ (closed = true ∨ pv n i + 1 < n) ∧ pv n i < n := by
  unfold pv ringN
  rcases hb with h | ⟨h1, h2⟩
  · subst h
    simp only [if_true]
    by_cases h0 : i = 0
    · rw [if_pos (by omega), if_pos h0]; exact ⟨by omega, .inl (by first | trivial | rfl), by omega⟩
    · rw [if_neg (by omega), if_neg h0]; exact ⟨by omega, .inl (by first | trivial | rfl), by omega⟩
  · have h0 : i ≠ 0 := by omega
    rw [if_neg (by omega), if_neg h0]; exact ⟨by omega, .inr (by omega), by omega⟩
theorem nx_even {closed : Bool} {n i : Nat} (hn : 2 ≤ n) (hi : i < n) (hb : both closed (ringN closed n) (2 * i)) : nx (ringN closed n) (2 * i) = 2 * i + 1 ∧ (closed = true ∨ i + 1 < n) := by
  unfold nx ringN
  rcases hb with h | ⟨h1, h2⟩
  · subst h
    simp only [if_true]
    rw [if_neg (by omega)]; exact ⟨rfl, .inl (by first | trivial | rfl)⟩
  · unfold ringN at h2
    cases closed
    · simp only [Bool.false_eq_true, if_false] at h2 ⊢
      rw [if_neg (by omega)]; exact ⟨rfl, .inr (by omega)⟩
    · simp only [if_true]
      rw [if_neg (by omega)]; exact ⟨rfl, .inl (by first | trivial | rfl)⟩
theorem pv_odd (m i : Nat) : pv m (2 * i + 1) = 2 * i := by unfold pv; rw [if_neg (by omega)]; omega
theorem nx_odd {closed : Bool} {n i : Nat} (hn : 2 ≤ n) (hi : i < n) (hb : both closed (ringN closed n) (2 * i + 1)) : nx (ringN closed n) (2 * i + 1) = 2 * nx n i ∧ (closed = true ∨ i + 1 < n) := by
  unfold nx
  rcases hb with h | ⟨h1, h2⟩
  · subst h
    unfold ringN
    simp only [if_true]
    by_cases h0 : i + 1 = n
    · rw [if_pos (by omega), if_pos h0]; exact ⟨rfl, .inl (by first | trivial | rfl)⟩
    · rw [if_neg (by omega), if_neg h0]; exact ⟨by omega, .inl (by first | trivial | rfl)⟩
  · have h3 : ringN closed n ≤ 2 * n := by unfold ringN; omega
    cases closed
    · have h4 : ringN false n = 2 * n - 1 := rfl
      rw [h4] at h2 ⊢
      rw [if_neg (by omega), if_neg (by omega)]; exact ⟨by omega, .inr (by omega)⟩
    · have h4 : ringN true n = 2 * n := rfl
      rw [h4] at h2 ⊢
      rw [if_neg (by omega), if_neg (by omega)]; exact ⟨by omega, .inl (by first | trivial | rfl)⟩
section
variable {ks : List Zp} {closed : Bool}
theorem cubZ_len (sh : Option Nat) (hn : 0 < ks.length) : (cubZ ks closed sh).length = ringN closed ks.length := ringL_len _ _ _ _ hn
theorem cubZ_v (sh : Option Nat) {i : Nat} (hi : i < ks.length) : zAt (cubZ ks closed sh) (2 * i) = cubVZ ks closed sh i := zAt_of (ringL_even _ _ _ _ _ hi)
theorem cubZ_m (sh : Option Nat) {i : Nat} (hi : i < ks.length) (hc : closed = true ∨ i + 1 < ks.length) : zAt (cubZ ks closed sh) (2 * i + 1) = cubMZ ks i := zAt_of (ringL_odd _ _ _ _ _ hi hc)
theorem cubVZ_both {i : Nat} (hb : both closed ks.length i) : cubVZ ks closed none i = addZ (mulZ (zAt ks i) 6) (mulZ (addZ (zAt ks (pv ks.length i)) (zAt ks (nx ks.length i))) 1) := by
  unfold cubVZ
  rw [if_pos]
  rcases hb with h | ⟨h1, h2⟩
  · subst h; rfl
  · simp [h1, h2, isSh]
theorem cubVZ_end {i : Nat} (h : closed = false) (hb : ¬ (0 < i ∧ i + 1 < ks.length)) : cubVZ ks closed none i = mulZ (zAt ks i) 8 := by
  unfold cubVZ
  rw [if_neg]
  subst h
  intro h
  simp at h
  exact hb h.1
end
theorem powZ_i (p : Zp) : ((powZ p : Nat) : Int) = p.1 * p.1 + p.2 * p.2 := by unfold powZ; rw [sq_i p.1, sq_i p.2, Int.natCast_add]
theorem sq_sum (a b : Int) : (a + b) * (a + b) ≤ 2 * (a * a) + 2 * (b * b) := by
  have h : 0 ≤ (a - b) * (a - b) := by rw [sq_i]; exact Int.natCast_nonneg _
  have e1 : (a - b) * (a - b) = a * a - 2 * (a * b) + b * b := by rw [Int.sub_mul, Int.mul_sub, Int.mul_sub, Int.mul_comm b a]; omega
  have e2 : (a + b) * (a + b) = a * a + 2 * (a * b) + b * b := by rw [Int.add_mul, Int.mul_add, Int.mul_add, Int.mul_comm b a]; omega
  omega
theorem powZ_add (p q : Zp) : powZ (addZ p q) ≤ 2 * powZ p + 2 * powZ q := by
  have h : ((powZ (addZ p q) : Nat) : Int) ≤ ((2 * powZ p + 2 * powZ q : Nat) : Int) := by
    rw [Int.natCast_add, Int.natCast_mul, Int.natCast_mul, powZ_i, powZ_i, powZ_i]
    have a := sq_sum p.1 q.1
    have b := sq_sum p.2 q.2
    show (p.1 + q.1) * (p.1 + q.1) + (p.2 + q.2) * (p.2 + q.2) ≤ _
    omega
  omega
theorem powZ_two (p : Zp) : powZ (mulZ p 2) = 4 * powZ p := by
  have h : ((powZ (mulZ p 2) : Nat) : Int) = ((4 * powZ p : Nat) : Int) := by
    rw [Int.natCast_mul, powZ_i, powZ_i]
    show p.1 * 2 * (p.1 * 2) + p.2 * 2 * (p.2 * 2) = _
    have e : ∀ a : Int, a * 2 * (a * 2) = 4 * (a * a) := fun a => by
      have h2 : a * 2 = a + a := by omega
      rw [h2, Int.add_mul, Int.mul_add]; omega
    rw [e, e]; omega
  omega
theorem zext {p q : Zp} (h1 : p.1 = q.1) (h2 : p.2 = q.2) : p = q := Prod.ext h1 h2
/-- a rounder ring is bent by a quarter at most -/
theorem rough_cub {ks : List Zp} {closed : Bool} (hn : 2 ≤ ks.length) {j : Nat} (hj : j < ringN closed ks.length) (hb : both closed (ringN closed ks.length) j) :
    powZ (roughZ (cubZ ks closed none) j) = 0 ∨ ∃ i, i < ks.length ∧ both closed ks.length i ∧ powZ (roughZ (cubZ ks closed none) j) ≤ 4 * powZ (roughZ ks i) := by
  have hle : ringN closed ks.length ≤ 2 * ks.length := by unfold ringN; omega
  have hcl : (cubZ ks closed none).length = ringN closed ks.length := cubZ_len none (by omega)
  obtain ⟨i, rfl | rfl⟩ := even_odd j
  · have hi : i < ks.length := by omega
    obtain ⟨e1, c1, l1⟩ := pv_even hn hi hb
    obtain ⟨e2, c2⟩ := nx_even hn hi hb
    have hbi : both closed ks.length i := by
      rcases hb with h | ⟨h1, h2⟩
      · exact .inl h
      · exact (c2.imp id fun h => ⟨by omega, h⟩)
    right
    refine ⟨i, hi, hbi, ?_⟩
    have : roughZ (cubZ ks closed none) (2 * i) = mulZ (roughZ ks i) 2 := by
      unfold roughZ
      rw [hcl, e1, e2, cubZ_m none l1 c1, cubZ_m none hi c2, cubZ_v none hi, cubVZ_both hbi]
      unfold cubMZ
      rw [nx_pv hi]
      apply zext
      · show (_ + _) * 4 - (_ * 6 + (_ + _) * 1) * 2 + (_ + _) * 4 = (_ - _ * 2 + _) * 2; omega
      · show (_ + _) * 4 - (_ * 6 + (_ + _) * 1) * 2 + (_ + _) * 4 = (_ - _ * 2 + _) * 2; omega
    rw [this, powZ_two]
    exact Nat.le_refl _
  · have hi : i < ks.length := by omega
    obtain ⟨e2, c2⟩ := nx_odd hn hi hb
    have hnx := nx_lt hi
    have hr : roughZ (cubZ ks closed none) (2 * i + 1) = addZ (subZ (cubVZ ks closed none i) (mulZ (cubMZ ks i) 2)) (cubVZ ks closed none (nx ks.length i)) := by
      unfold roughZ
      rw [hcl, pv_odd, e2, cubZ_m none hi c2, cubZ_v none hi, cubZ_v none hnx]
    rw [hr]
    by_cases b1 : both closed ks.length i
    · by_cases b2 : both closed ks.length (nx ks.length i)
      · have e : addZ (subZ (cubVZ ks closed none i) (mulZ (cubMZ ks i) 2)) (cubVZ ks closed none (nx ks.length i)) = addZ (roughZ ks i) (roughZ ks (nx ks.length i)) := by
          rw [cubVZ_both b1, cubVZ_both b2]
          unfold roughZ cubMZ
          rw [pv_nx hi]
          apply zext
          · show (_ * 6 + (_ + _) * 1) - (_ + _) * 4 * 2 + (_ * 6 + (_ + _) * 1) = (_ - _ * 2 + _) + (_ - _ * 2 + _); omega
          · show (_ * 6 + (_ + _) * 1) - (_ + _) * 4 * 2 + (_ * 6 + (_ + _) * 1) = (_ - _ * 2 + _) + (_ - _ * 2 + _); omega
        rw [e]
        have hs := powZ_add (roughZ ks i) (roughZ ks (nx ks.length i))
        right
        by_cases hc : powZ (roughZ ks i) ≤ powZ (roughZ ks (nx ks.length i))
        · exact ⟨_, hnx, b2, by omega⟩
        · exact ⟨_, hi, b1, by omega⟩
      · have hf : closed = false := by cases closed; rfl; exact absurd (.inl rfl) b2
        have b2' : ¬ (0 < nx ks.length i ∧ nx ks.length i + 1 < ks.length) := fun h => b2 (.inr h)
        right
        refine ⟨i, hi, b1, ?_⟩
        have e : addZ (subZ (cubVZ ks closed none i) (mulZ (cubMZ ks i) 2)) (cubVZ ks closed none (nx ks.length i)) = roughZ ks i := by
          rw [cubVZ_both b1, cubVZ_end hf b2']
          unfold roughZ cubMZ
          apply zext
          · show (_ * 6 + (_ + _) * 1) - (_ + _) * 4 * 2 + _ * 8 = _ - _ * 2 + _; omega
          · show (_ * 6 + (_ + _) * 1) - (_ + _) * 4 * 2 + _ * 8 = _ - _ * 2 + _; omega
        rw [e]; omega
    · have hf : closed = false := by cases closed; rfl; exact absurd (.inl rfl) b1
      have b1' : ¬ (0 < i ∧ i + 1 < ks.length) := fun h => b1 (.inr h)
      by_cases b2 : both closed ks.length (nx ks.length i)
      · right
        refine ⟨_, hnx, b2, ?_⟩
        have e : addZ (subZ (cubVZ ks closed none i) (mulZ (cubMZ ks i) 2)) (cubVZ ks closed none (nx ks.length i)) = roughZ ks (nx ks.length i) := by
          rw [cubVZ_both b2, cubVZ_end hf b1']
          unfold roughZ cubMZ
          rw [pv_nx hi]
          apply zext
          · show _ * 8 - (_ + _) * 4 * 2 + (_ * 6 + (_ + _) * 1) = _ - _ * 2 + _; omega
          · show _ * 8 - (_ + _) * 4 * 2 + (_ * 6 + (_ + _) * 1) = _ - _ * 2 + _; omega
        rw [e]; omega
      · have b2' : ¬ (0 < nx ks.length i ∧ nx ks.length i + 1 < ks.length) := fun h => b2 (.inr h)
        left
        have e : addZ (subZ (cubVZ ks closed none i) (mulZ (cubMZ ks i) 2)) (cubVZ ks closed none (nx ks.length i)) = (0, 0) := by
          rw [cubVZ_end hf b1', cubVZ_end hf b2']
          unfold cubMZ
          apply zext
          · show _ * 8 - (_ + _) * 4 * 2 + _ * 8 = 0; omega
          · show _ * 8 - (_ + _) * 4 * 2 + _ * 8 = 0; omega
        rw [e]; rfl
theorem cubF_len (xs : List Cx) (closed : Bool) (sh : Option Nat) (hn : 0 < xs.length) : (cubF xs closed sh).length = ringN closed xs.length := ringL_len _ _ _ _ hn
/-- the rounder ring is no rougher -/
theorem rough_less {xs : List Cx} {ks : List Zp} {closed : Bool} {x y n m : Nat} (h : PL xs ks 2 16) (hn : xs.length = n) (hn2 : 2 ≤ n) (hm : m = (cubF xs closed none).length) (hx : MaxTo xs closed n x) (hy : MaxTo (cubF xs closed none) closed m y) : V .f32 y ≤ V .f32 x := by
  have hx0 := hx.ge
  have hcl : (cubF xs closed none).length = ringN closed n := by rw [cubF_len _ _ _ (by omega), hn]
  have hcp := cub_PL (closed := closed) (sh := none) h (by decide) (by decide) (by omega)
  have hkl : ks.length = n := by rw [h.len, hn]
  rcases hy.one with h0 | ⟨j, hj, hb, hv⟩
  · omega
  · rw [hm, hcl] at hj
    rw [hcl] at hb
    obtain ⟨pr, lr⟩ := rough_px hcp (by decide) (by decide) (by rw [hcl]; exact hj)
    rw [hv]
    rcases rough_cub (ks := ks) (closed := closed) (by omega) (j := j) (by rw [hkl]; exact hj) (by rw [hkl]; exact hb) with hz | ⟨i, hi, hbi, hle⟩
    · obtain ⟨_, _, _, _, hl, _⟩ := long_facts pr (lr.mono (by decide)) (by decide)
      have := hl 0 0 (by decide) (by rw [hz, Nat.zero_mul]; exact Nat.zero_le _)
      rw [Nat.zero_mul] at this
      omega
    · obtain ⟨pd, ld⟩ := rough_px h (by decide) (by decide) (i := i) (by omega)
      have hmono := long_mono pr pd (lr.mono (by decide)) (ld.mono (by decide)) (by decide) (by decide) (by
        show 4 * powZ (roughZ (cubZ ks closed none) j) * 2 ^ 4 ≤ powZ (roughZ ks i) * 2 ^ 10
        have : (2 : Nat) ^ 4 = 16 := by decide
        have : (2 : Nat) ^ 10 = 1024 := by decide
        omega)
      exact Int.le_trans hmono (hx.all i (by omega) (by rw [hn, ← hkl]; exact hbi))
/-- limits stay -/
theorem lim_stay {xs : List Cx} {ks : List Zp} {closed : Bool} {n i : Nat} (h : PL xs ks 2 16) (hn : xs.length = n) (hn2 : 2 ≤ n) (hi : i < n) (hb : both closed n i) :
    limF xs closed i = limD (limS xs i) ∧ limF (cubF xs closed none) closed (2 * i) = limD (limS (cubF xs closed none) (2 * i)) ∧ V .f32 (limD (limS xs i)).1 = V .f32 (limD (limS (cubF xs closed none) (2 * i))).1 ∧ V .f32 (limD (limS xs i)).2 = V .f32 (limD (limS (cubF xs closed none) (2 * i))).2 := by
  have hcl : (cubF xs closed none).length = ringN closed n := by rw [cubF_len _ _ _ (by omega), hn]
  have hcp := cub_PL (closed := closed) (sh := none) h (by decide) (by decide) (by omega)
  have hkl : ks.length = n := by rw [h.len, hn]
  have hb2 : both closed (ringN closed n) (2 * i) := by
    rcases hb with h | ⟨h1, h2⟩
    · exact .inl h
    · unfold both ringN
      cases closed
      · right; simp; omega
      · left; rfl
  have h2i : 2 * i < ringN closed n := by unfold ringN; split <;> omega
  have cond : ∀ (c : Bool) (a b : Nat), both c b a → (c || (decide (0 < a) && decide (a + 1 < b))) = true := fun c a b hb => by
    rcases hb with h | ⟨h1, h2⟩
    · subst h; rfl
    · simp [h1, h2]
  obtain ⟨p1, l1⟩ := lim_px h (by decide) (by decide) (i := i) (by omega)
  obtain ⟨p2, l2⟩ := lim_px hcp (by decide) (by decide) (i := 2 * i) (by rw [hcl]; exact h2i)
  have hcz : (cubZ ks closed none).length = ringN closed n := by rw [cubZ_len none (by omega), hkl]
  have hz : limZ (cubZ ks closed none) (2 * i) = mulZ (limZ ks i) 8 := by
    obtain ⟨e1, c1, k1⟩ := pv_even hn2 hi hb2
    obtain ⟨e2, c2⟩ := nx_even hn2 hi hb2
    unfold limZ
    rw [hcz, e1, e2, cubZ_m none (by rw [hkl]; exact k1) (by rw [hkl]; exact c1), cubZ_m none (by rw [hkl]; exact hi) (by rw [hkl]; exact c2), cubZ_v none (by rw [hkl]; exact hi), cubVZ_both (by rw [hkl]; exact hb)]
    unfold cubMZ
    rw [hkl, nx_pv hi]
    apply zext
    · show (_ + _) * 4 + (_ * 6 + (_ + _) * 1) * 4 + (_ + _) * 4 = (_ + _ * 4 + _) * 8; omega
    · show (_ + _) * 4 + (_ * 6 + (_ + _) * 1) * 4 + (_ + _) * 4 = (_ + _ * 4 + _) * 8; omega
  rw [hz] at p2
  have s1 := p1.shift 3 (by decide)
  have v1 : V .f32 (limS xs i).1 = V .f32 (limS (cubF xs closed none) (2 * i)).1 := by rw [s1.1.val, p2.1.val]; rfl
  have v2 : V .f32 (limS xs i).2 = V .f32 (limS (cubF xs closed none) (2 * i)).2 := by rw [s1.2.val, p2.2.val]; rfl
  rw [hz] at l2
  refine ⟨by unfold limF; rw [if_pos (cond _ _ _ (by rw [hn]; exact hb))], by unfold limF; rw [if_pos (cond _ _ _ (by rw [hcl]; exact hb2))], ?_, ?_⟩
  · exact div_same p1.1 p2.1 (Nat.le_trans l1.1 (by decide)) (Nat.le_trans l2.1 (by decide)) v1
  · exact div_same p1.2 p2.2 (Nat.le_trans l1.2 (by decide)) (Nat.le_trans l2.2 (by decide)) v2
/-- the difference of what is the same -/
theorem minus_same {a b : Cx} (ha : isN .f32 a.1 = true ∧ isN .f32 a.2 = true) (hb : isN .f32 b.1 = true ∧ isN .f32 b.2 = true) (h1 : V .f32 a.1 = V .f32 b.1) (h2 : V .f32 a.2 = V .f32 b.2) : PX (minusF a b) (0, 0) 2 := by
  have key : ∀ {x y : Nat}, isN .f32 x = true → isN .f32 y = true → V .f32 x = V .f32 y → Q .f32 (fop .sub .f32 x y) 0 2 := fun {x y} hx hy h => by
    have h3 : V .f32 x - V .f32 y = 0 := by omega
    have h1 := near_sub hx hy (by rw [h3]; exact Nat.zero_le _)
    rw [h3] at h1
    have a := h1.le 0 0 (Nat.two_pow_pos _) (by simp)
    have b := h1.ge 0 0 (Nat.two_pow_pos _) (by simp)
    rw [Int.zero_mul] at a b
    exact ⟨h1.num, by rw [Int.zero_mul]; omega, by decide⟩
  exact ⟨key ha.1 hb.1 h1, key ha.2 hb.2 h2⟩
theorem far_zero {a b : Cx} {e : Nat} (h : PX (minusF a b) (0, 0) e) (he : e ≤ 100) : isN .f32 (longF (minusF a b)) = true ∧ V .f32 (longF (minusF a b)) = 0 := by
  obtain ⟨_, _, hn, h0, hl, _⟩ := long_facts h ⟨Nat.zero_le _, Nat.zero_le _⟩ he
  have := hl 0 0 (by decide) (by rw [show powZ (0, 0) = 0 from rfl, Nat.zero_mul]; exact Nat.zero_le _)
  rw [Nat.zero_mul] at this
  exact ⟨hn, by omega⟩
theorem wide_zero {x : Nat} (h : isN .f32 x = true) (h0 : V .f32 x = 0) : isN .f64 (fcv .f32 .f64 x) = true ∧ V .f64 (fcv .f32 .f64 x) = 0 := by
  obtain ⟨a, b⟩ := widen_val h (by rw [h0]; exact Nat.zero_le _)
  exact ⟨a, by rw [b, h0, Int.zero_mul]⟩
theorem not_gt {K : FloatKind} {x y : Nat} (hx : isN K x = true) (hy : isN K y = true) (h : V K x ≤ V K y) : (K.format.order x y == some .gt) = false := by
  rw [ord_V hx hy]
  have : compare (V K x) (V K y) ≠ .gt := fun h1 => by have := Int.compare_eq_gt.1 h1; omega
  cases hc : compare (V K x) (V K y) <;> first | rfl | exact absurd hc this
end Go.Fl
