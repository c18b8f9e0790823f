/- Rings: what is cut, refined and masked, as lists of points and as lists of whole numbers. Plain Lean. -/
import Derived.Test.YtkbikfifnaihlaaRq
import Derived.Test.YtkbikfifnaihlaaGPl
import Derived.Test.YtkbikfifnaihlaaOVal
namespace Go.Fl
open Ieee
/-- z is the point p, in units of 2 ^ -e -/
def PX (z : Cx) (p : Zp) (e : Nat) : Prop := Q .f32 z.1 p.1 e ∧ Q .f32 z.2 p.2 e
def low (p : Zp) (B : Nat) : Prop := p.1.natAbs ≤ B ∧ p.2.natAbs ≤ B
theorem low.mono {p : Zp} {A B : Nat} (h : low p A) (hAB : A ≤ B) : low p B := ⟨Nat.le_trans h.1 hAB, Nat.le_trans h.2 hAB⟩
def plusF (a b : Cx) : Cx := (fop .add .f32 a.1 b.1, fop .add .f32 a.2 b.2)
def minusF (a b : Cx) : Cx := (fop .sub .f32 a.1 b.1, fop .sub .f32 a.2 b.2)
def scaleF (a : Cx) (s : Nat) : Cx := (fop .mul .f32 a.1 s, fop .mul .f32 a.2 s)
def mulZ (p : Zp) (j : Int) : Zp := (p.1 * j, p.2 * j)
theorem PX.plus {a b : Cx} {p q : Zp} {e : Nat} (ha : PX a p e) (hb : PX b q e) (hp : low p 4194304) (hq : low q 4194304) : PX (plusF a b) (addZ p q) e := by
  have h1 := hp.1; have h2 := hp.2; have h3 := hq.1; have h4 := hq.2
  exact ⟨ha.1.add hb.1 (lt24 (by omega)), ha.2.add hb.2 (lt24 (by omega))⟩
theorem PX.minus {a b : Cx} {p q : Zp} {e : Nat} (ha : PX a p e) (hb : PX b q e) (hp : low p 4194304) (hq : low q 4194304) : PX (minusF a b) (subZ p q) e := by
  have h1 := hp.1; have h2 := hp.2; have h3 := hq.1; have h4 := hq.2
  exact ⟨ha.1.sub hb.1 (lt24 (by omega)), ha.2.sub hb.2 (lt24 (by omega))⟩
theorem PX.scale {a : Cx} {s : Nat} {p : Zp} {j : Int} {e f : Nat} (ha : PX a p e) (hs : Q .f32 s j f) (hp : low p 65536) (hj : j.natAbs ≤ 64) (he : e + f ≤ 149) : PX (scaleF a s) (mulZ p j) (e + f) := by
  have h : ∀ x : Int, x.natAbs ≤ 65536 → (x * j).natAbs < 2 ^ (FB .f32 + 1) := fun x hx => lt24 (by
    rw [Int.natAbs_mul]
    exact Nat.lt_of_le_of_lt (Nat.mul_le_mul hx hj) (by decide))
  exact ⟨ha.1.mul hs (h _ hp.1) he, ha.2.mul hs (h _ hp.2) he⟩
theorem PX.shift {a : Cx} {p : Zp} {e : Nat} (ha : PX a p e) (d : Nat) (he : e + d ≤ 149) : PX a (mulZ p (2 ^ d)) (e + d) := ⟨ha.1.shift d he, ha.2.shift d he⟩
theorem PX.congr {a : Cx} {p q : Zp} {e : Nat} (ha : PX a p e) (h : p = q) : PX a q e := h ▸ ha
/-- a list of points, as whole numbers in units of 2 ^ -e, no greater than B -/
structure PL (xs : List Cx) (ks : List Zp) (e B : Nat) : Prop where
  len : ks.length = xs.length
  pt : ∀ i, i < xs.length → PX (cAt xs i) (zAt ks i) e ∧ low (zAt ks i) B
/-- the next one and the one before, round and round -/
def nx (n i : Nat) : Nat := if i + 1 = n then 0 else i + 1
def pv (n i : Nat) : Nat := if i = 0 then n - 1 else i - 1
theorem nx_lt {n i : Nat} (h : i < n) : nx n i < n := by unfold nx; split <;> omega
theorem pv_lt {n i : Nat} (h : i < n) : pv n i < n := by unfold pv; split <;> omega
/-- two for each one -/
def pairL {α : Type} (v m : Nat → α) : Nat → List α
  | 0 => []
  | k + 1 => pairL v m k ++ [v k, m k]
theorem pairL_succ {α : Type} (v m : Nat → α) (k : Nat) : pairL v m (k + 1) = pairL v m k ++ [v k, m k] := rfl
theorem pairL_len {α : Type} (v m : Nat → α) : ∀ k, (pairL v m k).length = 2 * k
  | 0 => rfl
  | k + 1 => by rw [pairL, List.length_append, pairL_len v m k]; rfl
theorem pairL_get {α : Type} (v m : Nat → α) : ∀ k i, i < k → (pairL v m k)[2 * i]? = some (v i) ∧ (pairL v m k)[2 * i + 1]? = some (m i)
  | 0, _, h => absurd h (Nat.not_lt_zero _)
  | k + 1, i, h => by
    rw [pairL]
    by_cases hi : i < k
    · rw [List.getElem?_append_left (by rw [pairL_len]; omega), List.getElem?_append_left (by rw [pairL_len]; omega)]
      exact pairL_get v m k i hi
    · have : i = k := by omega
      subst this
      rw [List.getElem?_append_right (by rw [pairL_len]; omega), List.getElem?_append_right (by rw [pairL_len]; omega), pairL_len]
      have e1 : 2 * i - 2 * i = 0 := by omega
      have e2 : 2 * i + 1 - 2 * i = 1 := by omega
      rw [e1, e2]
      exact ⟨rfl, rfl⟩
/-- points and what is between them: closed, or open -/
def ringL {α : Type} (v m : Nat → α) (closed : Bool) (n : Nat) : List α := if closed then pairL v m n else pairL v m (n - 1) ++ [v (n - 1)]
theorem ringL_len {α : Type} (v m : Nat → α) (closed : Bool) (n : Nat) (hn : 0 < n) : (ringL v m closed n).length = 2 * n - (if closed then 0 else 1) := by
  unfold ringL
  cases closed
  · simp only [Bool.false_eq_true, if_false, List.length_append, pairL_len, List.length_cons, List.length_nil]; omega
  · simp only [if_true, pairL_len]; omega
theorem ringL_even {α : Type} (v m : Nat → α) (closed : Bool) (n i : Nat) (hi : i < n) : (ringL v m closed n)[2 * i]? = some (v i) := by
  unfold ringL
  cases closed
  · simp only [Bool.false_eq_true, if_false]
    by_cases h : i < n - 1
    · rw [List.getElem?_append_left (by rw [pairL_len]; omega)]
      exact (pairL_get v m _ i h).1
    · have : i = n - 1 := by omega
      subst this
      rw [List.getElem?_append_right (by rw [pairL_len]; omega), pairL_len, Nat.sub_self]; rfl
  · simp only [if_true]
    exact (pairL_get v m n i hi).1
theorem ringL_odd {α : Type} (v m : Nat → α) (closed : Bool) (n i : Nat) (hi : i < n) (hc : closed = true ∨ i + 1 < n) : (ringL v m closed n)[2 * i + 1]? = some (m i) := by
  unfold ringL
  cases closed
  · simp only [Bool.false_eq_true, if_false]
    have h : i + 1 < n := by simpa using hc
    rw [List.getElem?_append_left (by rw [pairL_len]; omega)]
    exact (pairL_get v m _ i (by omega)).2
  · simp only [if_true]
    exact (pairL_get v m n i hi).2
theorem cAt_of {l : List Cx} {i : Nat} {z : Cx} (h : l[i]? = some z) : cAt l i = z := by unfold cAt; rw [List.getD_eq_getElem?_getD, h]; rfl
theorem zAt_of {l : List Zp} {i : Nat} {z : Zp} (h : l[i]? = some z) : zAt l i = z := by unfold zAt; rw [List.getD_eq_getElem?_getD, h]; rfl
theorem even_odd (j : Nat) : ∃ i, j = 2 * i ∨ j = 2 * i + 1 := ⟨j / 2, by omega⟩
/-- the numbers of a list of two for each one -/
theorem ringL_PL {v m : Nat → Cx} {vz mz : Nat → Zp} {closed : Bool} {n e B : Nat} (hn : 0 < n) (hv : ∀ i, i < n → PX (v i) (vz i) e ∧ low (vz i) B) (hm : ∀ i, i < n → closed = true ∨ i + 1 < n → PX (m i) (mz i) e ∧ low (mz i) B) :
    PL (ringL v m closed n) (ringL vz mz closed n) e B := by
  refine ⟨by rw [ringL_len _ _ _ _ hn, ringL_len _ _ _ _ hn], fun j hj => ?_⟩
  rw [ringL_len _ _ _ _ hn] at hj
  obtain ⟨i, rfl | rfl⟩ := even_odd j
  · have hi : i < n := by split at hj <;> omega
    rw [cAt_of (ringL_even v m closed n i hi), zAt_of (ringL_even vz mz closed n i hi)]
    exact hv i hi
  · have hi : i < n := by split at hj <;> omega
    have hc : closed = true ∨ i + 1 < n := by
      cases closed
      · right; simp at hj; omega
      · left; rfl
    rw [cAt_of (ringL_odd v m closed n i hi hc), zAt_of (ringL_odd vz mz closed n i hi hc)]
    exact hm i hi hc
/-- corners cut -/
def cutA {α : Type} (x0 : α) (v m : Nat → α) (xl : α) (closed : Bool) (n : Nat) : List α := if closed then pairL v m n else x0 :: (pairL v m (n - 1) ++ [xl])
theorem cutA_len {α : Type} (x0 : α) (v m : Nat → α) (xl : α) (closed : Bool) (n : Nat) (hn : 0 < n) : (cutA x0 v m xl closed n).length = 2 * n := by
  unfold cutA
  cases closed
  · simp only [Bool.false_eq_true, if_false, List.length_cons, List.length_append, pairL_len, List.length_nil]; omega
  · simp only [if_true, pairL_len]
theorem cutA_PL {x0 xl : Cx} {v m : Nat → Cx} {z0 zl : Zp} {vz mz : Nat → Zp} {closed : Bool} {n e B : Nat} (hn : 0 < n) (h0 : PX x0 z0 e ∧ low z0 B) (hl : PX xl zl e ∧ low zl B)
    (hv : ∀ i, i < n → closed = true ∨ i + 1 < n → PX (v i) (vz i) e ∧ low (vz i) B) (hm : ∀ i, i < n → closed = true ∨ i + 1 < n → PX (m i) (mz i) e ∧ low (mz i) B) :
    PL (cutA x0 v m xl closed n) (cutA z0 vz mz zl closed n) e B := by
  refine ⟨by rw [cutA_len _ _ _ _ _ _ hn, cutA_len _ _ _ _ _ _ hn], fun j hj => ?_⟩
  rw [cutA_len _ _ _ _ _ _ hn] at hj
  have key : ∀ k j, j < 2 * k → (∀ i, i < k → PX (v i) (vz i) e ∧ low (vz i) B) → (∀ i, i < k → PX (m i) (mz i) e ∧ low (mz i) B) → ∃ z p, (pairL v m k)[j]? = some z ∧ (pairL vz mz k)[j]? = some p ∧ PX z p e ∧ low p B := fun k j hj hv hm => by
    obtain ⟨i, rfl | rfl⟩ := even_odd j
    · exact ⟨_, _, (pairL_get v m k i (by omega)).1, (pairL_get vz mz k i (by omega)).1, hv i (by omega)⟩
    · exact ⟨_, _, (pairL_get v m k i (by omega)).2, (pairL_get vz mz k i (by omega)).2, hm i (by omega)⟩
  cases closed
  · show PX (cAt (x0 :: (pairL v m (n - 1) ++ [xl])) j) (zAt (z0 :: (pairL vz mz (n - 1) ++ [zl])) j) e ∧ low (zAt (z0 :: (pairL vz mz (n - 1) ++ [zl])) j) B
    cases j with
    | zero => exact h0
    | succ j =>
      by_cases hjl : j < 2 * (n - 1)
      · obtain ⟨z, p, h1, h2, h3⟩ := key (n - 1) j hjl (fun i hi => hv i (by omega) (Or.inr (by omega))) (fun i hi => hm i (by omega) (Or.inr (by omega)))
        have e1 : (x0 :: (pairL v m (n - 1) ++ [xl]))[j + 1]? = some z := by rw [List.getElem?_cons_succ, List.getElem?_append_left (by rw [pairL_len]; exact hjl)]; exact h1
        have e2 : (z0 :: (pairL vz mz (n - 1) ++ [zl]))[j + 1]? = some p := by rw [List.getElem?_cons_succ, List.getElem?_append_left (by rw [pairL_len]; exact hjl)]; exact h2
        rw [cAt_of e1, zAt_of e2]; exact h3
      · have hj2 : j = 2 * (n - 1) := by omega
        have e1 : (x0 :: (pairL v m (n - 1) ++ [xl]))[j + 1]? = some xl := by rw [List.getElem?_cons_succ, List.getElem?_append_right (by rw [pairL_len]; omega), pairL_len, hj2, Nat.sub_self]; rfl
        have e2 : (z0 :: (pairL vz mz (n - 1) ++ [zl]))[j + 1]? = some zl := by rw [List.getElem?_cons_succ, List.getElem?_append_right (by rw [pairL_len]; omega), pairL_len, hj2, Nat.sub_self]; rfl
        rw [cAt_of e1, zAt_of e2]; exact hl
  · show PX (cAt (pairL v m n) j) (zAt (pairL vz mz n) j) e ∧ low (zAt (pairL vz mz n) j) B
    obtain ⟨z, p, h1, h2, h3⟩ := key n j hj (fun i hi => hv i hi (Or.inl rfl)) (fun i hi => hm i hi (Or.inl rfl))
    rw [cAt_of h1, zAt_of h2]; exact h3
end Go.Fl
