/- Loops of points with whole parts: how often they go around a point, their area, where they cross a height. Plain Lean, no program. -/
import Derived.Test.YtkbikfifnaihlaaEx
namespace Go.Fl
abbrev Zp := Int × Int
def zAt (ps : List Zp) (i : Nat) : Zp := ps.getD i (0, 0)
def crossZ (p q : Zp) : Int := p.1 * q.2 - p.2 * q.1
def subZ (p q : Zp) : Zp := (p.1 - q.1, p.2 - q.2)
def addZ (p q : Zp) : Zp := (p.1 + q.1, p.2 + q.2)
/-- what a side of a loop adds to how often it goes around z -/
def stepZ (p q z : Zp) : Int :=
  if p.2 ≤ z.2 ∧ q.2 > z.2 ∧ crossZ (subZ q p) (subZ z p) > 0 then 1
  else if p.2 > z.2 ∧ q.2 ≤ z.2 ∧ crossZ (subZ q p) (subZ z p) < 0 then -1 else 0
/-- the sum over the first k sides -/
def sumZ (f : Zp → Zp → Int) (ps : List Zp) : Nat → Int
  | 0 => 0
  | k + 1 => sumZ f ps k + f (zAt ps k) (zAt ps ((k + 1) % ps.length))
def windZ (ps : List Zp) (z : Zp) : Int := sumZ (fun p q => stepZ p q z) ps ps.length
def areaZ (ps : List Zp) : Int := sumZ crossZ ps ps.length
theorem stepZ_move (p q z d : Zp) : stepZ (addZ p d) (addZ q d) (addZ z d) = stepZ p q z := by
  have h1 : subZ (addZ q d) (addZ p d) = subZ q p := by unfold subZ addZ; simp; omega
  have h2 : subZ (addZ z d) (addZ p d) = subZ z p := by unfold subZ addZ; simp; omega
  unfold stepZ
  rw [h1, h2]
  have e1 : (addZ p d).2 ≤ (addZ z d).2 ↔ p.2 ≤ z.2 := by unfold addZ; simp
  have e2 : (addZ q d).2 > (addZ z d).2 ↔ q.2 > z.2 := by unfold addZ; simp
  have e3 : (addZ p d).2 > (addZ z d).2 ↔ p.2 > z.2 := by unfold addZ; simp
  have e4 : (addZ q d).2 ≤ (addZ z d).2 ↔ q.2 ≤ z.2 := by unfold addZ; simp
  simp only [e1, e2, e3, e4]
theorem zAt_map {ps : List Zp} {i : Nat} (h : i < ps.length) (f : Zp → Zp) : zAt (ps.map f) i = f (zAt ps i) := by simp [zAt, h]
theorem sumZ_congr {f g : Zp → Zp → Int} {ps qs : List Zp} : ∀ k, (∀ i, i < k → f (zAt ps i) (zAt ps ((i + 1) % ps.length)) = g (zAt qs i) (zAt qs ((i + 1) % qs.length))) → sumZ f ps k = sumZ g qs k
  | 0, _ => rfl
  | k + 1, h => by
    show sumZ f ps k + _ = sumZ g qs k + _
    rw [sumZ_congr k (fun i hi => h i (by omega)), h k (by omega)]
theorem windZ_move (ps : List Zp) (z d : Zp) : windZ (ps.map (addZ · d)) (addZ z d) = windZ ps z := by
  unfold windZ
  rw [List.length_map]
  refine sumZ_congr _ fun i hi => ?_
  have h2 : (i + 1) % ps.length < ps.length := Nat.mod_lt _ (by omega)
  rw [List.length_map, zAt_map hi, zAt_map h2]
  exact stepZ_move _ _ _ _
/-- the sum along a list -/
def chain (f : Zp → Zp → Int) : List Zp → Int
  | [] => 0
  | [_] => 0
  | p :: q :: r => f p q + chain f (q :: r)
theorem chain_snoc (f : Zp → Zp → Int) : ∀ (l : List Zp) (p q : Zp), chain f (l ++ [p] ++ [q]) = chain f (l ++ [p]) + f p q
  | [], p, q => by simp [chain]
  | [a], p, q => by simp [chain]
  | a :: b :: l, p, q => by
    have := chain_snoc f (b :: l) p q
    simp only [List.cons_append] at this ⊢
    show f a b + chain f (b :: (l ++ [p] ++ [q])) = f a b + chain f (b :: (l ++ [p])) + f p q
    rw [this]; omega
theorem chain_reverse (f : Zp → Zp → Int) (hf : ∀ p q, f q p = -f p q) : ∀ l, chain f l.reverse = -chain f l
  | [] => rfl
  | [_] => rfl
  | p :: q :: r => by
    have ih := chain_reverse f hf (q :: r)
    rw [List.reverse_cons] at ih
    rw [List.reverse_cons, List.reverse_cons, chain_snoc, ih, hf]
    show -chain f (q :: r) + -f p q = -(f p q + chain f (q :: r))
    omega
theorem chain_take (f : Zp → Zp → Int) (L : List Zp) : ∀ k, k < L.length → chain f (L.take (k + 1 + 1)) = chain f (L.take (k + 1)) + (if k + 1 < L.length then f (zAt L k) (zAt L (k + 1)) else 0)
  | k, hk => by
    by_cases h : k + 1 < L.length
    · rw [if_pos h]
      rw [List.take_succ_eq_append_getElem h, List.take_succ_eq_append_getElem hk, chain_snoc]
      simp [zAt, h, hk]
    · rw [if_neg h, List.take_of_length_le (by omega), List.take_of_length_le (by omega)]; omega
theorem sumZ_chain (f : Zp → Zp → Int) (p : Zp) (r : List Zp) : ∀ k, k ≤ (p :: r).length → sumZ f (p :: r) k = chain f ((p :: r ++ [p]).take (k + 1))
  | 0, _ => by simp [sumZ, chain]
  | k + 1, h => by
    have hl : (p :: r ++ [p]).length = (p :: r).length + 1 := by simp
    rw [chain_take f _ k (by rw [hl]; omega), if_pos (by rw [hl]; omega), ← sumZ_chain f p r k (by omega)]
    show sumZ f (p :: r) k + _ = _
    have e1 : zAt (p :: r ++ [p]) k = zAt (p :: r) k := by
      unfold zAt
      rw [List.getD_eq_getElem?_getD, List.getD_eq_getElem?_getD, List.getElem?_append_left (by omega)]
    have e2 : zAt (p :: r ++ [p]) (k + 1) = zAt (p :: r) ((k + 1) % (p :: r).length) := by
      unfold zAt
      rw [List.getD_eq_getElem?_getD, List.getD_eq_getElem?_getD]
      by_cases h2 : k + 1 < (p :: r).length
      · rw [List.getElem?_append_left h2, Nat.mod_eq_of_lt h2]
      · have h3 : k + 1 = (p :: r).length := by omega
        rw [h3, Nat.mod_self, List.getElem?_append_right (Nat.le_refl _)]
        simp
    rw [e1, e2]
theorem areaZ_chain (p : Zp) (r : List Zp) : areaZ (p :: r) = chain crossZ (p :: r ++ [p]) := by
  unfold areaZ
  rw [sumZ_chain _ _ _ _ (Nat.le_refl _), List.take_of_length_le (by simp)]
theorem crossZ_neg (p q : Zp) : crossZ q p = -crossZ p q := by unfold crossZ; rw [Int.mul_comm q.1, Int.mul_comm q.2]; omega
theorem areaZ_reverse (ps : List Zp) : areaZ ps.reverse = -areaZ ps := by
  cases ps with
  | nil => rfl
  | cons p r =>
    rcases List.eq_nil_or_concat r with rfl | ⟨m, q, hr⟩
    · unfold areaZ; simp [sumZ, crossZ, zAt, Int.mul_comm]
    · have hr2 : r = m ++ [q] := by simpa using hr
      subst hr2
      have e : (p :: (m ++ [q])).reverse = q :: (m.reverse ++ [p]) := by simp
      rw [e, areaZ_chain, areaZ_chain]
      have e2 : q :: (m.reverse ++ [p]) ++ [q] = (q :: p :: (m ++ [q])).reverse := by simp
      rw [e2, chain_reverse _ crossZ_neg]
      have e3 : p :: (m ++ [q]) ++ [p] = (p :: m) ++ [q] ++ [p] := by simp
      rw [e3, chain_snoc]
      show -(crossZ q p + chain crossZ (p :: (m ++ [q]))) = -(chain crossZ (p :: m ++ [q]) + crossZ q p)
      rw [List.cons_append]; omega
/-- changes along a list of yes and no, seen as 0 and 1 -/
def turnB (y : Int) (p q : Zp) : Int := if decide (p.2 ≤ y) == decide (q.2 ≤ y) then 0 else 1
def bitB (y : Int) (p : Zp) : Int := if p.2 ≤ y then 1 else 0
theorem chain_turn (y : Int) : ∀ (p : Zp) (r : List Zp), (chain (turnB y) (p :: r) + bitB y p + bitB y ((p :: r).getLast (List.cons_ne_nil _ _))) % 2 = 0
  | p, [] => by
    show (0 + bitB y p + bitB y p) % 2 = 0
    omega
  | p, q :: r => by
    have ih := chain_turn y q r
    have e : (p :: q :: r).getLast (List.cons_ne_nil _ _) = (q :: r).getLast (List.cons_ne_nil _ _) := by simp
    rw [e]
    show (turnB y p q + chain (turnB y) (q :: r) + bitB y p + bitB y ((q :: r).getLast (List.cons_ne_nil _ _))) % 2 = 0
    have h : (turnB y p q + bitB y p + bitB y q) % 2 = 0 := by
      unfold turnB bitB
      by_cases h1 : p.2 ≤ y <;> by_cases h2 : q.2 ≤ y <;> simp [h1, h2]
    omega
/-- how many sides cross a height -/
def crossesZ (y : Int) (ps : List Zp) : Int := sumZ (turnB y) ps ps.length
theorem crossesZ_even (y : Int) (ps : List Zp) : crossesZ y ps % 2 = 0 := by
  cases ps with
  | nil => rfl
  | cons p r =>
    unfold crossesZ
    rw [sumZ_chain _ _ _ _ (Nat.le_refl _), List.take_of_length_le (by simp)]
    have h := chain_turn y p (r ++ [p])
    have e : (p :: (r ++ [p])).getLast (List.cons_ne_nil _ _) = p := by rw [List.getLast_cons (by simp)]; simp
    rw [e] at h
    rw [List.cons_append]
    omega
end Go.Fl
