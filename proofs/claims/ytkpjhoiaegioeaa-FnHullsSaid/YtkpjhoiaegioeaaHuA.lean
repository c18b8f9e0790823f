/- A polygon cut by a line: the areas of both parts add up to its own. Rational numbers; plain Lean. -/
import Derived.Test.YtkpjhoiaegioeaaRr
namespace Go.Fl
abbrev Rp := Rat × Rat
theorem rext {p q : Rp} (h1 : p.1 = q.1) (h2 : p.2 = q.2) : p = q := Prod.ext h1 h2
/-- the cross product as seen from a -/
def fR (a p q : Rp) : Rat := (p.1 - a.1) * (q.2 - a.2) - (p.2 - a.2) * (q.1 - a.1)
/-- on the line through a in direction d -/
def onR (a d p : Rp) : Prop := d.1 * (p.2 - a.2) = d.2 * (p.1 - a.1)
theorem fR_line {a d p q : Rp} (hd : d.1 ≠ 0 ∨ d.2 ≠ 0) (hp : onR a d p) (hq : onR a d q) : fR a p q = 0 := by
  unfold onR at hp hq
  unfold fR
  obtain ⟨u1, e1⟩ : ∃ u, u = p.1 - a.1 := ⟨_, rfl⟩
  obtain ⟨u2, e2⟩ : ∃ u, u = p.2 - a.2 := ⟨_, rfl⟩
  obtain ⟨v1, e3⟩ : ∃ u, u = q.1 - a.1 := ⟨_, rfl⟩
  obtain ⟨v2, e4⟩ : ∃ u, u = q.2 - a.2 := ⟨_, rfl⟩
  rw [← e1, ← e2] at hp
  rw [← e3, ← e4] at hq
  rw [← e1, ← e2, ← e3, ← e4]
  rcases hd with h | h
  · grind
  · grind
theorem fR_self (a p : Rp) : fR a p p = 0 := by unfold fR; grind
/-- where the way from p to q, of sides g and h, meets the line -/
def meetR (p q : Rp) (g h : Rat) : Rp := (p.1 + (q.1 - p.1) * (g / (g - h)), p.2 + (q.2 - p.2) * (g / (g - h)))
theorem meet_on {a d p q : Rp} {g h : Rat} (hg : g = d.1 * (p.2 - a.2) - d.2 * (p.1 - a.1)) (hh : h = d.1 * (q.2 - a.2) - d.2 * (q.1 - a.1)) (hne : g - h ≠ 0) : onR a d (meetR p q g h) := by
  unfold onR meetR
  have ht : g / (g - h) * (g - h) = g := Rat.div_mul_cancel hne
  obtain ⟨t, e⟩ : ∃ t, t = g / (g - h) := ⟨_, rfl⟩
  rw [← e] at ht ⊢
  show d.1 * (p.2 + (q.2 - p.2) * t - a.2) = d.2 * (p.1 + (q.1 - p.1) * t - a.1)
  grind
theorem meet_add {a p q : Rp} {g h : Rat} : fR a p (meetR p q g h) + fR a (meetR p q g h) q = fR a p q := by
  unfold fR meetR
  obtain ⟨t, e⟩ : ∃ t, t = g / (g - h) := ⟨_, rfl⟩
  rw [← e]
  grind
/-- what an edge gives to the part that lies left -/
def partR (a p q : Rp) (g h : Rat) : Rat := if g < 0 then (if h < 0 then 0 else fR a (meetR p q g h) q) else (if h < 0 then fR a p (meetR p q g h) else fR a p q)
theorem meet_g0 {p q : Rp} {h : Rat} : meetR p q 0 h = p := by
  unfold meetR
  rw [Rat.div_def, Rat.zero_mul]
  exact rext (by grind) (by grind)
theorem meet_h0 {p q : Rp} {g : Rat} (hg : g ≠ 0) : meetR p q g 0 = q := by
  unfold meetR
  have e : g / (g - 0) = 1 := by rw [show g - 0 = g by grind]; exact Rat.mul_inv_cancel _ hg
  rw [e]
  exact rext (by grind) (by grind)
theorem meet_neg {p q : Rp} {g h : Rat} : meetR p q (-g) (-h) = meetR p q g h := by
  have e : -g / (-g - -h) = g / (g - h) := by grind
  unfold meetR
  rw [e]
theorem part_add {a d p q : Rp} {g h : Rat} (hd : d.1 ≠ 0 ∨ d.2 ≠ 0) (hg : g = d.1 * (p.2 - a.2) - d.2 * (p.1 - a.1)) (hh : h = d.1 * (q.2 - a.2) - d.2 * (q.1 - a.1)) : partR a p q g h + partR a p q (-g) (-h) = fR a p q := by
  unfold partR
  rw [meet_neg]
  have on : ∀ {g : Rat} {z : Rp}, g = d.1 * (z.2 - a.2) - d.2 * (z.1 - a.1) → ¬ g < 0 → ¬ -g < 0 → onR a d z := fun e h1 h2 => by unfold onR; grind
  have m0 : ¬ g < 0 → ¬ -g < 0 → meetR p q g h = p := fun h1 h2 => by rw [show g = 0 by grind]; exact meet_g0
  have m1 : g ≠ 0 → ¬ h < 0 → ¬ -h < 0 → meetR p q g h = q := fun h0 h1 h2 => by rw [show h = 0 by grind]; exact meet_h0 h0
  have hadd := meet_add (a := a) (p := p) (q := q) (g := g) (h := h)
  by_cases g1 : g < 0
  · have g2 : ¬ -g < 0 := by grind
    rw [if_pos g1, if_neg g2]
    by_cases h1 : h < 0
    · have h2 : ¬ -h < 0 := by grind
      rw [if_pos h1, if_neg h2]; grind
    · rw [if_neg h1]
      by_cases h2 : -h < 0
      · rw [if_pos h2]; grind
      · rw [if_neg h2, m1 (by grind) h1 h2, fR_self]; grind
  · rw [if_neg g1]
    by_cases g2 : -g < 0
    · rw [if_pos g2]
      by_cases h1 : h < 0
      · have h2 : ¬ -h < 0 := by grind
        rw [if_pos h1, if_neg h2]; exact hadd
      · rw [if_neg h1]
        by_cases h2 : -h < 0
        · rw [if_pos h2]; grind
        · rw [if_neg h2, m1 (by grind) h1 h2, fR_self]; grind
    · rw [if_neg g2, m0 g1 g2]
      by_cases h1 : h < 0
      · have h2 : ¬ -h < 0 := by grind
        rw [if_pos h1, if_neg h2, fR_self]; grind
      · rw [if_neg h1]
        by_cases h2 : -h < 0
        · rw [if_pos h2, fR_self]; grind
        · rw [if_neg h2, fR_line hd (on hg g1 g2) (on hh h1 h2)]; grind
/-- the sum along a list -/
def chainR (f : Rp → Rp → Rat) : List Rp → Rat
  | [] => 0
  | [_] => 0
  | p :: q :: r => f p q + chainR f (q :: r)
theorem chainR_snoc (f : Rp → Rp → Rat) : ∀ (l : List Rp) (p q : Rp), chainR f (l ++ [p] ++ [q]) = chainR f (l ++ [p]) + f p q
  | [], p, q => by show f p q + 0 = 0 + f p q; grind
  | [a], p, q => by show f a p + (f p q + 0) = f a p + 0 + f p q; grind
  | a :: b :: l, p, q => by
    have := chainR_snoc f (b :: l) p q
    simp only [List.cons_append] at this ⊢
    show f a b + chainR f (b :: (l ++ [p] ++ [q])) = f a b + chainR f (b :: (l ++ [p])) + f p q
    rw [this]; grind
/-- the sum round and round -/
def cycR (f : Rp → Rp → Rat) : List Rp → Rat
  | [] => 0
  | p :: r => chainR f (p :: r ++ [p])
/-- a list, its last one behind -/
theorem snoc_of {α : Type} {l : List α} (h : l ≠ []) : ∃ m x, l = m ++ [x] := by
  rcases List.eq_nil_or_concat l with rfl | ⟨m, x, e⟩
  · exact absurd rfl h
  · exact ⟨m, x, by simpa using e⟩
theorem cycR_ends (f : Rp → Rp → Rat) {l : List Rp} {u v : Rp} (h0 : l.head? = some u) (h1 : l.getLast? = some v) : cycR f l = chainR f l + f v u := by
  match l, h0 with
  | p :: r, h0 =>
    have e : p = u := by simpa using h0
    subst e
    obtain ⟨m, e⟩ := List.getLast?_eq_some_iff.1 h1
    show chainR f (p :: r ++ [p]) = _
    rw [e, chainR_snoc]
/-- one step of the cut: what is put behind at an edge from p to q -/
def cutAt (p q : Rp) (g h : Rat) : List Rp := (if g < 0 ∧ ¬ h < 0 ∨ ¬ g < 0 ∧ h < 0 then [meetR p q g h] else []) ++ (if h < 0 then [] else [q])
/-- the cut's list behind the edges 0 .. k (edge i goes from the corner before i to corner i) -/
def cutTo (P : Nat → Rp) (s : Nat → Rat) (n : Nat) : Nat → List Rp
  | 0 => []
  | k + 1 => cutTo P s n k ++ cutAt (P ((k + n - 1) % n)) (P k) (s ((k + n - 1) % n)) (s k)
def sumTo (F : Nat → Rat) : Nat → Rat
  | 0 => 0
  | k + 1 => sumTo F k + F k
theorem chainR_last (f : Rp → Rp → Rat) {l : List Rp} {v : Rp} (x : Rp) (h : l.getLast? = some v) : chainR f (l ++ [x]) = chainR f l + f v x := by
  obtain ⟨m, e⟩ := List.getLast?_eq_some_iff.1 h
  rw [e, chainR_snoc]
def cut0 (a : Rp) (P : Nat → Rp) (s : Nat → Rat) (n i : Nat) : Rat := if i = 0 then (if s (n - 1) < 0 ∧ ¬ s 0 < 0 then fR a (meetR (P (n - 1)) (P 0) (s (n - 1)) (s 0)) (P 0) else 0) else partR a (P (i - 1)) (P i) (s (i - 1)) (s i)
/-- the list behind the edges 0 .. i -/
structure CutI (a d : Rp) (P : Nat → Rp) (s : Nat → Rat) (n i : Nat) (L : List Rp) : Prop where
  sum : chainR (fR a) L = sumTo (cut0 a P s n) (i + 1)
  last : ¬ s i < 0 → L.getLast? = some (P i)
  lastN : s i < 0 → L = [] ∨ ∃ z, L.getLast? = some z ∧ onR a d z
  nil : L = [] → s (n - 1) < 0 ∧ s 0 < 0
  h1 : ¬ s (n - 1) < 0 → ¬ s 0 < 0 → L.head? = some (P 0)
  h2 : ¬ s (n - 1) < 0 → s 0 < 0 → L.head? = some (meetR (P (n - 1)) (P 0) (s (n - 1)) (s 0))
  h3 : s (n - 1) < 0 → L = [] ∨ ∃ z, L.head? = some z ∧ onR a d z
variable {a d : Rp} {P : Nat → Rp} {s : Nat → Rat} {n : Nat}
theorem sumTo_one (F : Nat → Rat) : sumTo F 1 = F 0 := by show 0 + F 0 = F 0; grind
theorem cut_start (hn : 0 < n) (hs : ∀ i, i < n → s i = d.1 * ((P i).2 - a.2) - d.2 * ((P i).1 - a.1)) : CutI a d P s n 0 (cutTo P s n 1) := by
  have e : cutTo P s n 1 = cutAt (P (n - 1)) (P 0) (s (n - 1)) (s 0) := by
    show [] ++ cutAt (P ((0 + n - 1) % n)) (P 0) (s ((0 + n - 1) % n)) (s 0) = _
    rw [List.nil_append, Nat.zero_add, Nat.mod_eq_of_lt (by omega)]
  rw [e]
  have hon : s (n - 1) - s 0 ≠ 0 → onR a d (meetR (P (n - 1)) (P 0) (s (n - 1)) (s 0)) := fun h => meet_on (hs _ (by omega)) (hs _ hn) h
  have hz : sumTo (cut0 a P s n) (0 + 1) = (if s (n - 1) < 0 ∧ ¬ s 0 < 0 then fR a (meetR (P (n - 1)) (P 0) (s (n - 1)) (s 0)) (P 0) else 0) := sumTo_one _
  unfold cutAt
  by_cases g : s (n - 1) < 0 <;> by_cases h : s 0 < 0
  · have e : (if s (n - 1) < 0 ∧ ¬ s 0 < 0 ∨ ¬ s (n - 1) < 0 ∧ s 0 < 0 then [meetR (P (n - 1)) (P 0) (s (n - 1)) (s 0)] else []) = [] := if_neg (by simp [g, h])
    rw [e, if_pos h]
    exact ⟨by rw [hz, if_neg (by simp [h])]; rfl, fun k => absurd h k, fun _ => .inl rfl, fun _ => ⟨g, h⟩, fun k => absurd g k, fun k => absurd g k, fun _ => .inl rfl⟩
  · have e : (if s (n - 1) < 0 ∧ ¬ s 0 < 0 ∨ ¬ s (n - 1) < 0 ∧ s 0 < 0 then [meetR (P (n - 1)) (P 0) (s (n - 1)) (s 0)] else []) = [meetR (P (n - 1)) (P 0) (s (n - 1)) (s 0)] := if_pos (by simp [g, h])
    rw [e, if_neg h]
    exact ⟨by rw [hz, if_pos ⟨g, h⟩]; show fR a _ _ + 0 = _; grind, fun _ => rfl, fun k => absurd k h, fun k => by simp at k, fun k => absurd g k, fun k => absurd g k, fun _ => .inr ⟨_, rfl, hon (by grind)⟩⟩
  · have e : (if s (n - 1) < 0 ∧ ¬ s 0 < 0 ∨ ¬ s (n - 1) < 0 ∧ s 0 < 0 then [meetR (P (n - 1)) (P 0) (s (n - 1)) (s 0)] else []) = [meetR (P (n - 1)) (P 0) (s (n - 1)) (s 0)] := if_pos (by simp [g, h])
    rw [e, if_pos h]
    exact ⟨by rw [hz, if_neg (by simp [g])]; rfl, fun k => absurd h k, fun _ => .inr ⟨_, rfl, hon (by grind)⟩, fun k => by simp at k, fun _ k => absurd h k, fun _ _ => rfl, fun k => absurd k g⟩
  · have e : (if s (n - 1) < 0 ∧ ¬ s 0 < 0 ∨ ¬ s (n - 1) < 0 ∧ s 0 < 0 then [meetR (P (n - 1)) (P 0) (s (n - 1)) (s 0)] else []) = [] := if_neg (by simp [g, h])
    rw [e, if_neg h]
    exact ⟨by rw [hz, if_neg (by simp [g])]; rfl, fun _ => rfl, fun k => absurd k h, fun k => by simp at k, fun _ _ => rfl, fun _ k => absurd k h, fun k => absurd k g⟩
theorem head_app {L M : List Rp} {z : Rp} (h : L.head? = some z) : (L ++ M).head? = some z := by rw [List.head?_append, h]; rfl
theorem cut_step {i : Nat} {L : List Rp} (hd : d.1 ≠ 0 ∨ d.2 ≠ 0) (hi : i + 1 < n) (hs : ∀ i, i < n → s i = d.1 * ((P i).2 - a.2) - d.2 * ((P i).1 - a.1)) (hI : CutI a d P s n i L) : CutI a d P s n (i + 1) (L ++ cutAt (P i) (P (i + 1)) (s i) (s (i + 1))) := by
  have hon : s i - s (i + 1) ≠ 0 → onR a d (meetR (P i) (P (i + 1)) (s i) (s (i + 1))) := fun h => meet_on (hs _ (by omega)) (hs _ hi) h
  have hz : sumTo (cut0 a P s n) (i + 1 + 1) = sumTo (cut0 a P s n) (i + 1) + partR a (P i) (P (i + 1)) (s i) (s (i + 1)) := by
    show sumTo (cut0 a P s n) (i + 1) + cut0 a P s n (i + 1) = _
    unfold cut0
    rw [if_neg (Nat.succ_ne_zero _)]; rfl
  obtain ⟨q1, q2, q3, q4, q5, q6, q7⟩ := hI
  obtain ⟨c, hc⟩ : ∃ c, c = meetR (P i) (P (i + 1)) (s i) (s (i + 1)) := ⟨_, rfl⟩
  unfold cutAt
  rw [← hc] at hon ⊢
  have keep1 : ∀ M, ¬ s (n - 1) < 0 → ¬ s 0 < 0 → (L ++ M).head? = some (P 0) := fun M k1 k2 => head_app (q5 k1 k2)
  have keep2 : ∀ M, ¬ s (n - 1) < 0 → s 0 < 0 → (L ++ M).head? = some (meetR (P (n - 1)) (P 0) (s (n - 1)) (s 0)) := fun M k1 k2 => head_app (q6 k1 k2)
  have nn : ∀ M, L ++ M = [] → s (n - 1) < 0 ∧ s 0 < 0 := fun M h => q4 (List.append_eq_nil_iff.1 h).1
  by_cases g : s i < 0 <;> by_cases h : s (i + 1) < 0
  · have e : (if s i < 0 ∧ ¬ s (i + 1) < 0 ∨ ¬ s i < 0 ∧ s (i + 1) < 0 then [c] else []) = [] := if_neg (by simp [g, h])
    rw [e, if_pos h, List.append_nil, List.append_nil]
    refine ⟨?_, fun k => absurd h k, fun _ => q3 g, q4, q5, q6, q7⟩
    rw [hz, q1]; unfold partR; rw [if_pos g, if_pos h]; grind
  · have e : (if s i < 0 ∧ ¬ s (i + 1) < 0 ∨ ¬ s i < 0 ∧ s (i + 1) < 0 then [c] else []) = [c] := if_pos (by simp [g, h])
    rw [e, if_neg h]
    have ho := hon (by grind)
    refine ⟨?_, fun _ => by simp, fun k => absurd k h, nn _, keep1 _, keep2 _, fun k => .inr ?_⟩
    · rw [hz, ← q1]; unfold partR; rw [if_pos g, if_neg h, ← hc]
      rcases q3 g with rfl | ⟨z, e1, e2⟩
      · show fR a c (P (i + 1)) + 0 = 0 + fR a c (P (i + 1)); grind
      · have e3 := chainR_last (fR a) c e1
        have e4 := chainR_last (fR a) (l := L ++ [c]) (v := c) (P (i + 1)) (by simp)
        rw [List.append_assoc] at e4
        rw [e4, e3, fR_line hd e2 ho]; grind
    · rcases q7 k with rfl | ⟨z, e1, e2⟩
      · exact ⟨c, rfl, ho⟩
      · exact ⟨z, head_app e1, e2⟩
  · have e : (if s i < 0 ∧ ¬ s (i + 1) < 0 ∨ ¬ s i < 0 ∧ s (i + 1) < 0 then [c] else []) = [c] := if_pos (by simp [g, h])
    rw [e, if_pos h, List.append_nil]
    have ho := hon (by grind)
    refine ⟨?_, fun k => absurd h k, fun _ => .inr ⟨c, by simp, ho⟩, nn _, keep1 _, keep2 _, fun k => ?_⟩
    · rw [hz, ← q1, chainR_last (fR a) c (q2 g)]; unfold partR; rw [if_neg g, if_pos h, ← hc]
    · rcases q7 k with rfl | ⟨z, e1, e2⟩
      · exact .inr ⟨c, rfl, ho⟩
      · exact .inr ⟨z, head_app e1, e2⟩
  · have e : (if s i < 0 ∧ ¬ s (i + 1) < 0 ∨ ¬ s i < 0 ∧ s (i + 1) < 0 then [c] else []) = [] := if_neg (by simp [g, h])
    rw [e, if_neg h, List.nil_append]
    refine ⟨?_, fun _ => by simp, fun k => absurd k h, nn _, keep1 _, keep2 _, fun k => .inr ?_⟩
    · rw [hz, ← q1, chainR_last (fR a) (P (i + 1)) (q2 g)]; unfold partR; rw [if_neg g, if_neg h]
    · rcases q7 k with rfl | ⟨z, e1, e2⟩
      · have := q2 g
        simp at this
      · exact ⟨z, head_app e1, e2⟩
theorem cut_all (hd : d.1 ≠ 0 ∨ d.2 ≠ 0) (hs : ∀ i, i < n → s i = d.1 * ((P i).2 - a.2) - d.2 * ((P i).1 - a.1)) : ∀ i, i < n → CutI a d P s n i (cutTo P s n (i + 1))
  | 0, h => cut_start h hs
  | i + 1, h => by
    have := cut_step hd h hs (cut_all hd hs i (by omega))
    show CutI a d P s n (i + 1) (cutTo P s n (i + 1) ++ cutAt (P ((i + 1 + n - 1) % n)) (P (i + 1)) (s ((i + 1 + n - 1) % n)) (s (i + 1)))
    have e : (i + 1 + n - 1) % n = i := by
      rw [show i + 1 + n - 1 = i + n by omega, Nat.add_mod_right, Nat.mod_eq_of_lt (by omega)]
    rw [e]
    exact this
theorem sumTo_congr {F G : Nat → Rat} : ∀ k, (∀ i, i < k → F i = G i) → sumTo F k = sumTo G k
  | 0, _ => rfl
  | k + 1, h => by show sumTo F k + F k = sumTo G k + G k; rw [sumTo_congr k (fun i hi => h i (by omega)), h k (by omega)]
theorem sumTo_add (F G : Nat → Rat) : ∀ k, sumTo (fun i => F i + G i) k = sumTo F k + sumTo G k
  | 0 => by show (0 : Rat) = 0 + 0; grind
  | k + 1 => by show sumTo _ k + (F k + G k) = sumTo F k + F k + (sumTo G k + G k); rw [sumTo_add F G k]; grind
theorem sumTo_first {F G : Nat → Rat} {e : Rat} (h0 : F 0 = G 0 + e) (h : ∀ i, 0 < i → F i = G i) : ∀ k, sumTo F (k + 1) = sumTo G (k + 1) + e
  | 0 => by rw [sumTo_one, sumTo_one, h0]
  | k + 1 => by
    show sumTo F (k + 1) + F (k + 1) = sumTo G (k + 1) + G (k + 1) + e
    rw [sumTo_first h0 h k, h (k + 1) (Nat.succ_pos _)]; grind
/-- twice the area of what is left of the line, as seen from a -/
theorem cut_sum (hn : 0 < n) (hd : d.1 ≠ 0 ∨ d.2 ≠ 0) (hs : ∀ i, i < n → s i = d.1 * ((P i).2 - a.2) - d.2 * ((P i).1 - a.1)) :
    cycR (fR a) (cutTo P s n n) = sumTo (fun i => partR a (P ((i + n - 1) % n)) (P i) (s ((i + n - 1) % n)) (s i)) n := by
  obtain ⟨m, rfl⟩ : ∃ m, n = m + 1 := ⟨n - 1, by omega⟩
  have hI := cut_all hd hs m (by omega)
  obtain ⟨L, hL⟩ : ∃ L, L = cutTo P s (m + 1) (m + 1) := ⟨_, rfl⟩
  rw [← hL] at hI ⊢
  obtain ⟨q1, q2, q3, q4, q5, q6, q7⟩ := hI
  have em : (m + 1) - 1 = m := rfl
  rw [em] at q4 q5 q6 q7
  have e0 : (0 + (m + 1) - 1) % (m + 1) = m := by rw [Nat.zero_add, em, Nat.mod_eq_of_lt (by omega)]
  have key : ∀ e : Rat, cut0 a P s (m + 1) 0 + e = partR a (P m) (P 0) (s m) (s 0) → sumTo (fun i => partR a (P ((i + (m + 1) - 1) % (m + 1))) (P i) (s ((i + (m + 1) - 1) % (m + 1))) (s i)) (m + 1) = sumTo (cut0 a P s (m + 1)) (m + 1) + e := fun e he => by
    have c1 : sumTo (fun i => partR a (P ((i + (m + 1) - 1) % (m + 1))) (P i) (s ((i + (m + 1) - 1) % (m + 1))) (s i)) (m + 1) = sumTo (fun i => if i = 0 then partR a (P m) (P 0) (s m) (s 0) else cut0 a P s (m + 1) i) (m + 1) := by
      apply sumTo_congr
      intro i hi
      by_cases h0 : i = 0
      · subst h0; rw [e0]; rfl
      · show _ = if i = 0 then _ else _
        rw [if_neg h0]
        unfold cut0
        rw [if_neg h0]
        have : (i + (m + 1) - 1) % (m + 1) = i - 1 := by
          rw [show i + (m + 1) - 1 = i - 1 + (m + 1) by omega, Nat.add_mod_right, Nat.mod_eq_of_lt (by omega)]
        rw [this]
    rw [c1]
    exact sumTo_first (by show partR a (P m) (P 0) (s m) (s 0) = _; rw [he]) (fun i hi => by show (if i = 0 then _ else _) = _; rw [if_neg (by omega)]) m
  have c0 : cut0 a P s (m + 1) 0 = (if s m < 0 ∧ ¬ s 0 < 0 then fR a (meetR (P m) (P 0) (s m) (s 0)) (P 0) else 0) := rfl
  by_cases g : s m < 0
  · have hp : cut0 a P s (m + 1) 0 + 0 = partR a (P m) (P 0) (s m) (s 0) := by
      rw [c0]; unfold partR; rw [if_pos g]
      by_cases h : s 0 < 0
      · rw [if_neg (by simp [h]), if_pos h]; grind
      · rw [if_pos ⟨g, h⟩, if_neg h]; grind
    rw [key 0 hp, ← q1]
    rcases q3 g with h | ⟨z, e1, e2⟩
    · rw [h]; show (0 : Rat) = 0 + 0; grind
    · rcases q7 g with h | ⟨z', f1, f2⟩
      · rw [h] at e1; cases e1
      · rw [cycR_ends _ f1 e1, fR_line hd e2 f2]
  · by_cases h : s 0 < 0
    · rw [cycR_ends _ (q6 g h) (q2 g), q1, key (fR a (P m) (meetR (P m) (P 0) (s m) (s 0)))]
      rw [c0]; unfold partR; rw [if_neg (by simp [g]), if_neg g, if_pos h]; grind
    · rw [cycR_ends _ (q5 g h) (q2 g), q1, key (fR a (P m) (P 0))]
      rw [c0]; unfold partR; rw [if_neg (by simp [g]), if_neg g, if_neg h]; grind
/-- both parts together -/
theorem cut_both (hn : 0 < n) (hd : d.1 ≠ 0 ∨ d.2 ≠ 0) (hs : ∀ i, i < n → s i = d.1 * ((P i).2 - a.2) - d.2 * ((P i).1 - a.1)) :
    cycR (fR a) (cutTo P s n n) + cycR (fR a) (cutTo P (fun i => -s i) n n) = sumTo (fun i => fR a (P ((i + n - 1) % n)) (P i)) n := by
  rw [cut_sum hn hd hs, cut_sum (d := (-d.1, -d.2)) hn (by rcases hd with h | h; exact .inl (by show -d.1 ≠ 0; grind); exact .inr (by show -d.2 ≠ 0; grind)) (fun i hi => by
    show -s i = -d.1 * ((P i).2 - a.2) - -d.2 * ((P i).1 - a.1)
    rw [hs i hi]; grind), ← sumTo_add]
  apply sumTo_congr
  intro i hi
  have hk : (i + n - 1) % n < n := Nat.mod_lt _ hn
  exact part_add hd (hs _ hk) (hs i hi)
end Go.Fl
