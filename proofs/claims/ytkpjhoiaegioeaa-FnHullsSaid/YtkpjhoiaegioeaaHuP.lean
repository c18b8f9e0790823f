/- Hulls: the hull of points is convex, holds them, and is its own hull. Plain Lean. -/
import Derived.Test.YtkpjhoiaegioeaaGPl
namespace Go.Fl
theorem zext {p q : Zp} (h1 : p.1 = q.1) (h2 : p.2 = q.2) : p = q := Prod.ext h1 h2
/-- to the right, or straight up -/
def pos (u : Zp) : Prop := 0 < u.1 ∨ (u.1 = 0 ∧ 0 < u.2)
def ltZ (p q : Zp) : Prop := p.1 < q.1 ∨ (p.1 = q.1 ∧ p.2 < q.2)
def leZ (p q : Zp) : Prop := p.1 < q.1 ∨ (p.1 = q.1 ∧ p.2 ≤ q.2)
def turnZ (a b z : Zp) : Int := crossZ (subZ b a) (subZ z a)
instance (p q : Zp) : Decidable (ltZ p q) := by unfold ltZ; infer_instance
instance (p q : Zp) : Decidable (leZ p q) := by unfold leZ; infer_instance
theorem ltZ.le {p q : Zp} (h : ltZ p q) : leZ p q := by unfold ltZ at h; unfold leZ; omega
theorem leZ.refl (p : Zp) : leZ p p := by unfold leZ; omega
theorem ltZ.trans {p q r : Zp} (h : ltZ p q) (k : ltZ q r) : ltZ p r := by unfold ltZ at *; omega
theorem leZ.trans {p q r : Zp} (h : leZ p q) (k : leZ q r) : leZ p r := by unfold leZ at *; omega
theorem leZ.trans_lt {p q r : Zp} (h : leZ p q) (k : ltZ q r) : ltZ p r := by unfold leZ ltZ at *; omega
theorem ltZ.trans_le {p q r : Zp} (h : ltZ p q) (k : leZ q r) : ltZ p r := by unfold leZ ltZ at *; omega
theorem ltZ.irr {p : Zp} (h : ltZ p p) : False := by unfold ltZ at h; omega
theorem le_or_lt (p q : Zp) : leZ p q ∨ ltZ q p := by unfold leZ ltZ; omega
theorem leZ.anti {p q : Zp} (h : leZ p q) (k : leZ q p) : p = q := by unfold leZ at *; exact zext (by omega) (by omega)
theorem leZ.eq_or {p q : Zp} (h : leZ p q) : p = q ∨ ltZ p q := by
  rcases le_or_lt q p with k | k
  · exact .inl (h.anti k)
  · exact .inr k
theorem ltZ.pos {p q : Zp} (h : ltZ p q) : pos (subZ q p) := by unfold ltZ at h; unfold Go.Fl.pos subZ; show 0 < q.1 - p.1 ∨ (q.1 - p.1 = 0 ∧ 0 < q.2 - p.2); omega
/-- Plücker's relation -/
theorem three_cross (d u v : Zp) : d.1 * crossZ v u = v.1 * crossZ d u - u.1 * crossZ d v := by
  unfold crossZ
  simp only [Int.mul_sub]
  have a1 : d.1 * (v.1 * u.2) = v.1 * (d.1 * u.2) := by ac_rfl
  have a2 : d.1 * (v.2 * u.1) = u.1 * (d.1 * v.2) := by ac_rfl
  have a3 : v.1 * (d.2 * u.1) = u.1 * (d.2 * v.1) := by ac_rfl
  rw [a1, a2, a3]; omega
theorem crossZ_0 (u : Zp) : crossZ u (0, 0) = 0 := by unfold crossZ; simp
theorem mul_nn {a b : Int} (h : 0 ≤ a) (k : 0 ≤ b) : 0 ≤ a * b := Int.mul_nonneg h k
theorem mul_np {a b : Int} (h : 0 ≤ a) (k : b ≤ 0) : a * b ≤ 0 := by have := Int.mul_nonneg h (show 0 ≤ -b by omega); rw [Int.mul_neg] at this; omega
theorem nn_of_mul {a b : Int} (h : 0 < a) (k : 0 ≤ a * b) : 0 ≤ b := by
  rcases Int.lt_or_le b 0 with hb | hb
  · have := Int.mul_pos h (show 0 < -b by omega); rw [Int.mul_neg] at this; omega
  · exact hb
theorem p_of_mul {a b : Int} (h : 0 < a) (k : 0 < a * b) : 0 < b := by
  rcases Int.lt_or_le 0 b with hb | hb
  · exact hb
  · have := mul_np (Int.le_of_lt h) hb; omega
theorem np_of_mul {a b : Int} (h : 0 < a) (k : a * b ≤ 0) : b ≤ 0 := by
  rcases Int.lt_or_le 0 b with hb | hb
  · have := Int.mul_pos h hb; omega
  · exact hb
/-- A: what is right of d is right of what is left of d -/
theorem fan1 {d v u : Zp} (hd : pos d) (hv : pos v) (hu : pos u) (h1 : crossZ d u ≤ 0) (h2 : 0 < crossZ d v) : crossZ v u ≤ 0 := by
  have key := three_cross d u v
  have v0 : 0 ≤ v.1 := by unfold pos at hv; omega
  have u0 : 0 ≤ u.1 := by unfold pos at hu; omega
  have m1 := mul_np v0 h1
  have m2 := mul_nn u0 (Int.le_of_lt h2)
  rcases hd with hd | ⟨d1, d2⟩
  · exact np_of_mul hd (by omega)
  · exfalso
    unfold crossZ at h2
    rw [d1, Int.zero_mul] at h2
    have := mul_nn (Int.le_of_lt d2) v0
    omega
/-- B: what is left of d is left of what is right of d -/
theorem fan2 {d v u : Zp} (hd : pos d) (hv : pos v) (hu : pos u) (h1 : 0 ≤ crossZ d u) (h2 : crossZ d v ≤ 0) : 0 ≤ crossZ v u := by
  have key := three_cross d u v
  have v0 : 0 ≤ v.1 := by unfold pos at hv; omega
  have u0 : 0 ≤ u.1 := by unfold pos at hu; omega
  have m1 := mul_nn v0 h1
  have m2 := mul_np u0 h2
  rcases hd with hd | ⟨d1, d2⟩
  · exact nn_of_mul hd (by omega)
  · unfold crossZ at h1
    rw [d1, Int.zero_mul] at h1
    have u1 : u.1 = 0 := by
      rcases Int.lt_or_le 0 u.1 with h | h
      · have := Int.mul_pos d2 h; omega
      · omega
    unfold crossZ
    rw [u1, Int.mul_zero, Int.sub_zero]
    exact mul_nn v0 (by unfold pos at hu; omega)
/-- C: turns left add up -/
theorem fan3 {d v u : Zp} (hd : pos d) (hv : pos v) (hu : pos u) (hle : v.1 ≤ u.1) (h1 : 0 < crossZ d v) (h2 : 0 < crossZ v u) : 0 < crossZ d u := by
  have key := three_cross v u d
  have e : crossZ v d = -crossZ d v := crossZ_neg d v
  rw [e, Int.mul_neg] at key
  have d0 : 0 ≤ d.1 := by unfold pos at hd; omega
  have u0 : 0 ≤ u.1 := by unfold pos at hu; omega
  have m1 := mul_nn d0 (Int.le_of_lt h2)
  rcases hv with hv | ⟨v1, v2⟩
  · have m2 := Int.mul_pos (show 0 < u.1 by omega) h1
    exact p_of_mul hv (by omega)
  · exfalso
    unfold crossZ at h2
    rw [v1, Int.zero_mul] at h2
    have := mul_nn (Int.le_of_lt v2) u0
    omega
/-- D: two of one direction turn the same way -/
theorem fan4 {d u v : Zp} (hd : pos d) (hu : pos u) (hv : pos v) (h0 : crossZ u v = 0) (h1 : 0 < crossZ d u) : 0 < crossZ d v := by
  have key := three_cross u v d
  rw [h0, Int.mul_zero, crossZ_neg d u] at key
  rw [Int.mul_neg] at key
  have v0 : 0 ≤ v.1 := by unfold pos at hv; omega
  rcases hu with hu | ⟨u1, u2⟩
  · have hv1 : 0 < v.1 := by
      rcases hv with hv | ⟨v1, v2⟩
      · exact hv
      · exfalso
        unfold crossZ at h0
        rw [v1, Int.mul_zero, Int.sub_zero] at h0
        have := Int.mul_pos hu v2
        omega
    have := Int.mul_pos hv1 h1
    exact p_of_mul hu (by omega)
  · have v1 : v.1 = 0 := by
      unfold crossZ at h0
      rw [u1, Int.zero_mul] at h0
      rcases Int.lt_or_le 0 v.1 with h | h
      · have := Int.mul_pos u2 h; omega
      · omega
    have v2 : 0 < v.2 := by unfold pos at hv; omega
    unfold crossZ at h1 ⊢
    rw [u1, Int.mul_zero, Int.sub_zero] at h1
    rw [v1, Int.mul_zero, Int.sub_zero]
    have d1 : 0 < d.1 := by
      rcases Int.lt_or_le 0 d.1 with h | h
      · exact h
      · have : d.1 = 0 := by unfold pos at hd; omega
        rw [this, Int.zero_mul] at h1; omega
    exact Int.mul_pos d1 v2
theorem cross_subs (p q r s t : Zp) : crossZ (subZ p q) (subZ (subZ r s) (subZ t s)) = crossZ (subZ p q) (subZ r t) := by
  unfold crossZ subZ
  show (p.1 - q.1) * ((r.2 - s.2) - (t.2 - s.2)) - (p.2 - q.2) * ((r.1 - s.1) - (t.1 - s.1)) = (p.1 - q.1) * (r.2 - t.2) - (p.2 - q.2) * (r.1 - t.1)
  rw [show (r.2 - s.2) - (t.2 - s.2) = r.2 - t.2 by omega, show (r.1 - s.1) - (t.1 - s.1) = r.1 - t.1 by omega]
theorem cross_sub_r (d p q r : Zp) : crossZ d (subZ p r) = crossZ d (subZ p q) + crossZ d (subZ q r) := by
  unfold crossZ subZ
  show d.1 * (p.2 - r.2) - d.2 * (p.1 - r.1) = (d.1 * (p.2 - q.2) - d.2 * (p.1 - q.1)) + (d.1 * (q.2 - r.2) - d.2 * (q.1 - r.1))
  simp only [Int.mul_sub]; omega
theorem cross_self (u : Zp) : crossZ u u = 0 := by unfold crossZ; rw [Int.mul_comm]; omega
theorem subZ_neg (p q d : Zp) : crossZ d (subZ p q) = -crossZ d (subZ q p) := by
  have := cross_sub_r d p q p
  have e : crossZ d (subZ p p) = 0 := by unfold crossZ subZ; show d.1 * (p.2 - p.2) - d.2 * (p.1 - p.1) = 0; simp
  omega
theorem turn_base (a b z : Zp) : turnZ a b z = crossZ (subZ b a) (subZ z b) := by
  unfold turnZ
  have := cross_sub_r (subZ b a) z b a
  rw [cross_self] at this
  omega
theorem turn_b (a b : Zp) : turnZ a b b = 0 := cross_self _
theorem turn_a (a b : Zp) : turnZ a b a = 0 := by
  unfold turnZ crossZ subZ
  show (b.1 - a.1) * (a.2 - a.2) - (b.2 - a.2) * (a.1 - a.1) = 0
  simp
theorem turn_aa (a z : Zp) : turnZ a a z = 0 := by
  unfold turnZ crossZ subZ
  show (a.1 - a.1) * (z.2 - a.2) - (a.2 - a.2) * (z.1 - a.1) = 0
  simp
/-- the stack without what does not turn left -/
def popZ (z : Zp) : List Zp → List Zp
  | b :: a :: r => if 0 < turnZ a b z then b :: a :: r else popZ z (a :: r)
  | s => s
def stackZ (L : List Zp) : List Zp := L.foldl (fun st z => z :: popZ z st) []
/-- every two neighbours of a list (the later one first) -/
def AdjP (R : Zp → Zp → Prop) : List Zp → Prop
  | b :: a :: r => R a b ∧ AdjP R (a :: r)
  | _ => True
theorem AdjP.tail {R : Zp → Zp → Prop} {b : Zp} {s : List Zp} (h : AdjP R (b :: s)) : AdjP R s := by
  cases s with
  | nil => trivial
  | cons a r => exact h.2
theorem AdjP.imp {R S : Zp → Zp → Prop} (hi : ∀ a b, R a b → S a b) : ∀ {s : List Zp}, AdjP R s → AdjP S s
  | [], _ => trivial
  | [_], _ => trivial
  | _ :: a :: r, h => ⟨hi _ _ h.1, AdjP.imp hi (s := a :: r) h.2⟩
def Conv : List Zp → Prop
  | c :: b :: a :: r => 0 < turnZ a b c ∧ Conv (b :: a :: r)
  | _ => True
theorem Conv.tail {b : Zp} {s : List Zp} (h : Conv (b :: s)) : Conv s := by
  cases s with
  | nil => trivial
  | cons a r => cases r with
    | nil => trivial
    | cons c q => exact h.2
def Desc (s : List Zp) : Prop := AdjP ltZ s
theorem Desc.lt_all {b : Zp} : ∀ {s : List Zp}, Desc (b :: s) → ∀ p, p ∈ s → ltZ p b
  | [], _, p, hp => by cases hp
  | a :: r, h, p, hp => by
    rcases List.mem_cons.1 hp with rfl | hp
    · exact h.1
    · exact (Desc.lt_all (s := r) h.2 p hp).trans h.1
/-- p is left of every side, or on it -/
def Left (p : Zp) (s : List Zp) : Prop := AdjP (fun a b => 0 ≤ turnZ a b p) s
theorem pop_ne (z : Zp) : ∀ (b : Zp) (s : List Zp), ∃ t r, popZ z (b :: s) = t :: r
  | b, [] => ⟨b, [], rfl⟩
  | b, a :: r => by
    unfold popZ
    split
    · exact ⟨_, _, rfl⟩
    · exact pop_ne z a r
theorem pop_sub (z : Zp) : ∀ (s : List Zp) (p : Zp), p ∈ popZ z s → p ∈ s
  | [], p, h => h
  | [_], p, h => h
  | b :: a :: r, p, h => by
    unfold popZ at h
    split at h
    · exact h
    · exact List.mem_cons_of_mem _ (pop_sub z (a :: r) p h)
/-- what is left when z has come: the bottom is as it was, all done so far lies left of the new side -/
theorem pop_inv (z : Zp) (done : Zp → Prop) (hz : ∀ p, done p → ltZ p z) : ∀ (b : Zp) (s : List Zp), Desc (b :: s) → Conv (b :: s) → (∀ p, p ∈ b :: s → done p) → (∀ p, done p → Left p (b :: s)) →
    (∀ p, done p → leZ ((b :: s).getLast (List.cons_ne_nil _ _)) p) → (∀ p, done p → leZ b p → 0 ≤ turnZ b z p) →
    ∃ t r, popZ z (b :: s) = t :: r ∧ Desc (t :: r) ∧ Conv (z :: t :: r) ∧ (∀ p, p ∈ t :: r → done p) ∧ (∀ p, done p → Left p (t :: r)) ∧ (t :: r).getLast (List.cons_ne_nil _ _) = (b :: s).getLast (List.cons_ne_nil _ _) ∧ (∀ p, done p → 0 ≤ turnZ t z p)
  | b, [], hd, hc, hm, hl, hb, hH => ⟨b, [], rfl, hd, trivial, hm, hl, rfl, fun p hp => hH p hp (hb p hp)⟩
  | b, a :: r, hd, hc, hm, hl, hb, hH => by
    have ab : pos (subZ b a) := ltZ.pos hd.1
    have db : done b := hm b (List.mem_cons_self ..)
    have da : done a := hm a (List.mem_cons_of_mem _ (List.mem_cons_self ..))
    unfold popZ
    split
    · rename_i ht
      refine ⟨b, a :: r, rfl, hd, ⟨ht, hc⟩, hm, hl, rfl, fun p hp => ?_⟩
      rcases le_or_lt b p with h | h
      · exact hH p hp h
      · have h1 : 0 ≤ turnZ a b p := (hl p hp).1
        rw [turn_base, subZ_neg] at h1
        rw [turn_base] at ht
        have h3 := fan1 ab (ltZ.pos (hz b db)) (ltZ.pos h) (by omega) ht
        unfold turnZ
        rw [subZ_neg]
        omega
    · rename_i ht
      obtain ⟨t, q, e, h1, h2, h3, h4, h5, h6⟩ := pop_inv z done hz a r hd.2 hc.tail (fun p hp => hm p (List.mem_cons_of_mem _ hp)) (fun p hp => (hl p hp).2) (fun p hp => by simpa using hb p hp) (fun p hp hap => by
        rcases leZ.eq_or hap with rfl | h
        · rw [turn_a]; exact Int.le_refl _
        · exact fan2 ab (ltZ.pos (hz a da)) (ltZ.pos h) (hl p hp).1 (by unfold turnZ at ht; omega))
      exact ⟨t, q, e, h1, h2, h3, h4, by rw [h5]; rfl, h6⟩
theorem conv_skip {z t : Zp} {s : List Zp} (hd : Desc (z :: t :: s)) (hc : Conv (z :: t :: s)) : Conv (z :: s) := by
  match s with
  | [] => trivial
  | [_] => trivial
  | a :: a' :: r =>
    have h1 : 0 < turnZ a t z := hc.1
    have h2 : 0 < turnZ a' a t := hc.2.1
    refine ⟨?_, hc.2.2⟩
    rw [turn_base] at h2 ⊢
    have at_ : ltZ a t := hd.2.1
    have tz : ltZ t z := hd.1
    have aa : ltZ a' a := hd.2.2.1
    exact fan3 (ltZ.pos aa) (ltZ.pos at_) (ltZ.pos (at_.trans tz)) (by
      show t.1 - a.1 ≤ z.1 - a.1
      unfold ltZ at tz; omega) h2 h1
theorem conv_left {z : Zp} : ∀ {s : List Zp}, Desc (z :: s) → Conv (z :: s) → Left z s
  | [], _, _ => trivial
  | [_], _, _ => trivial
  | t :: a :: r, hd, hc => ⟨Int.le_of_lt hc.1, conv_left (s := a :: r) ⟨hd.1 |> fun h => (show ltZ a t from hd.2.1).trans h, hd.2.2⟩ (conv_skip hd hc)⟩
/-- what is known of a stack -/
structure Chain (done : Zp → Prop) (s : List Zp) (top bot : Zp) : Prop where
  desc : Desc s
  conv : Conv s
  sub : ∀ p, p ∈ s → done p
  left : ∀ p, done p → Left p s
  hd : s.head? = some top
  last : s.getLast? = some bot
theorem chain_step {done : Zp → Prop} {s : List Zp} {top bot z : Zp} (h : Chain done s top bot) (hbot : ∀ p, done p → leZ bot p) (htop : ∀ p, done p → leZ p top) (hz : ltZ top z) : Chain (fun p => done p ∨ p = z) (z :: popZ z s) z bot := by
  obtain ⟨hd, hc, hs, hl, hh, hla⟩ := h
  match s, hh with
  | b :: r, hh =>
    have hbt : b = top := by simpa using hh
    subst hbt
    have hdz : ∀ p, done p → ltZ p z := fun p hp => (htop p hp).trans_lt hz
    have hla' : (b :: r).getLast (List.cons_ne_nil _ _) = bot := by
      rw [List.getLast?_eq_some_getLast (List.cons_ne_nil _ _)] at hla
      exact Option.some.inj hla
    obtain ⟨t, q, e, h1, h2, h3, h4, h5, h6⟩ := pop_inv z done hdz b r hd hc hs hl (fun p hp => hla' ▸ hbot p hp) (fun p hp hbp => by
      rw [(htop p hp).anti hbp, turn_a]; exact Int.le_refl _)
    rw [e]
    have hd2 : Desc (z :: t :: q) := ⟨hdz t (h3 t (List.mem_cons_self ..)), h1⟩
    refine ⟨hd2, h2, fun p hp => ?_, fun p hp => ?_, rfl, ?_⟩
    · rcases List.mem_cons.1 hp with rfl | hp
      · exact .inr rfl
      · exact .inl (h3 p hp)
    · rcases hp with hp | rfl
      · exact ⟨h6 p hp, h4 p hp⟩
      · exact ⟨by show 0 ≤ turnZ t p p; rw [turn_b]; exact Int.le_refl _, conv_left hd2 h2⟩
    · rw [List.getLast?_eq_some_getLast (List.cons_ne_nil _ _), List.getLast_cons (List.cons_ne_nil _ _), h5, hla']
/-- strictly rising -/
def Asc : List Zp → Prop
  | a :: b :: r => ltZ a b ∧ Asc (b :: r)
  | _ => True
theorem Asc.tail {a : Zp} {s : List Zp} (h : Asc (a :: s)) : Asc s := by
  cases s with
  | nil => trivial
  | cons b r => exact h.2
theorem chain_fold : ∀ (L : List Zp) (done : Zp → Prop) (s : List Zp) (top bot : Zp), Chain done s top bot → (∀ p, done p → leZ bot p) → (∀ p, done p → leZ p top) → Asc (top :: L) →
    Chain (fun p => done p ∨ p ∈ L) (L.foldl (fun st z => z :: popZ z st) s) ((top :: L).getLast (List.cons_ne_nil _ _)) bot
  | [], done, s, top, bot, h, _, _, _ => by
    have e : (fun p => done p ∨ p ∈ ([] : List Zp)) = done := by funext p; simp
    rw [e]; exact h
  | z :: L, done, s, top, bot, h, hb, ht, ha => by
    have h1 := chain_step h hb ht ha.1
    have hbz : leZ bot z := by
      have : done top := h.sub top (by
        have := h.hd
        match s, this with
        | b :: r, this => have e : b = top := by simpa using this
                          rw [e]; exact List.mem_cons_self ..)
      exact (hb top this).trans ha.1.le
    have h2 := chain_fold L _ _ z bot h1 (fun p hp => by
      rcases hp with hp | rfl
      · exact hb p hp
      · exact hbz) (fun p hp => by
      rcases hp with hp | rfl
      · exact (ht p hp).trans ha.1.le
      · exact leZ.refl _) ha.2
    have e : (fun p => (done p ∨ p = z) ∨ p ∈ L) = (fun p => done p ∨ p ∈ z :: L) := by funext p; simp [or_assoc]
    rw [e] at h2
    rw [List.getLast_cons (List.cons_ne_nil _ _)]
    exact h2
theorem stack_chain {l0 : Zp} {L : List Zp} (h : Asc (l0 :: L)) : Chain (· ∈ l0 :: L) (stackZ (l0 :: L)) ((l0 :: L).getLast (List.cons_ne_nil _ _)) l0 := by
  have h0 : Chain (· = l0) [l0] l0 l0 := ⟨trivial, trivial, fun p hp => by simpa using hp, fun _ _ => trivial, rfl, rfl⟩
  have h1 := chain_fold L _ _ _ _ h0 (fun p hp => by rw [hp]; exact leZ.refl _) (fun p hp => by rw [hp]; exact leZ.refl _) h
  have e : (fun p => p = l0 ∨ p ∈ L) = (· ∈ l0 :: L) := by funext p; simp
  rw [e] at h1
  exact h1
/-- two chains around the same points are one -/
theorem chain_eq : ∀ (s s' : List Zp) (t bot : Zp), Desc (t :: s) → Desc (t :: s') → Conv (t :: s) → Conv (t :: s') → (t :: s).getLast (List.cons_ne_nil _ _) = bot → (t :: s').getLast (List.cons_ne_nil _ _) = bot →
    (∀ p, p ∈ t :: s' → Left p (t :: s)) → (∀ p, p ∈ t :: s → Left p (t :: s')) → s = s'
  | [], [], _, _, _, _, _, _, _, _, _, _ => rfl
  | [], b' :: r', t, bot, _, h2, _, _, e1, e2, _, _ => by
    exfalso
    have e1 : t = bot := e1
    have : bot ∈ b' :: r' := by
      rw [← e2, List.getLast_cons (List.cons_ne_nil _ _)]; exact List.getLast_mem _
    exact (e1 ▸ h2.lt_all bot this).irr
  | b :: r, [], t, bot, h1, _, _, _, e1, e2, _, _ => by
    exfalso
    have e2 : t = bot := e2
    have : bot ∈ b :: r := by
      rw [← e1, List.getLast_cons (List.cons_ne_nil _ _)]; exact List.getLast_mem _
    exact (e2 ▸ h1.lt_all bot this).irr
  | b :: r, b' :: r', t, bot, h1, h2, c1, c2, e1, e2, l1, l2 => by
    have key : ∀ (b b' : Zp) (r : List Zp), Desc (t :: b :: r) → Conv (t :: b :: r) → (t :: b :: r).getLast (List.cons_ne_nil _ _) = bot → ltZ b' t → leZ bot b' → Left b' (t :: b :: r) → 0 ≤ turnZ b' t b → ¬ ltZ b' b := fun b b' r h1 c1 e1 hb't hbot l1 l2 hlt => by
      have hbt : ltZ b t := h1.1
      -- b' is on the line from b to t, beyond b
      have hv : pos (subZ b b') := ltZ.pos hlt
      have hu : pos (subZ t b) := ltZ.pos hbt
      have k1 : 0 ≤ crossZ (subZ t b) (subZ b' b) := l1.1
      have k2 : 0 ≤ crossZ (subZ t b') (subZ b b') := l2
      have k3 : crossZ (subZ t b') (subZ b b') = crossZ (subZ t b) (subZ b b') := by
        unfold crossZ subZ
        show (t.1 - b'.1) * (b.2 - b'.2) - (t.2 - b'.2) * (b.1 - b'.1) = (t.1 - b.1) * (b.2 - b'.2) - (t.2 - b.2) * (b.1 - b'.1)
        have x1 : t.1 - b'.1 = (t.1 - b.1) + (b.1 - b'.1) := by omega
        have x2 : t.2 - b'.2 = (t.2 - b.2) + (b.2 - b'.2) := by omega
        rw [x1, x2, Int.add_mul, Int.add_mul, Int.mul_comm (b.1 - b'.1)]; omega
      have k4 := subZ_neg b' b (subZ t b)
      have h0 : crossZ (subZ t b) (subZ b b') = 0 := by omega
      match r, h1, c1, e1, l1 with
      | [], h1, c1, e1, l1 =>
        have e1 : b = bot := e1
        rw [e1] at hlt
        exact (hbot.trans_lt hlt).irr
      | a :: q, h1, c1, e1, l1 =>
        have hd : pos (subZ b a) := ltZ.pos h1.2.1
        have c := c1.1
        rw [turn_base] at c
        have l : 0 ≤ turnZ a b b' := l1.2.1
        rw [turn_base, subZ_neg] at l
        have := fan4 hd hu hv h0 c
        omega
    have m : ∀ (x : Zp) (q : List Zp), Desc (t :: x :: q) → (t :: x :: q).getLast (List.cons_ne_nil _ _) = bot → leZ bot x := fun x q h e => by
      rw [List.getLast_cons (List.cons_ne_nil _ _)] at e
      rcases List.mem_cons.1 (show bot ∈ x :: q by rw [← e]; exact List.getLast_mem _) with he | he
      · rw [he]; exact leZ.refl _
      · exact (Desc.lt_all h.2 bot he).le
    have hb : b = b' := by
      have n1 := key b b' r h1 c1 e1 h2.1 (m b' r' h2 e2) (l1 b' (by simp)) (l2 b (by simp)).1
      have n2 := key b' b r' h2 c2 e2 h1.1 (m b r h1 e1) (l2 b (by simp)) (l1 b' (by simp)).1
      rcases le_or_lt b b' with h | h
      · rcases h.eq_or with h | h
        · exact h
        · exact absurd h n2
      · exact absurd h n1
    subst hb
    rw [List.getLast_cons (List.cons_ne_nil _ _)] at e1 e2
    rw [chain_eq r r' b bot h1.2 h2.2 c1.tail c2.tail e1 e2 (fun p hp => (l1 p (List.mem_cons_of_mem _ hp)).2) (fun p hp => (l2 p (List.mem_cons_of_mem _ hp)).2)]
theorem Chain.eq {D D' : Zp → Prop} {s s' : List Zp} {top bot : Zp} (h : Chain D s top bot) (h' : Chain D' s' top bot) (hs : ∀ p, p ∈ s → D' p) (hs' : ∀ p, p ∈ s' → D p) : s = s' := by
  match s, s', h.hd, h'.hd with
  | t :: r, t' :: r', e, e' =>
    have e : t = top := by simpa using e
    have e' : t' = top := by simpa using e'
    have l1 := h.last
    have l2 := h'.last
    rw [List.getLast?_eq_some_getLast (List.cons_ne_nil _ _)] at l1 l2
    subst e
    subst e'
    rw [chain_eq r r' _ bot h.desc h'.desc h.conv h'.conv (Option.some.inj l1) (Option.some.inj l2) (fun p hp => h.left p (hs' p hp)) (fun p hp => h'.left p (hs p hp))]
end Go.Fl
