/- Hulls: both sides of a hull together: all is left of every side, no more corners than points, the hull of a hull is the hull. Plain Lean. -/
import Derived.Test.YtkpjhoiaegioeaaHuP
namespace Go.Fl
def negZ (p : Zp) : Zp := (-p.1, -p.2)
theorem negZ_negZ (p : Zp) : negZ (negZ p) = p := zext (Int.neg_neg _) (Int.neg_neg _)
theorem subZ_negZ (p q : Zp) : subZ (negZ p) (negZ q) = negZ (subZ p q) := zext (show -p.1 - -q.1 = -(p.1 - q.1) by omega) (show -p.2 - -q.2 = -(p.2 - q.2) by omega)
theorem crossZ_negZ (p q : Zp) : crossZ (negZ p) (negZ q) = crossZ p q := by unfold crossZ negZ; show -p.1 * -q.2 - -p.2 * -q.1 = _; rw [Int.neg_mul_neg, Int.neg_mul_neg]
theorem turn_negZ (a b z : Zp) : turnZ (negZ a) (negZ b) (negZ z) = turnZ a b z := by unfold turnZ; rw [subZ_negZ, subZ_negZ, crossZ_negZ]
theorem ltZ_negZ {p q : Zp} (h : ltZ p q) : ltZ (negZ q) (negZ p) := by unfold ltZ at h; unfold ltZ negZ; show -q.1 < -p.1 ∨ (-q.1 = -p.1 ∧ -q.2 < -p.2); omega
theorem pop_negZ (z : Zp) : ∀ s : List Zp, popZ (negZ z) (s.map negZ) = (popZ z s).map negZ
  | [] => rfl
  | [_] => rfl
  | b :: a :: r => by
    show popZ (negZ z) (negZ b :: negZ a :: r.map negZ) = _
    unfold popZ
    rw [turn_negZ]
    split
    · rfl
    · exact pop_negZ z (a :: r)
theorem fold_negZ : ∀ (L s : List Zp), (L.map negZ).foldl (fun st z => z :: popZ z st) (s.map negZ) = (L.foldl (fun st z => z :: popZ z st) s).map negZ
  | [], _ => rfl
  | z :: L, s => by
    show (L.map negZ).foldl _ (negZ z :: popZ (negZ z) (s.map negZ)) = (L.foldl _ (z :: popZ z s)).map negZ
    rw [pop_negZ]
    exact fold_negZ L (z :: popZ z s)
theorem stack_negZ (L : List Zp) : stackZ (L.map negZ) = (stackZ L).map negZ := fold_negZ L []
theorem map_negZ2 (L : List Zp) : (L.map negZ).map negZ = L := by rw [List.map_map]; conv => rhs; rw [← List.map_id L]
                                                                  apply List.map_congr_left; intro p _; exact negZ_negZ p
theorem pop_sublist (z : Zp) : ∀ s : List Zp, (popZ z s).Sublist s
  | [] => List.Sublist.refl _
  | [_] => List.Sublist.refl _
  | b :: a :: r => by
    unfold popZ
    split
    · exact List.Sublist.refl _
    · exact (pop_sublist z (a :: r)).cons _
theorem fold_sublist : ∀ (L s P : List Zp), s.Sublist P → (L.foldl (fun st z => z :: popZ z st) s).Sublist (L.reverse ++ P)
  | [], _, _, h => h
  | z :: L, s, P, h => by
    have := fold_sublist L (z :: popZ z s) (z :: P) (((pop_sublist z s).trans h).cons_cons _)
    rw [List.reverse_cons, List.append_assoc]
    exact this
theorem stack_sublist (L : List Zp) : (stackZ L).Sublist L.reverse := by
  have := fold_sublist L [] [] (List.Sublist.refl _)
  rwa [List.append_nil] at this
theorem stack_chain' {L : List Zp} {lo hi : Zp} (h : Asc L) (h0 : L.head? = some lo) (h1 : L.getLast? = some hi) : Chain (· ∈ L) (stackZ L) hi lo := by
  match L, h0 with
  | l :: r, h0 =>
    have e : l = lo := by simpa using h0
    rw [List.getLast?_eq_some_getLast (List.cons_ne_nil _ _)] at h1
    have := stack_chain h
    rw [Option.some.inj h1, e] at this
    exact e ▸ this
theorem AdjP.append {R : Zp → Zp → Prop} {m : Zp} : ∀ {u v : List Zp}, AdjP R (u ++ [m]) → AdjP R (m :: v) → AdjP R (u ++ m :: v)
  | [], _, _, h => h
  | [_], _, h, k => ⟨h.1, k⟩
  | _ :: y :: u, _, h, k => ⟨h.1, AdjP.append (u := y :: u) h.2 k⟩
theorem AdjP.left {R : Zp → Zp → Prop} : ∀ {u v : List Zp}, AdjP R (u ++ v) → AdjP R u
  | [], _, _ => trivial
  | [_], _, _ => trivial
  | _ :: y :: u, _, h => ⟨h.1, AdjP.left (u := y :: u) h.2⟩
theorem AdjP.right {R : Zp → Zp → Prop} : ∀ {u v : List Zp}, AdjP R (u ++ v) → AdjP R v
  | [], _, h => h
  | _ :: u, _, h => AdjP.right (u := u) h.tail
/-- neighbours, by their numbers -/
theorem AdjP.at {R : Zp → Zp → Prop} {s : List Zp} (h : AdjP R s.reverse) {i : Nat} (hi : i + 1 < s.length) : R (zAt s i) (zAt s (i + 1)) := by
  have e : s = s.take i ++ (zAt s i :: zAt s (i + 1) :: s.drop (i + 2)) := by
    conv => lhs; rw [← List.take_append_drop i s]
    congr 1
    rw [List.drop_eq_getElem_cons (show i < s.length by omega), List.drop_eq_getElem_cons hi]
    congr 1
    · simp [zAt, show i < s.length by omega]
    · congr 1
      simp [zAt, hi]
  rw [e, List.reverse_append, List.reverse_cons, List.reverse_cons, List.append_assoc, List.append_assoc] at h
  have h2 : AdjP R ([zAt s (i + 1)] ++ ([zAt s i] ++ (s.take i).reverse)) := h.right
  exact h2.1
theorem Asc.rev : ∀ {L : List Zp}, Asc L → Desc L.reverse
  | [], _ => trivial
  | [_], _ => trivial
  | a :: b :: r, h => by
    have ih := Asc.rev (L := b :: r) h.2
    rw [List.reverse_cons] at ih ⊢
    rw [List.reverse_cons, List.append_assoc]
    exact AdjP.append ih ⟨h.1, trivial⟩
theorem Asc.of_rev : ∀ {L : List Zp}, Desc L → Asc L.reverse
  | [], _ => trivial
  | [_], _ => trivial
  | b :: a :: r, h => by
    have ih := Asc.of_rev (L := a :: r) h.2
    rw [List.reverse_cons] at ih ⊢
    rw [List.reverse_cons, List.append_assoc]
    have app : ∀ (u : List Zp) (m x : Zp), Asc (u ++ [m]) → ltZ m x → Asc (u ++ [m, x]) := fun u m x => by
      induction u with
      | nil => intro _ h; exact ⟨h, trivial⟩
      | cons y u ih => intro h1 h2
                       cases u with
                       | nil => exact ⟨h1.1, h2, trivial⟩
                       | cons w u => exact ⟨h1.1, ih h1.2 h2⟩
    exact app _ _ _ ih h.1
theorem Desc.neg : ∀ {s : List Zp}, Desc s → Asc (s.map negZ)
  | [], _ => trivial
  | [_], _ => trivial
  | _ :: a :: r, h => ⟨ltZ_negZ h.1, Desc.neg (s := a :: r) h.2⟩
theorem Asc.neg_rev {L : List Zp} (h : Asc L) : Asc (L.reverse.map negZ) := h.rev.neg
theorem mem_neg {L : List Zp} {p : Zp} : negZ p ∈ L.reverse.map negZ ↔ p ∈ L := by
  rw [List.mem_map]
  constructor
  · rintro ⟨q, hq, e⟩
    have := congrArg negZ e
    rw [negZ_negZ, negZ_negZ] at this
    exact this ▸ List.mem_reverse.1 hq
  · exact fun h => ⟨p, List.mem_reverse.2 h, rfl⟩
/-- the upper side's stack, turned around -/
theorem upper_chain {L : List Zp} {lo hi : Zp} (h : Asc L) (h0 : L.head? = some lo) (h1 : L.getLast? = some hi) : Chain (· ∈ L.reverse.map negZ) ((stackZ L.reverse).map negZ) (negZ lo) (negZ hi) := by
  rw [← stack_negZ]
  refine stack_chain' h.neg_rev ?_ ?_
  · rw [List.head?_map, List.head?_reverse, h1]; rfl
  · rw [List.getLast?_map, List.getLast?_reverse, h0]; rfl
theorem Left.of_neg {p : Zp} : ∀ {s : List Zp}, Left (negZ p) (s.map negZ) → Left p s
  | [], _ => trivial
  | [_], _ => trivial
  | b :: a :: r, h => ⟨by
      have h1 : 0 ≤ turnZ (negZ a) (negZ b) (negZ p) := h.1
      rw [turn_negZ] at h1; exact h1, Left.of_neg (s := a :: r) h.2⟩
def sideZ (L : List Zp) : List Zp := (stackZ L).tail.reverse
def hullZ (L : List Zp) : List Zp := if L.length = 1 then L else sideZ L ++ sideZ L.reverse
/-- what is known of the hull of two or more -/
structure HullOf (L S U : List Zp) (lo hi : Zp) : Prop where
  up : Chain (· ∈ L) (hi :: S) hi lo
  down : Chain (· ∈ L.reverse.map negZ) ((lo :: U).map negZ) (negZ lo) (negZ hi)
  eS : stackZ L = hi :: S
  eU : stackZ L.reverse = lo :: U
  ne : lo ≠ hi
theorem hull_of {L : List Zp} (h : Asc L) (h2 : 2 ≤ L.length) : ∃ lo hi S U, L.head? = some lo ∧ L.getLast? = some hi ∧ HullOf L S U lo hi ∧ hullZ L = S.reverse ++ U.reverse := by
  match L, h2 with
  | lo :: l1 :: r, _ =>
    obtain ⟨hi, hhi⟩ : ∃ hi, hi = (lo :: l1 :: r).getLast (List.cons_ne_nil _ _) := ⟨_, rfl⟩
    have h1 : (lo :: l1 :: r).getLast? = some hi := by rw [List.getLast?_eq_some_getLast (List.cons_ne_nil _ _), hhi]
    have c1 := stack_chain' h (lo := lo) (hi := hi) rfl h1
    have c2 := upper_chain h (lo := lo) (hi := hi) rfl h1
    have ne : lo ≠ hi := fun e => by
      have hm : hi ∈ l1 :: r := by rw [hhi, List.getLast_cons (List.cons_ne_nil _ _)]; exact List.getLast_mem _
      have hd := h.rev
      rw [List.reverse_cons] at hd
      have all : ∀ (u : List Zp), Desc (u ++ [lo]) → ∀ p, p ∈ u → ltZ lo p := fun u => by
        induction u with
        | nil => intro _ p hp; cases hp
        | cons y u ih => intro hd p hp
                         rcases List.mem_cons.1 hp with rfl | hp
                         · exact Desc.lt_all (b := p) (s := u ++ [lo]) hd lo (by simp)
                         · exact ih (AdjP.tail hd) p hp
      exact (e ▸ all _ hd hi (List.mem_reverse.2 hm)).irr
    obtain ⟨S, eS⟩ : ∃ S, stackZ (lo :: l1 :: r) = hi :: S := by
      have := c1.hd
      match stackZ (lo :: l1 :: r), this with
      | b :: S, e => exact ⟨S, by rw [show b = hi by simpa using e]⟩
    obtain ⟨U, eU⟩ : ∃ U, stackZ (lo :: l1 :: r).reverse = lo :: U := by
      have := c2.hd
      match stackZ (lo :: l1 :: r).reverse, this with
      | b :: U, e =>
        have e1 : negZ b = negZ lo := by simpa using e
        have := congrArg negZ e1
        rw [negZ_negZ, negZ_negZ] at this
        exact ⟨U, by rw [this]⟩
    refine ⟨lo, hi, S, U, rfl, h1, ⟨eS ▸ c1, eU ▸ c2, eS, eU, ne⟩, ?_⟩
    unfold hullZ sideZ
    rw [if_neg (by simp), eS, eU]
    rfl
theorem HullOf.sne {L S U : List Zp} {lo hi : Zp} (h : HullOf L S U lo hi) : ∃ S', S = S' ++ [lo] := by
  have := h.up.last
  match S, this with
  | [], e => exact absurd (show lo = hi by simpa using e.symm) h.ne
  | b :: r, e =>
    rw [List.getLast?_cons_cons] at e
    rw [List.getLast?_eq_some_iff] at e
    exact e
theorem HullOf.une {L S U : List Zp} {lo hi : Zp} (h : HullOf L S U lo hi) : ∃ U', U = U' ++ [hi] := by
  have := h.down.last
  rw [List.getLast?_map] at this
  match U, this with
  | [], e =>
    have e1 : negZ lo = negZ hi := by simpa using e
    have := congrArg negZ e1
    rw [negZ_negZ, negZ_negZ] at this
    exact absurd this h.ne
  | b :: r, e =>
    rw [List.getLast?_cons_cons] at e
    obtain ⟨x, hx, e2⟩ := Option.map_eq_some_iff.1 e
    have := congrArg negZ e2
    rw [negZ_negZ, negZ_negZ] at this
    rw [this] at hx
    exact List.getLast?_eq_some_iff.1 hx
/-- every point is left of every side, round and round -/
theorem HullOf.left {L S U : List Zp} {lo hi : Zp} (h : HullOf L S U lo hi) {p : Zp} (hp : p ∈ L) : AdjP (fun a b => 0 ≤ turnZ a b p) ((S.reverse ++ U.reverse) ++ [lo]).reverse := by
  obtain ⟨U', hU⟩ := h.une
  have l1 : Left p (hi :: S) := h.up.left p hp
  have l2 : Left p (lo :: U) := Left.of_neg (h.down.left (negZ p) (mem_neg.2 hp))
  rw [hU] at l2 ⊢
  rw [List.reverse_append, List.reverse_append, List.reverse_reverse, List.reverse_reverse]
  show AdjP _ (lo :: ((U' ++ [hi]) ++ S))
  rw [List.append_assoc, ← List.cons_append]
  exact AdjP.append (u := lo :: U') l2 l1
theorem HullOf.mem {L S U : List Zp} {lo hi : Zp} (h : HullOf L S U lo hi) (p : Zp) : p ∈ S.reverse ++ U.reverse ↔ p ∈ hi :: S ∨ p ∈ lo :: U := by
  obtain ⟨S', hS⟩ := h.sne
  obtain ⟨U', hU⟩ := h.une
  rw [hS, hU]
  simp only [List.mem_append, List.mem_reverse, List.mem_cons, List.not_mem_nil, or_false]
  constructor
  · rintro ((h | h) | (h | h))
    · exact .inl (.inr (.inl h))
    · exact .inl (.inr (.inr h))
    · exact .inr (.inr (.inl h))
    · exact .inl (.inl h)
  · rintro ((h | h | h) | (h | h | h))
    · exact .inr (.inr h)
    · exact .inl (.inl h)
    · exact .inl (.inr h)
    · exact .inl (.inr h)
    · exact .inr (.inl h)
    · exact .inr (.inr h)
theorem HullOf.sub {L S U : List Zp} {lo hi : Zp} (h : HullOf L S U lo hi) {p : Zp} (hp : p ∈ S.reverse ++ U.reverse) : p ∈ L := by
  rcases (h.mem p).1 hp with h1 | h1
  · exact h.up.sub p h1
  · exact mem_neg.1 (h.down.sub (negZ p) (List.mem_map.2 ⟨p, h1, rfl⟩))
/-- one between two -/
theorem split3 {p lo hi : Zp} {S' : List Zp} (hp : p ∈ S') : ∃ u c a v, hi :: (S' ++ [lo]) = u ++ c :: p :: a :: v := by
  obtain ⟨x, y, rfl⟩ := List.append_of_mem hp
  obtain ⟨a, v, hy⟩ : ∃ a v, y ++ [lo] = a :: v := by
    cases y with
    | nil => exact ⟨lo, [], rfl⟩
    | cons a v => exact ⟨a, v ++ [lo], rfl⟩
  obtain ⟨u, c, hx⟩ : ∃ u c, hi :: x = u ++ [c] := by
    rcases List.eq_nil_or_concat x with rfl | ⟨w, c, rfl⟩
    · exact ⟨[], hi, rfl⟩
    · exact ⟨hi :: w, c, by simp⟩
  refine ⟨u, c, a, v, ?_⟩
  calc hi :: (x ++ p :: y ++ [lo]) = (hi :: x) ++ p :: (y ++ [lo]) := by simp
    _ = u ++ c :: p :: a :: v := by rw [hx, hy]; simp
theorem Conv.right : ∀ {u v : List Zp}, Conv (u ++ v) → Conv v
  | [], _, h => h
  | _ :: u, _, h => Conv.right (u := u) h.tail
theorem chain_at {D : Zp → Prop} {s u v : List Zp} {c p a top bot : Zp} (h : Chain D s top bot) (e : s = u ++ c :: p :: a :: v) : pos (subZ p a) ∧ pos (subZ c p) ∧ 0 < crossZ (subZ p a) (subZ c p) ∧ D c ∧ D a ∧ (∀ z, D z → 0 ≤ turnZ a p z ∧ 0 ≤ turnZ p c z) := by
  subst e
  have hd : Desc (c :: p :: a :: v) := h.desc.right
  have hc : Conv (c :: p :: a :: v) := h.conv.right
  have t := hc.1
  rw [turn_base] at t
  refine ⟨ltZ.pos hd.2.1, ltZ.pos hd.1, t, h.sub c (by simp), h.sub a (by simp), fun z hz => ?_⟩
  have hl : Left z (c :: p :: a :: v) := (h.left z hz).right
  exact ⟨hl.2.1, hl.1⟩
/-- the two sides share their ends alone -/
theorem HullOf.apart {L S' U' : List Zp} {lo hi : Zp} (h : HullOf L (S' ++ [lo]) (U' ++ [hi]) lo hi) {p : Zp} (h1 : p ∈ S') (h2 : p ∈ U') : False := by
  obtain ⟨u, c, a, v, e⟩ := split3 (lo := lo) (hi := hi) h1
  obtain ⟨a1, a2, a3, dc, da, al⟩ := chain_at h.up e
  obtain ⟨u', c', a', v', e'⟩ := split3 (lo := hi) (hi := lo) h2
  obtain ⟨b1, b2, b3, ec, ea, bl⟩ := chain_at (u := u'.map negZ) (v := v'.map negZ) (c := negZ c') (p := negZ p) (a := negZ a') h.down (by rw [e']; simp)
  rw [subZ_negZ] at b1 b2
  rw [subZ_negZ, subZ_negZ, crossZ_negZ] at b3
  have mc : c' ∈ L := mem_neg.1 ec
  have ma : a' ∈ L := mem_neg.1 ea
  -- d1 = p - a, d2 = c - p, f2 = c' - p turned, f1 = ..
  obtain ⟨l1, l2⟩ := al c' mc
  obtain ⟨l3, l4⟩ := al a' ma
  rw [turn_base] at l1 l3
  unfold turnZ at l2 l4
  have f1 : negZ (subZ p a') = subZ a' p := zext (show -(p.1 - a'.1) = a'.1 - p.1 by omega) (show -(p.2 - a'.2) = a'.2 - p.2 by omega)
  have f2 : negZ (subZ c' p) = subZ p c' := zext (show -(c'.1 - p.1) = p.1 - c'.1 by omega) (show -(c'.2 - p.2) = p.2 - c'.2 by omega)
  rw [f1] at b1
  rw [f2] at b2
  -- pos (a' - p), pos (p - c'), cross (p - a') (c' - p) > 0
  rw [subZ_neg c' p] at l1 l2
  have b4 : crossZ (subZ p a') (subZ c' p) = crossZ (subZ a' p) (subZ p c') := by rw [← crossZ_negZ, f1, f2]
  rw [b4] at b3
  have k1 := fan1 a1 a2 b2 (by omega) a3
  have k2 := fan2 a2 b2 b1 l4 k1
  rw [crossZ_neg] at k2
  omega
theorem HullOf.len {L S U : List Zp} {lo hi : Zp} (h : HullOf L S U lo hi) : (S.reverse ++ U.reverse).length ≤ L.length := by
  obtain ⟨S', rfl⟩ := h.sne
  obtain ⟨U', rfl⟩ := h.une
  have s1 : (S' ++ [lo]).reverse.Sublist L := by
    have := stack_sublist L
    rw [h.eS] at this
    have := ((List.sublist_cons_self hi (S' ++ [lo])).trans this).reverse
    rwa [List.reverse_reverse] at this
  have s2 : (U' ++ [hi]).Sublist L := by
    have := stack_sublist L.reverse
    rw [h.eU, List.reverse_reverse] at this
    exact (List.sublist_cons_self lo (U' ++ [hi])).trans this
  have hd : Desc (hi :: (S' ++ [lo])) := h.up.desc
  have apart : ∀ p, p ∈ U' ++ [hi] → p ∉ S' ++ [lo] := fun p h1 h2 => by
    rcases List.mem_append.1 h1 with h1 | h1 <;> rcases List.mem_append.1 h2 with h2 | h2
    · exact h.apart h2 h1
    · have : p = lo := by simpa using h2
      subst this
      -- lo is the top of the upper stack, and no other
      have hd := h.down.desc
      have := Desc.lt_all (b := negZ p) (s := (U' ++ [hi]).map negZ) hd (negZ p) (List.mem_map.2 ⟨p, by simp [h1], rfl⟩)
      exact this.irr
    · have : p = hi := by simpa using h1
      subst this
      exact (Desc.lt_all (b := p) hd p (by simp [h2])).irr
    · have e1 : p = hi := by simpa using h1
      have e2 : p = lo := by simpa using h2
      exact h.ne (e2.symm.trans e1)
  have n1 : (S' ++ [lo]).length ≤ L.countP (· ∈ S' ++ [lo]) := by
    have := s1.countP_le (p := fun x => decide (x ∈ S' ++ [lo]))
    rw [List.countP_eq_length.2 (by intro x hx; simpa using List.mem_reverse.1 hx)] at this
    rwa [List.length_reverse] at this
  have n2 : (U' ++ [hi]).length ≤ L.countP (fun x => !decide (x ∈ S' ++ [lo])) := by
    have := s2.countP_le (p := fun x => !decide (x ∈ S' ++ [lo]))
    rw [List.countP_eq_length.2 (by intro x hx; simpa using apart x hx)] at this
    exact this
  have n3 := List.length_eq_countP_add_countP (fun x => decide (x ∈ S' ++ [lo])) (l := L)
  rw [List.length_append, List.length_reverse, List.length_reverse]
  have e : L.countP (fun x => !decide (x ∈ S' ++ [lo])) = L.countP (fun a => decide ¬ (decide (a ∈ S' ++ [lo])) = true) := by
    congr 1; funext x; simp
  rw [e] at n2
  omega
theorem Asc.single {L : List Zp} {p : Zp} (h : Asc L) (hm : ∀ q, q ∈ L ↔ q = p) : L = [p] := by
  match L, h with
  | [], _ => have := (hm p).2 rfl; cases this
  | [x], _ => rw [(hm x).1 (by simp)]
  | x :: y :: r, h =>
    have e1 := (hm x).1 (by simp)
    have e2 := (hm y).1 (by simp)
    exact absurd h.1 (fun hl => by rw [e1, e2] at hl; exact hl.irr)
theorem Asc.two {L : List Zp} {a b : Zp} (ha : a ∈ L) (hb : b ∈ L) (hne : a ≠ b) : 2 ≤ L.length := by
  match L with
  | [] => cases ha
  | [x] => exact absurd ((List.mem_singleton.1 ha).trans (List.mem_singleton.1 hb).symm) hne
  | _ :: _ :: r => simp
theorem Asc.ends {L : List Zp} {lo hi : Zp} (h : Asc L) (h0 : L.head? = some lo) (h1 : L.getLast? = some hi) : lo ∈ L ∧ hi ∈ L ∧ ∀ p, p ∈ L → leZ lo p ∧ leZ p hi := by
  refine ⟨List.mem_of_head? h0, List.mem_of_getLast? h1, fun p hp => ⟨?_, ?_⟩⟩
  · have hd := h.rev
    match L, h0 with
    | l :: r, h0 =>
      have e : l = lo := by simpa using h0
      subst e
      rcases List.mem_cons.1 hp with rfl | hp
      · exact leZ.refl _
      · rw [List.reverse_cons] at hd
        have all : ∀ (u : List Zp), Desc (u ++ [l]) → ∀ q, q ∈ u → ltZ l q := fun u => by
          induction u with
          | nil => intro _ q hq; cases hq
          | cons y u ih => intro hd q hq
                           rcases List.mem_cons.1 hq with rfl | hq
                           · exact Desc.lt_all (b := q) (s := u ++ [l]) hd l (by simp)
                           · exact ih (AdjP.tail hd) q hq
        exact (all _ hd p (List.mem_reverse.2 hp)).le
  · have hd := h.rev
    have e : L.reverse.head? = some hi := by rw [List.head?_reverse, h1]
    have hp' := List.mem_reverse.2 hp
    match hL : L.reverse, e with
    | b :: r, e =>
      have eb : b = hi := by simpa using e
      subst eb
      rw [hL] at hd hp'
      rcases List.mem_cons.1 hp' with rfl | hp'
      · exact leZ.refl _
      · exact (Desc.lt_all hd p hp').le
/-- the hull of a hull is the hull -/
theorem hull_again {L L2 : List Zp} (h : Asc L) (hne : L ≠ []) (h2 : Asc L2) (hm : ∀ p, p ∈ L2 ↔ p ∈ hullZ L) : hullZ L2 = hullZ L := by
  by_cases hl : L.length = 1
  · match L, hl with
    | [p], _ =>
      have : L2 = [p] := h2.single (fun q => (hm q).trans (by show q ∈ [p] ↔ q = p; simp))
      rw [this]
  · have hl2 : 2 ≤ L.length := by
      have := List.length_pos_iff.2 hne
      omega
    obtain ⟨lo, hi, S, U, e0, e1, H, eH⟩ := hull_of h hl2
    have mlo : lo ∈ hullZ L := by rw [eH]; exact (H.mem lo).2 (.inr (List.mem_cons_self ..))
    have mhi : hi ∈ hullZ L := by rw [eH]; exact (H.mem hi).2 (.inl (List.mem_cons_self ..))
    obtain ⟨lo2, hi2, S2, U2, f0, f1, H2, eH2⟩ := hull_of h2 (Asc.two ((hm lo).2 mlo) ((hm hi).2 mhi) H.ne)
    have sub : ∀ p, p ∈ L2 → p ∈ L := fun p hp => H.sub (by rw [← eH]; exact (hm p).1 hp)
    obtain ⟨i1, i2, i3⟩ := h.ends e0 e1
    obtain ⟨j1, j2, j3⟩ := h2.ends f0 f1
    have q0 : lo2 = lo := (j3 lo ((hm lo).2 mlo)).1.anti (i3 lo2 (sub _ j1)).1
    have q1 : hi2 = hi := (i3 hi2 (sub _ j2)).2.anti (j3 hi ((hm hi).2 mhi)).2
    subst q0
    subst q1
    have eS : hi2 :: S2 = hi2 :: S := H2.up.eq H.up (fun p hp => sub p (H2.up.sub p hp)) (fun p hp => (hm p).2 (by rw [eH]; exact (H.mem p).2 (.inl hp)))
    have eU : (lo2 :: U2).map negZ = (lo2 :: U).map negZ := H2.down.eq H.down (fun p hp => by
      obtain ⟨q, hq, rfl⟩ := List.mem_map.1 hp
      exact mem_neg.2 (sub q (mem_neg.1 (H2.down.sub _ (List.mem_map.2 ⟨q, hq, rfl⟩))))) (fun p hp => by
      obtain ⟨q, hq, rfl⟩ := List.mem_map.1 hp
      exact mem_neg.2 ((hm q).2 (by rw [eH]; exact (H.mem q).2 (.inr hq))))
    have eU2 := congrArg (List.map negZ) eU
    rw [map_negZ2, map_negZ2] at eU2
    rw [eH, eH2, List.tail_eq_of_cons_eq eS, List.tail_eq_of_cons_eq eU2]
theorem hull_len {L : List Zp} (h : Asc L) (hne : L ≠ []) : 1 ≤ (hullZ L).length ∧ (hullZ L).length ≤ L.length := by
  by_cases hl : L.length = 1
  · unfold hullZ; rw [if_pos hl, hl]; exact ⟨Nat.le_refl _, Nat.le_refl _⟩
  · have hl2 : 2 ≤ L.length := by
      have := List.length_pos_iff.2 hne
      omega
    obtain ⟨lo, hi, S, U, e0, e1, H, eH⟩ := hull_of h hl2
    rw [eH]
    refine ⟨?_, H.len⟩
    exact List.length_pos_iff.2 (List.ne_nil_of_mem ((H.mem lo).2 (.inr (List.mem_cons_self ..))))
theorem hull_sub {L : List Zp} (h : Asc L) {p : Zp} (hp : p ∈ hullZ L) : p ∈ L := by
  by_cases hl : L.length = 1
  · unfold hullZ at hp; rwa [if_pos hl] at hp
  · match L, hl, hp with
    | [], _, hp => exact absurd hp (by show p ∉ ([] : List Zp); simp)
    | a :: b :: r, _, hp =>
      obtain ⟨lo, hi, S, U, e0, e1, H, eH⟩ := hull_of h (show 2 ≤ (a :: b :: r).length by simp)
      exact H.sub (eH ▸ hp)
    | [a], hl, _ => exact absurd rfl hl
/-- every point is left of every side -/
theorem hull_left {L : List Zp} (h : Asc L) {p : Zp} (hp : p ∈ L) {i : Nat} (hi : i < (hullZ L).length) : 0 ≤ turnZ (zAt (hullZ L) i) (zAt (hullZ L) ((i + 1) % (hullZ L).length)) p := by
  by_cases hl : L.length = 1
  · have e : hullZ L = L := by unfold hullZ; rw [if_pos hl]
    rw [e] at hi ⊢
    rw [hl] at hi ⊢
    have : i = 0 := by omega
    subst this
    rw [turn_aa]; exact Int.le_refl _
  · match L, hl, hp with
    | [a], hl, _ => exact absurd rfl hl
    | a :: b :: r, _, hp =>
      obtain ⟨lo, hi', S, U, e0, e1, H, eH⟩ := hull_of h (show 2 ≤ (a :: b :: r).length by simp)
      have ha := H.left hp
      rw [← eH] at ha
      obtain ⟨K, hK⟩ : ∃ K, K = hullZ (a :: b :: r) := ⟨_, rfl⟩
      rw [← hK] at ha hi ⊢
      have h0 : zAt K 0 = lo := by
        have hS := H.sne
        obtain ⟨S', rfl⟩ := hS
        rw [hK, eH]; simp [zAt]
      have at1 : ∀ j, j < K.length → zAt (K ++ [lo]) j = zAt K j := fun j hj => by
        unfold zAt
        rw [List.getD_eq_getElem?_getD, List.getElem?_append_left hj, ← List.getD_eq_getElem?_getD]
      have := ha.at (i := i) (by rw [List.length_append]; simp; omega)
      have this : 0 ≤ turnZ (zAt (K ++ [lo]) i) (zAt (K ++ [lo]) (i + 1)) p := this
      rw [at1 i hi] at this
      by_cases hl2 : i + 1 < K.length
      · rw [Nat.mod_eq_of_lt hl2]
        rwa [at1 _ hl2] at this
      · have e : i + 1 = K.length := by omega
        rw [e, Nat.mod_self, h0]
        have e2 : zAt (K ++ [lo]) (i + 1) = lo := by
          unfold zAt
          rw [List.getD_eq_getElem?_getD, e, List.getElem?_append_right (Nat.le_refl _), Nat.sub_self]; rfl
        rwa [e2] at this
    | [], _, hp => cases hp
end Go.Fl
