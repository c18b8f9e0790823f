/- The areas of both parts add up to the whole, nearly. -/
import Derived.Test.YtkpjhoiaegioeaaHuI
namespace Go.Fl
open Ieee Go.RowKit
/-- a point of halves -/
def isH (z : Cx) : Prop := ∃ p : Zp, PX z p 1 ∧ Go.Fl.low p 10
theorem side_exact {a b z : Cx} (ha : isH a) (hb : isH b) (hz : isH z) : isN .f32 (sideF a b z) = true ∧ R .f32 (sideF a b z) = sR (RP a) ((RP b).1 - (RP a).1, (RP b).2 - (RP a).2) (RP z) ∧ ∃ k : Int, Q .f32 (sideF a b z) k 2 ∧ k.natAbs ≤ 800 := by
  obtain ⟨p, pa, la⟩ := ha
  obtain ⟨q, pb, lb⟩ := hb
  obtain ⟨r, pz, lz⟩ := hz
  have l4 : ∀ {p : Zp}, Go.Fl.low p 10 → Go.Fl.low p 4194304 := fun h => h.mono (by decide)
  have p1 := pb.minus pa (l4 lb) (l4 la)
  have p2 := pz.minus pa (l4 lz) (l4 la)
  have b1 : Go.Fl.low (subZ q p) 20 := low.sub lb la (by decide)
  have b2 : Go.Fl.low (subZ r p) 20 := low.sub lz la (by decide)
  have mb : ∀ {x y : Int}, x.natAbs ≤ 20 → y.natAbs ≤ 20 → (x * y).natAbs ≤ 400 := fun {x y} h1 h2 => by
    rw [Int.natAbs_mul]; exact Nat.mul_le_mul h1 h2
  have m1 := mb b1.1 b2.2
  have m2 := mb b1.2 b2.1
  have q1 := p1.1.mul p2.2 (lt24 (by omega)) (by decide)
  have q2 := p1.2.mul p2.1 (lt24 (by omega)) (by decide)
  have q3 := q1.sub q2 (lt24 (by omega))
  refine ⟨q3.num, ?_, _, q3, by omega⟩
  show R .f32 (fop .sub .f32 _ _) = _
  rw [q3.R, pa.RP, pb.RP, pz.RP]
  unfold sR
  show (((q.1 - p.1) * (r.2 - p.2) - (q.2 - p.2) * (r.1 - p.1) : Int) : Rat) / (((2 ^ (1 + 1) : Nat) : Int) : Rat) = ((q.1 : Rat) / 2 - (p.1 : Rat) / 2) * ((r.2 : Rat) / 2 - (p.2 : Rat) / 2) - ((q.2 : Rat) / 2 - (p.2 : Rat) / 2) * ((r.1 : Rat) / 2 - (p.1 : Rat) / 2)
  rw [show (((2 ^ (1 + 1) : Nat) : Int) : Rat) = 4 from rfl, Rat.intCast_sub, Rat.intCast_mul, Rat.intCast_mul, Rat.intCast_sub, Rat.intCast_sub, Rat.intCast_sub, Rat.intCast_sub]
  grind
/-- a list of floats near a list of rational points -/
def nearL (L : List Cx) (E : List Rp) (η : Rat) : Prop := L.length = E.length ∧ ∀ i, i < L.length → nearR (RP (cAt L i)) (rA E i) η
theorem nearL.app {L M : List Cx} {E F : List Rp} {η : Rat} (h : nearL L E η) (k : nearL M F η) : nearL (L ++ M) (E ++ F) η := by
  obtain ⟨h1, h2⟩ := h
  obtain ⟨k1, k2⟩ := k
  refine ⟨by rw [List.length_append, List.length_append, h1, k1], fun i hi => ?_⟩
  rw [List.length_append] at hi
  by_cases c : i < L.length
  · have e1 : cAt (L ++ M) i = cAt L i := by unfold cAt; rw [List.getD_eq_getElem?_getD, List.getD_eq_getElem?_getD, List.getElem?_append_left c]
    rw [e1, rA_app (by omega)]
    exact h2 i c
  · have e1 : cAt (L ++ M) i = cAt M (i - L.length) := by unfold cAt; rw [List.getD_eq_getElem?_getD, List.getD_eq_getElem?_getD, List.getElem?_append_right (by omega)]
    have e2 : rA (E ++ F) i = rA F (i - L.length) := by unfold rA; rw [List.getD_eq_getElem?_getD, List.getD_eq_getElem?_getD, List.getElem?_append_right (by omega), h1]
    rw [e1, e2]
    exact k2 _ (by omega)
theorem nearR.refl (p : Rp) {η : Rat} (h : 0 ≤ η) : nearR p p η := ⟨by grind, by grind, by grind, by grind⟩
theorem nearL.one {z : Cx} {p : Rp} {η : Rat} (h : nearR (RP z) p η) : nearL [z] [p] η := ⟨rfl, fun i hi => by
  have : i = 0 := by simpa using hi
  subst this; exact h⟩
theorem nearL.nil (η : Rat) : nearL [] [] η := ⟨rfl, fun i hi => absurd hi (Nat.not_lt_zero _)⟩
theorem isH.ok {z : Cx} (h : isH z) : okZ z ∧ within (RP z) 5 := by obtain ⟨p, hp, hl⟩ := h; exact hp.okZ hl
theorem pv_mod {n k : Nat} (hk : k < n) : (k + n - 1) % n = pv n k := by
  unfold pv
  split
  · rename_i h; subst h; rw [Nat.zero_add, Nat.mod_eq_of_lt (by omega)]
  · rw [show k + n - 1 = k - 1 + n by omega, Nat.add_mod_right, Nat.mod_eq_of_lt (by omega)]
theorem clip_near {xs : List Cx} {a b : Cx} (hx : ∀ z, z ∈ xs → isH z) (ha : isH a) (hb : isH b) : ∀ k, k ≤ xs.length → nearL (clipTo xs a b k) (cutTo (fun i => RP (cAt xs i)) (fun i => R .f32 (sideF a b (cAt xs i))) xs.length k) (1 / 32768)
  | 0, _ => nearL.nil _
  | k + 1, hk => by
    have ih := clip_near hx ha hb k (by omega)
    refine ih.app ?_
    rw [pv_mod (by omega)]
    show nearL (clipAt (cAt xs (pv xs.length k)) (cAt xs k) (sideF a b (cAt xs (pv xs.length k))) (sideF a b (cAt xs k))) (cutAt (RP (cAt xs (pv xs.length k))) (RP (cAt xs k)) (R .f32 (sideF a b (cAt xs (pv xs.length k)))) (R .f32 (sideF a b (cAt xs k)))) (1 / 32768)
    have hp := hx _ (cAt_mem (xs := xs) (pv_lt (show k < xs.length by omega)))
    have hq := hx _ (cAt_mem (xs := xs) (show k < xs.length by omega))
    obtain ⟨p, ep⟩ : ∃ p, p = cAt xs (pv xs.length k) := ⟨_, rfl⟩
    obtain ⟨q, eq⟩ : ∃ q, q = cAt xs k := ⟨_, rfl⟩
    rw [← ep] at hp ⊢
    rw [← eq] at hq ⊢
    obtain ⟨g1, g2, kg, qg, bg⟩ := side_exact ha hb hp
    obtain ⟨h1, h2, kh, qh, bh⟩ := side_exact ha hb hq
    obtain ⟨_, _, _, s1, s2⟩ := side_ok ha.ok.1 hb.ok.1 hp.ok.1
    obtain ⟨_, _, _, s3, s4⟩ := side_ok ha.ok.1 hb.ok.1 hq.ok.1
    obtain ⟨g, eg⟩ : ∃ g, g = sideF a b p := ⟨_, rfl⟩
    obtain ⟨h, eh⟩ : ∃ g, g = sideF a b q := ⟨_, rfl⟩
    rw [← eg] at g1 qg s1 s2 ⊢
    rw [← eh] at h1 qh s3 s4 ⊢
    unfold clipAt cutAt
    refine nearL.app ?_ ?_
    · by_cases hne : negB g = negB h
      · rw [if_neg (by rw [hne]; simp)]
        rw [negB_R g1, negB_R h1] at hne
        rw [if_neg (by
          rintro (⟨c1, c2⟩ | ⟨c1, c2⟩)
          · rw [decide_eq_true c1, decide_eq_false c2] at hne; cases hne
          · rw [decide_eq_false c1, decide_eq_true c2] at hne; cases hne)]
        exact nearL.nil _
      · rw [if_pos (by simpa using hne)]
        have hne2 := hne
        rw [negB_R g1, negB_R h1] at hne2
        rw [if_pos (by
          by_cases c1 : R .f32 g < 0 <;> by_cases c2 : R .f32 h < 0
          · exact absurd (by rw [decide_eq_true c1, decide_eq_true c2]) hne2
          · exact .inl ⟨c1, c2⟩
          · exact .inr ⟨c1, c2⟩
          · exact absurd (by rw [decide_eq_false c1, decide_eq_false c2]) hne2)]
        obtain ⟨t1, t2, t3, t4, t5, t6, t7, t8, t9⟩ := t_facts g1 h1 s1 s2 s3 s4 hne
        obtain ⟨_, _, _, n4⟩ := new_facts hp.ok.1 hq.ok.1 t2 t3 t4
        have qs := qg.sub qh (lt24 (by omega))
        have es : R .f32 (fop .sub .f32 g h) = R .f32 g - R .f32 h := t1.exact qs.num (by
          rw [qs.R, qg.R, qh.R, Rat.intCast_sub]; grind)
        rw [es] at t6 t7
        refine nearL.one ?_
        obtain ⟨⟨_, _⟩, a1, a2, a3, a4⟩ := hp.ok
        obtain ⟨⟨_, _⟩, b1, b2, b3, b4⟩ := hq.ok
        obtain ⟨t, et⟩ : ∃ t, t = R .f32 (tF g h) := ⟨_, rfl⟩
        obtain ⟨u, eu⟩ : ∃ u, u = R .f32 g / (R .f32 g - R .f32 h) := ⟨_, rfl⟩
        rw [← et] at n4 t6 t7
        rw [← eu] at t6 t7
        unfold meetR
        rw [← eu]
        obtain ⟨c1, c2⟩ := mul_bd (x := (RP q).1 - (RP p).1) (y := t - u) (B := 16) (C := 1 / 8388608) (by grind) (by grind) (by grind) (by grind)
        obtain ⟨c3, c4⟩ := mul_bd (x := (RP q).2 - (RP p).2) (y := t - u) (B := 16) (C := 1 / 8388608) (by grind) (by grind) (by grind) (by grind)
        obtain ⟨d1, d2, d3, d4⟩ := n4
        unfold wayR at d1 d2 d3 d4
        have d1 : -(1 / 65536) ≤ (RP (newF p q g h)).1 - ((RP p).1 + ((RP q).1 - (RP p).1) * t) := d1
        have d2 : (RP (newF p q g h)).1 - ((RP p).1 + ((RP q).1 - (RP p).1) * t) ≤ 1 / 65536 := d2
        have d3 : -(1 / 65536) ≤ (RP (newF p q g h)).2 - ((RP p).2 + ((RP q).2 - (RP p).2) * t) := d3
        have d4 : (RP (newF p q g h)).2 - ((RP p).2 + ((RP q).2 - (RP p).2) * t) ≤ 1 / 65536 := d4
        refine ⟨?_, ?_, ?_, ?_⟩
        · show -(1 / 32768) ≤ (RP (newF p q g h)).1 - ((RP p).1 + ((RP q).1 - (RP p).1) * u); grind
        · show (RP (newF p q g h)).1 - ((RP p).1 + ((RP q).1 - (RP p).1) * u) ≤ 1 / 32768; grind
        · show -(1 / 32768) ≤ (RP (newF p q g h)).2 - ((RP p).2 + ((RP q).2 - (RP p).2) * u); grind
        · show (RP (newF p q g h)).2 - ((RP p).2 + ((RP q).2 - (RP p).2) * u) ≤ 1 / 32768; grind
    · rw [negB_R h1]
      by_cases c : R .f32 h < 0
      · rw [if_pos (decide_eq_true c), if_pos c]; exact nearL.nil _
      · rw [if_neg (by simpa using c), if_neg c]; exact nearL.one (nearR.refl _ (by grind))
/-- twice the area of a list of floats -/
def areaR (L : List Cx) : Rat := cyc (fR (0, 0)) (fun i => RP (cAt L i)) L.length
theorem near_area {L : List Cx} {E : List Rp} (h : nearL L E (1 / 32768)) (hL : ∀ z, z ∈ L → within (RP z) 6) (hlen : L.length ≤ 20) : -(1 / 50) ≤ areaR L - cycR (fR (0, 0)) E ∧ areaR L - cycR (fR (0, 0)) E ≤ 1 / 50 := by
  rw [cycR_sum, ← h.1]
  have hw : ∀ i, i < L.length → within (RP (cAt L i)) 6 := fun i hi => hL _ (cAt_mem hi)
  have := cyc_near (P := fun i => RP (cAt L i)) (Q := rA E) (η := 1 / 32768) (n := L.length) (fun i hi => (hw i hi).mono (by grind)) (fun i hi => by
    obtain ⟨a1, a2, a3, a4⟩ := hw i hi
    obtain ⟨b1, b2, b3, b4⟩ := h.2 i hi
    exact ⟨by grind, by grind, by grind, by grind⟩) h.2
  have n1 : (((L.length : Nat) : Int) : Rat) ≤ ((20 : Int) : Rat) := Rat.intCast_le_intCast.2 (by omega)
  have n1 : (((L.length : Nat) : Int) : Rat) ≤ 20 := n1
  unfold areaR
  constructor <;> grind
theorem area_both {xs : List Cx} {a b : Cx} (hx : ∀ z, z ∈ xs → isH z) (ha : isH a) (hb : isH b) (hne : (RP b).1 - (RP a).1 ≠ 0) (hn : 0 < xs.length) (hn2 : xs.length ≤ 10)
    (hl : ∀ z, z ∈ clipTo xs a b xs.length → within (RP z) 6) (hr : ∀ z, z ∈ clipTo xs b a xs.length → within (RP z) 6) :
    -(1 / 25) ≤ areaR (clipTo xs a b xs.length) + areaR (clipTo xs b a xs.length) - areaR xs ∧ areaR (clipTo xs a b xs.length) + areaR (clipTo xs b a xs.length) - areaR xs ≤ 1 / 25 := by
  have l1 := clipTo_len xs a b xs.length
  have l2 := clipTo_len xs b a xs.length
  have n1 := near_area (clip_near hx ha hb xs.length (Nat.le_refl _)) hl (by omega)
  have n2 := near_area (clip_near hx hb ha xs.length (Nat.le_refl _)) hr (by omega)
  have hs : ∀ i, i < xs.length → R .f32 (sideF a b (cAt xs i)) = ((RP b).1 - (RP a).1, (RP b).2 - (RP a).2).1 * ((RP (cAt xs i)).2 - (RP a).2) - ((RP b).1 - (RP a).1, (RP b).2 - (RP a).2).2 * ((RP (cAt xs i)).1 - (RP a).1) := fun i hi => (side_exact ha hb (hx _ (cAt_mem hi))).2.1
  have hcong : cutTo (fun i => RP (cAt xs i)) (fun i => R .f32 (sideF b a (cAt xs i))) xs.length xs.length = cutTo (fun i => RP (cAt xs i)) (fun i => -R .f32 (sideF a b (cAt xs i))) xs.length xs.length := by
    have : ∀ i, i < xs.length → R .f32 (sideF b a (cAt xs i)) = -R .f32 (sideF a b (cAt xs i)) := fun i hi => by
      rw [(side_exact hb ha (hx _ (cAt_mem hi))).2.1, (side_exact ha hb (hx _ (cAt_mem hi))).2.1]
      unfold sR; grind
    have key : ∀ k, k ≤ xs.length → cutTo (fun i => RP (cAt xs i)) (fun i => R .f32 (sideF b a (cAt xs i))) xs.length k = cutTo (fun i => RP (cAt xs i)) (fun i => -R .f32 (sideF a b (cAt xs i))) xs.length k := fun k => by
      induction k with
      | zero => intro _; rfl
      | succ k ih =>
        intro hk
        show cutTo _ _ _ k ++ cutAt _ _ _ _ = cutTo _ _ _ k ++ cutAt _ _ _ _
        rw [ih (by omega)]
        congr 1
        show cutAt _ _ (R .f32 (sideF b a (cAt xs ((k + xs.length - 1) % xs.length)))) (R .f32 (sideF b a (cAt xs k))) = cutAt _ _ (-R .f32 (sideF a b (cAt xs ((k + xs.length - 1) % xs.length)))) (-R .f32 (sideF a b (cAt xs k)))
        rw [this _ (Nat.mod_lt _ hn), this k (by omega)]
    exact key _ (Nat.le_refl _)
  rw [hcong] at n2
  have hb2 := cut_both (a := RP a) (d := ((RP b).1 - (RP a).1, (RP b).2 - (RP a).2)) (P := fun i => RP (cAt xs i)) (s := fun i => R .f32 (sideF a b (cAt xs i))) (n := xs.length) hn (.inl hne) hs
  have mv : ∀ E, cycR (fR (RP a)) E = cycR (fR (0, 0)) E := fun E => by rw [cycR_sum, cyc_move, ← cycR_sum]
  rw [mv, mv, cyc_back, cyc_move] at hb2
  have e : cyc (fR (0, 0)) (fun i => RP (cAt xs i)) xs.length = areaR xs := rfl
  rw [e] at hb2
  obtain ⟨X, hX⟩ : ∃ X, X = cycR (fR (0, 0)) (cutTo (fun i => RP (cAt xs i)) (fun i => R .f32 (sideF a b (cAt xs i))) xs.length xs.length) := ⟨_, rfl⟩
  obtain ⟨Y, hY⟩ : ∃ Y, Y = cycR (fR (0, 0)) (cutTo (fun i => RP (cAt xs i)) (fun i => -R .f32 (sideF a b (cAt xs i))) xs.length xs.length) := ⟨_, rfl⟩
  have hb3 : X + Y = areaR xs := by rw [hX, hY]; exact hb2
  rw [← hX] at n1
  rw [← hY] at n2
  constructor <;> grind
end Go.Fl
