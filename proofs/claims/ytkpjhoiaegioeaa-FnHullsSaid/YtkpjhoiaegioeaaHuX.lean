/- The law FnHulls: its points, what its tests say. -/
import Derived.Test.YtkpjhoiaegioeaaHuW
namespace Go.Fl
open Ieee Go.RowKit
theorem two_read32 : FloatKind.f32.format.read 1073741824 = .number false (2 ^ FB .f32) (((1 : Nat) : Int) - FB .f32) := by decide
/-- the bits of a number of halves -/
def dH (m : Int) : Nat := fop .quo .f32 (floatOfInt .f32 m) 1073741824
theorem dH_q {m : Int} (hm : m.natAbs ≤ 64) : Q .f32 (dH m) m 1 := Q.half (e := 0) (Q.ofInt .f32 m (lt24 (by omega))) two_read32 (lt24 (by omega)) (by decide)
theorem dH_run {m : Int} (hm : m.natAbs ≤ 64) : (∀ w, mop .quo .f32 (floatOfInt .f32 m) 1073741824 w = dH m) ∧ mdr .quo .f32 (floatOfInt .f32 m) 1073741824 = 0 := run_fop (dH_q hm)
theorem dH_small : ∀ r : Nat, r < 17 → dH ((r : Int) - 8) < 4294967296 := by
  have h : (List.range 17).all (fun r => decide (dH ((r : Int) - 8) < 4294967296)) = true := by decide +kernel
  intro r hr
  exact of_decide_eq_true (List.all_eq_true.1 h r (List.mem_range.2 hr))
/-- a point of the law's -/
def canP (z : Cx) : Prop := ∃ p : Zp, z = (dH p.1, dH p.2) ∧ low p 8
theorem canP.px {z : Cx} (h : canP z) : ∃ p : Zp, PX z p 1 ∧ low p 8 := by
  obtain ⟨p, rfl, hl⟩ := h
  exact ⟨p, ⟨dH_q (by have := hl.1; omega), dH_q (by have := hl.2; omega)⟩, hl⟩
theorem canP.good {z : Cx} (h : canP z) : goodP z := by
  obtain ⟨p, hp, hl⟩ := h.px
  exact goodP.of hp hl
theorem canP.isH {z : Cx} (h : canP z) : isH z := by
  obtain ⟨p, hp, hl⟩ := h.px
  exact ⟨p, hp, hl.mono (by decide)⟩
theorem canP.inj {x y : Cx} (hx : canP x) (hy : canP y) (h : hz x = hz y) : x = y := by
  obtain ⟨p, rfl, lp⟩ := hx
  obtain ⟨q, rfl, lq⟩ := hy
  have e1 : hz (dH p.1, dH p.2) = p := PX.hz ⟨dH_q (by have := lp.1; omega), dH_q (by have := lp.2; omega)⟩
  have e2 : hz (dH q.1, dH q.2) = q := PX.hz ⟨dH_q (by have := lq.1; omega), dH_q (by have := lq.2; omega)⟩
  rw [e1, e2] at h
  rw [h]
theorem canP.bits {z : Cx} (h : canP z) : nN z ∧ z.1 < 4294967296 ∧ z.2 < 4294967296 := by
  obtain ⟨p, rfl, hl⟩ := h
  have key : ∀ m : Int, m.natAbs ≤ 8 → dH m < 4294967296 := fun m hm => by
    have := dH_small (m + 8).toNat (by omega)
    rwa [show (((m + 8).toNat : Nat) : Int) - 8 = m by omega] at this
  exact ⟨⟨(dH_q (by have := hl.1; omega)).num, (dH_q (by have := hl.2; omega)).num⟩, key _ hl.1, key _ hl.2⟩
theorem list_inj : ∀ {A B : List Cx}, (∀ z, z ∈ A → canP z) → (∀ z, z ∈ B → canP z) → A.map hz = B.map hz → A = B
  | [], [], _, _, _ => rfl
  | [], _ :: _, _, _, h => by cases h
  | _ :: _, [], _, _, h => by cases h
  | a :: A, b :: B, ha, hb, h => by
    obtain ⟨h1, h2⟩ := List.cons.inj h
    rw [canP.inj (ha a (by simp)) (hb b (by simp)) h1, list_inj (fun z hz => ha z (List.mem_cons_of_mem _ hz)) (fun z hz => hb z (List.mem_cons_of_mem _ hz)) h2]
/-- the hull of the hull is the hull, to the last bit -/
theorem hull_same {xs H H2 : List Cx} (hx : ∀ z, z ∈ xs → canP z) (hn : 0 < xs.length) (h : HullR xs H) (h2 : HullR H H2) : H2 = H ∧ 1 ≤ H.length ∧ H.length ≤ xs.length := by
  obtain ⟨L, ha, hm, he, hl⟩ := h.hull
  obtain ⟨L2, ha2, hm2, he2, _⟩ := h2.hull
  have hne : L ≠ [] := fun e => by
    have : hz (cAt xs 0) ∈ L := (hm _).2 (List.mem_map.2 ⟨_, cAt_mem hn, rfl⟩)
    rw [e] at this; cases this
  have hlen := hull_len ha hne
  have eH : H.length = (hullZ L).length := by rw [← he, List.length_map]
  refine ⟨list_inj (fun z hz => hx z (h.sub z (h2.sub z hz))) (fun z hz => hx z (h.sub z hz)) ?_, by omega, by omega⟩
  rw [he2, he]
  exact hull_again ha hne ha2 (fun p => by rw [hm2 p, he])
/-- the law's test of a side: how far left a point is -/
def leftF (p q z : Cx) : Nat := fop .sub .f64 (fop .mul .f64 (fcv .f32 .f64 (minusF q p).1) (fcv .f32 .f64 (minusF z p).2)) (fop .mul .f64 (fcv .f32 .f64 (minusF q p).2) (fcv .f32 .f64 (minusF z p).1))
structure LeftN (p q z : Cx) : Prop where
  a : PX (minusF q p) (subZ (hz q) (hz p)) 1
  b : PX (minusF z p) (subZ (hz z) (hz p)) 1
  m1 : isN .f64 (fop .mul .f64 (fcv .f32 .f64 (minusF q p).1) (fcv .f32 .f64 (minusF z p).2)) = true
  m2 : isN .f64 (fop .mul .f64 (fcv .f32 .f64 (minusF q p).2) (fcv .f32 .f64 (minusF z p).1)) = true
  s : isN .f64 (leftF p q z) = true
theorem left_facts {p q z : Cx} (hp : goodP p) (hq : goodP q) (hz' : goodP z) (h : 0 ≤ turnZ (hz p) (hz q) (hz z)) : LeftN p q z ∧ (FloatKind.f64.format.order (leftF p q z) 13785626545772145148 == some .lt) = false := by
  have l8 : ∀ {p : Zp}, low p 8 → low p 4194304 := fun h => h.mono (by decide)
  have p1 := hq.1.minus hp.1 (l8 hq.2) (l8 hp.2)
  have p2 := hz'.1.minus hp.1 (l8 hz'.2) (l8 hp.2)
  have b1 : low (subZ (hz q) (hz p)) 16 := low.sub hq.2 hp.2 (by decide)
  have b2 : low (subZ (hz z) (hz p)) 16 := low.sub hz'.2 hp.2 (by decide)
  have mb : ∀ {x y : Int}, x.natAbs ≤ 16 → y.natAbs ≤ 16 → (x * y).natAbs ≤ 256 := fun {x y} h1 h2 => by
    rw [Int.natAbs_mul]; exact Nat.mul_le_mul h1 h2
  have m1 := mb b1.1 b2.2
  have m2 := mb b1.2 b2.1
  have c53 : (2 : Nat) ^ (FB .f64 + 1) = 9007199254740992 := by decide
  have w : ∀ {x : Nat} {k : Int}, Q .f32 x k 1 → k.natAbs ≤ 16 → Q .f64 (fcv .f32 .f64 x) k 1 := fun h hk => h.widen (by omega)
  have q1 := (w p1.1 b1.1).mul (w p2.2 b2.2) (by rw [c53]; omega) (by decide)
  have q2 := (w p1.2 b1.2).mul (w p2.1 b2.1) (by rw [c53]; omega) (by decide)
  have q3 := q1.sub q2 (by rw [c53]; omega)
  refine ⟨⟨p1, p2, q1.num, q2.num, q3.num⟩, ?_⟩
  have cn : isN .f64 13785626545772145148 = true := by decide +kernel
  have cv : V .f64 13785626545772145148 ≤ 0 := by decide +kernel
  have hs : isN .f64 (leftF p q z) = true := q3.num
  rw [ord_V hs cn]
  have h3 : 0 ≤ V .f64 (leftF p q z) := by
    have e := q3.val
    show 0 ≤ V .f64 (fop .sub .f64 _ _)
    rw [e]
    exact Int.mul_nonneg h (Int.le_of_lt (pow_pos_i _))
  cases hc : compare (V .f64 (leftF p q z)) (V .f64 13785626545772145148)
  · rw [Int.compare_eq_lt] at hc; omega
  · rfl
  · rfl
theorem R_ge {K : FloatKind} {x : Nat} {a b : Int} (hb : 0 < b) (h : a * ((2 ^ LP K : Nat) : Int) ≤ V K x * b) : (a : Rat) / (b : Rat) ≤ R K x := by
  have hbp : (0 : Rat) < (b : Rat) := Rat.intCast_pos.2 hb
  rw [← le_mulR hbp, Rat.div_mul_cancel (Rat.ne_of_gt hbp), ← le_mulR (uR_pos K)]
  have h1 : ((a * ((2 ^ LP K : Nat) : Int) : Int) : Rat) ≤ ((V K x * b : Int) : Rat) := Rat.intCast_le_intCast.2 h
  rw [Rat.intCast_mul, Rat.intCast_mul, ← R_mul] at h1
  have e : R K x * (b : Rat) * uR K = R K x * uR K * (b : Rat) := by grind
  rw [e]
  exact h1
theorem R_le_of {K : FloatKind} {x : Nat} {a b : Int} (hb : 0 < b) (h : V K x * b ≤ a * ((2 ^ LP K : Nat) : Int)) : R K x ≤ (a : Rat) / (b : Rat) := by
  have hbp : (0 : Rat) < (b : Rat) := Rat.intCast_pos.2 hb
  rw [← le_mulR hbp, Rat.div_mul_cancel (Rat.ne_of_gt hbp), ← le_mulR (uR_pos K)]
  have h1 : ((V K x * b : Int) : Rat) ≤ ((a * ((2 ^ LP K : Nat) : Int) : Int) : Rat) := Rat.intCast_le_intCast.2 h
  rw [Rat.intCast_mul, Rat.intCast_mul, ← R_mul] at h1
  have e : R K x * (b : Rat) * uR K = R K x * uR K * (b : Rat) := by grind
  rw [e]
  exact h1
/-- a hundredth; a twentieth -/
theorem centi64 : isN .f64 4576918229304087675 = true ∧ 9 / 1000 ≤ R .f64 4576918229304087675 ∧ R .f64 4576918229304087675 ≤ 11 / 1000 := by
  refine ⟨by decide +kernel, ?_, ?_⟩
  · have := R_ge (K := .f64) (x := 4576918229304087675) (a := 9) (b := 1000) (by decide) (by decide +kernel)
    exact this
  · have := R_le_of (K := .f64) (x := 4576918229304087675) (a := 11) (b := 1000) (by decide) (by decide +kernel)
    exact this
theorem five64 : isN .f64 4587366580439587226 = true ∧ 49 / 1000 ≤ R .f64 4587366580439587226 := by
  refine ⟨by decide +kernel, ?_⟩
  have := R_ge (K := .f64) (x := 4587366580439587226) (a := 49) (b := 1000) (by decide) (by decide +kernel)
  exact this
/-- below low, by more than a hundredth: no -/
theorem below_no {x l : Nat} (hx : isN .f32 x = true) (hl : isN .f32 l = true) (x1 : -6 ≤ R .f32 x) (x2 : R .f32 x ≤ 6) (l1 : -6 ≤ R .f32 l) (l2 : R .f32 l ≤ 6) (h : R .f32 l - 5 / 1000 ≤ R .f32 x) :
    isN .f64 (fop .sub .f64 (fcv .f32 .f64 l) 4576918229304087675) = true ∧ (FloatKind.f64.format.order (fcv .f32 .f64 x) (fop .sub .f64 (fcv .f32 .f64 l) 4576918229304087675) == some .lt) = false := by
  obtain ⟨c1, c2, c3⟩ := centi64
  obtain ⟨n1, e1⟩ := wide hx (by grind) (by grind)
  obtain ⟨n2, e2⟩ := wide hl (by grind) (by grind)
  have hs := rnd_sub n2 c1 (by rw [e2]; grind) (by rw [e2]; grind)
  rw [e2] at hs
  have f := hs.n64 3 (by decide) (B := 8) rfl (by grind) (by grind)
  refine ⟨hs.num, ?_⟩
  rw [ord_R64 n1 hs.num, e1]
  exact decide_eq_false (by grind)
theorem above_no {x l : Nat} (hx : isN .f32 x = true) (hl : isN .f32 l = true) (x1 : -6 ≤ R .f32 x) (x2 : R .f32 x ≤ 6) (l1 : -6 ≤ R .f32 l) (l2 : R .f32 l ≤ 6) (h : R .f32 x ≤ R .f32 l + 5 / 1000) :
    isN .f64 (fop .add .f64 (fcv .f32 .f64 l) 4576918229304087675) = true ∧ (FloatKind.f64.format.order (fcv .f32 .f64 x) (fop .add .f64 (fcv .f32 .f64 l) 4576918229304087675) == some .gt) = false := by
  obtain ⟨c1, c2, c3⟩ := centi64
  obtain ⟨n1, e1⟩ := wide hx (by grind) (by grind)
  obtain ⟨n2, e2⟩ := wide hl (by grind) (by grind)
  have hs := rnd_add n2 c1 (by rw [e2]; grind) (by rw [e2]; grind)
  rw [e2] at hs
  have f := hs.n64 3 (by decide) (B := 8) rfl (by grind) (by grind)
  refine ⟨hs.num, ?_⟩
  rw [ord_G64 n1 hs.num, e1]
  exact decide_eq_false (by grind)
/-- the last test: both areas together are the whole's, nearly -/
theorem areas_last {xs L Rr : List Cx} (hx : ∀ z, z ∈ xs → nN z ∧ within (RP z) 6) (hl : ∀ z, z ∈ L → nN z ∧ within (RP z) 6) (hr : ∀ z, z ∈ Rr → nN z ∧ within (RP z) 6) (n1 : xs.length ≤ 40) (n2 : L.length ≤ 40) (n3 : Rr.length ≤ 40)
    (h1 : -(1 / 25) ≤ areaR L + areaR Rr - areaR xs) (h2 : areaR L + areaR Rr - areaR xs ≤ 1 / 25) :
    isN .f64 (fop .add .f64 (areaF L) (areaF Rr)) = true ∧ isN .f64 (areaF xs) = true ∧ isN .f64 (if R .f64 (fop .add .f64 (areaF L) (areaF Rr)) < R .f64 (areaF xs) then fop .sub .f64 (areaF xs) (fop .add .f64 (areaF L) (areaF Rr)) else fop .sub .f64 (fop .add .f64 (areaF L) (areaF Rr)) (areaF xs)) = true ∧
      (FloatKind.f64.format.order (gapF (fop .add .f64 (areaF L) (areaF Rr)) (areaF xs)) 4587366580439587226 == some .lt) = true := by
  obtain ⟨a1, a2, a3, a4, a5⟩ := area_facts hx n1
  obtain ⟨b1, b2, b3, b4, b5⟩ := area_facts hl n2
  obtain ⟨c1, c2, c3, c4, c5⟩ := area_facts hr n3
  have hs := rnd_add b1 c1 (by grind) (by grind)
  have f := hs.n64 12 (by decide) (B := 4096) rfl (by grind) (by grind)
  obtain ⟨g1, g2, g3⟩ := gap_facts hs.num a1 (by grind) (by grind) (by grind) (by grind)
  refine ⟨hs.num, a1, g3, ?_⟩
  have g4 := g2 (3 / 100) (by grind) (by grind)
  rw [ord_R64 g1 five64.1]
  have := five64.2
  exact decide_eq_true (by grind)
/-- what is clipped lies within 6 -/
theorem clip_6 {xs : List Cx} {a b : Cx} (hx : ∀ z, z ∈ xs → isH z) (ha : isH a) (hb : isH b) : ∀ z, z ∈ clipTo xs a b xs.length → nN z ∧ within (RP z) 6 := fun z hz => by
  rcases clipTo_mem _ hz with ⟨i, hi, hne, rfl⟩ | ⟨i, hi, _, rfl⟩
  · have hp := hx _ (cAt_mem (xs := xs) (pv_lt hi))
    have hq := hx _ (cAt_mem (xs := xs) hi)
    obtain ⟨_, _, s1, s2, s3⟩ := side_ok ha.ok.1 hb.ok.1 hp.ok.1
    obtain ⟨_, _, r1, r2, r3⟩ := side_ok ha.ok.1 hb.ok.1 hq.ok.1
    obtain ⟨_, t2, t3, t4, _⟩ := t_facts s1 r1 s2 s3 r2 r3 hne
    obtain ⟨_, _, u3, u4⟩ := new_facts hp.ok.1 hq.ok.1 t2 t3 t4
    exact ⟨u3, (near_within u4 (way_within hp.ok.2 hq.ok.2 t3 t4)).mono (by grind)⟩
  · have hq := hx _ (cAt_mem (xs := xs) hi)
    exact ⟨hq.ok.1.1, hq.ok.2.mono (by grind)⟩
end Go.Fl
