/- What is clipped: every number that is made on the way is one; new corners lie between the old ones, nearly. -/
import Derived.Test.YtkpjhoiaegioeaaHuD
import Derived.Test.YtkpjhoiaegioeaaHuB
namespace Go.Fl
open Ieee Go.RowKit
def RP (z : Cx) : Rp := (R .f32 z.1, R .f32 z.2)
theorem ord_R {x y : Nat} (hx : isN .f32 x = true) (hy : isN .f32 y = true) : (FloatKind.f32.format.order x y == some .lt) = decide (R .f32 x < R .f32 y) := by
  rw [ord_V hx hy]
  cases h : compare (V .f32 x) (V .f32 y)
  · rw [Int.compare_eq_lt] at h; simp [R_lt, h]
  · rw [Int.compare_eq_eq] at h; simp [R_lt, h]
  · rw [Int.compare_eq_gt] at h; simp [R_lt]; omega
theorem R_zero : R .f32 0 = 0 := R_zero_iff.2 zero_N.2
theorem one_N : isN .f32 1065353216 = true ∧ R .f32 1065353216 = 1 := by
  have q : Q .f32 1065353216 1 0 := ⟨by decide +kernel, by decide +kernel, by decide⟩
  exact ⟨q.num, by rw [q.R]; decide +kernel⟩
theorem negB_R {g : Nat} (h : isN .f32 g = true) : negB g = decide (R .f32 g < 0) := by unfold negB; rw [ord_R h zero_N.1, R_zero]
theorem Rnd.exact {K : FloatKind} {r : Nat} {q : Rat} (h : Rnd K r q) {y : Nat} (hy : isN K y = true) (e : q = R K y) : R K r = q := by
  have h1 := h.le y hy (by rw [e]; exact Rat.le_refl)
  have h2 := h.ge y hy (by rw [e]; exact Rat.le_refl)
  rw [e]; exact Rat.le_antisymm h1 h2
theorem minus_R {x y : Nat} (hx : isN .f32 x = true) (hy : isN .f32 y = true) (x1 : -8 ≤ R .f32 x) (x2 : R .f32 x ≤ 8) (y1 : -8 ≤ R .f32 y) (y2 : R .f32 y ≤ 8) :
    isN .f32 (fop .sub .f32 x y) = true ∧ R .f32 x - R .f32 y - 1 / 524288 ≤ R .f32 (fop .sub .f32 x y) ∧ R .f32 (fop .sub .f32 x y) ≤ R .f32 x - R .f32 y + 1 / 524288 := by
  have h := rnd_sub hx hy (by grind) (by grind)
  have e := h.n32 4 (by decide) (B := 16) rfl (by grind) (by grind)
  exact ⟨h.num, by grind, by grind⟩
/-- within 8, and numbers -/
def okZ (z : Cx) : Prop := nN z ∧ within (RP z) 8
theorem minus_okZ {p q : Cx} (hp : okZ p) (hq : okZ q) : nN (minusF q p) ∧ within (RP (minusF q p)) 17 ∧ nearR (RP (minusF q p)) ((RP q).1 - (RP p).1, (RP q).2 - (RP p).2) (1 / 524288) := by
  obtain ⟨⟨a1, a2⟩, b1, b2, b3, b4⟩ := hp
  obtain ⟨⟨c1, c2⟩, d1, d2, d3, d4⟩ := hq
  have b1 : -8 ≤ R .f32 p.1 := b1
  have b2 : R .f32 p.1 ≤ 8 := b2
  have b3 : -8 ≤ R .f32 p.2 := b3
  have b4 : R .f32 p.2 ≤ 8 := b4
  have d1 : -8 ≤ R .f32 q.1 := d1
  have d2 : R .f32 q.1 ≤ 8 := d2
  have d3 : -8 ≤ R .f32 q.2 := d3
  have d4 : R .f32 q.2 ≤ 8 := d4
  obtain ⟨m1, m2, m3⟩ := minus_R c1 a1 d1 d2 b1 b2
  obtain ⟨n1, n2, n3⟩ := minus_R c2 a2 d3 d4 b3 b4
  refine ⟨⟨m1, n1⟩, ⟨?_, ?_, ?_, ?_⟩, ⟨?_, ?_, ?_, ?_⟩⟩
  · show -17 ≤ R .f32 (fop .sub .f32 q.1 p.1); grind
  · show R .f32 (fop .sub .f32 q.1 p.1) ≤ 17; grind
  · show -17 ≤ R .f32 (fop .sub .f32 q.2 p.2); grind
  · show R .f32 (fop .sub .f32 q.2 p.2) ≤ 17; grind
  · show -(1 / 524288) ≤ R .f32 (fop .sub .f32 q.1 p.1) - (R .f32 q.1 - R .f32 p.1); grind
  · show R .f32 (fop .sub .f32 q.1 p.1) - (R .f32 q.1 - R .f32 p.1) ≤ 1 / 524288; grind
  · show -(1 / 524288) ≤ R .f32 (fop .sub .f32 q.2 p.2) - (R .f32 q.2 - R .f32 p.2); grind
  · show R .f32 (fop .sub .f32 q.2 p.2) - (R .f32 q.2 - R .f32 p.2) ≤ 1 / 524288; grind
theorem cross_N {d e : Cx} (hd : nN d) (he : nN e) (bd : within (RP d) 17) (be : within (RP e) 17) : crossN d e ∧ -600 ≤ R .f32 (crossF d e) ∧ R .f32 (crossF d e) ≤ 600 := by
  obtain ⟨a1, a2, a3, a4⟩ := bd
  obtain ⟨b1, b2, b3, b4⟩ := be
  have a1 : -17 ≤ R .f32 d.1 := a1
  have a2 : R .f32 d.1 ≤ 17 := a2
  have a3 : -17 ≤ R .f32 d.2 := a3
  have a4 : R .f32 d.2 ≤ 17 := a4
  have b1 : -17 ≤ R .f32 e.1 := b1
  have b2 : R .f32 e.1 ≤ 17 := b2
  have b3 : -17 ≤ R .f32 e.2 := b3
  have b4 : R .f32 e.2 ≤ 17 := b4
  obtain ⟨m1, m2⟩ := mul_bd a1 a2 b3 b4
  obtain ⟨n1, n2⟩ := mul_bd a3 a4 b1 b2
  have h1 := rnd_mul hd.1 he.2 (by grind) (by grind)
  have h2 := rnd_mul hd.2 he.1 (by grind) (by grind)
  have e1 := h1.n32 9 (by decide) (B := 512) rfl (by grind) (by grind)
  have e2 := h2.n32 9 (by decide) (B := 512) rfl (by grind) (by grind)
  have h3 := rnd_sub h1.num h2.num (by grind) (by grind)
  have e3 := h3.n32 10 (by decide) (B := 1024) rfl (by grind) (by grind)
  exact ⟨⟨h1.num, h2.num, h3.num⟩, by show -600 ≤ R .f32 (fop .sub .f32 _ _); grind, by show R .f32 (fop .sub .f32 _ _) ≤ 600; grind⟩
/-- the least number above zero -/
theorem least_N : isN .f32 1 = true ∧ 0 < R .f32 1 := by
  have hv : V .f32 1 = 1 := by decide +kernel
  refine ⟨by decide +kernel, ?_⟩
  have := R_lt (K := .f32) (x := 0) (y := 1)
  rw [R_zero, zero_N.2, hv] at this
  exact this.2 (by decide)
theorem least_R {h : Nat} (hn : R .f32 h < 0) : R .f32 1 ≤ -R .f32 h := by
  have hv : V .f32 1 = 1 := by decide +kernel
  have h1 := R_neg_iff.1 hn
  rw [← le_mulR (uR_pos .f32), R_mul, Rat.neg_mul, R_mul, hv, ← Rat.intCast_neg, Rat.intCast_le_intCast]
  omega
/-- the share of the way -/
theorem t_facts {g h : Nat} (hg : isN .f32 g = true) (hh : isN .f32 h = true) (g1 : -600 ≤ R .f32 g) (g2 : R .f32 g ≤ 600) (h1 : -600 ≤ R .f32 h) (h2 : R .f32 h ≤ 600) (hne : negB g ≠ negB h) :
    Rnd .f32 (fop .sub .f32 g h) (R .f32 g - R .f32 h) ∧ isN .f32 (tF g h) = true ∧ 0 ≤ R .f32 (tF g h) ∧ R .f32 (tF g h) ≤ 1 ∧ R .f32 (fop .sub .f32 g h) ≠ 0 ∧
      -(1 / 8388608) ≤ R .f32 (tF g h) - R .f32 g / R .f32 (fop .sub .f32 g h) ∧ R .f32 (tF g h) - R .f32 g / R .f32 (fop .sub .f32 g h) ≤ 1 / 8388608 ∧ 0 ≤ R .f32 g / R .f32 (fop .sub .f32 g h) ∧ R .f32 g / R .f32 (fop .sub .f32 g h) ≤ 1 := by
  have hs := rnd_sub hg hh (by grind) (by grind)
  rw [negB_R hg, negB_R hh] at hne
  obtain ⟨G, hG⟩ : ∃ G, G = R .f32 (fop .sub .f32 g h) := ⟨_, rfl⟩
  obtain ⟨q, hq⟩ : ∃ q, q = R .f32 g / G := ⟨_, rfl⟩
  have key : G ≠ 0 ∧ 0 ≤ q ∧ q ≤ 1 := by
    by_cases c : R .f32 g < 0
    · have d : ¬ R .f32 h < 0 := fun d => hne (by rw [decide_eq_true c, decide_eq_true d])
      have hle := hs.le g hg (by grind)
      rw [← hG] at hle
      have hG0 : G < 0 := by grind
      have e : q * G = R .f32 g := by rw [hq]; exact Rat.div_mul_cancel (Rat.ne_of_lt hG0)
      refine ⟨Rat.ne_of_lt hG0, ?_, ?_⟩
      · rcases Rat.le_total (a := 0) (b := q) with h0 | h0
        · exact h0
        · have := Rat.mul_nonneg (a := -q) (b := -G) (by grind) (by grind)
          grind
      · rcases Rat.le_total (a := q) (b := 1) with h0 | h0
        · exact h0
        · have := Rat.mul_nonneg (a := q - 1) (b := -G) (by grind) (by grind)
          have : q * G = G := by grind
          have hq1 : (q - 1) * G = 0 := by grind
          rcases Rat.mul_eq_zero.1 hq1 with h9 | h9
          · grind
          · grind
    · have d : R .f32 h < 0 := by
        by_cases d : R .f32 h < 0
        · exact d
        · exact absurd (by rw [decide_eq_false c, decide_eq_false d]) hne
      have hge := hs.ge g hg (by grind)
      have hG0 : 0 < G := by
        have hl := least_R d
        have := hs.ge 1 least_N.1 (by grind)
        rw [← hG] at this
        have := least_N.2
        grind
      have e : q * G = R .f32 g := by rw [hq]; exact Rat.div_mul_cancel (Rat.ne_of_gt hG0)
      rw [← hG] at hge
      refine ⟨Rat.ne_of_gt hG0, ?_, ?_⟩
      · rcases Rat.le_total (a := 0) (b := q) with h0 | h0
        · exact h0
        · have := Rat.mul_nonneg (a := -q) (b := G) (by grind) (by grind)
          have hq1 : q * G = 0 := by grind
          rcases Rat.mul_eq_zero.1 hq1 with h9 | h9
          · grind
          · grind
      · rcases Rat.le_total (a := q) (b := 1) with h0 | h0
        · exact h0
        · have := Rat.mul_nonneg (a := q - 1) (b := G) (by grind) (by grind)
          have hq1 : (q - 1) * G = 0 := by grind
          rcases Rat.mul_eq_zero.1 hq1 with h9 | h9
          · grind
          · grind
  rw [← hG, ← hq]
  obtain ⟨k1, k2, k3⟩ := key
  have hd := rnd_div (x := g) (y := fop .sub .f32 g h) (q := q) hg hs.num (by rw [← hG]; exact k1) (by rw [hq, ← hG]; exact Rat.div_mul_cancel k1) (by grind) (by grind)
  have b0 := hd.ge 0 zero_N.1 (by rw [R_zero]; exact k2)
  have b1 := hd.le 1065353216 one_N.1 (by rw [one_N.2]; exact k3)
  rw [R_zero] at b0
  rw [one_N.2] at b1
  have er := hd.n32 0 (by decide) (B := 1) rfl (by grind) (by grind)
  exact ⟨hs, hd.num, b0, b1, k1, by show _ ≤ R .f32 (fop .quo .f32 _ _) - q; grind, by show R .f32 (fop .quo .f32 _ _) - q ≤ _; grind, k2, k3⟩
/-- one part of a new corner -/
theorem part_facts {x y t : Nat} (hx : isN .f32 x = true) (hy : isN .f32 y = true) (ht : isN .f32 t = true) (x1 : -8 ≤ R .f32 x) (x2 : R .f32 x ≤ 8) (y1 : -8 ≤ R .f32 y) (y2 : R .f32 y ≤ 8) (t0 : 0 ≤ R .f32 t) (t1 : R .f32 t ≤ 1) :
    isN .f32 (fop .sub .f32 y x) = true ∧ isN .f32 (fop .mul .f32 (fop .sub .f32 y x) t) = true ∧ isN .f32 (fop .add .f32 x (fop .mul .f32 (fop .sub .f32 y x) t)) = true ∧
      -(1 / 65536) ≤ R .f32 (fop .add .f32 x (fop .mul .f32 (fop .sub .f32 y x) t)) - (R .f32 x + (R .f32 y - R .f32 x) * R .f32 t) ∧ R .f32 (fop .add .f32 x (fop .mul .f32 (fop .sub .f32 y x) t)) - (R .f32 x + (R .f32 y - R .f32 x) * R .f32 t) ≤ 1 / 65536 := by
  obtain ⟨m1, m2, m3⟩ := minus_R hy hx y1 y2 x1 x2
  obtain ⟨D, hD⟩ : ∃ D, D = R .f32 (fop .sub .f32 y x) := ⟨_, rfl⟩
  obtain ⟨T, hT⟩ : ∃ T, T = R .f32 t := ⟨_, rfl⟩
  obtain ⟨X, hX⟩ : ∃ X, X = R .f32 x := ⟨_, rfl⟩
  obtain ⟨Y, hY⟩ : ∃ Y, Y = R .f32 y := ⟨_, rfl⟩
  rw [← hD, ← hX, ← hY] at m2 m3
  rw [← hT] at t0 t1
  rw [← hX] at x1 x2
  rw [← hY] at y1 y2
  obtain ⟨b1, b2⟩ := mul_bd (x := D) (y := T) (B := 17) (C := 1) (by grind) (by grind) (by grind) t1
  have hm := rnd_mul m1 ht (by rw [← hD, ← hT]; grind) (by rw [← hD, ← hT]; grind)
  rw [← hD, ← hT] at hm
  have em := hm.n32 5 (by decide) (B := 32) rfl (by grind) (by grind)
  obtain ⟨M, hM⟩ : ∃ M, M = R .f32 (fop .mul .f32 (fop .sub .f32 y x) t) := ⟨_, rfl⟩
  rw [← hM] at em
  have ha := rnd_add hx hm.num (by rw [← hX, ← hM]; grind) (by rw [← hX, ← hM]; grind)
  rw [← hX, ← hM] at ha
  have ea := ha.n32 5 (by decide) (B := 32) rfl (by grind) (by grind)
  obtain ⟨c1, c2⟩ := mul_bd (x := D - (Y - X)) (y := T) (B := 1 / 524288) (C := 1) (by grind) (by grind) (by grind) t1
  rw [← hX, ← hY, ← hT]
  exact ⟨m1, hm.num, ha.num, by grind, by grind⟩
/-- on the way from p to q, by a share of t -/
def wayR (p q : Rp) (t : Rat) : Rp := (p.1 + (q.1 - p.1) * t, p.2 + (q.2 - p.2) * t)
theorem way_within {p q : Rp} {t B : Rat} (hp : within p B) (hq : within q B) (t0 : 0 ≤ t) (t1 : t ≤ 1) : within (wayR p q t) B := by
  obtain ⟨a1, a2, a3, a4⟩ := hp
  obtain ⟨b1, b2, b3, b4⟩ := hq
  have key : ∀ {x y : Rat}, -B ≤ x → x ≤ B → -B ≤ y → y ≤ B → -B ≤ x + (y - x) * t ∧ x + (y - x) * t ≤ B := fun {x y} h1 h2 h3 h4 => by
    have m1 := Rat.mul_nonneg (a := B - x) (b := 1 - t) (by grind) (by grind)
    have m2 := Rat.mul_nonneg (a := B - y) (b := t) (by grind) t0
    have m3 := Rat.mul_nonneg (a := B + x) (b := 1 - t) (by grind) (by grind)
    have m4 := Rat.mul_nonneg (a := B + y) (b := t) (by grind) t0
    constructor <;> grind
  exact ⟨(key a1 a2 b1 b2).1, (key a1 a2 b1 b2).2, (key a3 a4 b3 b4).1, (key a3 a4 b3 b4).2⟩
theorem new_facts {p q : Cx} {g h : Nat} (hp : okZ p) (hq : okZ q) (ht : isN .f32 (tF g h) = true) (t0 : 0 ≤ R .f32 (tF g h)) (t1 : R .f32 (tF g h) ≤ 1) :
    nN (minusF q p) ∧ nN (scaleF (minusF q p) (tF g h)) ∧ nN (newF p q g h) ∧ nearR (RP (newF p q g h)) (wayR (RP p) (RP q) (R .f32 (tF g h))) (1 / 65536) := by
  obtain ⟨⟨a1, a2⟩, b1, b2, b3, b4⟩ := hp
  obtain ⟨⟨c1, c2⟩, d1, d2, d3, d4⟩ := hq
  obtain ⟨e1, e2, e3, e4, e5⟩ := part_facts a1 c1 ht b1 b2 d1 d2 t0 t1
  obtain ⟨f1, f2, f3, f4, f5⟩ := part_facts a2 c2 ht b3 b4 d3 d4 t0 t1
  exact ⟨⟨e1, f1⟩, ⟨e2, f2⟩, ⟨e3, f3⟩, ⟨e4, e5, f4, f5⟩⟩
theorem within.mono {p : Rp} {A B : Rat} (h : within p A) (hAB : A ≤ B) : within p B := by
  obtain ⟨a1, a2, a3, a4⟩ := h
  exact ⟨by grind, by grind, by grind, by grind⟩
theorem near_within {p q : Rp} {η B : Rat} (h : nearR p q η) (hq : within q B) : within p (B + η) := by
  obtain ⟨a1, a2, a3, a4⟩ := h
  obtain ⟨b1, b2, b3, b4⟩ := hq
  exact ⟨by grind, by grind, by grind, by grind⟩
theorem side_ok {a b z : Cx} (ha : okZ a) (hb : okZ b) (hz : okZ z) : nN (minusF z a) ∧ crossN (minusF b a) (minusF z a) ∧ isN .f32 (sideF a b z) = true ∧ -600 ≤ R .f32 (sideF a b z) ∧ R .f32 (sideF a b z) ≤ 600 := by
  obtain ⟨m1, m2, _⟩ := minus_okZ ha hb
  obtain ⟨n1, n2, _⟩ := minus_okZ ha hz
  obtain ⟨c1, c2, c3⟩ := cross_N m1 n1 m2 n2
  exact ⟨n1, c1, c1.2.2, c2, c3⟩
theorem cAt_mem {xs : List Cx} {i : Nat} (h : i < xs.length) : cAt xs i ∈ xs := by
  have : cAt xs i = xs[i] := by simp [cAt, h]
  rw [this]; exact List.getElem_mem h
theorem clipTo_mem {xs : List Cx} {a b z : Cx} : ∀ k, z ∈ clipTo xs a b k → (∃ i, i < k ∧ negB (sideF a b (cAt xs (pv xs.length i))) ≠ negB (sideF a b (cAt xs i)) ∧ z = newF (cAt xs (pv xs.length i)) (cAt xs i) (sideF a b (cAt xs (pv xs.length i))) (sideF a b (cAt xs i))) ∨ ∃ i, i < k ∧ negB (sideF a b (cAt xs i)) = false ∧ z = cAt xs i
  | 0, h => by cases h
  | k + 1, h => by
    rcases List.mem_append.1 h with h | h
    · rcases clipTo_mem k h with ⟨i, h1, h2⟩ | ⟨i, h1, h2⟩
      · exact .inl ⟨i, by omega, h2⟩
      · exact .inr ⟨i, by omega, h2⟩
    · unfold clipAt at h
      rcases List.mem_append.1 h with h | h
      · split at h
        · rename_i c
          exact .inl ⟨k, Nat.lt_succ_self _, by simpa using c, by simpa using h⟩
        · cases h
      · split at h
        · cases h
        · rename_i c
          exact .inr ⟨k, Nat.lt_succ_self _, by simpa using c, by simpa using h⟩
theorem clip_ok {xs : List Cx} {a b : Cx} (hx : ∀ z, z ∈ xs → okZ z) (ha : okZ a) (hb : okZ b) : ClipOk xs a b := by
  have hn : ∀ i, i < xs.length → okZ (cAt xs i) := fun i hi => hx _ (cAt_mem hi)
  have hw : ∀ i, i < xs.length → negB (sideF a b (cAt xs (pv xs.length i))) ≠ negB (sideF a b (cAt xs i)) → nN (minusF (cAt xs i) (cAt xs (pv xs.length i))) ∧ isN .f32 (fop .sub .f32 (sideF a b (cAt xs (pv xs.length i))) (sideF a b (cAt xs i))) = true ∧
    isN .f32 (tF (sideF a b (cAt xs (pv xs.length i))) (sideF a b (cAt xs i))) = true ∧ nN (scaleF (minusF (cAt xs i) (cAt xs (pv xs.length i))) (tF (sideF a b (cAt xs (pv xs.length i))) (sideF a b (cAt xs i)))) ∧
    nN (newF (cAt xs (pv xs.length i)) (cAt xs i) (sideF a b (cAt xs (pv xs.length i))) (sideF a b (cAt xs i))) := fun i hi hne => by
    have hp := hn _ (pv_lt hi)
    have hq := hn i hi
    obtain ⟨_, _, s1, s2, s3⟩ := side_ok ha hb hp
    obtain ⟨_, _, r1, r2, r3⟩ := side_ok ha hb hq
    obtain ⟨t1, t2, t3, t4, _⟩ := t_facts s1 r1 s2 s3 r2 r3 hne
    obtain ⟨u1, u2, u3, _⟩ := new_facts hp hq t2 t3 t4
    exact ⟨u1, t1.num, t2, u2, u3⟩
  exact ⟨(minus_okZ ha hb).1, fun i hi => by
    obtain ⟨s1, s2, _⟩ := side_ok ha hb (hn i hi)
    exact ⟨s1, s2⟩, hw, fun z hz => by
    rcases clipTo_mem _ hz with ⟨i, hi, hne, rfl⟩ | ⟨i, hi, _, rfl⟩
    · exact (hw i hi hne).2.2.2.2
    · exact (hn i hi).1⟩
end Go.Fl
