/- What is clipped to a box lies in the box, nearly. -/
import Derived.Test.YtkpjhoiaegioeaaHuG
namespace Go.Fl
open Ieee Go.RowKit
/-- how far z lies left of the line through a in direction D, times the length of D -/
def sR (a D z : Rp) : Rat := D.1 * (z.2 - a.2) - D.2 * (z.1 - a.1)
theorem sR_way (a D p q : Rp) (t : Rat) : sR a D (wayR p q t) = sR a D p + (sR a D q - sR a D p) * t := by unfold sR wayR; grind
theorem side_near {a b z : Cx} (ha : okZ a) (hb : okZ b) (hz : okZ z) {D : Rp} (hd : RP (minusF b a) = D) (hD : within D 4) : -(1 / 8192) ≤ R .f32 (sideF a b z) - sR (RP a) D (RP z) ∧ R .f32 (sideF a b z) - sR (RP a) D (RP z) ≤ 1 / 8192 := by
  obtain ⟨m1, _, _⟩ := minus_okZ ha hb
  obtain ⟨n1, ⟨n2, n3, n4, n5⟩, n6, n7, n8, n9⟩ := minus_okZ ha hz
  obtain ⟨D1, D2⟩ := D
  obtain ⟨d1, d2⟩ : R .f32 (minusF b a).1 = D1 ∧ R .f32 (minusF b a).2 = D2 := ⟨congrArg Prod.fst hd, congrArg Prod.snd hd⟩
  obtain ⟨w1, w2, w3, w4⟩ := hD
  have w1 : -4 ≤ D1 := w1
  have w2 : D1 ≤ 4 := w2
  have w3 : -4 ≤ D2 := w3
  have w4 : D2 ≤ 4 := w4
  obtain ⟨X, hX⟩ : ∃ X, X = R .f32 (minusF z a).1 := ⟨_, rfl⟩
  obtain ⟨Y, hY⟩ : ∃ Y, Y = R .f32 (minusF z a).2 := ⟨_, rfl⟩
  obtain ⟨x, hx⟩ : ∃ X, X = (RP z).1 - (RP a).1 := ⟨_, rfl⟩
  obtain ⟨y, hy⟩ : ∃ X, X = (RP z).2 - (RP a).2 := ⟨_, rfl⟩
  have n2 : -17 ≤ X := by rw [hX]; exact n2
  have n3 : X ≤ 17 := by rw [hX]; exact n3
  have n4 : -17 ≤ Y := by rw [hY]; exact n4
  have n5 : Y ≤ 17 := by rw [hY]; exact n5
  have n6 : -(1 / 524288) ≤ X - x := by rw [hX, hx]; exact n6
  have n7 : X - x ≤ 1 / 524288 := by rw [hX, hx]; exact n7
  have n8 : -(1 / 524288) ≤ Y - y := by rw [hY, hy]; exact n8
  have n9 : Y - y ≤ 1 / 524288 := by rw [hY, hy]; exact n9
  obtain ⟨p1, p2⟩ := mul_bd w1 w2 n4 n5
  obtain ⟨p3, p4⟩ := mul_bd w3 w4 n2 n3
  have h1 := rnd_mul m1.1 n1.2 (by rw [d1, ← hY]; grind) (by rw [d1, ← hY]; grind)
  have h2 := rnd_mul m1.2 n1.1 (by rw [d2, ← hX]; grind) (by rw [d2, ← hX]; grind)
  rw [d1, ← hY] at h1
  rw [d2, ← hX] at h2
  have e1 := h1.n32 7 (by decide) (B := 128) rfl (by grind) (by grind)
  have e2 := h2.n32 7 (by decide) (B := 128) rfl (by grind) (by grind)
  have h3 := rnd_sub h1.num h2.num (by grind) (by grind)
  have e3 := h3.n32 8 (by decide) (B := 256) rfl (by grind) (by grind)
  obtain ⟨c1, c2⟩ := mul_bd w1 w2 n8 n9
  obtain ⟨c3, c4⟩ := mul_bd w3 w4 n6 n7
  unfold sR
  rw [← hx, ← hy]
  show -(1 / 8192) ≤ R .f32 (fop .sub .f32 _ _) - (D1 * y - D2 * x) ∧ R .f32 (fop .sub .f32 _ _) - (D1 * y - D2 * x) ≤ 1 / 8192
  constructor <;> grind
theorem cross_near {g h : Nat} {P Q : Rat} (hg : isN .f32 g = true) (hh : isN .f32 h = true) (hp : -(1 / 8192) ≤ R .f32 g - P ∧ R .f32 g - P ≤ 1 / 8192) (hq : -(1 / 8192) ≤ R .f32 h - Q ∧ R .f32 h - Q ≤ 1 / 8192)
    (p1 : -140 ≤ P) (p2 : P ≤ 140) (q1 : -140 ≤ Q) (q2 : Q ≤ 140) (hne : negB g ≠ negB h) : -(1 / 2048) ≤ P + (Q - P) * R .f32 (tF g h) ∧ P + (Q - P) * R .f32 (tF g h) ≤ 1 / 2048 := by
  obtain ⟨t1, t2, t3, t4, t5, t6, t7, t8, t9⟩ := t_facts hg hh (by grind) (by grind) (by grind) (by grind) hne
  have e1 := t1.n32 9 (by decide) (B := 512) rfl (by grind) (by grind)
  obtain ⟨G, hG⟩ : ∃ G, G = R .f32 (fop .sub .f32 g h) := ⟨_, rfl⟩
  obtain ⟨t, ht⟩ : ∃ t, t = R .f32 (tF g h) := ⟨_, rfl⟩
  obtain ⟨q, hqq⟩ : ∃ q, q = R .f32 g / G := ⟨_, rfl⟩
  rw [← hG] at e1 t5 t6 t7 t8 t9
  rw [← hqq] at t6 t7 t8 t9
  rw [← ht] at t3 t4 t6 t7 ⊢
  have e : q * G = R .f32 g := by rw [hqq]; exact Rat.div_mul_cancel t5
  obtain ⟨b1, b2⟩ := mul_bd (x := G) (y := t - q) (B := 300) (C := 1 / 8388608) (by grind) (by grind) (by grind) (by grind)
  obtain ⟨b3, b4⟩ := mul_bd (x := G - (P - Q)) (y := t) (B := 1 / 2048 - 1 / 8192) (C := 1) (by grind) (by grind) (by grind) t4
  obtain ⟨b5, b6⟩ := mul_bd (x := G - (P - Q)) (y := t) (B := 1 / 4096 + 1 / 16384) (C := 1) (by grind) (by grind) (by grind) t4
  constructor <;> grind
/-- how far inside of side k -/
def inner (low high : Rp) : Nat → Rp → Rat
  | 0, z => z.2 - low.2
  | 1, z => high.1 - z.1
  | 2, z => high.2 - z.2
  | _, z => z.1 - low.1
theorem inner_way (low high p q : Rp) (t : Rat) : ∀ k, inner low high k (wayR p q t) = inner low high k p + (inner low high k q - inner low high k p) * t
  | 0 => by show p.2 + (q.2 - p.2) * t - low.2 = p.2 - low.2 + (q.2 - low.2 - (p.2 - low.2)) * t; grind
  | 1 => by show high.1 - (p.1 + (q.1 - p.1) * t) = high.1 - p.1 + (high.1 - q.1 - (high.1 - p.1)) * t; grind
  | 2 => by show high.2 - (p.2 + (q.2 - p.2) * t) = high.2 - p.2 + (high.2 - q.2 - (high.2 - p.2)) * t; grind
  | k + 3 => by show p.1 + (q.1 - p.1) * t - low.1 = p.1 - low.1 + (q.1 - low.1 - (p.1 - low.1)) * t; grind
theorem inner_near (low high : Rp) {p q : Rp} {η : Rat} (h : nearR p q η) : ∀ k, inner low high k q - η ≤ inner low high k p
  | 0 => by obtain ⟨h1, h2, h3, h4⟩ := h; show q.2 - low.2 - η ≤ p.2 - low.2; grind
  | 1 => by obtain ⟨h1, h2, h3, h4⟩ := h; show high.1 - q.1 - η ≤ high.1 - p.1; grind
  | 2 => by obtain ⟨h1, h2, h3, h4⟩ := h; show high.2 - q.2 - η ≤ high.2 - p.2; grind
  | k + 3 => by obtain ⟨h1, h2, h3, h4⟩ := h; show q.1 - low.1 - η ≤ p.1 - low.1; grind
theorem conv_ge {x y t c : Rat} (hx : c ≤ x) (hy : c ≤ y) (t0 : 0 ≤ t) (t1 : t ≤ 1) : c ≤ x + (y - x) * t := by
  have m1 := Rat.mul_nonneg (a := x - c) (b := 1 - t) (by grind) (by grind)
  have m2 := Rat.mul_nonneg (a := y - c) (b := t) (by grind) t0
  grind
/-- a side: what is left of it, as a number times how far inside -/
structure SideOf (low high : Rp) (a b : Cx) (D : Rp) (s : Rat) (k : Nat) : Prop where
  oa : okZ a
  ob : okZ b
  d : RP (minusF b a) = D
  dw : within D 4
  s1 : 1 / 2 ≤ s
  s2 : s ≤ 4
  eq : ∀ z, sR (RP a) D z = s * inner low high k z
theorem inner_bd {low high z : Rp} (hl : within low 8) (hh : within high 8) (hz : within z 8) : ∀ k, -16 ≤ inner low high k z ∧ inner low high k z ≤ 16 := by
  obtain ⟨a1, a2, a3, a4⟩ := hl
  obtain ⟨b1, b2, b3, b4⟩ := hh
  obtain ⟨c1, c2, c3, c4⟩ := hz
  intro k
  match k with
  | 0 => show -16 ≤ z.2 - low.2 ∧ z.2 - low.2 ≤ 16; constructor <;> grind
  | 1 => show -16 ≤ high.1 - z.1 ∧ high.1 - z.1 ≤ 16; constructor <;> grind
  | 2 => show -16 ≤ high.2 - z.2 ∧ high.2 - z.2 ≤ 16; constructor <;> grind
  | k + 3 => show -16 ≤ z.1 - low.1 ∧ z.1 - low.1 ≤ 16; constructor <;> grind
/-- one cut: all lies inside of the side, nearly; what was inside of another one stays so, nearly -/
theorem clip_in {low high : Rp} {xs : List Cx} {a b : Cx} {D : Rp} {s B : Rat} {k : Nat} (hl : within low 8) (hh : within high 8) (hS : SideOf low high a b D s k) (hx : ∀ z, z ∈ xs → nN z ∧ within (RP z) B) (hB : B ≤ 7) :
    ∀ z, z ∈ clipTo xs a b xs.length → nN z ∧ within (RP z) (B + 1 / 65536) ∧ -(1 / 1000) ≤ inner low high k (RP z) ∧ ∀ j c, (∀ y, y ∈ xs → c ≤ inner low high j (RP y)) → c - 1 / 65536 ≤ inner low high j (RP z) := fun z hz => by
  have ok : ∀ y, y ∈ xs → okZ y := fun y hy => ⟨(hx y hy).1, (hx y hy).2.mono (by grind)⟩
  have s0 := hS.s1
  have s4 := hS.s2
  have sn : ∀ y, y ∈ xs → isN .f32 (sideF a b y) = true ∧ -(1 / 8192) ≤ R .f32 (sideF a b y) - s * inner low high k (RP y) ∧ R .f32 (sideF a b y) - s * inner low high k (RP y) ≤ 1 / 8192 := fun y hy => by
    have := side_near hS.oa hS.ob (ok y hy) hS.d hS.dw
    rw [hS.eq] at this
    exact ⟨(side_ok hS.oa hS.ob (ok y hy)).2.2.1, this⟩
  have bd : ∀ y, y ∈ xs → -140 ≤ s * inner low high k (RP y) ∧ s * inner low high k (RP y) ≤ 140 := fun y hy => by
    obtain ⟨h1, h2⟩ := inner_bd hl hh (ok y hy).2 k
    obtain ⟨h3, h4⟩ := mul_bd (x := s) (B := 4) (by grind) s4 h1 h2
    constructor <;> grind
  rcases clipTo_mem _ hz with ⟨i, hi, hne, rfl⟩ | ⟨i, hi, hng, rfl⟩
  · have mp := cAt_mem (xs := xs) (pv_lt hi)
    have mq := cAt_mem (xs := xs) hi
    obtain ⟨g1, g2⟩ := sn _ mp
    obtain ⟨h1, h2⟩ := sn _ mq
    obtain ⟨_, _, _, s5, s6⟩ := side_ok hS.oa hS.ob (ok _ mp)
    obtain ⟨_, _, _, s7, s8⟩ := side_ok hS.oa hS.ob (ok _ mq)
    obtain ⟨_, t2, t3, t4, _⟩ := t_facts g1 h1 s5 s6 s7 s8 hne
    obtain ⟨_, _, n3, n4⟩ := new_facts (ok _ mp) (ok _ mq) t2 t3 t4
    have c := cross_near g1 h1 g2 h2 (bd _ mp).1 (bd _ mp).2 (bd _ mq).1 (bd _ mq).2 hne
    have w := way_within (hx _ mp).2 (hx _ mq).2 t3 t4
    refine ⟨n3, near_within n4 w, ?_, fun j cc hc => ?_⟩
    · have h9 := inner_near low high n4 k
      rw [inner_way] at h9
      obtain ⟨u, hu⟩ : ∃ u, u = inner low high k (RP (cAt xs (pv xs.length i))) + (inner low high k (RP (cAt xs i)) - inner low high k (RP (cAt xs (pv xs.length i)))) * R .f32 (tF (sideF a b (cAt xs (pv xs.length i))) (sideF a b (cAt xs i))) := ⟨_, rfl⟩
      have h8 : -(1 / 2048) ≤ s * u := by rw [hu]; grind
      have h7 : -(1 / 1024) ≤ u := by
        rcases Rat.le_total (a := -(1 / 1024)) (b := u) with h | h
        · exact h
        · have := Rat.mul_nonneg (a := s - 1 / 2) (b := -(1 / 1024) - u) (by grind) (by grind)
          grind
      rw [← hu] at h9
      grind
    · have h9 := inner_near low high n4 j
      rw [inner_way] at h9
      have := conv_ge (hc _ mp) (hc _ mq) t3 t4
      grind
  · have mq := cAt_mem (xs := xs) hi
    obtain ⟨g1, g2⟩ := sn _ mq
    rw [negB_R g1] at hng
    have h0 : ¬ R .f32 (sideF a b (cAt xs i)) < 0 := of_decide_eq_false hng
    refine ⟨(hx _ mq).1, (hx _ mq).2.mono (by grind), ?_, fun j cc hc => by have := hc _ mq; grind⟩
    obtain ⟨u, hu⟩ : ∃ u, u = inner low high k (RP (cAt xs i)) := ⟨_, rfl⟩
    rw [← hu] at g2 ⊢
    rcases Rat.le_total (a := -(1 / 1000)) (b := u) with h | h
    · exact h
    · have := Rat.mul_nonneg (a := s - 1 / 2) (b := -(1 / 1000) - u) (by grind) (by grind)
      grind
/-- low and high, exact to halves -/
structure BoxOk (low high : Cx) : Prop where
  ol : okZ low
  oh : okZ high
  d : ∀ k, k < 4 → ∃ D s, SideOf (RP low) (RP high) (boxC low high k) (boxC low high (k + 1)) D s k
theorem half_R {x : Nat} {k : Int} (h : Q .f32 x k 1) : R .f32 x = (k : Rat) / 2 := by rw [h.R]; rfl
theorem PX.okZ {z : Cx} {p : Zp} (h : PX z p 1) (hl : Go.Fl.low p 10) : Go.Fl.okZ z ∧ within (RP z) 5 := by
  have key : ∀ {x : Nat} {k : Int}, Q .f32 x k 1 → k.natAbs ≤ 10 → -5 ≤ R .f32 x ∧ R .f32 x ≤ 5 := fun {x k} hq hk => by
    rw [half_R hq]
    have h1 : ((-10 : Int) : Rat) ≤ (k : Rat) := Rat.intCast_le_intCast.2 (by omega)
    have h2 : (k : Rat) ≤ ((10 : Int) : Rat) := Rat.intCast_le_intCast.2 (by omega)
    have h1 : (-10 : Rat) ≤ (k : Rat) := h1
    have h2 : (k : Rat) ≤ 10 := h2
    constructor <;> grind
  obtain ⟨a1, a2⟩ := key h.1 hl.1
  obtain ⟨b1, b2⟩ := key h.2 hl.2
  have w : within (RP z) 5 := ⟨a1, a2, b1, b2⟩
  exact ⟨⟨⟨h.1.num, h.2.num⟩, w.mono (by grind)⟩, w⟩
theorem PX.RP {z : Cx} {p : Zp} (h : PX z p 1) : Go.Fl.RP z = ((p.1 : Rat) / 2, (p.2 : Rat) / 2) := rext (half_R h.1) (half_R h.2)
theorem box_ok {lo hi : Cx} {p q : Zp} (hp : PX lo p 1) (hq : PX hi q 1) (bp : Go.Fl.low p 10) (bq : Go.Fl.low q 10) (h1 : p.1 < q.1) (h2 : q.1 ≤ p.1 + 8) (h3 : p.2 < q.2) (h4 : q.2 ≤ p.2 + 8) : BoxOk lo hi := by
  have l4 : ∀ {p : Zp}, Go.Fl.low p 10 → Go.Fl.low p 4194304 := fun h => h.mono (by decide)
  have pa : PX (hi.1, lo.2) (q.1, p.2) 1 := ⟨hq.1, hp.2⟩
  have pb : PX (lo.1, hi.2) (p.1, q.2) 1 := ⟨hp.1, hq.2⟩
  have ba : Go.Fl.low (q.1, p.2) 10 := ⟨bq.1, bp.2⟩
  have bb : Go.Fl.low (p.1, q.2) 10 := ⟨bp.1, bq.2⟩
  have el := hp.RP
  have eh := hq.RP
  have ea := pa.RP
  have eb := pb.RP
  have dR : ∀ {a b : Cx} {x y : Zp}, PX a x 1 → PX b y 1 → Go.Fl.low x 10 → Go.Fl.low y 10 → RP (minusF b a) = (((y.1 : Rat) - (x.1 : Rat)) / 2, ((y.2 : Rat) - (x.2 : Rat)) / 2) := fun {a b x y} ha hb la lb => by
    rw [(hb.minus ha (l4 lb) (l4 la)).RP]
    show (((y.1 - x.1 : Int) : Rat) / 2, ((y.2 - x.2 : Int) : Rat) / 2) = _
    rw [Rat.intCast_sub, Rat.intCast_sub]
  have c1 : (p.1 : Rat) + 1 ≤ (q.1 : Rat) := by
    have : ((p.1 + 1 : Int) : Rat) ≤ (q.1 : Rat) := Rat.intCast_le_intCast.2 (by omega)
    rw [Rat.intCast_add] at this; exact this
  have c2 : (q.1 : Rat) ≤ (p.1 : Rat) + 8 := by
    have : (q.1 : Rat) ≤ ((p.1 + 8 : Int) : Rat) := Rat.intCast_le_intCast.2 (by omega)
    rw [Rat.intCast_add] at this; exact this
  have c3 : (p.2 : Rat) + 1 ≤ (q.2 : Rat) := by
    have : ((p.2 + 1 : Int) : Rat) ≤ (q.2 : Rat) := Rat.intCast_le_intCast.2 (by omega)
    rw [Rat.intCast_add] at this; exact this
  have c4 : (q.2 : Rat) ≤ (p.2 : Rat) + 8 := by
    have : (q.2 : Rat) ≤ ((p.2 + 8 : Int) : Rat) := Rat.intCast_le_intCast.2 (by omega)
    rw [Rat.intCast_add] at this; exact this
  obtain ⟨ol, wl⟩ := hp.okZ bp
  obtain ⟨oh, wh⟩ := hq.okZ bq
  obtain ⟨oa, wa⟩ := pa.okZ ba
  obtain ⟨ob, wb⟩ := pb.okZ bb
  refine ⟨ol, oh, fun k hk => ?_⟩
  match k, hk with
  | 0, _ =>
    refine ⟨_, ((q.1 : Rat) - p.1) / 2, ol, oa, dR hp pa bp ba, ⟨?_, ?_, ?_, ?_⟩, by grind, by grind, fun z => ?_⟩
    · show -4 ≤ ((q.1 : Rat) - p.1) / 2; grind
    · show ((q.1 : Rat) - p.1) / 2 ≤ 4; grind
    · show -4 ≤ ((p.2 : Rat) - p.2) / 2; grind
    · show ((p.2 : Rat) - p.2) / 2 ≤ 4; grind
    · show ((q.1 : Rat) - p.1) / 2 * (z.2 - (RP lo).2) - ((p.2 : Rat) - p.2) / 2 * (z.1 - (RP lo).1) = ((q.1 : Rat) - p.1) / 2 * (z.2 - (RP lo).2); grind
  | 1, _ =>
    refine ⟨_, ((q.2 : Rat) - p.2) / 2, oa, oh, dR pa hq ba bq, ⟨?_, ?_, ?_, ?_⟩, by grind, by grind, fun z => ?_⟩
    · show -4 ≤ ((q.1 : Rat) - q.1) / 2; grind
    · show ((q.1 : Rat) - q.1) / 2 ≤ 4; grind
    · show -4 ≤ ((q.2 : Rat) - p.2) / 2; grind
    · show ((q.2 : Rat) - p.2) / 2 ≤ 4; grind
    · show ((q.1 : Rat) - q.1) / 2 * (z.2 - (RP (hi.1, lo.2)).2) - ((q.2 : Rat) - p.2) / 2 * (z.1 - (RP hi).1) = ((q.2 : Rat) - p.2) / 2 * ((RP hi).1 - z.1); grind
  | 2, _ =>
    refine ⟨_, ((q.1 : Rat) - p.1) / 2, oh, ob, dR hq pb bq bb, ⟨?_, ?_, ?_, ?_⟩, by grind, by grind, fun z => ?_⟩
    · show -4 ≤ ((p.1 : Rat) - q.1) / 2; grind
    · show ((p.1 : Rat) - q.1) / 2 ≤ 4; grind
    · show -4 ≤ ((q.2 : Rat) - q.2) / 2; grind
    · show ((q.2 : Rat) - q.2) / 2 ≤ 4; grind
    · show ((p.1 : Rat) - q.1) / 2 * (z.2 - (RP hi).2) - ((q.2 : Rat) - q.2) / 2 * (z.1 - (RP hi).1) = ((q.1 : Rat) - p.1) / 2 * ((RP hi).2 - z.2); grind
  | 3, _ =>
    refine ⟨_, ((q.2 : Rat) - p.2) / 2, ob, ol, dR pb hp bb bp, ⟨?_, ?_, ?_, ?_⟩, by grind, by grind, fun z => ?_⟩
    · show -4 ≤ ((p.1 : Rat) - p.1) / 2; grind
    · show ((p.1 : Rat) - p.1) / 2 ≤ 4; grind
    · show -4 ≤ ((p.2 : Rat) - q.2) / 2; grind
    · show ((p.2 : Rat) - q.2) / 2 ≤ 4; grind
    · show ((p.1 : Rat) - p.1) / 2 * (z.2 - (RP (lo.1, hi.2)).2) - ((p.2 : Rat) - q.2) / 2 * (z.1 - (RP lo).1) = ((q.2 : Rat) - p.2) / 2 * (z.1 - (RP lo).1); grind
/-- after k sides -/
theorem box_in {low high : Cx} {xs : List Cx} (hb : BoxOk low high) (hx : ∀ z, z ∈ xs → nN z ∧ within (RP z) 5) : ∀ k, k ≤ 4 → ∀ z, z ∈ boxTo xs low high k → nN z ∧ within (RP z) (5 + (((k : Nat) : Int) : Rat) / 65536) ∧ ∀ j, j < k → -(1 / 1000) - (((k : Nat) : Int) : Rat) / 65536 ≤ inner (RP low) (RP high) j (RP z)
  | 0, _, z, hz => by
    obtain ⟨h1, h2⟩ := hx z hz
    exact ⟨h1, h2.mono (by have : (((0 : Nat) : Int) : Rat) = 0 := rfl
                           rw [this]; grind), fun j hj => absurd hj (Nat.not_lt_zero _)⟩
  | k + 1, hk, z, hz => by
    have ih := box_in hb hx k (by omega)
    obtain ⟨D, s, hS⟩ := hb.d k (by omega)
    have e : (((k + 1 : Nat) : Int) : Rat) = (((k : Nat) : Int) : Rat) + 1 := by rw [Int.natCast_add, Rat.intCast_add]; rfl
    have k0 : (0 : Rat) ≤ (((k : Nat) : Int) : Rat) := Rat.intCast_nonneg.2 (Int.natCast_nonneg _)
    have k4 : (((k : Nat) : Int) : Rat) ≤ 4 := by
      have : (((k : Nat) : Int) : Rat) ≤ ((4 : Int) : Rat) := Rat.intCast_le_intCast.2 (by omega)
      exact this
    obtain ⟨K, hK⟩ : ∃ K, K = (((k : Nat) : Int) : Rat) := ⟨_, rfl⟩
    rw [← hK] at e k0 k4
    rw [e]
    have hc := clip_in hb.ol.2 hb.oh.2 hS (B := 5 + K / 65536) (fun y hy => by
      obtain ⟨h1, h2, _⟩ := ih y hy
      rw [← hK] at h2
      exact ⟨h1, h2⟩) (by grind) z hz
    obtain ⟨h1, h2, h3, h4⟩ := hc
    refine ⟨h1, h2.mono (by grind), fun j hj => ?_⟩
    by_cases hjk : j = k
    · subst hjk; grind
    · have h5 := h4 j (-(1 / 1000) - K / 65536) (fun y hy => by
        have := (ih y hy).2.2 j (by omega)
        rw [← hK] at this
        exact this)
      grind
/-- every number that is made on the way through a box is one -/
theorem box_clip_ok {low high : Cx} {xs : List Cx} (hb : BoxOk low high) (hx : ∀ z, z ∈ xs → nN z ∧ within (RP z) 5) (k : Nat) (hk : k < 4) : ClipOk (boxTo xs low high k) (boxC low high k) (boxC low high (k + 1)) := by
  obtain ⟨D, s, hS⟩ := hb.d k hk
  refine clip_ok (fun z hz => ?_) hS.oa hS.ob
  obtain ⟨h1, h2, _⟩ := box_in hb hx k (by omega) z hz
  have k4 : (((k : Nat) : Int) : Rat) ≤ ((4 : Int) : Rat) := Rat.intCast_le_intCast.2 (by omega)
  have k4' : (((k : Nat) : Int) : Rat) ≤ 4 := k4
  exact ⟨h1, h2.mono (by grind)⟩
end Go.Fl
