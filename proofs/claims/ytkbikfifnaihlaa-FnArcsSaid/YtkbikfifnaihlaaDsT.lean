/- Dashes: the sums of the law's test, in 64 bits. Plain Lean. -/
import Derived.Test.YtkbikfifnaihlaaDsS
namespace Go.Fl
open Ieee Go.RowKit
theorem R_ge {K : FloatKind} {x : Nat} {a b : Int} (hb : 0 < b) (h : a * ((2 ^ LP K : Nat) : Int) ≤ V K x * b) : (a : Rat) / (b : Rat) ≤ R K x := by
  have hbp : (0 : Rat) < (b : Rat) := Rat.intCast_pos.2 hb
  rw [← le_mulR hbp, Rat.div_mul_cancel (Rat.ne_of_gt hbp), ← le_mulR (uR_pos K)]
  have h1 : ((a * ((2 ^ LP K : Nat) : Int) : Int) : Rat) ≤ ((V K x * b : Int) : Rat) := Rat.intCast_le_intCast.2 h
  rw [Rat.intCast_mul, Rat.intCast_mul, ← R_mul] at h1
  have e : R K x * (b : Rat) * uR K = R K x * uR K * (b : Rat) := by grind
  rw [e]
  exact h1
theorem R_le_of {K : FloatKind} {x : Nat} {a b : Int} (hb : 0 < b) (h : V K x * b ≤ a * ((2 ^ LP K : Nat) : Int)) : R K x ≤ (a : Rat) / (b : Rat) := by
  have hbp : (0 : Rat) < (b : Rat) := Rat.intCast_pos.2 hb
  rw [← le_mulR hbp, Rat.div_mul_cancel (Rat.ne_of_gt hbp), ← le_mulR (uR_pos K)]
  have h1 : ((V K x * b : Int) : Rat) ≤ ((a * ((2 ^ LP K : Nat) : Int) : Int) : Rat) := Rat.intCast_le_intCast.2 h
  rw [Rat.intCast_mul, Rat.intCast_mul, ← R_mul] at h1
  have e : R K x * (b : Rat) * uR K = R K x * uR K * (b : Rat) := by grind
  rw [e]
  exact h1
theorem centi64 : isN .f64 4576918229304087675 = true ∧ 9 / 1000 ≤ R .f64 4576918229304087675 ∧ R .f64 4576918229304087675 ≤ 11 / 1000 := by
  refine ⟨by decide +kernel, ?_, ?_⟩
  · have := R_ge (K := .f64) (x := 4576918229304087675) (a := 9) (b := 1000) (by decide) (by decide +kernel)
    exact this
  · have := R_le_of (K := .f64) (x := 4576918229304087675) (a := 11) (b := 1000) (by decide) (by decide +kernel)
    exact this
theorem Q.self {K : FloatKind} {x : Nat} (h : isN K x = true) : Q K x (V K x) (LP K) := ⟨h, by rw [Nat.sub_self]; simp, Nat.le_refl _⟩
theorem ord_V {K : FloatKind} {x y : Nat} (hx : isN K x = true) (hy : isN K y = true) : K.format.order x y = some (compare (V K x) (V K y)) := (Q.self hx).order (Q.self hy)
def gapF (a b : Nat) : Nat := if R .f64 a < R .f64 b then fop .sub .f64 b a else fop .sub .f64 a b
theorem ord_R64 {x y : Nat} (hx : isN .f64 x = true) (hy : isN .f64 y = true) : (FloatKind.f64.format.order x y == some .lt) = decide (R .f64 x < R .f64 y) := by
  rw [ord_V hx hy]
  cases h : compare (V .f64 x) (V .f64 y)
  · rw [Int.compare_eq_lt] at h; simp [R_lt, h]
  · rw [Int.compare_eq_eq] at h; simp [R_lt, h]
  · rw [Int.compare_eq_gt] at h; simp [R_lt]; omega
theorem ord_G64 {x y : Nat} (hx : isN .f64 x = true) (hy : isN .f64 y = true) : (FloatKind.f64.format.order x y == some .gt) = decide (R .f64 y < R .f64 x) := by
  rw [ord_V hx hy]
  cases h : compare (V .f64 x) (V .f64 y)
  · rw [Int.compare_eq_lt] at h; simp [R_lt]; omega
  · rw [Int.compare_eq_eq] at h; simp [R_lt, h]
  · rw [Int.compare_eq_gt] at h; simp [R_lt, h]
theorem gap_facts {a b : Nat} (ha : isN .f64 a = true) (hb : isN .f64 b = true) (a1 : -10000 ≤ R .f64 a) (a2 : R .f64 a ≤ 10000) (b1 : -10000 ≤ R .f64 b) (b2 : R .f64 b ≤ 10000) :
    isN .f64 (gapF a b) = true ∧ (∀ c : Rat, -c ≤ R .f64 a - R .f64 b → R .f64 a - R .f64 b ≤ c → R .f64 (gapF a b) ≤ c + 1 / 1000000) ∧ isN .f64 (if R .f64 a < R .f64 b then fop .sub .f64 b a else fop .sub .f64 a b) = true := by
  unfold gapF
  split
  · have h := rnd_sub hb ha (by grind) (by grind)
    have f := h.n64 15 (by decide) (B := 32768) rfl (by grind) (by grind)
    exact ⟨h.num, fun c h1 h2 => by grind, h.num⟩
  · have h := rnd_sub ha hb (by grind) (by grind)
    have f := h.n64 15 (by decide) (B := 32768) rfl (by grind) (by grind)
    exact ⟨h.num, fun c h1 h2 => by grind, h.num⟩
theorem five64 : isN .f64 4587366580439587226 = true ∧ 49 / 1000 ≤ R .f64 4587366580439587226 := by
  refine ⟨by decide +kernel, ?_⟩
  have := R_ge (K := .f64) (x := 4587366580439587226) (a := 49) (b := 1000) (by decide) (by decide +kernel)
  exact this
/-- the smaller of two numbers, as the program takes it -/
def minF (x y : Nat) : Nat := match FloatKind.f64.format.order x y with
  | none => 0
  | some .lt => x
  | some .gt => y
  | some .eq => if (FloatKind.f64.decode x).neg then x else y
theorem minF_facts {x y : Nat} (hx : isN .f64 x = true) (hy : isN .f64 y = true) : isN .f64 (minF x y) = true ∧ R .f64 (minF x y) ≤ R .f64 x ∧ R .f64 (minF x y) ≤ R .f64 y ∧ (R .f64 (minF x y) = R .f64 x ∨ R .f64 (minF x y) = R .f64 y) := by
  have h := ord_V hx hy
  unfold minF
  rw [h]
  cases hc : compare (V .f64 x) (V .f64 y)
  · have h1 : V .f64 x < V .f64 y := Int.compare_eq_lt.1 hc
    exact ⟨hx, Rat.le_refl, R_le.2 (by show V .f64 x ≤ V .f64 y; omega), .inl rfl⟩
  · have h1 : V .f64 x = V .f64 y := Int.compare_eq_eq.1 hc
    have e : R .f64 x = R .f64 y := R_eq.2 h1
    simp only
    split
    · exact ⟨hx, Rat.le_refl, by rw [e]; exact Rat.le_refl, .inl rfl⟩
    · exact ⟨hy, by rw [e]; exact Rat.le_refl, Rat.le_refl, .inr rfl⟩
  · have h1 : V .f64 y < V .f64 x := Int.compare_eq_gt.1 hc
    exact ⟨hy, R_le.2 (by show V .f64 y ≤ V .f64 x; omega), Rat.le_refl, .inr rfl⟩
theorem run_minF {P : Program} {x y : Nat} (hx : isN .f64 x = true) (hy : isN .f64 y = true) (ts : Array TypeId) (t : TypeId) (w : World) : (Builtin.min_ ts t #[.float .f64 x, .float .f64 y]).run P w = .ok (.float .f64 (minF x y)) w := by
  have h := ord_V hx hy
  unfold minF
  rw [h]
  cases hc : compare (V .f64 x) (V .f64 y) <;> simp [Builtin.min_, Builtin.min2, h, hc]
/-- how long a list of points is, in 64 bits -/
def dsumF (d : List Cx) : Nat → Nat
  | 0 => 0
  | k + 1 => fop .add .f64 (dsumF d k) (fcv .f32 .f64 (longF (minusF (cAt d (k + 1)) (cAt d k))))
theorem dsum_facts {d : List Cx} {a : Nat → Rat} (h : Chain d a) (hd : d.length ≤ 8) : ∀ k, k < d.length → isN .f64 (dsumF d k) = true ∧ -(qN k / 3900) ≤ R .f64 (dsumF d k) - (a k - a 0) ∧ R .f64 (dsumF d k) - (a k - a 0) ≤ qN k / 3900 ∧ 0 ≤ R .f64 (dsumF d k) ∧ R .f64 (dsumF d k) ≤ 4 * qN k
  | 0, _ => by
    have z := zero64_N.2
    rw [qN0]
    refine ⟨zero64_N.1, ?_, ?_, ?_, ?_⟩
    · show _ ≤ R .f64 0 - _; rw [z]; grind
    · show R .f64 0 - _ ≤ _; rw [z]; grind
    · show _ ≤ R .f64 0; rw [z]; exact Rat.le_refl
    · show R .f64 0 ≤ _; rw [z]; grind
  | k + 1, hk => by
    obtain ⟨i1, i2, i3, i4, i5⟩ := dsum_facts h hd k (by omega)
    have hp := h.piece k hk
    have b1 := hp.lo
    have b2 := hp.hi
    have b3 := hp.b0
    have b4 := hp.b1
    have b5 := hp.ln.nn
    obtain ⟨n, e⟩ := wide hp.ln.num (by grind) (by grind)
    have k8 := qN_le (show k ≤ 8 by omega)
    have k0 := qN_nn k
    have e8 : qN 8 = 8 := rfl
    rw [e8] at k8
    have q := rnd_add i1 n (by rw [e]; grind) (by rw [e]; grind)
    rw [e] at q
    have f := q.n64 6 (by decide) (B := 64) rfl (by grind) (by grind)
    have nn := q.nn64 (by grind)
    rw [qN_succ]
    refine ⟨q.num, ?_, ?_, nn, ?_⟩
    · show _ ≤ R .f64 (fop .add .f64 _ _) - _; grind
    · show R .f64 (fop .add .f64 _ _) - _ ≤ _; grind
    · show R .f64 (fop .add .f64 _ _) ≤ _; grind
section
variable {xs : List Cx} {on off : Rat}
theorem total_facts (C : Ctx xs on off) : ∀ k, k < xs.length → isN .f64 (dsumF xs k) = true ∧ -(qN k / 1000000000) ≤ R .f64 (dsumF xs k) - Sq xs k ∧ R .f64 (dsumF xs k) - Sq xs k ≤ qN k / 1000000000
  | 0, _ => by
    have z := zero64_N.2
    rw [qN0]
    refine ⟨zero64_N.1, ?_, ?_⟩
    · show _ ≤ R .f64 0 - 0; rw [z]; grind
    · show R .f64 0 - 0 ≤ _; rw [z]; grind
  | k + 1, hk => by
    obtain ⟨i1, i2, i3⟩ := total_facts C k (by omega)
    have hs := (C.seg k hk).len
    have hl := C.lq hk
    obtain ⟨s0, s1⟩ := C.sq k (by omega)
    have hn := C.n2
    have k8 := qN_le (show k ≤ 6 by omega)
    have k0 := qN_nn k
    have e8 : qN 6 = 6 := rfl
    rw [e8] at k8
    have hlq : R .f32 (longF (minusF (cAt xs (k + 1)) (cAt xs k))) = Lq xs k := rfl
    obtain ⟨n, e⟩ := wide hs.ln.num (by rw [hlq]; grind) (by rw [hlq]; grind)
    rw [hlq] at e
    have q := rnd_add i1 n (by rw [e]; grind) (by rw [e]; grind)
    rw [e] at q
    have f := q.n64 6 (by decide) (B := 64) rfl (by grind) (by grind)
    have e1 : Sq xs (k + 1) = Sq xs k + Lq xs k := rfl
    rw [qN_succ, e1]
    refine ⟨q.num, ?_, ?_⟩
    · show _ ≤ R .f64 (fop .add .f64 _ _) - _; grind
    · show R .f64 (fop .add .f64 _ _) - _ ≤ _; grind
/-- how much of dash k there is -/
def fq (S on T : Rat) (k : Nat) : Rat := if S ≤ qN k * T then 0 else if S - qN k * T ≤ on then S - qN k * T else on
def FQ (S on T : Rat) : Nat → Rat
  | 0 => 0
  | k + 1 => FQ S on T k + fq S on T k
theorem fq_nn {S on T : Rat} (ho : 0 ≤ on) (k : Nat) : 0 ≤ fq S on T k := by
  unfold fq
  split
  · exact Rat.le_refl
  · split
    · grind
    · exact ho
theorem fq_low {S on T e : Rat} {k : Nat} (he : 0 ≤ e) (h : S ≤ qN k * T + e) : fq S on T k ≤ e := by
  unfold fq
  split
  · exact he
  · split <;> grind
theorem FQ_more {S on T e : Rat} (ho : 0 ≤ on) (a : Nat) (h : ∀ k, a ≤ k → fq S on T k ≤ e) : ∀ m, FQ S on T a ≤ FQ S on T (a + m) ∧ FQ S on T (a + m) ≤ FQ S on T a + qN m * e
  | 0 => by rw [qN0]; exact ⟨Rat.le_refl, by show FQ S on T a ≤ _; grind⟩
  | m + 1 => by
    have i := FQ_more ho a h m
    have := fq_nn (S := S) (T := T) ho (a + m)
    have := h (a + m) (by omega)
    rw [qN_succ]
    exact ⟨by show _ ≤ FQ S on T (a + m) + fq S on T (a + m); grind, by show FQ S on T (a + m) + fq S on T (a + m) ≤ _; grind⟩
theorem Bq_even (k : Nat) : Bq on off (2 * k) = qN k * (on + off) ∧ Bq on off (2 * k + 1) = qN k * (on + off) + on := by
  have h : Bq on off (2 * k) = qN k * (on + off) := by
    induction k with
    | zero => rw [qN0]; show (0 : Rat) = _; grind
    | succ k ih =>
      have e1 : Bq on off (2 * (k + 1)) = Bq on off (2 * k) + patQ on off (2 * k) + patQ on off (2 * k + 1) := rfl
      rw [e1, ih, qN_succ]
      unfold patQ
      rw [if_pos (by omega), if_neg (by omega)]
      grind
  refine ⟨h, ?_⟩
  have e1 : Bq on off (2 * k + 1) = Bq on off (2 * k) + patQ on off (2 * k) := rfl
  rw [e1, h]
  unfold patQ
  rw [if_pos (by omega)]
/-- a dash's length in 64 bits -/
def dlenF (ls : List (List Cx)) (k : Nat) : Nat := dsumF (lpAt ls k) ((lpAt ls k).length - 1)
def sumD (ls : List (List Cx)) : Nat → Nat
  | 0 => 0
  | k + 1 => fop .add .f64 (sumD ls k) (dlenF ls k)
theorem dash_len (C : Ctx xs on off) {ls : List (List Cx)} (h : GoodD xs on off ls) {k : Nat} (hk : k < ls.length) :
    isN .f64 (dlenF ls k) = true ∧ R .f64 (dlenF ls k) ≤ on + 18 / 10000 ∧ (k + 1 < ls.length → on - 18 / 10000 ≤ R .f64 (dlenF ls k)) ∧ 0 ≤ R .f64 (dlenF ls k) ∧
      -(19 / 10000) ≤ R .f64 (dlenF ls k) - fq (Sq xs (xs.length - 1)) on (on + off) k ∧ R .f64 (dlenF ls k) - fq (Sq xs (xs.length - 1)) on (on + off) k ≤ 19 / 10000 := by
  obtain ⟨a, h1, h2, h3, h4, h5, h6, h7, h8⟩ := h.dash k hk
  obtain ⟨i1, i2, i3, i4, i5⟩ := dsum_facts h1 (by omega) ((lpAt ls k).length - 1) (by omega)
  obtain ⟨e1, e2⟩ := Bq_even (on := on) (off := off) k
  have q6 := qN_le (show (lpAt ls k).length - 1 ≤ 6 by omega)
  have e6 : qN 6 = 6 := rfl
  rw [e6] at q6
  rw [e1] at h4
  rw [e2] at h6 h7
  obtain ⟨b, hb⟩ : ∃ b, b = a ((lpAt ls k).length - 1) := ⟨_, rfl⟩
  obtain ⟨S, hS⟩ : ∃ S, S = Sq xs (xs.length - 1) := ⟨_, rfl⟩
  rw [← hb] at i2 i3 h5 h6 h7
  rw [← hS] at h5 h7 ⊢
  have o1 := C.o1
  obtain ⟨X, hX⟩ : ∃ X, X = R .f64 (dlenF ls k) := ⟨_, rfl⟩
  have i2 : -(qN ((lpAt ls k).length - 1) / 3900) ≤ X - (b - a 0) := by rw [hX]; exact i2
  have i3 : X - (b - a 0) ≤ qN ((lpAt ls k).length - 1) / 3900 := by rw [hX]; exact i3
  have i4 : 0 ≤ X := by rw [hX]; exact i4
  rw [← hX]
  refine ⟨i1, by grind, fun hk2 => ?_, i4, ?_, ?_⟩
  · rcases h7 with h7 | ⟨h7, _⟩
    · grind
    · omega
  · unfold fq
    split
    · grind
    · split <;> rcases h7 with h7 | ⟨_, h7⟩ <;> grind
  · unfold fq
    split
    · grind
    · split <;> rcases h7 with h7 | ⟨_, h7⟩ <;> grind
theorem sumD_facts (C : Ctx xs on off) {ls : List (List Cx)} (h : GoodD xs on off ls) : ∀ k, k ≤ ls.length → isN .f64 (sumD ls k) = true ∧ -(qN k * (2 / 1000)) ≤ R .f64 (sumD ls k) - FQ (Sq xs (xs.length - 1)) on (on + off) k ∧ R .f64 (sumD ls k) - FQ (Sq xs (xs.length - 1)) on (on + off) k ≤ qN k * (2 / 1000) ∧ 0 ≤ R .f64 (sumD ls k) ∧ R .f64 (sumD ls k) ≤ 3 * qN k
  | 0, _ => by
    have z := zero64_N.2
    rw [qN0]
    refine ⟨zero64_N.1, ?_, ?_, ?_, ?_⟩
    · show _ ≤ R .f64 0 - 0; rw [z]; grind
    · show R .f64 0 - 0 ≤ _; rw [z]; grind
    · show _ ≤ R .f64 0; rw [z]; exact Rat.le_refl
    · show R .f64 0 ≤ _; rw [z]; grind
  | k + 1, hk => by
    obtain ⟨i1, i2, i3, i4, i5⟩ := sumD_facts C h k (by omega)
    obtain ⟨d1, d2, d3, d4, d5, d6⟩ := dash_len C h (k := k) (by omega)
    have hn := h.l2
    have q6 := qN_le (show k ≤ 15 by omega)
    have q0 := qN_nn k
    have e6 : qN 15 = 15 := rfl
    rw [e6] at q6
    have o2 := C.o2
    have q := rnd_add i1 d1 (by grind) (by grind)
    have f := q.n64 6 (by decide) (B := 64) rfl (by grind) (by grind)
    have nn := q.nn64 (by grind)
    rw [qN_succ]
    refine ⟨q.num, ?_, ?_, nn, ?_⟩
    · show _ ≤ R .f64 (fop .add .f64 _ _) - (FQ _ on _ k + fq _ on _ k); grind
    · show R .f64 (fop .add .f64 _ _) - (FQ _ on _ k + fq _ on _ k) ≤ _; grind
    · show R .f64 (fop .add .f64 _ _) ≤ _; grind
/-- the law's places of dashes, and what it wants -/
def atF (p t : Nat) : Nat → Nat
  | 0 => 0
  | k + 1 => fop .add .f64 (atF p t k) (fop .add .f64 p t)
def wantF (p t tot : Nat) : Nat → Nat
  | 0 => 0
  | k + 1 => fop .add .f64 (wantF p t tot k) (minF p (fop .sub .f64 tot (atF p t k)))
theorem atF_facts (C : Ctx xs on off) {p t : Nat} (hp : isN .f64 p = true) (ht : isN .f64 t = true) (ep : R .f64 p = on) (et : R .f64 t = off) : isN .f64 (fop .add .f64 p t) = true ∧ ∀ k, k ≤ 20 → isN .f64 (atF p t k) = true ∧ -(qN k / 1000000000) ≤ R .f64 (atF p t k) - qN k * (on + off) ∧ R .f64 (atF p t k) - qN k * (on + off) ≤ qN k / 1000000000 := by
  have o1 := C.o1
  have o2 := C.o2
  have f1 := C.f1
  have f2 := C.f2
  have q := rnd_add hp ht (by rw [ep, et]; grind) (by rw [ep, et]; grind)
  rw [ep, et] at q
  have f := q.n64 3 (by decide) (B := 8) rfl (by grind) (by grind)
  refine ⟨q.num, fun k => ?_⟩
  induction k with
  | zero =>
    intro _
    have z := zero64_N.2
    rw [qN0]
    refine ⟨zero64_N.1, ?_, ?_⟩
    · show _ ≤ R .f64 0 - _; rw [z]; grind
    · show R .f64 0 - _ ≤ _; rw [z]; grind
  | succ k ih =>
    intro hk
    obtain ⟨i1, i2, i3⟩ := ih (by omega)
    have q6 := qN_le (show k ≤ 20 by omega)
    have q0 := qN_nn k
    have e6 : qN 20 = 20 := rfl
    rw [e6] at q6
    have m := mul_up (x := qN k) (y := on + off) (B := 20) (C := 4) q0 q6 (by grind) (by grind)
    have q2 := rnd_add i1 q.num (by grind) (by grind)
    have g := q2.n64 7 (by decide) (B := 128) rfl (by grind) (by grind)
    rw [qN_succ]
    refine ⟨q2.num, ?_, ?_⟩
    · show _ ≤ R .f64 (fop .add .f64 _ _) - _; grind
    · show R .f64 (fop .add .f64 _ _) - _ ≤ _; grind
theorem at_end (C : Ctx xs on off) {p t tot k : Nat} (hp : isN .f64 p = true) (ht : isN .f64 t = true) (ep : R .f64 p = on) (et : R .f64 t = off) (hS : R .f64 tot ≤ Sq xs (xs.length - 1) + 1 / 10000000) (hk : k ≤ 20) (hlt : R .f64 (atF p t k) < R .f64 tot) : k < 16 := by
  refine Nat.lt_of_not_le fun h => ?_
  have o1 := C.o1
  have f1 := C.f1
  obtain ⟨_, h2, _⟩ := (atF_facts C hp ht ep et).2 k hk
  have h5 := (C.sq (xs.length - 1) (by have := C.n1; omega)).2
  have h6 := qN_le (show xs.length - 1 ≤ 6 by have := C.n2; omega)
  have e6 : qN 6 = 6 := rfl
  rw [e6] at h6
  have q16 := qN_le h
  have q20 := qN_le hk
  have e16 : qN 16 = 16 := rfl
  have e20 : qN 20 = 20 := rfl
  rw [e16] at q16
  rw [e20] at q20
  have := Rat.mul_nonneg (a := qN k) (b := on + off - 1) (by grind) (by grind)
  grind
theorem want_step (C : Ctx xs on off) {p t tot k : Nat} (hp : isN .f64 p = true) (ht : isN .f64 t = true) (htot : isN .f64 tot = true) (ep : R .f64 p = on) (et : R .f64 t = off) (h1 : Sq xs (xs.length - 1) - 1 / 10000000 ≤ R .f64 tot) (h2 : R .f64 tot ≤ Sq xs (xs.length - 1) + 1 / 10000000) (hk : k < 16)
    (hlt : R .f64 (atF p t k) < R .f64 tot) (iw : isN .f64 (wantF p t tot k) = true) (w1 : -(qN k / 1000000) ≤ R .f64 (wantF p t tot k) - FQ (Sq xs (xs.length - 1)) on (on + off) k) (w2 : R .f64 (wantF p t tot k) - FQ (Sq xs (xs.length - 1)) on (on + off) k ≤ qN k / 1000000) (w3 : 0 ≤ R .f64 (wantF p t tot k)) (w4 : R .f64 (wantF p t tot k) ≤ 3 * qN k) :
    isN .f64 (fop .sub .f64 tot (atF p t k)) = true ∧ isN .f64 (wantF p t tot (k + 1)) = true ∧ -(qN (k + 1) / 1000000) ≤ R .f64 (wantF p t tot (k + 1)) - FQ (Sq xs (xs.length - 1)) on (on + off) (k + 1) ∧ R .f64 (wantF p t tot (k + 1)) - FQ (Sq xs (xs.length - 1)) on (on + off) (k + 1) ≤ qN (k + 1) / 1000000 ∧ 0 ≤ R .f64 (wantF p t tot (k + 1)) ∧ R .f64 (wantF p t tot (k + 1)) ≤ 3 * qN (k + 1) := by
  have o1 := C.o1
  have o2 := C.o2
  have f1 := C.f1
  obtain ⟨a1, a2, a3⟩ := (atF_facts C hp ht ep et).2 k (by omega)
  obtain ⟨s0, h5⟩ := C.sq (xs.length - 1) (by have := C.n1; omega)
  have h6 := qN_le (show xs.length - 1 ≤ 6 by have := C.n2; omega)
  have e6 : qN 6 = 6 := rfl
  rw [e6] at h6
  have q20 := qN_le (show k ≤ 16 by omega)
  have q0 := qN_nn k
  have e20 : qN 16 = 16 := rfl
  rw [e20] at q20
  obtain ⟨S, hS⟩ : ∃ S, S = Sq xs (xs.length - 1) := ⟨_, rfl⟩
  rw [← hS] at h1 h2 h5 s0 w1 w2 ⊢
  have m := mul_up (x := qN k) (y := on + off) (B := 16) (C := 4) q0 q20 (by grind) (by have := C.f2; grind)
  have q := rnd_sub htot a1 (by grind) (by grind)
  have f := q.n64 7 (by decide) (B := 128) rfl (by grind) (by grind)
  obtain ⟨D, hD⟩ : ∃ D, D = fop .sub .f64 tot (atF p t k) := ⟨_, rfl⟩
  have hDn : isN .f64 D = true := by rw [hD]; exact q.num
  have d0 := q.nn64 (by grind)
  rw [← hD] at f d0
  obtain ⟨n1, n2, n3, n4⟩ := minF_facts hp hDn
  rw [ep] at n2 n4
  obtain ⟨M, hM⟩ : ∃ M, M = minF p D := ⟨_, rfl⟩
  rw [← hM] at n1 n2 n3 n4
  have m0 : 0 ≤ R .f64 M := by rcases n4 with h | h <;> rw [h] <;> grind
  have hf : -(3 / 10000000) ≤ R .f64 M - fq S on (on + off) k ∧ R .f64 M - fq S on (on + off) k ≤ 3 / 10000000 := by
    unfold fq
    split
    · rcases n4 with h | h <;> constructor <;> grind
    · split <;> rcases n4 with h | h <;> constructor <;> grind
  have qa := rnd_add iw n1 (by grind) (by grind)
  have fa := qa.n64 7 (by decide) (B := 128) rfl (by grind) (by grind)
  have na := qa.nn64 (by grind)
  have ew : wantF p t tot (k + 1) = fop .add .f64 (wantF p t tot k) M := by rw [hM, hD]; rfl
  have eF : FQ S on (on + off) (k + 1) = FQ S on (on + off) k + fq S on (on + off) k := rfl
  rw [ew, qN_succ, eF, ← hD]
  refine ⟨hDn, qa.num, by grind, by grind, na, by grind⟩
/-- both sums agree -/
theorem sums_near (C : Ctx xs on off) {ls : List (List Cx)} (h : GoodD xs on off ls) {p t tot k : Nat} (hp : isN .f64 p = true) (ht : isN .f64 t = true) (ep : R .f64 p = on) (et : R .f64 t = off) (h2 : Sq xs (xs.length - 1) - 1 / 10000000 ≤ R .f64 tot) (hk : k ≤ 16)
    (hge : ¬ R .f64 (atF p t k) < R .f64 tot) (w1 : -(qN k / 1000000) ≤ R .f64 (wantF p t tot k) - FQ (Sq xs (xs.length - 1)) on (on + off) k) (w2 : R .f64 (wantF p t tot k) - FQ (Sq xs (xs.length - 1)) on (on + off) k ≤ qN k / 1000000) :
    -(48 / 1000) ≤ R .f64 (sumD ls ls.length) - R .f64 (wantF p t tot k) ∧ R .f64 (sumD ls ls.length) - R .f64 (wantF p t tot k) ≤ 48 / 1000 := by
  have o1 := C.o1
  have f1 := C.f1
  have ho : 0 ≤ on := by grind
  obtain ⟨i1, i2, i3, i4, i5⟩ := sumD_facts C h ls.length (Nat.le_refl _)
  obtain ⟨a1, a2, a3⟩ := (atF_facts C hp ht ep et).2 k (by omega)
  have hov := h.over
  rw [(Bq_even (on := on) (off := off) ls.length).1] at hov
  obtain ⟨S, hS⟩ : ∃ S, S = Sq xs (xs.length - 1) := ⟨_, rfl⟩
  rw [← hS] at h2 w1 w2 i2 i3 hov
  have l2 := h.l2
  have q15 := qN_le l2
  have e15 : qN 15 = 15 := rfl
  rw [e15] at q15
  have q16 := qN_le hk
  have e16 : qN 16 = 16 := rfl
  rw [e16] at q16
  have lowOf : ∀ a : Nat, S ≤ qN a * (on + off) + 1 / 10000 → ∀ m, a ≤ m → fq S on (on + off) m ≤ 1 / 10000 := fun a ha m hm => fq_low (by grind) (by
    have := qN_le hm
    have := Rat.mul_nonneg (a := qN m - qN a) (b := on + off) (by grind) (by grind)
    grind)
  have F1 := FQ_more ho ls.length (lowOf ls.length hov)
  have F2 := FQ_more ho k (lowOf k (by grind))
  rcases Nat.le_total ls.length k with e | e
  · have F := F1 (k - ls.length)
    rw [show ls.length + (k - ls.length) = k by omega] at F
    have := qN_le (show k - ls.length ≤ 16 by omega)
    rw [e16] at this
    constructor <;> grind
  · have F := F2 (ls.length - k)
    rw [show k + (ls.length - k) = ls.length by omega] at F
    have := qN_le (show ls.length - k ≤ 15 by omega)
    rw [e15] at this
    constructor <;> grind
end
end Go.Fl
