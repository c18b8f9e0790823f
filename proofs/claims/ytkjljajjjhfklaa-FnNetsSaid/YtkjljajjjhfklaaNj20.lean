/- Numbers that are not finite stay so. Sums over the triangles of facets, and the program's walk over them with a closure. Contracts: the cross of spots, and the closure that sums a net's volume. -/
import Derived.Test.YtkjljajjjhfklaaNj03
import Derived.Test.YtkjljajjjhfklaaNj19
import Derived.Test.YtkjljajjjhfklaaNj07
import Derived.Test.YtkjljajjjhfklaaNj06
import Derived.Test.YtkjljajjjhfklaaNj05
namespace Go.Fl
open Ieee
/-- is it a number? -/
def isNum (x : Nat) : Bool := match FloatKind.f32.format.read x with | .number _ _ _ => true | _ => false
theorem fin_isNum (x : Nat) : fin x = isNum x := by
  unfold fin isNum fsub fop floatBits Format.sub
  cases h : FloatKind.f32.format.read x with
  | nan s f =>
    simp only [Datum.sum, Option.map_none, Option.getD_none]
    decide +kernel
  | infinity s =>
    simp only [Datum.opposite, Datum.sum]
    cases s <;> decide +kernel
  | number s m p =>
    have ht : signed s m (p - min p p).toNat + signed (!s) m (p - min p p).toNat = 0 := by
      cases s <;> simp [signed] <;> omega
    simp only [Datum.opposite, Datum.sum, ht, if_true, Option.map_some, Option.getD_some]
    have hw : FloatKind.f32.format.write (.number (s && !s) (Int.natAbs 0) (min p p)) = 0 := by
      show FloatKind.f32.format.nearest (s && !s) (Int.natAbs 0) (min p p) = 0
      unfold Format.nearest
      rw [if_pos (show Int.natAbs 0 = 0 from rfl)]
      cases s <;> decide
    rw [hw]
    decide +kernel
theorem isNum_q : isNum (qnan .f32) = false := by decide +kernel
theorem isNum_inf (s : Bool) : isNum (FloatKind.f32.format.write (.infinity s)) = false := by cases s <;> decide +kernel
theorem nf_op_left {op : BinOp} (hop : op = .add ∨ op = .sub ∨ op = .mul) {x : Nat} (y : Nat) (h : isNum x = false) : isNum (fop op .f32 x y) = false := by
  unfold fop
  rcases hop with rfl | rfl | rfl
  all_goals
    simp only [floatBits, Format.add, Format.sub, Format.mul]
    unfold isNum at h
    cases hx : FloatKind.f32.format.read x with
    | number s m p => rw [hx] at h; simp at h
    | nan s f => simp only [Datum.sum, Datum.product, Option.map_none, Option.getD_none]; exact isNum_q
    | infinity s =>
      cases hy : FloatKind.f32.format.read y with
      | nan s f => simp only [Datum.sum, Datum.product, Datum.opposite, Option.map_none, Option.getD_none]; exact isNum_q
      | infinity t =>
        simp only [Datum.sum, Datum.product, Datum.opposite]
        first
          | (split
             · exact isNum_inf _
             · exact isNum_q)
          | exact isNum_inf _
      | number t n j =>
        simp only [Datum.sum, Datum.product, Datum.opposite]
        first
          | exact isNum_inf _
          | (split
             · exact isNum_q
             · exact isNum_inf _)
theorem nf_op_right {op : BinOp} (hop : op = .add ∨ op = .sub ∨ op = .mul) (x : Nat) {y : Nat} (h : isNum y = false) : isNum (fop op .f32 x y) = false := by
  unfold fop
  rcases hop with rfl | rfl | rfl
  all_goals
    simp only [floatBits, Format.add, Format.sub, Format.mul]
    unfold isNum at h
    cases hy : FloatKind.f32.format.read y with
    | number s m p => rw [hy] at h; simp at h
    | nan s f =>
      have : (FloatKind.f32.format.read x).sum (.nan s f) = none ∧ (FloatKind.f32.format.read x).product (.nan s f) = none ∧ (FloatKind.f32.format.read x).sum (Datum.opposite (.nan s f)) = none := by
        cases FloatKind.f32.format.read x <;> simp [Datum.sum, Datum.product, Datum.opposite]
      simp only [this, Option.map_none, Option.getD_none]; exact isNum_q
    | infinity t =>
      cases hx : FloatKind.f32.format.read x with
      | nan s f => simp only [Datum.sum, Datum.product, Datum.opposite, Option.map_none, Option.getD_none]; exact isNum_q
      | infinity s =>
        simp only [Datum.sum, Datum.product, Datum.opposite]
        first
          | (split
             · exact isNum_inf _
             · exact isNum_q)
          | exact isNum_inf _
      | number s n j =>
        simp only [Datum.sum, Datum.product, Datum.opposite]
        first
          | exact isNum_inf _
          | (split
             · exact isNum_q
             · exact isNum_inf _)
theorem nf_add_l {x : Nat} (y : Nat) (h : fin x = false) : fin (fadd x y) = false := by rw [fin_isNum] at *; exact nf_op_left (by simp) y h
theorem nf_add_r (x : Nat) {y : Nat} (h : fin y = false) : fin (fadd x y) = false := by rw [fin_isNum] at *; exact nf_op_right (by simp) x h
theorem nf_sub_l {x : Nat} (y : Nat) (h : fin x = false) : fin (fsub x y) = false := by rw [fin_isNum] at *; exact nf_op_left (by simp) y h
theorem nf_sub_r (x : Nat) {y : Nat} (h : fin y = false) : fin (fsub x y) = false := by rw [fin_isNum] at *; exact nf_op_right (by simp) x h
theorem nf_mul_l {x : Nat} (y : Nat) (h : fin x = false) : fin (fmul x y) = false := by rw [fin_isNum] at *; exact nf_op_left (by simp) y h
theorem nf_mul_r (x : Nat) {y : Nat} (h : fin y = false) : fin (fmul x y) = false := by rw [fin_isNum] at *; exact nf_op_right (by simp) x h
theorem nf_sqrt {x : Nat} (h : fin x = false) : fin (fsqrt x) = false := by
  rw [fin_isNum] at *
  unfold isNum at h
  unfold fsqrt
  cases hx : FloatKind.f32.format.read x with
  | number s m p => rw [hx] at h; simp at h
  | nan s f =>
    have hn : nanB .f32 x = true := by unfold nanB; rw [hx]; rfl
    have : fcv .f32 .f64 x = qnan .f64 := by unfold fcv; rw [if_pos hn]
    rw [this]; decide +kernel
  | infinity s =>
    have hn : nanB .f32 x = false := by unfold nanB; rw [hx]; rfl
    have : fcv .f32 .f64 x = FloatKind.f64.encode (.infinity s) := by
      unfold fcv
      rw [if_neg (by rw [hn]; decide)]
      show FloatKind.f64.encode (FloatKind.f32.format.read x) = _
      rw [hx]
    rw [this]
    cases s <;> decide +kernel
theorem finSp_no {p : Sp} (h : finSp p = false) : fin p.1 = false ∨ fin p.2.1 = false ∨ fin p.2.2 = false := by
  unfold finSp at h
  cases h1 : fin p.1
  · exact .inl rfl
  · cases h2 : fin p.2.1
    · exact .inr (.inl rfl)
    · rw [h1, h2] at h; exact .inr (.inr (by simpa using h))
theorem finSp_of {p : Sp} (h : fin p.1 = false ∨ fin p.2.1 = false ∨ fin p.2.2 = false) : finSp p = false := by
  unfold finSp
  rcases h with h | h | h <;> simp [h]
theorem cross_nf_l {p : Sp} (q : Sp) (h : finSp p = false) : finSp (spCross p q) = false := by
  apply finSp_of
  unfold spCross
  rcases finSp_no h with h | h | h
  · exact .inr (.inl (nf_sub_r _ (nf_mul_l _ h)))
  · exact .inl (nf_sub_l _ (nf_mul_l _ h))
  · exact .inl (nf_sub_r _ (nf_mul_l _ h))
theorem cross_nf_r (p : Sp) {q : Sp} (h : finSp q = false) : finSp (spCross p q) = false := by
  apply finSp_of
  unfold spCross
  rcases finSp_no h with h | h | h
  · exact .inr (.inl (nf_sub_l _ (nf_mul_r _ h)))
  · exact .inl (nf_sub_r _ (nf_mul_r _ h))
  · exact .inl (nf_sub_l _ (nf_mul_r _ h))
theorem dot_nf {p : Sp} (q : Sp) (h : finSp p = false) : fin (spDot p q) = false := by
  unfold spDot
  rcases finSp_no h with h | h | h
  · exact nf_add_l _ (nf_add_l _ (nf_mul_l _ h))
  · exact nf_add_l _ (nf_add_r _ (nf_mul_l _ h))
  · exact nf_add_r _ (nf_mul_l _ h)

/-- the long of the cross of two sides of a triangle -/
def triC (a b c : Sp) : Sp := spCross (spSub b a) (spSub c a)
def triLong (a b c : Sp) : Nat := fsqrt (spDot (triC a b c) (triC a b c))
/-- half of it -/
def triA (a b c : Sp) : Nat := fmul 1056964608 (triLong a b c)
/-- is each step finite? -/
def triOk (a b c : Sp) : Bool := finSp (spSub b a) && finSp (spSub c a) && finSp (triC a b c) && fin (triLong a b c)
theorem triA_half (a b c : Sp) : fdiv (triLong a b c) 1073741824 = triA a b c := half_eq _
theorem triA_nf {a b c : Sp} (h : triOk a b c = false) : fin (triA a b c) = false := by
  unfold triA
  apply nf_mul_r
  unfold triOk at h
  cases h1 : finSp (triC a b c)
  · exact nf_sqrt (dot_nf _ h1)
  · cases h2 : fin (triLong a b c)
    · rfl
    · rw [h1, h2] at h
      simp only [Bool.and_true] at h
      cases h3 : finSp (spSub b a)
      · have := cross_nf_l (spSub c a) h3
        unfold triC at h1; rw [this] at h1; cases h1
      · rw [h3] at h
        have := cross_nf_r (spSub b a) (q := spSub c a) (by simpa using h)
        unfold triC at h1; rw [this] at h1; cases h1
end Go.Fl

namespace Go.Fl
/-- the corner of a facet -/
def cornP (ps : List Sp) (f : List Int) (k : Nat) : Sp := pAt ps (iAt f k).toNat
/-- what g tells of triangle k of a facet -/
def triG (g : Sp → Sp → Sp → Nat) (ps : List Sp) (f : List Int) (k : Nat) : Nat := g (cornP ps f 0) (cornP ps f (k + 1)) (cornP ps f (k + 2))
/-- from s on, the first k triangles of a facet -/
def triJ (g : Sp → Sp → Sp → Nat) (ps : List Sp) (f : List Int) (s : Nat) : Nat → Nat
  | 0 => s
  | k + 1 => fadd (triJ g ps f s k) (triG g ps f k)
/-- all triangles of the first j facets -/
def triF (g : Sp → Sp → Sp → Nat) (ps : List Sp) (fs : List (List Int)) : Nat → Nat
  | 0 => 0
  | j + 1 => triJ g ps (fAt fs j) (triF g ps fs j) ((fAt fs j).length - 2)
/-- from b on, does t hold of the first k triangles of a facet? -/
def allJ (t : Sp → Sp → Sp → Bool) (ps : List Sp) (f : List Int) (b : Bool) : Nat → Bool
  | 0 => b
  | k + 1 => allJ t ps f b k && t (cornP ps f 0) (cornP ps f (k + 1)) (cornP ps f (k + 2))
def allF (t : Sp → Sp → Sp → Bool) (ps : List Sp) (fs : List (List Int)) : Nat → Bool
  | 0 => true
  | j + 1 => allJ t ps (fAt fs j) (allF t ps fs j) ((fAt fs j).length - 2)
theorem allJ_false {t : Sp → Sp → Sp → Bool} {ps : List Sp} {f : List Int} : ∀ k, allJ t ps f false k = false
  | 0 => rfl
  | k + 1 => by rw [allJ, allJ_false k]; rfl
theorem allJ_mono {t : Sp → Sp → Sp → Bool} {ps : List Sp} {f : List Int} {b : Bool} {k : Nat} (h : allJ t ps f b k = false) : ∀ d, allJ t ps f b (k + d) = false
  | 0 => h
  | d + 1 => by rw [show k + (d + 1) = (k + d) + 1 from rfl, allJ, allJ_mono h d]; rfl
theorem allF_mono {t : Sp → Sp → Sp → Bool} {ps : List Sp} {fs : List (List Int)} {j : Nat} (h : allF t ps fs j = false) : ∀ d, allF t ps fs (j + d) = false
  | 0 => h
  | d + 1 => by rw [show j + (d + 1) = (j + d) + 1 from rfl, allF, allF_mono h d]; exact allJ_false _
/-- once it does not hold it does not hold of all -/
theorem allF_no {t : Sp → Sp → Sp → Bool} {ps : List Sp} {fs : List (List Int)} {j k : Nat} (hj : j < fs.length) (hk : k ≤ (fAt fs j).length - 2) (h : allJ t ps (fAt fs j) (allF t ps fs j) k = false) : allF t ps fs fs.length = false := by
  have h1 : allF t ps fs (j + 1) = false := by
    have := allJ_mono h ((fAt fs j).length - 2 - k)
    rw [show k + ((fAt fs j).length - 2 - k) = (fAt fs j).length - 2 by omega] at this
    exact this
  have := allF_mono h1 (fs.length - (j + 1))
  rw [show j + 1 + (fs.length - (j + 1)) = fs.length by omega] at this
  exact this
/-- what is not finite stays so -/
theorem triJ_nf {g : Sp → Sp → Sp → Nat} {ps : List Sp} {f : List Int} {s : Nat} (h : fin s = false) : ∀ k, fin (triJ g ps f s k) = false
  | 0 => h
  | k + 1 => nf_add_l _ (triJ_nf h k)
theorem allJ_nf {g : Sp → Sp → Sp → Nat} {t : Sp → Sp → Sp → Bool} {ps : List Sp} {f : List Int} {s : Nat} {b : Bool} (hg : ∀ a b c, t a b c = false → fin (g a b c) = false) (hb : b = false → fin s = false) : ∀ k, allJ t ps f b k = false → fin (triJ g ps f s k) = false
  | 0, h => hb h
  | k + 1, h => by
    rw [allJ, Bool.and_eq_false_iff] at h
    rcases h with h | h
    · exact nf_add_l _ (allJ_nf hg hb k h)
    · exact nf_add_r _ (hg _ _ _ h)
theorem allF_nf {g : Sp → Sp → Sp → Nat} {t : Sp → Sp → Sp → Bool} {ps : List Sp} {fs : List (List Int)} (hg : ∀ a b c, t a b c = false → fin (g a b c) = false) : ∀ j, allF t ps fs j = false → fin (triF g ps fs j) = false
  | 0, h => by cases h
  | j + 1, h => allJ_nf hg (allF_nf hg j) _ h
theorem triJ_congr {g g' : Sp → Sp → Sp → Nat} (hg : ∀ a b c, g a b c = g' a b c) (ps : List Sp) (f : List Int) (s : Nat) : ∀ k, triJ g ps f s k = triJ g' ps f s k
  | 0 => rfl
  | k + 1 => by rw [triJ, triJ, triJ_congr hg ps f s k]; unfold triG; rw [hg]
end Go.Fl
namespace Go.Proofs.Ytkjljajjjhfklaa
open Go.RowKit Go.Fl

/-- what a closure keeps: k triangles of facet j are done -/
structure Keeps2 (J : Nat → Nat → (Nat → Prop) → World → Prop) : Prop where
  stable : ∀ {j k P w w'}, J j k P w → (∀ b, P b → w'.heap[b]? = w.heap[b]?) → w.heap.size ≤ w'.heap.size → J j k P w'
  low : ∀ {j k P w}, J j k P w → ∀ b, P b → b < w.heap.size
/-- where the walk over the triangles stands -/
structure Walks2 (J : Nat → Nat → (Nat → Prop) → World → Prop) (j k : Nat) (P0 : Nat → Prop) (w wr : World) (P : Nat → Prop) : Prop where
  inv : J j k P wr
  ch : Ch P0 w wr
  new : ∀ b, P b → P0 b ∨ w.heap.size < b
theorem Walks2.drewN {J : Nat → Nat → (Nat → Prop) → World → Prop} {j k : Nat} {P0 P : Nat → Prop} {w wr : World} (h : Walks2 J j k P0 w wr P) (HK : Keeps2 J) (n : Nat) : Walks2 J j k P0 w (wr.drewN n) P :=
  ⟨HK.stable h.inv (fun _ _ => rfl) (Nat.le_refl _), ⟨h.ch.os, h.ch.tape, h.ch.output, h.ch.size, h.ch.block⟩, h.new⟩
theorem cornAt {w : World} {lo hi : Nat} {sa : Option Addr} {ps : List Sp} {f : List Int} (hs : SlP w lo hi sa ps) (hin : InN ps.length f) {k : Nat} (hk : k < f.length) :
    ∃ v b o x y z, iAt f k = ((v : Nat) : Int) ∧ v < ps.length ∧ sa = some ⟨b, o, none⟩ ∧ lo ≤ b ∧ b < hi ∧ w.cell? ⟨b, o + v * 3, none⟩ = some (.float .f32 x) ∧ w.cell? ⟨b, o + v * 3 + 1, none⟩ = some (.float .f32 y) ∧ w.cell? ⟨b, o + v * 3 + 2, none⟩ = some (.float .f32 z) ∧ IsSp x y z (cornP ps f k) := by
  obtain ⟨i0, i1⟩ := hin k hk
  obtain ⟨v, hv⟩ := Int.eq_ofNat_of_zero_le i0
  rw [hv] at i1
  have hvn : v < ps.length := by omega
  obtain ⟨b4, o4, rfl, l1, l2, hc4⟩ := hs (by omega)
  obtain ⟨x, y, z, c1, c2, c3, g1, g2, g3⟩ := hc4 v hvn
  refine ⟨v, b4, o4, x, y, z, hv, hvn, rfl, l1, l2, c1, c2, c3, ?_⟩
  have : cornP ps f k = pAt ps v := by unfold cornP; rw [hv]; rfl
  rw [this]; exact IsSp.of g1 g2 g3

set_option maxHeartbeats 4000000 in
set_option maxRecDepth 100000 in
theorem overTri (G : Sp → Sp → Sp → Nat) (J : Nat → Nat → (Nat → Prop) → World → Prop) (HJ : Keeps2 J) (g : Nat) (caps : Array Value) (hgo : Goes g) (lo hi : Nat) (sa fa : Option Addr) (cn cm : Nat) (ps : List Sp) (fs : List (List Int)) (hp : ps.length ≤ 1048576) (hn : fs.length ≤ 1048576)
    (hsh : ∀ i, i < fs.length → (fAt fs i).length ≤ 1048576) (h3 : ∀ i, i < fs.length → 3 ≤ (fAt fs i).length) (hin : ∀ i, i < fs.length → InN ps.length (fAt fs i)) (w : World)
    (hroll : ∀ j P w1, j < fs.length → J j ((fAt fs j).length - 2) P w1 → J (j + 1) 0 P w1)
    (hst : ∀ j k P w1 x y z x' y' z' x2 y2 z2, j < fs.length → k + 2 < (fAt fs j).length → J j k P w1 → IsSp x y z (cornP ps (fAt fs j) 0) → IsSp x' y' z' (cornP ps (fAt fs j) (k + 1)) → IsSp x2 y2 z2 (cornP ps (fAt fs j) (k + 2)) →
      Calls Try.prog g (#[.agg #[.float .f32 x, .float .f32 y, .float .f32 z], .agg #[.float .f32 x', .float .f32 y', .float .f32 z'], .agg #[.float .f32 x2, .float .f32 y2, .float .f32 z2]] ++ caps) w1 fun e w' => (∃ r, e = .returned (.float .f32 r) ∧ F32 r (triG G ps (fAt fs j) k)) ∧ ∃ P', J j (k + 1) P' w' ∧ Ch P w1 w' ∧ ∀ b, P' b → P b ∨ w1.heap.size ≤ b)
    (hs : NetAt w lo hi sa fa ps fs) (hh : hi ≤ w.heap.size) (P0 : Nat → Prop) (hJ : J 0 0 P0 w) (hP : ∀ b, P0 b → b < lo ∨ hi ≤ b) :
    Calls Try.prog 42 #[netV sa fa ps.length cn fs.length cm, .func (.func g) #[] caps] w fun e w' => (∃ r, e = .returned (.float .f32 r) ∧ F32 r (triF G ps fs fs.length)) ∧ ∃ P, Walks2 J fs.length 0 P0 w w' P := by
  have HS := Lib.hid hs
  have HSH := Lib.hid hsh
  have H3 := Lib.hid h3
  have HIN := Lib.hid hin
  have HST := Lib.hid hst
  have HRO := Lib.hid hroll
  have HP := Lib.hid hP
  have HJ0 := Lib.hid hJ
  have HK := Lib.hid HJ
  clear hs hsh h3 hin hst hroll hP hJ HJ
  have hgo' : ∀ args w, Sem.run Try.prog (callFunc g args) w = .ok (.enter g args) w := hgo
  unfold netV
  go_enter Try.func42, Try.ntmps42
  go_wp2_with fail
  go_loopw [5, 12] (fun su i wr => ∃ (j s : Nat) (P : Nat → Prop), j ≤ fs.length ∧ i = .int .i64 j ∧ su = .float .f32 s ∧ Hid (F32 s (triF G ps fs j)) ∧ Hid (Walks2 J j 0 P0 w wr P) ∧ Hid (OwnC wr w.heap.size #[.slice sa ps.length cn, .slice fa fs.length cm] 27) ∧ Hid (¬ P w.heap.size)) (fun _ i _ => fs.length - (intOf i).toNat)
  case atStart =>
    refine ⟨0, 0, P0, by omega, rfl, rfl, Lib.hid F32.zero, Lib.hid ⟨HK.out.stable HJ0.out (fun b hb => ?_) (by simp), Ch.below (by (repeat (first | exact Below.refl _ _ | assumption | refine below_dr ?_ _ | refine Below.alloc ?_ (by first | omega | (simp; done) | (simp; omega)) _ | refine Below.setCell ?_ (by first | omega | (simp; done) | (simp; omega)) _ | refine Below.trans ?_ (Below.mono (by assumption) (by first | omega | (simp; done) | (simp; omega)))))), fun b hb => .inl hb⟩, Lib.hid (OwnC.new rfl), Lib.hid fun hp => absurd (HK.out.low HJ0.out _ hp) (Nat.lt_irrefl _)⟩
    exact Below.heap_alloc _ _ _ (HK.out.low HJ0.out b hb)
  case round =>
    clear HJ0
    obtain ⟨j, s, P, hj, rfl, rfl, HSU, HW, HA, HNA⟩ := hrel
    by_cases hlt : j < fs.length
    · have hfar : Far lo hi w wr := HW.out.ch.far hh (fun b h1 h2 hp => by have := HP.out b hp; omega)
      obtain ⟨bf, of', rfl, f1, f2, hc⟩ := HS.out.facets (by omega)
      obtain ⟨ai, ci, hc1, hs1⟩ := hc j hlt
      have e1 := (hfar.cell f1 f2).trans hc1
      have HS1 := Lib.hid hs1
      have hlk := HSH.out j hlt
      have hl3 := H3.out j hlt
      have hsz := HW.out.ch.size
      have k0 : (0 : Int) ≤ (j : Int) := by omega
      have k1 : (j : Int) < (fs.length : Int) := by omega
      have HOC := Lib.hid (OwnC.new (w := wr) (cs := #[.slice ai (fAt fs j).length ci]) (T := 38) rfl)
      have HA1 := Lib.hid (HA.out.alloc (.cells #[.slice ai (fAt fs j).length ci] 38))
      have HW1 : Hid (Walks2 J j 0 P0 w (wr.alloc (.cells #[.slice ai (fAt fs j).length ci] 38)) P) :=
        ⟨HK.out.stable HW.out.inv (fun b hb => Below.heap_alloc _ _ _ (HK.out.low HW.out.inv b hb)) (by simp), HW.out.ch.trans (P' := fun _ => False) (Ch.below (by (repeat (first | exact Below.refl _ _ | assumption | refine below_dr ?_ _ | refine Below.alloc ?_ (by first | omega | (simp; done) | (simp; omega)) _ | refine Below.setCell ?_ (by first | omega | (simp; done) | (simp; omega)) _ | refine Below.trans ?_ (Below.mono (by assumption) (by first | omega | (simp; done) | (simp; omega))))))) (fun b hb => hb.elim), HW.out.new⟩
      have HNP : Hid (¬ P wr.heap.size) := fun hp => absurd (HK.out.low HW.out.inv _ hp) (Nat.lt_irrefl _)
      have hna := HA.out.lt
      clear hc hc1 hs1 hfar
      go_wp2_with fail
      generalize wr.heap.size = d7 at *
      go_loopw [5, 8] (fun su i wq => ∃ (k s : Nat) (P : Nat → Prop), k + 2 ≤ (fAt fs j).length ∧ i = .int .i64 ((k : Int) + 1) ∧ su = .float .f32 s ∧ Hid (F32 s (triJ G ps (fAt fs j) (triF G ps fs j) k)) ∧ Hid (Walks2 J j k P0 w wq P) ∧ Hid (OwnC wq w.heap.size #[.slice sa ps.length cn, .slice (some ⟨bf, of', none⟩) fs.length cm] 27) ∧ Hid (OwnC wq d7 #[.slice ai (fAt fs j).length ci] 38) ∧ Hid (¬ P d7) ∧ Hid (¬ P w.heap.size)) (fun _ i _ => (fAt fs j).length - (intOf i).toNat)
      case atStart => exact ⟨0, s, P, by omega, by simp, rfl, HSU, HW1, HA1, HOC, HNP, HNA⟩
      case round =>
        clear HW1 HOC HNP HW e1 HA HA1 HNA HSU
        obtain ⟨k, s, P, hk, rfl, rfl, HSU, HW, HA, HO, HND, HNA⟩ := hrel
        have hfar : Far lo hi w wr := HW.out.ch.far hh (fun b h1 h2 hp => by have := HP.out b hp; omega)
        have o1 := HO.out.cell 0
        have n0 := HA.out.cell 0
        simp at o1 n0
        have t2 : IntKind.i64.wrap ((k : Int) + 1 + 1) = (k : Int) + 1 + 1 := by rw [IntKind.wrap_i64]; omega
        by_cases hlt2 : k + 2 < (fAt fs j).length
        · have hsi := HS1.out.far hfar
          obtain ⟨b3, o3, rfl, f3, f4, hc3⟩ := hsi (by omega)
          have hsp := HS.out.spots.far hfar
          obtain ⟨v0, sb, so, x, y, z, hv0, hl0, hsa, l1, l2, a1, a2, a3, q0⟩ := cornAt hsp (HIN.out j hlt) (k := 0) (by omega)
          subst hsa
          obtain ⟨v1, sb1, so1, x', y', z', hv1, hl1, hsb1, _, _, b1, b2, b3', q1⟩ := cornAt hsp (HIN.out j hlt) (k := k + 1) (by omega)
          cases hsb1
          obtain ⟨v2, sb2, so2, x2, y2, z2, hv2, hl2, hsb2, _, _, c1, c2, c3, q2⟩ := cornAt hsp (HIN.out j hlt) (k := k + 2) (by omega)
          cases hsb2
          have e0 := hc3 0 (by omega)
          have e1 := hc3 (k + 1) (by omega)
          have e2 := hc3 (k + 2) (by omega)
          rw [hv0, Nat.add_zero] at e0
          have m3 : ¬ fAt fs j = [] := fun h => by rw [h] at hlt2; simp at hlt2
          have m5 : 0 < (fAt fs j).length := by omega
          rw [hv1] at e1
          rw [hv2] at e2
          have t0 : (0 : Int) ≤ (k : Int) + 1 := by omega
          have t1 : (k : Int) + 1 < ((fAt fs j).length : Int) := by omega
          have t4 : (0 : Int) ≤ (k : Int) + 1 + 1 := by omega
          have t5 : (k : Int) + 1 + 1 < ((fAt fs j).length : Int) := by omega
          have t6 : ((k : Int) + 1).toNat = k + 1 := by omega
          have t7 : ((k : Int) + 1 + 1).toNat = k + 2 := by omega
          have t8 : (0 : Int) < ((fAt fs j).length : Int) := by omega
          have i0 : (0 : Int) ≤ (v0 : Int) := by omega
          have i1 : (v0 : Int) < (ps.length : Int) := by omega
          have i2 : (0 : Int) ≤ (v1 : Int) := by omega
          have i3 : (v1 : Int) < (ps.length : Int) := by omega
          have i4 : (0 : Int) ≤ (v2 : Int) := by omega
          have i5 : (v2 : Int) < (ps.length : Int) := by omega
          have HC := Lib.hid (HST.out j k P wr.drew x y z x' y' z' x2 y2 z2 hlt hlt2 (HK.out.stable HW.out.inv (fun b hb => rfl) (Nat.le_refl _)) q0 q1 q2)
          have hdl := HO.out.lt
          clear hc3 hsi hsp hfar q0 q1 q2 hv0 hv1 hv2
          have hnlo : ∀ b, lo ≤ b → b < hi → ¬ P b := fun b h1 h2 hp => by
            rcases HW.out.new b hp with h | h
            · have := HP.out b h; omega
            · omega
          have HNS := Lib.hid (hnlo sb l1 l2)
          have HNB := Lib.hid (hnlo b3 f3 f4)
          clear hnlo
          go_wp2_with fail
          go_region_held (fun w' => w'.cell? ⟨w.heap.size, 0, none⟩ = some (.slice (some ⟨sb, so, none⟩) ps.length cn) ∧ w'.cell? ⟨d7, 0, none⟩ = some (.slice (some ⟨b3, o3, none⟩) (fAt fs j).length ci) ∧ w'.cell? ⟨b3, o3, none⟩ = some (.int .i64 v0) ∧ w'.cell? ⟨b3, o3 + (k + 1), none⟩ = some (.int .i64 v1) ∧ w'.cell? ⟨b3, o3 + (k + 2), none⟩ = some (.int .i64 v2) ∧
              w'.cell? ⟨sb, so + v0 * 3, none⟩ = some (.float .f32 x) ∧ w'.cell? ⟨sb, so + v0 * 3 + 1, none⟩ = some (.float .f32 y) ∧ w'.cell? ⟨sb, so + v0 * 3 + 2, none⟩ = some (.float .f32 z) ∧ w'.cell? ⟨sb, so + v1 * 3, none⟩ = some (.float .f32 x') ∧ w'.cell? ⟨sb, so + v1 * 3 + 1, none⟩ = some (.float .f32 y') ∧ w'.cell? ⟨sb, so + v1 * 3 + 2, none⟩ = some (.float .f32 z') ∧
              w'.cell? ⟨sb, so + v2 * 3, none⟩ = some (.float .f32 x2) ∧ w'.cell? ⟨sb, so + v2 * 3 + 1, none⟩ = some (.float .f32 y2) ∧ w'.cell? ⟨sb, so + v2 * 3 + 2, none⟩ = some (.float .f32 z2)) (first | go_keep | (refine ⟨?_, ?_, ?_, ?_, ?_, ?_, ?_, ?_, ?_, ?_, ?_, ?_, ?_, ?_⟩ <;> assumption))
            ((first
              | (refine (HC.out).mono ?_; rintro e w3 ⟨⟨r, rfl, hr⟩, P', hJ', hch, hnew⟩; have HJ' := Lib.hid hJ'; have HCH : Hid (Ch P wr w3) := Lib.hid ⟨hch.os, hch.tape, hch.output, hch.size, hch.block⟩; have HNEW : Hid (∀ b, P' b → P b ∨ wr.heap.size ≤ b) := Lib.hid hnew; have HR := Lib.hid hr; have g1 := HCH.out.cell n0 HNA.out; have g2 := HCH.out.cell o1 HND.out; have g3 := HCH.out.cell e0 HNB.out; have g4 := HCH.out.cell e1 HNB.out; have g5 := HCH.out.cell e2 HNB.out; have g6 := HCH.out.cell a1 HNS.out; have g7 := HCH.out.cell a2 HNS.out; have g8 := HCH.out.cell a3 HNS.out; have g9 := HCH.out.cell b1 HNS.out; have g10 := HCH.out.cell b2 HNS.out; have g11 := HCH.out.cell b3' HNS.out; have g12 := HCH.out.cell c1 HNS.out; have g13 := HCH.out.cell c2 HNS.out; have g14 := HCH.out.cell c3 HNS.out; clear hr hJ' hch hnew)
              | (refine wpList_f rfl rfl rfl rfl (by decide) ?_; intro _ _ _; simp only [Act.put, List.setIfInBounds_toArray, List.set_cons_succ, List.set_cons_zero])))
          have hz1 : wr.heap.size ≤ w3.heap.size := HCH.out.size
          have HW3 : Hid (Walks2 J j (k + 1) P0 w w3 P') := ⟨HJ'.out, HW.out.ch.trans HCH.out (fun b hb => (HW.out.new b hb).imp id fun h => by omega), fun b hb => by
            rcases HNEW.out b hb with h | h
            · exact HW.out.new b h
            · right; omega⟩
          have HO3 := Lib.hid (HCH.out.own HO.out HND.out)
          have HA3 := Lib.hid (HCH.out.own HA.out HNA.out)
          have HND3 : Hid (¬ P' d7) := fun hp => by
            rcases HNEW.out d7 hp with h | h
            · exact HND.out h
            · omega
          have HNA3 : Hid (¬ P' w.heap.size) := fun hp => by
            rcases HNEW.out _ hp with h | h
            · exact HNA.out h
            · omega
          go_wp2_with fail
          go_roundw
          case rel =>
            refine ⟨k + 1, _, P', by omega, by go_num, rfl, Lib.hid ?_, Lib.hid (HW3.out.drewN HK.out _), HA3, HO3, HND3, HNA3⟩
            exact F32.add HSU.out HR.out
          case measure => simp [intOf]; omega
        · have hkk : k + 2 = (fAt fs j).length := by omega
          have hkm : k = (fAt fs j).length - 2 := by omega
          have HW4 : Hid (Walks2 J (j + 1) 0 P0 w wr P) := ⟨HRO.out j P wr hlt (hkm ▸ HW.out.inv), HW.out.ch, HW.out.new⟩
          have HSU4 : Hid (F32 s (triF G ps fs (j + 1))) := Lib.hid (by show F32 s (triJ G ps (fAt fs j) (triF G ps fs j) ((fAt fs j).length - 2)); rw [← hkm]; exact HSU.out)
          have t9 : ¬ ((k : Int) + 1 + 1 < ((fAt fs j).length : Int)) := by omega
          clear hfar
          go_wp2_with fail
          go_roundw
          case rel => exact ⟨j + 1, s, P, by omega, by go_num, rfl, HSU4, HW4, HA, HNA⟩
          case measure => simp [intOf]; omega
    · have hjn : j = fs.length := by omega
      subst hjn
      go_wp2_with fail
      go_ret
      exact ⟨⟨s, rfl, HSU.out⟩, P, HW.out⟩
end Go.Proofs.Ytkjljajjjhfklaa

namespace Go.Proofs.Ytkjljajjjhfklaa
open Go.RowKit Go.Fl

theorem isSpotQ (x y z : Nat) (p : Sp) (hp : IsSp x y z p) (w : World) : Calls Try.prog 48 #[.agg #[.float .f32 x, .float .f32 y, .float .f32 z]] w fun e w' => e = .returned (.bool (finSp p)) ∧ Below w.heap.size w w' := by
  unfold IsSp at hp; subst hp; exact isSpot x y z w
theorem crossB (x y z x' y' z' : Nat) (p q : Sp) (hp : IsSp x y z p) (hq : IsSp x' y' z' q) (w : World) :
    Calls Try.prog 45 #[.agg #[.float .f32 x, .float .f32 y, .float .f32 z], .agg #[.float .f32 x', .float .f32 y', .float .f32 z']] w fun e w' => (∃ a b c, e = .returned (.agg #[.float .f32 a, .float .f32 b, .float .f32 c]) ∧ IsSp a b c (spCross p q)) ∧ Below w.heap.size w w' := implCross x y z x' y' z' p q hp hq w
theorem lessB (x y z x' y' z' : Nat) (p q : Sp) (hp : IsSp x y z p) (hq : IsSp x' y' z' q) (w : World) :
    Calls Try.prog 44 #[.agg #[.float .f32 x, .float .f32 y, .float .f32 z], .agg #[.float .f32 x', .float .f32 y', .float .f32 z']] w fun e w' => (∃ a b c, e = .returned (.agg #[.float .f32 a, .float .f32 b, .float .f32 c]) ∧ IsSp a b c (spSub p q)) ∧ Below w.heap.size w w' := implLess x y z x' y' z' p q hp hq w
theorem dotB (x y z x' y' z' : Nat) (p q : Sp) (hp : IsSp x y z p) (hq : IsSp x' y' z' q) (w : World) :
    Calls Try.prog 49 #[.agg #[.float .f32 x, .float .f32 y, .float .f32 z], .agg #[.float .f32 x', .float .f32 y', .float .f32 z']] w fun e w' => (∃ r, e = .returned (.float .f32 r) ∧ F32 r (spDot p q)) ∧ Below w.heap.size w w' := implDot x y z x' y' z' p q hp hq w

/-- is the cross told? -/
def crOk (p q : Sp) : Bool := finSp p && finSp q && finSp (spCross p q)
set_option maxHeartbeats 2000000 in
set_option maxRecDepth 100000 in
theorem vol1 (fb : Nat) (fine : Bool) (x y z x' y' z' x2 y2 z2 : Nat) (p q s : Sp) (hp : IsSp x y z p) (hq : IsSp x' y' z' q) (hs : IsSp x2 y2 z2 s) (w : World) (hf : OwnC w fb #[.bool fine] 4) :
    Calls Try.prog 47 #[.agg #[.float .f32 x, .float .f32 y, .float .f32 z], .agg #[.float .f32 x', .float .f32 y', .float .f32 z'], .agg #[.float .f32 x2, .float .f32 y2, .float .f32 z2], .pointer (some ⟨fb, 0, none⟩)] w fun e w' =>
      (∃ r, e = .returned (.float .f32 r) ∧ F32 r (spDot p (spCross q s))) ∧ OwnC w' fb #[.bool (fine && finSp (spCross q s))] 4 ∧ Ch (fun b => b = fb) w w' := by
  have HP := Lib.hid hp
  have HQ := Lib.hid hq
  have HS := Lib.hid hs
  have hl := hf.lt
  have HF0 := Lib.hid (((hf.alloc (.cells #[.float .f32 x, .float .f32 y, .float .f32 z] 46)).alloc (.cells #[.float .f32 x', .float .f32 y', .float .f32 z'] 46)).alloc (.cells #[.float .f32 x2, .float .f32 y2, .float .f32 z2] 46))
  have HX := Lib.hid (((OwnC.new (w := w) (cs := #[.float .f32 x, .float .f32 y, .float .f32 z]) (T := 46) rfl).alloc (.cells #[.float .f32 x', .float .f32 y', .float .f32 z'] 46)).alloc (.cells #[.float .f32 x2, .float .f32 y2, .float .f32 z2] 46))
  have HB : Hid (Below w.heap.size w (((w.alloc (.cells #[.float .f32 x, .float .f32 y, .float .f32 z] 46)).alloc (.cells #[.float .f32 x', .float .f32 y', .float .f32 z'] 46)).alloc (.cells #[.float .f32 x2, .float .f32 y2, .float .f32 z2] 46))) := by
    show Below _ _ _
    (repeat (first | exact Below.refl _ _ | assumption | refine below_dr ?_ _ | refine Below.alloc ?_ (by first | omega | (simp; done) | (simp; omega)) _ | refine Below.setCell ?_ (by first | omega | (simp; done) | (simp; omega)) _ | refine Below.trans ?_ (Below.mono (by assumption) (by first | omega | (simp; done) | (simp; omega)))))
  clear hp hq hs hf
  cases fine
  · go_enter Try.func47, Try.ntmps47
    go_wp2_with (first
      | (go_at_call 45; refine (crossB x' y' z' x2 y2 z2 q s HQ.out HS.out _).mono ?_; rintro e w5 ⟨⟨a, b, c, rfl, hab⟩, hb5⟩; have HAB := Lib.hid hab; have HF5 := Lib.hid ((HF0.out.below hb5 (by simp; omega)).alloc (.cells #[.float .f32 a, .float .f32 b, .float .f32 c] 46)); have HX5 := Lib.hid ((HX.out.below hb5 (by simp; omega)).alloc (.cells #[.float .f32 a, .float .f32 b, .float .f32 c] 46)); have f0 := HF5.out.cell 0; have g0 := HF5.out.free 0; have cx0 := HX5.out.cell 0; have cx1 := HX5.out.cell 1; have cx2 := HX5.out.cell 2; simp at f0 cx0 cx1 cx2; have z5 := hb5.size; simp at z5; have HB5 := Lib.hid ((HB.out.trans (hb5.mono (by simp; omega))).alloc (by omega) (.cells #[.float .f32 a, .float .f32 b, .float .f32 c] 46)); clear hb5 hab)
      | (go_at_call 49; refine (dotB x y z a b c p _ HP.out HAB.out _).mono ?_; rintro e w6 ⟨⟨r, rfl, hr⟩, hb6⟩))
    have z6 := hb6.size
    simp at z6
    go_ret
    refine ⟨⟨r, rfl, hr⟩, ?_, ?_⟩
    · have : OwnC ((w5.alloc (.cells #[.float .f32 a, .float .f32 b, .float .f32 c] 46)).setCell ⟨fb, 0, none⟩ (.bool false)) fb #[.bool false] 4 := (HF5.out.set 0 _).congr rfl
      exact this.below hb6 (by simp; omega)
    · exact ((Ch.below HB5.out).trans (P' := fun b => b = fb) (Ch.set _ _ _ rfl) (fun b hb => .inl hb)).trans (P' := fun b => b = fb) (Ch.below hb6) (fun b hb => .inl hb)
  · go_enter Try.func47, Try.ntmps47
    go_wp2_with (first
      | (go_at_call 45; refine (crossB x' y' z' x2 y2 z2 q s HQ.out HS.out _).mono ?_; rintro e w5 ⟨⟨a, b, c, rfl, hab⟩, hb5⟩; have HAB := Lib.hid hab; have HF5 := Lib.hid ((HF0.out.below hb5 (by simp; omega)).alloc (.cells #[.float .f32 a, .float .f32 b, .float .f32 c] 46)); have HX5 := Lib.hid ((HX.out.below hb5 (by simp; omega)).alloc (.cells #[.float .f32 a, .float .f32 b, .float .f32 c] 46)); have HT5 := Lib.hid (OwnC.new (w := w5) (cs := #[.float .f32 a, .float .f32 b, .float .f32 c]) (T := 46) rfl); have f0 := HF5.out.cell 0; simp at f0; have z5 := hb5.size; simp at z5; have HB5 := Lib.hid ((HB.out.trans (hb5.mono (by simp; omega))).alloc (by omega) (.cells #[.float .f32 a, .float .f32 b, .float .f32 c] 46)); clear hb5 hab)
      | (go_at_call 48; refine (isSpotQ a b c _ HAB.out _).mono ?_; rintro e w7 ⟨rfl, hb7⟩; have HF7 := Lib.hid (HF5.out.below hb7 (by simp; omega)); have HX7 := Lib.hid (HX5.out.below hb7 (by simp; omega)); have HT7 := Lib.hid (HT5.out.below hb7 (by simp)); clear f0; have f0 := HF7.out.cell 0; have g0 := HF7.out.free 0; have cx0 := HX7.out.cell 0; have cx1 := HX7.out.cell 1; have cx2 := HX7.out.cell 2; have ct0 := HT7.out.cell 0; have ct1 := HT7.out.cell 1; have ct2 := HT7.out.cell 2; simp at f0 cx0 cx1 cx2 ct0 ct1 ct2; have HB7 := Lib.hid (HB5.out.trans (hb7.mono (by simp; omega))); have z7 := hb7.size; simp at z7; clear hb7)
      | (go_at_call 49; refine (dotB x y z a b c p _ HP.out HAB.out _).mono ?_; rintro e w6 ⟨⟨r, rfl, hr⟩, hb6⟩))
    have z6 := hb6.size
    simp at z6
    go_ret
    refine ⟨⟨r, rfl, hr⟩, ?_, ?_⟩
    · have : OwnC (w7.setCell ⟨fb, 0, none⟩ (.bool (finSp (spCross q s)))) fb #[.bool (true && finSp (spCross q s))] 4 := (HF7.out.set 0 _).congr rfl
      exact this.below hb6 (by simp; omega)
    · exact ((Ch.below HB7.out).trans (P' := fun b => b = fb) (Ch.set _ _ _ rfl) (fun b hb => .inl hb)).trans (P' := fun b => b = fb) (Ch.below hb6) (fun b hb => .inl hb)
end Go.Proofs.Ytkjljajjjhfklaa
