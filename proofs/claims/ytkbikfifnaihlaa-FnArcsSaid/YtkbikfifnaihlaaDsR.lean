/- Dashes: the course of the cut, step by step. Plain Lean. -/
import Derived.Test.YtkbikfifnaihlaaDsQ
namespace Go.Fl
open Ieee Go.RowKit
/-- a natural number as a rational one -/
def qN (k : Nat) : Rat := ((k : Int) : Rat)
theorem qN_succ (k : Nat) : qN (k + 1) = qN k + 1 := by unfold qN; rw [Int.natCast_add, Rat.intCast_add]; rfl
theorem qN_add (k m : Nat) : qN (k + m) = qN k + qN m := by unfold qN; rw [Int.natCast_add, Rat.intCast_add]
theorem qN_nn (k : Nat) : 0 ≤ qN k := Rat.intCast_nonneg.2 (Int.natCast_nonneg _)
theorem qN_le {k m : Nat} (h : k ≤ m) : qN k ≤ qN m := Rat.intCast_le_intCast.2 (by omega)
theorem qN_2 (k : Nat) : qN (2 * k) = 2 * qN k := by rw [Nat.two_mul, qN_add]; grind
theorem qN0 : qN 0 = 0 := rfl
theorem qN1 : qN 1 = 1 := rfl
theorem cAt_l (d : List Cx) (p : Cx) {k : Nat} (h : k < d.length) : cAt (d ++ [p]) k = cAt d k := by
  unfold cAt; rw [List.getD_eq_getElem?_getD, List.getD_eq_getElem?_getD, List.getElem?_append_left h]
theorem cAt_r (d : List Cx) (p : Cx) : cAt (d ++ [p]) d.length = p := by
  unfold cAt; rw [List.getD_eq_getElem?_getD]; simp
/-- a dash: its places, as far along the path as the numbers a tell -/
structure Chain (d : List Cx) (a : Nat → Rat) : Prop where
  num : ∀ k, k < d.length → nN (cAt d k)
  piece : ∀ k, k + 1 < d.length → PieceN (cAt d k) (cAt d (k + 1)) (a (k + 1) - a k)
theorem Chain.one {p : Cx} (h : nN p) (s : Rat) : Chain [p] (fun _ => s) := ⟨fun k hk => by
  have : k = 0 := by simpa using hk
  subst this; exact h, fun k hk => absurd hk (by simp)⟩
def snocA (d : List Cx) (a : Nat → Rat) (x : Rat) (k : Nat) : Rat := if k < d.length then a k else x
theorem Chain.snoc {d : List Cx} {a : Nat → Rat} {p : Cx} {x : Rat} (h : Chain d a) (hd : 1 ≤ d.length) (hp : PieceN (cAt d (d.length - 1)) p (x - a (d.length - 1))) (hn : nN p) : Chain (d ++ [p]) (snocA d a x) := by
  refine ⟨fun k hk => ?_, fun k hk => ?_⟩
  · by_cases e : k < d.length
    · rw [cAt_l d p e]; exact h.num k e
    · have : k = d.length := by simp at hk; omega
      subst this; rw [cAt_r]; exact hn
  · by_cases e : k + 1 < d.length
    · rw [cAt_l d p e, cAt_l d p (by omega)]
      unfold snocA; rw [if_pos e, if_pos (by omega)]
      exact h.piece k e
    · have hk1 : k + 1 = d.length := by simp at hk; omega
      have hk2 : d.length - 1 = k := by omega
      rw [hk2] at hp
      rw [cAt_l d p (by omega), hk1, cAt_r]
      unfold snocA; rw [if_neg (by omega), if_pos (by omega)]
      exact hp
theorem snocA_0 {d : List Cx} {a : Nat → Rat} {x : Rat} (hd : 1 ≤ d.length) : snocA d a x 0 = a 0 := by unfold snocA; rw [if_pos (by omega)]
theorem snocA_l {d : List Cx} {a : Nat → Rat} {x : Rat} {p : Cx} : snocA d a x ((d ++ [p]).length - 1) = x := by unfold snocA; rw [if_neg (by simp)]
theorem cAt_last (d : List Cx) (p : Cx) : cAt (d ++ [p]) ((d ++ [p]).length - 1) = p := by
  have : (d ++ [p]).length - 1 = d.length := by simp
  rw [this, cAt_r]
/-- the path and the pattern -/
structure Ctx (xs : List Cx) (on off : Rat) : Prop where
  n1 : 2 ≤ xs.length
  n2 : xs.length ≤ 7
  seg : ∀ j, j + 1 < xs.length → Seg (cAt xs j) (cAt xs (j + 1))
  o1 : 1 / 2 ≤ on
  o2 : on ≤ 2
  f1 : 1 / 2 ≤ off
  f2 : off ≤ 2
def Lq (xs : List Cx) (j : Nat) : Rat := R .f32 (lenF (cAt xs j) (cAt xs (j + 1)))
def Sq (xs : List Cx) : Nat → Rat
  | 0 => 0
  | j + 1 => Sq xs j + Lq xs j
def patQ (on off : Rat) (c : Nat) : Rat := if c % 2 = 0 then on else off
def Bq (on off : Rat) : Nat → Rat
  | 0 => 0
  | c + 1 => Bq on off c + patQ on off c
section
variable {xs : List Cx} {on off : Rat}
theorem Ctx.pat (C : Ctx xs on off) (c : Nat) : 1 / 2 ≤ patQ on off c ∧ patQ on off c ≤ 2 := by
  unfold patQ; split
  · exact ⟨C.o1, C.o2⟩
  · exact ⟨C.f1, C.f2⟩
theorem Ctx.bq (C : Ctx xs on off) : ∀ c, qN c / 2 ≤ Bq on off c
  | 0 => by rw [qN0]; show _ ≤ (0 : Rat); grind
  | c + 1 => by
    have := C.bq c
    have := (C.pat c).1
    rw [qN_succ]; show _ ≤ Bq on off c + patQ on off c; grind
theorem Ctx.lq (C : Ctx xs on off) {j : Nat} (hj : j + 1 < xs.length) : 49 / 100 ≤ Lq xs j ∧ Lq xs j ≤ 23 / 10 := ⟨(C.seg j hj).len.lo, (C.seg j hj).len.hi⟩
theorem Ctx.sq (C : Ctx xs on off) : ∀ j, j + 1 ≤ xs.length → 0 ≤ Sq xs j ∧ Sq xs j ≤ 23 / 10 * qN j
  | 0, _ => by rw [qN0]; exact ⟨by show (0 : Rat) ≤ 0; grind, by show (0 : Rat) ≤ _; grind⟩
  | j + 1, hj => by
    have := C.sq j (by omega)
    have := C.lq (j := j) (by omega)
    rw [qN_succ]
    exact ⟨by show 0 ≤ Sq xs j + Lq xs j; grind, by show Sq xs j + Lq xs j ≤ _; grind⟩
theorem Ctx.sq_mono (C : Ctx xs on off) (j : Nat) : ∀ m, j + m + 1 ≤ xs.length → Sq xs j ≤ Sq xs (j + m)
  | 0, _ => by show Sq xs j ≤ Sq xs j; exact Rat.le_refl
  | m + 1, hm => by
    have := C.sq_mono j m (by omega)
    have := C.lq (j := j + m) (by omega)
    show _ ≤ Sq xs (j + m) + Lq xs (j + m)
    grind
/-- where the cut is: on segment j, at the part g of it, c changes done, r before the next -/
structure DC (xs : List Cx) (on off : Rat) (j c g r : Nat) : Prop where
  jn : j + 1 ≤ xs.length
  gN : isN .f32 g = true
  g0 : 0 ≤ R .f32 g
  gl : j + 1 < xs.length → R .f32 g ≤ Lq xs j
  ge : j + 1 = xs.length → R .f32 g = 0
  rN : isN .f32 r = true
  r0 : 0 ≤ R .f32 r
  rp : R .f32 r ≤ patQ on off c
  lo : -((qN c + 2 * qN j) / 1000000) ≤ Sq xs j + R .f32 g + R .f32 r - Bq on off (c + 1)
  hi : Sq xs j + R .f32 g + R .f32 r - Bq on off (c + 1) ≤ (qN c + 2 * qN j) / 1000000
variable {j c g r : Nat}
theorem DC.far (C : Ctx xs on off) (h : DC xs on off j c g r) : Sq xs j + R .f32 g ≤ Sq xs (xs.length - 1) := by
  have hj := h.jn
  rcases Nat.lt_or_eq_of_le hj with e | e
  · have h1 := C.sq_mono (j + 1) (xs.length - 1 - (j + 1)) (by omega)
    rw [show j + 1 + (xs.length - 1 - (j + 1)) = xs.length - 1 by omega] at h1
    have h2 := h.gl e
    have h3 : Sq xs (j + 1) = Sq xs j + Lq xs j := rfl
    grind
  · have := h.ge e
    rw [this, show xs.length - 1 = j by omega]
    grind
theorem DC.cb (C : Ctx xs on off) (h : DC xs on off j c g r) : c ≤ 28 := by
  refine Nat.le_of_lt_succ (Nat.lt_of_not_le fun hc => ?_)
  have h1 := C.bq c
  have h2 := h.hi
  have h2' := h.lo
  have h3 := h.rp
  have h4 := h.far C
  have h5 := (C.sq (xs.length - 1) (by have := C.n1; omega)).2
  have h6 := qN_le (show xs.length - 1 ≤ 6 by have := C.n2; omega)
  have h7 := qN_le (show j ≤ 6 by have := h.jn; have := C.n2; omega)
  have h8 := qN_le hc
  have e6 : qN 6 = 6 := rfl
  have e8 : qN 29 = 29 := rfl
  have e9 : Bq on off (c + 1) = Bq on off c + patQ on off c := rfl
  rw [e6] at h6 h7
  rw [e8] at h8
  grind
theorem DC.err (C : Ctx xs on off) (h : DC xs on off j c g r) : (qN c + 2 * qN j) / 1000000 ≤ 45 / 1000000 := by
  have h7 := qN_le (show j ≤ 6 by have := h.jn; have := C.n2; omega)
  have h8 := qN_le (h.cb C)
  have e6 : qN 6 = 6 := rfl
  have e8 : qN 28 = 28 := rfl
  rw [e6] at h7
  rw [e8] at h8
  grind
/-- the rest of the segment -/
theorem DC.sub (C : Ctx xs on off) (h : DC xs on off j c g r) (hj : j + 1 < xs.length) : Rnd .f32 (fop .sub .f32 (lenF (cAt xs j) (cAt xs (j + 1))) g) (Lq xs j - R .f32 g) := by
  have h1 := C.lq hj
  have h2 := h.g0
  have h3 := h.gl hj
  have hl := (C.seg j hj).len
  exact rnd_sub hl.ln.num h.gN (by show _ ≤ Lq xs j - _; grind) (by show Lq xs j - _ ≤ _; grind)
/-- a change -/
theorem DC.change (C : Ctx xs on off) (h : DC xs on off j c g r) (hj : j + 1 < xs.length) (hgt : R .f32 r < R .f32 (fop .sub .f32 (lenF (cAt xs j) (cAt xs (j + 1))) g)) {r' : Nat} (hr : isN .f32 r' = true) (hr' : R .f32 r' = patQ on off (c + 1)) :
    isN .f32 (fop .add .f32 g r) = true ∧ R .f32 g ≤ R .f32 (fop .add .f32 g r) ∧ DC xs on off j (c + 1) (fop .add .f32 g r) r' ∧ -(1 / 10000) ≤ Sq xs j + R .f32 (fop .add .f32 g r) - Bq on off (c + 1) ∧ Sq xs j + R .f32 (fop .add .f32 g r) - Bq on off (c + 1) ≤ 1 / 10000 := by
  have hs := h.sub C hj
  have h1 := C.lq hj
  have h2 := h.g0
  have h3 := h.gl hj
  have h4 := h.r0
  have hlt : R .f32 g + R .f32 r < Lq xs j := by
    refine Rat.not_le.1 fun k => ?_
    have := hs.le r h.rN (by grind)
    grind
  have ha := rnd_add h.gN h.rN (by grind) (by grind)
  have hf := ha.n32 2 (by decide) (B := 4) rfl (by grind) (by grind)
  have hge := ha.ge g h.gN (by grind)
  have hle := ha.le _ (C.seg j hj).len.ln.num (by show _ ≤ Lq xs j; grind)
  have hle : R .f32 (fop .add .f32 g r) ≤ Lq xs j := hle
  have h5 := h.lo
  have h6 := h.hi
  have h7 := h.err C
  have e2 : Bq on off (c + 1 + 1) = Bq on off (c + 1) + patQ on off (c + 1) := rfl
  refine ⟨ha.num, hge, ⟨h.jn, ha.num, by grind, fun _ => hle, fun e => absurd e (by omega), hr, by rw [hr']; have := (C.pat (c + 1)).1; grind, by rw [hr']; exact Rat.le_refl, ?_, ?_⟩, by grind, by grind⟩
  · rw [qN_succ, hr', e2]; grind
  · rw [qN_succ, hr', e2]; grind
/-- the end of a segment -/
theorem DC.turn (C : Ctx xs on off) (h : DC xs on off j c g r) (hj : j + 1 < xs.length) (hle : ¬ R .f32 r < R .f32 (fop .sub .f32 (lenF (cAt xs j) (cAt xs (j + 1))) g)) :
    isN .f32 (fop .sub .f32 r (fop .sub .f32 (lenF (cAt xs j) (cAt xs (j + 1))) g)) = true ∧ DC xs on off (j + 1) c 0 (fop .sub .f32 r (fop .sub .f32 (lenF (cAt xs j) (cAt xs (j + 1))) g)) := by
  have hs := h.sub C hj
  obtain ⟨u, hu⟩ : ∃ u, u = fop .sub .f32 (lenF (cAt xs j) (cAt xs (j + 1))) g := ⟨_, rfl⟩
  rw [← hu] at hle hs ⊢
  have h1 := C.lq hj
  have h2 := h.g0
  have h3 := h.gl hj
  have h4 := h.r0
  have hp := h.rp
  have hp2 := (C.pat c).2
  have u0 := hs.nn32 (by grind)
  have hf := hs.n32 2 (by decide) (B := 4) rfl (by grind) (by grind)
  have ha := rnd_sub h.rN hs.num (by grind) (by grind)
  have hf2 := ha.n32 2 (by decide) (B := 4) rfl (by grind) (by grind)
  have a0 := ha.nn32 (by grind)
  have a1 := ha.le r h.rN (by grind)
  have h5 := h.lo
  have h6 := h.hi
  have e1 : Sq xs (j + 1) = Sq xs j + Lq xs j := rfl
  have z := zero32_N.2
  refine ⟨ha.num, ⟨by omega, zero32_N.1, by rw [z]; grind, fun hl => by rw [z]; have := C.lq hl; grind, fun _ => z, ha.num, a0, by grind, ?_, ?_⟩⟩
  · rw [qN_succ, e1, z]; grind
  · rw [qN_succ, e1, z]; grind
end
end Go.Fl
