/- Dashes: what is cut off, and its lengths. Plain Lean. -/
import Derived.Test.YtkbikfifnaihlaaDsR
namespace Go.Fl
open Ieee Go.RowKit
/-- dash k, cut off -/
def DashF (xs : List Cx) (on off : Rat) (l : List Cx) (k : Nat) : Prop :=
  ∃ a, Chain l a ∧ 2 ≤ l.length ∧ l.length ≤ 7 ∧ (-(1 / 10000) ≤ a 0 - Bq on off (2 * k) ∧ a 0 - Bq on off (2 * k) ≤ 1 / 10000) ∧ (-(1 / 10000) ≤ a (l.length - 1) - Bq on off (2 * k + 1) ∧ a (l.length - 1) - Bq on off (2 * k + 1) ≤ 1 / 10000) ∧
    a (l.length - 1) ≤ Sq xs (xs.length - 1) ∧ (k = 0 → cAt l 0 = cAt xs 0)
/-- the dash that is being cut -/
def DashN (xs : List Cx) (on off : Rat) (j c g : Nat) (d : List Cx) : Prop :=
  ∃ a, Chain d a ∧ 1 ≤ d.length ∧ d.length ≤ j + 1 ∧ (-(1 / 10000) ≤ a 0 - Bq on off c ∧ a 0 - Bq on off c ≤ 1 / 10000) ∧ a (d.length - 1) = Sq xs j + R .f32 g ∧
    (j + 1 < xs.length → ∃ t, t * Lq xs j = R .f32 g ∧ OnAt (cAt xs j) (cAt xs (j + 1)) t (cAt d (d.length - 1))) ∧ (j + 1 = xs.length → 2 ≤ d.length) ∧ (c = 0 → cAt d 0 = cAt xs 0)
structure DSt (xs : List Cx) (on off : Rat) (j c g r : Nat) (d : List Cx) (out : List (List Cx)) : Prop where
  core : DC xs on off j c g r
  now : c % 2 = 0 → DashN xs on off j c g d
  outl : out.length = (c + 1) / 2
  outs : ∀ k, k < out.length → DashF xs on off (lpAt out k) k
def chD (c : Nat) (d : List Cx) (p : Cx) : List Cx := if c % 2 = 0 then d else [p]
def chO (c : Nat) (d : List Cx) (p : Cx) (out : List (List Cx)) : List (List Cx) := if c % 2 = 0 then out ++ [d ++ [p]] else out
def tuD (c : Nat) (d : List Cx) (q : Cx) : List Cx := if c % 2 = 0 then d ++ [q] else d
theorem lpA (ls : List (List Cx)) (l : List Cx) {i : Nat} (hi : i < ls.length) : lpAt (ls ++ [l]) i = lpAt ls i := by
  simp [lpAt, List.getElem?_append_left hi]
theorem lpZ (ls : List (List Cx)) (l : List Cx) : lpAt (ls ++ [l]) ls.length = l := by simp [lpAt]
section
variable {xs : List Cx} {on off : Rat} {j c g r : Nat} {d : List Cx} {out : List (List Cx)}
theorem part_le {t u L g g' : Rat} (hL : 49 / 100 ≤ L) (h1 : t * L = g) (h2 : u * L = g') (h : g ≤ g') : t ≤ u := by
  refine Rat.not_lt.1 fun k => ?_
  have := Rat.mul_pos (a := t - u) (b := L) (by grind) (by grind)
  grind
theorem outs_push {l : List Cx} (h : ∀ k, k < out.length → DashF xs on off (lpAt out k) k) (hl : DashF xs on off l out.length) : ∀ k, k < (out ++ [l]).length → DashF xs on off (lpAt (out ++ [l]) k) k := fun k hk => by
  by_cases e : k < out.length
  · rw [lpA out l e]; exact h k e
  · have : k = out.length := by simp at hk; omega
    subst this
    rw [lpZ]; exact hl
theorem DSt.start (C : Ctx xs on off) {o : Nat} (ho : isN .f32 o = true) (ho2 : R .f32 o = on) : DSt xs on off 0 0 0 o [cAt xs 0] [] := by
  have z := zero32_N.2
  have hn := C.n1
  have hs := C.seg 0 (by omega)
  have e1 : Bq on off (0 + 1) = 0 + on := rfl
  have e0 : Sq xs 0 = 0 := rfl
  have p0 : patQ on off 0 = on := rfl
  have := C.o1
  refine ⟨⟨by omega, zero32_N.1, by rw [z]; grind, fun hl => by rw [z]; have := C.lq hl; grind, fun _ => z, ho, by rw [ho2]; grind, by rw [ho2, p0]; grind, ?_, ?_⟩, fun _ => ⟨fun _ => 0, Chain.one hs.p 0, by simp, by simp, ?_, by rw [z, e0]; grind, fun _ => ⟨0, by rw [z]; grind, ?_⟩, fun h => by omega, fun _ => rfl⟩, rfl, fun k hk => absurd hk (by simp)⟩
  · rw [e1, e0, z, ho2, qN0]; grind
  · rw [e1, e0, z, ho2, qN0]; grind
  · have : Bq on off 0 = 0 := rfl
    rw [this]; constructor <;> grind
  · exact hs.at0
theorem DSt.change (C : Ctx xs on off) (h : DSt xs on off j c g r d out) (hj : j + 1 < xs.length) (hgt : R .f32 r < R .f32 (fop .sub .f32 (lenF (cAt xs j) (cAt xs (j + 1))) g)) {r' : Nat} (hr : isN .f32 r' = true) (hr' : R .f32 r' = patQ on off (c + 1)) :
    isN .f32 (fop .add .f32 g r) = true ∧ PlaceN (cAt xs j) (cAt xs (j + 1)) (fop .add .f32 g r) ∧
      DSt xs on off j (c + 1) (fop .add .f32 g r) r' (chD c d (placeF (cAt xs j) (cAt xs (j + 1)) (fop .add .f32 g r))) (chO c d (placeF (cAt xs j) (cAt xs (j + 1)) (fop .add .f32 g r)) out) := by
  obtain ⟨hn, hgg, hc, b1, b2⟩ := h.core.change C hj hgt hr hr'
  have hs := C.seg j hj
  obtain ⟨hp, t', ht', hon⟩ := hs.place hn hc.g0 (hc.gl hj)
  refine ⟨hn, hp, ?_⟩
  obtain ⟨G, hG⟩ : ∃ G, G = fop .add .f32 g r := ⟨_, rfl⟩
  rw [← hG] at hn hgg hc b1 b2 hp ht' hon ⊢
  obtain ⟨P, hP⟩ : ∃ P, P = placeF (cAt xs j) (cAt xs (j + 1)) G := ⟨_, rfl⟩
  rw [← hP] at hon ⊢
  have hout := h.outl
  have hLj := (C.lq hj).1
  have ht' : t' * Lq xs j = R .f32 G := ht'
  by_cases e : c % 2 = 0
  · have e' : ¬ (c + 1) % 2 = 0 := by omega
    unfold chD chO
    rw [if_pos e, if_pos e]
    obtain ⟨a, ha, d1, d2, d3, d4, d5, d6, d7⟩ := h.now e
    obtain ⟨t, ht, hat⟩ := d5 hj
    have hpc := hs.piece hat hon (part_le hLj ht ht' hgg)
    have hx : (t' - t) * R .f32 (lenF (cAt xs j) (cAt xs (j + 1))) = (Sq xs j + R .f32 G) - a (d.length - 1) := by
      rw [d4]
      show (t' - t) * Lq xs j = _
      grind
    rw [hx] at hpc
    have hk2 : 2 * out.length = c := by omega
    have hb := C.n2
    refine ⟨hc, fun h0 => absurd h0 e', by rw [List.length_append, hout]; simp; omega, outs_push h.outs ⟨snocA d a (Sq xs j + R .f32 G), ha.snoc d1 hpc hon.n, by simp; omega, by simp; omega, ?_, ?_, ?_, fun h0 => ?_⟩⟩
    · rw [snocA_0 d1, hk2]; exact d3
    · rw [snocA_l, hk2]; exact ⟨b1, b2⟩
    · rw [snocA_l]; exact hc.far C
    · rw [cAt_l d P (by omega)]; exact d7 (by omega)
  · have e' : (c + 1) % 2 = 0 := by omega
    unfold chD chO
    rw [if_neg e, if_neg e]
    refine ⟨hc, fun _ => ⟨fun _ => Sq xs j + R .f32 G, Chain.one hon.n _, by simp, by simp, ⟨b1, b2⟩, rfl, fun _ => ⟨t', ht', hon⟩, fun h0 => by omega, fun h0 => by omega⟩, by rw [hout]; omega, h.outs⟩
theorem DSt.turn (C : Ctx xs on off) (h : DSt xs on off j c g r d out) (hj : j + 1 < xs.length) (hle : ¬ R .f32 r < R .f32 (fop .sub .f32 (lenF (cAt xs j) (cAt xs (j + 1))) g)) :
    isN .f32 (fop .sub .f32 r (fop .sub .f32 (lenF (cAt xs j) (cAt xs (j + 1))) g)) = true ∧
      DSt xs on off (j + 1) c 0 (fop .sub .f32 r (fop .sub .f32 (lenF (cAt xs j) (cAt xs (j + 1))) g)) (tuD c d (cAt xs (j + 1))) out := by
  obtain ⟨hn, hc⟩ := h.core.turn C hj hle
  have hs := C.seg j hj
  have z := zero32_N.2
  have hLj := (C.lq hj).1
  have hgl := h.core.gl hj
  refine ⟨hn, hc, fun e => ?_, h.outl, h.outs⟩
  unfold tuD
  rw [if_pos e]
  obtain ⟨a, ha, d1, d2, d3, d4, d5, d6, d7⟩ := h.now e
  obtain ⟨t, ht, hat⟩ := d5 hj
  have hpc := hs.piece hat hs.at1 hat.t1
  have hx : (1 - t) * R .f32 (lenF (cAt xs j) (cAt xs (j + 1))) = Sq xs (j + 1) - a (d.length - 1) := by
    rw [d4]
    show (1 - t) * Lq xs j = Sq xs j + Lq xs j - _
    grind
  rw [hx] at hpc
  refine ⟨snocA d a (Sq xs (j + 1)), ha.snoc d1 hpc hs.q, by simp, by simp; omega, by rw [snocA_0 d1]; exact d3, by rw [snocA_l, z]; grind, fun hj2 => ⟨0, by rw [z]; grind, by rw [cAt_last]; exact (C.seg (j + 1) hj2).at0⟩, fun _ => by simp; omega, fun h0 => by rw [cAt_l d _ (by omega)]; exact d7 h0⟩
/-- all dashes at the end -/
def finO (c : Nat) (d : List Cx) (out : List (List Cx)) : List (List Cx) := if c % 2 = 0 then out ++ [d] else out
/-- the dash k, at the end -/
def DashE (xs : List Cx) (on off : Rat) (l : List Cx) (k : Nat) (last : Prop) : Prop :=
  ∃ a, Chain l a ∧ 2 ≤ l.length ∧ l.length ≤ 7 ∧ (-(1 / 10000) ≤ a 0 - Bq on off (2 * k) ∧ a 0 - Bq on off (2 * k) ≤ 1 / 10000) ∧ a (l.length - 1) ≤ Sq xs (xs.length - 1) ∧ a (l.length - 1) ≤ Bq on off (2 * k + 1) + 1 / 10000 ∧
    (Bq on off (2 * k + 1) - 1 / 10000 ≤ a (l.length - 1) ∨ (last ∧ a (l.length - 1) = Sq xs (xs.length - 1))) ∧ (k = 0 → cAt l 0 = cAt xs 0)
structure GoodD (xs : List Cx) (on off : Rat) (ls : List (List Cx)) : Prop where
  l1 : 1 ≤ ls.length
  l2 : ls.length ≤ 15
  dash : ∀ k, k < ls.length → DashE xs on off (lpAt ls k) k (k + 1 = ls.length)
  over : Sq xs (xs.length - 1) ≤ Bq on off (2 * ls.length) + 1 / 10000
theorem DashF.e {l : List Cx} {k : Nat} {p : Prop} (h : DashF xs on off l k) : DashE xs on off l k p := by
  obtain ⟨a, h1, h2, h3, h4, h5, h6, h7⟩ := h
  exact ⟨a, h1, h2, h3, h4, h6, by grind, .inl (by grind), h7⟩
theorem DSt.good (C : Ctx xs on off) (h : DSt xs on off j c g r d out) (hj : j + 1 = xs.length) : GoodD xs on off (finO c d out) ∧ (c % 2 = 0 → 2 ≤ d.length) := by
  have hc := h.core.cb C
  have hout := h.outl
  have he := h.core.err C
  have g0 := h.core.ge hj
  have r0 := h.core.r0
  have lo := h.core.lo
  have hi := h.core.hi
  have ej : Sq xs j = Sq xs (xs.length - 1) := by rw [show xs.length - 1 = j by omega]
  have hb : Bq on off (c + 1) = Bq on off c + patQ on off c := rfl
  have hb2 : Bq on off (c + 1 + 1) = Bq on off (c + 1) + patQ on off (c + 1) := rfl
  have hp1 := C.pat c
  have hp2 := C.pat (c + 1)
  unfold finO
  by_cases e : c % 2 = 0
  · rw [if_pos e]
    obtain ⟨a, ha, d1, d2, d3, d4, d5, d6, d7⟩ := h.now e
    have hk2 : 2 * out.length = c := by omega
    have hn := C.n2
    refine ⟨⟨by simp, by simp; omega, fun k hk => ?_, ?_⟩, fun _ => d6 hj⟩
    · by_cases e2 : k < out.length
      · rw [lpA out d e2]; exact (h.outs k e2).e
      · have : k = out.length := by simp at hk; omega
        subst this
        rw [lpZ]
        refine ⟨a, ha, d6 hj, by omega, by rw [hk2]; exact d3, by rw [d4, g0, ej]; grind, ?_, .inr ⟨by simp, by rw [d4, g0, ej]; grind⟩, fun h0 => d7 (by omega)⟩
        rw [d4, hk2]
        grind
    · rw [List.length_append, show 2 * (out.length + [d].length) = c + 1 + 1 by simp; omega, hb2]
      grind
  · rw [if_neg e]
    have hk2 : 2 * out.length = c + 1 := by omega
    refine ⟨⟨by omega, by omega, fun k hk => (h.outs k hk).e, ?_⟩, fun h0 => absurd h0 e⟩
    rw [hk2]
    grind
end
end Go.Fl
