/- Dashes: what the walk of DashPath asks, and that the law's three calls meet it. Plain Lean. -/
import Derived.Test.YtodkhkphagcfiaaDsF
namespace Go.Fl
open Ieee Go.RowKit
def ptOf (a b c : Nat) : Nat := if c % 2 = 0 then a else b
/-- the length of segment j, in bits -/
def lF (xs : List Cx) (j : Nat) : Nat := lenF (cAt xs j) (cAt xs (j + 1))
structure DAlg (xs : List Cx) (pt : Nat → Nat) (c0 : Nat) (Inv : Nat → Nat → Nat → Nat → List Cx → List (List Cx) → Prop) : Prop where
  cb : ∀ {j c g r d out}, Inv j c g r d out → c0 ≤ c ∧ c ≤ 60 ∧ (c % 2 = 0 → d.length ≤ 60) ∧ out.length ≤ 30 ∧ isN .f32 r = true
  sub : ∀ {j c g r d out}, Inv j c g r d out → j + 1 < xs.length → isN .f32 (fop .sub .f32 (lF xs j) g) = true
  change : ∀ {j c g r d out}, Inv j c g r d out → j + 1 < xs.length → R .f32 r < R .f32 (fop .sub .f32 (lF xs j) g) →
    isN .f32 (fop .add .f32 g r) = true ∧ PlaceN (cAt xs j) (cAt xs (j + 1)) (fop .add .f32 g r) ∧
      Inv j (c + 1) (fop .add .f32 g r) (pt (c + 1)) (chD c d (placeF (cAt xs j) (cAt xs (j + 1)) (fop .add .f32 g r))) (chO c d (placeF (cAt xs j) (cAt xs (j + 1)) (fop .add .f32 g r)) out)
  turn : ∀ {j c g r d out}, Inv j c g r d out → j + 1 < xs.length → ¬ R .f32 r < R .f32 (fop .sub .f32 (lF xs j) g) →
    isN .f32 (fop .sub .f32 r (fop .sub .f32 (lF xs j) g)) = true ∧ Inv (j + 1) c 0 (fop .sub .f32 r (fop .sub .f32 (lF xs j) g)) (tuD c d (cAt xs (j + 1))) out
  okd : ∀ {j c g r d out}, Inv j c g r d out → c % 2 = 0 → d.all okPt = true
  oko : ∀ {j c g r d out}, Inv j c g r d out → ∀ i, i < out.length → (lpAt out i).length ≤ 1000 ∧ (lpAt out i).all okPt = true
  fin : ∀ {j c g r d out}, Inv j c g r d out → j + 1 = xs.length → c % 2 = 0 → 2 ≤ d.length
structure SAlg (pt : Nat → Nat) (K : Nat) (S : Nat → Nat) (r0 : Nat) : Prop where
  k4 : K ≤ 4
  s : ∀ k, k ≤ K → isN .f32 (S k) = true
  p : ∀ k, isN .f32 (pt k) = true ∧ 0 < R .f32 (pt k)
  go : ∀ k, k < K → FloatKind.f32.format.order (S k) (pt k) = some .eq ∧ isN .f32 (fop .sub .f32 (S k) (pt k)) = true ∧ S (k + 1) = fop .sub .f32 (S k) (pt k)
  stop : FloatKind.f32.format.order (S K) (pt K) = some .lt
  nn : FloatKind.f32.format.order (S 0) 0 = some .gt ∨ FloatKind.f32.format.order (S 0) 0 = some .eq
  r : isN .f32 (fop .sub .f32 (pt K) (S K)) = true ∧ r0 = fop .sub .f32 (pt K) (S K)
theorem all_ok {d : List Cx} (h : ∀ k, k < d.length → nN (cAt d k)) : d.all okPt = true := by
  refine List.all_eq_true.2 fun z hz => ?_
  obtain ⟨k, hk, rfl⟩ := List.getElem_of_mem hz
  have := h k hk
  unfold cAt at this
  rw [List.getD_eq_getElem?_getD, List.getElem?_eq_getElem hk] at this
  exact okN this
theorem Ctx.main {xs : List Cx} {on off : Rat} (C : Ctx xs on off) {a b : Nat} (ha : isN .f32 a = true) (ea : R .f32 a = on) (hb : isN .f32 b = true) (eb : R .f32 b = off) : DAlg xs (ptOf a b) 0 (DSt xs on off) := by
  have hp : ∀ c, isN .f32 (ptOf a b c) = true ∧ R .f32 (ptOf a b c) = patQ on off c := fun c => by
    unfold ptOf patQ; split
    · exact ⟨ha, ea⟩
    · exact ⟨hb, eb⟩
  refine ⟨fun {j c g r d out} h => ?_, fun h hj => (h.core.sub C hj).num, fun h hj hgt => h.change C hj hgt (hp _).1 (hp _).2, fun h hj hle => h.turn C hj hle, fun h e => ?_, fun h i hi => ?_, fun h hj e => (h.good C hj).2 e⟩
  · have hc := h.core.cb C
    have ho := h.outl
    refine ⟨Nat.zero_le _, by omega, fun e => ?_, by omega, h.core.rN⟩
    obtain ⟨a, _, _, h3, _⟩ := h.now e
    have := h.core.jn
    have := C.n2
    omega
  · obtain ⟨a, ha, _⟩ := h.now e
    exact all_ok ha.num
  · obtain ⟨a, ha, _, h7, _⟩ := h.outs i hi
    exact ⟨by omega, all_ok ha.num⟩
/-- a path that is cut nowhere: one dash, or none -/
structure DW (xs : List Cx) (c0 : Nat) (j c g r : Nat) (d : List Cx) (out : List (List Cx)) : Prop where
  c : c = c0
  g : g = 0
  o : out = []
  jn : j + 1 ≤ xs.length
  dl : d.length ≤ 7
  dd : c0 % 2 = 0 → d = xs.take (j + 1)
  rN : isN .f32 r = true
  r1 : 1000 - 3 * qN j ≤ R .f32 r
  r2 : R .f32 r ≤ 1000
theorem DW.sub {xs : List Cx} {on off : Rat} (C : Ctx xs on off) {c0 j c g r : Nat} {d : List Cx} {out : List (List Cx)} (h : DW xs c0 j c g r d out) (hj : j + 1 < xs.length) : isN .f32 (fop .sub .f32 (lF xs j) g) = true ∧ 0 ≤ R .f32 (fop .sub .f32 (lF xs j) g) ∧ R .f32 (fop .sub .f32 (lF xs j) g) ≤ 24 / 10 := by
  have hg := h.g
  subst hg
  have hl := C.lq hj
  have z := zero32_N.2
  have q := rnd_sub (C.seg j hj).len.ln.num zero32_N.1 (by show _ ≤ Lq xs j - _; rw [z]; grind) (by show Lq xs j - _ ≤ _; rw [z]; grind)
  rw [z] at q
  have q : Rnd .f32 (fop .sub .f32 (lF xs j) 0) (Lq xs j - 0) := q
  have f := q.n32 2 (by decide) (B := 4) rfl (by grind) (by grind)
  exact ⟨q.num, q.nn32 (by grind), by grind⟩
theorem DW.alg {xs : List Cx} {on off : Rat} (C : Ctx xs on off) {pt : Nat → Nat} {c0 : Nat} (h60 : c0 ≤ 60) (hx : ∀ k, k < xs.length → nN (cAt xs k)) : DAlg xs pt c0 (DW xs c0) := by
  refine ⟨fun {j c g r d out} h => ⟨by rw [h.c]; exact Nat.le_refl _, by rw [h.c]; exact h60, fun _ => by have := h.dl; omega, by rw [h.o]; simp, h.rN⟩, fun h hj => (h.sub C hj).1, fun {j c g r d out} h hj hgt => ?_, fun {j c g r d out} h hj _ => ?_, fun {j c g r d out} h e => ?_, fun h i hi => ?_, fun {j c g r d out} h hj e => ?_⟩
  · exfalso
    have := (h.sub C hj).2.2
    have := h.r1
    have h7 := qN_le (show j ≤ 6 by have := C.n2; omega)
    have e6 : qN 6 = 6 := rfl
    rw [e6] at h7
    grind
  · obtain ⟨u1, u2, u3⟩ := h.sub C hj
    have k1 := h.r1
    have k2 := h.r2
    have h7 := qN_le (show j ≤ 6 by have := C.n2; omega)
    have e6 : qN 6 = 6 := rfl
    rw [e6] at h7
    have q := rnd_sub h.rN u1 (by grind) (by grind)
    have f := q.n32 10 (by decide) (B := 1024) rfl (by grind) (by grind)
    refine ⟨q.num, h.c, rfl, h.o, by omega, ?_, fun e0 => ?_, q.num, by rw [qN_succ]; grind, ?_⟩
    · have e1 := h.dd
      unfold tuD
      split
      · rename_i e
        rw [e1 (by rw [← h.c]; exact e)]
        simp
        have := C.n2
        omega
      · exact h.dl
    · have e1 := h.dd e0
      unfold tuD
      have et : xs.take (j + 1 + 1) = xs.take (j + 1) ++ [xs[j + 1]] := List.take_succ_eq_append_getElem hj
      rw [if_pos (by rw [h.c]; exact e0), e1, et]
      congr 2
      unfold cAt
      rw [List.getD_eq_getElem?_getD, List.getElem?_eq_getElem hj]
      rfl
    · exact Rat.le_trans (q.le r h.rN (by grind)) k2
  · rw [h.dd (by rw [← h.c]; exact e)]
    have := all_ok hx
    rw [List.all_eq_true] at this ⊢
    exact fun z hz => this z (List.mem_of_mem_take hz)
  · rw [h.o] at hi
    exact absurd hi (by simp)
  · rw [h.dd (by rw [← h.c]; exact e), List.length_take]
    have := C.n1
    omega
end Go.Fl
