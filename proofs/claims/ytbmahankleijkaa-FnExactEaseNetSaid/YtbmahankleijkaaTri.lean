/- Sums over the triangles of facets, and the program's walk over them with a closure. -/
import Derived.Test.YtbmahankleijkaaFpS
import Derived.Test.YtbmahankleijkaaNonf
import Derived.Test.YtbmahankleijkaaClo
namespace Go.Fl
/-- the corner of a facet -/
def cornP (ps : List Sp) (f : List Int) (k : Nat) : Sp := pAt ps (iAt f k).toNat
/-- what g tells of triangle k of a facet -/
def triG (g : Sp → Sp → Sp → Nat) (ps : List Sp) (f : List Int) (k : Nat) : Nat := g (cornP ps f 0) (cornP ps f (k + 1)) (cornP ps f (k + 2))
/-- from s on, the first k triangles of a facet -/
def triJ (g : Sp → Sp → Sp → Nat) (ps : List Sp) (f : List Int) (s : Nat) : Nat → Nat
  | 0 => s
  | k + 1 => fadd (triJ g ps f s k) (triG g ps f k)
/-- all triangles of the first j facets -/
def triF (g : Sp → Sp → Sp → Nat) (ps : List Sp) (fs : List (List Int)) : Nat → Nat
  | 0 => 0
  | j + 1 => triJ g ps (fAt fs j) (triF g ps fs j) ((fAt fs j).length - 2)
/-- from b on, does t hold of the first k triangles of a facet? -/
def allJ (t : Sp → Sp → Sp → Bool) (ps : List Sp) (f : List Int) (b : Bool) : Nat → Bool
  | 0 => b
  | k + 1 => allJ t ps f b k && t (cornP ps f 0) (cornP ps f (k + 1)) (cornP ps f (k + 2))
def allF (t : Sp → Sp → Sp → Bool) (ps : List Sp) (fs : List (List Int)) : Nat → Bool
  | 0 => true
  | j + 1 => allJ t ps (fAt fs j) (allF t ps fs j) ((fAt fs j).length - 2)
theorem allJ_false {t : Sp → Sp → Sp → Bool} {ps : List Sp} {f : List Int} : ∀ k, allJ t ps f false k = false
  | 0 => rfl
  | k + 1 => by rw [allJ, allJ_false k]; rfl
theorem allJ_mono {t : Sp → Sp → Sp → Bool} {ps : List Sp} {f : List Int} {b : Bool} {k : Nat} (h : allJ t ps f b k = false) : ∀ d, allJ t ps f b (k + d) = false
  | 0 => h
  | d + 1 => by rw [show k + (d + 1) = (k + d) + 1 from rfl, allJ, allJ_mono h d]; rfl
theorem allF_mono {t : Sp → Sp → Sp → Bool} {ps : List Sp} {fs : List (List Int)} {j : Nat} (h : allF t ps fs j = false) : ∀ d, allF t ps fs (j + d) = false
  | 0 => h
  | d + 1 => by rw [show j + (d + 1) = (j + d) + 1 from rfl, allF, allF_mono h d]; exact allJ_false _
/-- once it does not hold it does not hold of all -/
theorem allF_no {t : Sp → Sp → Sp → Bool} {ps : List Sp} {fs : List (List Int)} {j k : Nat} (hj : j < fs.length) (hk : k ≤ (fAt fs j).length - 2) (h : allJ t ps (fAt fs j) (allF t ps fs j) k = false) : allF t ps fs fs.length = false := by
  have h1 : allF t ps fs (j + 1) = false := by
    have := allJ_mono h ((fAt fs j).length - 2 - k)
    rw [show k + ((fAt fs j).length - 2 - k) = (fAt fs j).length - 2 by omega] at this
    exact this
  have := allF_mono h1 (fs.length - (j + 1))
  rw [show j + 1 + (fs.length - (j + 1)) = fs.length by omega] at this
  exact this
/-- what is not finite stays so -/
theorem triJ_nf {g : Sp → Sp → Sp → Nat} {ps : List Sp} {f : List Int} {s : Nat} (h : fin s = false) : ∀ k, fin (triJ g ps f s k) = false
  | 0 => h
  | k + 1 => nf_add_l _ (triJ_nf h k)
theorem allJ_nf {g : Sp → Sp → Sp → Nat} {t : Sp → Sp → Sp → Bool} {ps : List Sp} {f : List Int} {s : Nat} {b : Bool} (hg : ∀ a b c, t a b c = false → fin (g a b c) = false) (hb : b = false → fin s = false) : ∀ k, allJ t ps f b k = false → fin (triJ g ps f s k) = false
  | 0, h => hb h
  | k + 1, h => by
    rw [allJ, Bool.and_eq_false_iff] at h
    rcases h with h | h
    · exact nf_add_l _ (allJ_nf hg hb k h)
    · exact nf_add_r _ (hg _ _ _ h)
theorem allF_nf {g : Sp → Sp → Sp → Nat} {t : Sp → Sp → Sp → Bool} {ps : List Sp} {fs : List (List Int)} (hg : ∀ a b c, t a b c = false → fin (g a b c) = false) : ∀ j, allF t ps fs j = false → fin (triF g ps fs j) = false
  | 0, h => by cases h
  | j + 1, h => allJ_nf hg (allF_nf hg j) _ h
theorem triJ_congr {g g' : Sp → Sp → Sp → Nat} (hg : ∀ a b c, g a b c = g' a b c) (ps : List Sp) (f : List Int) (s : Nat) : ∀ k, triJ g ps f s k = triJ g' ps f s k
  | 0 => rfl
  | k + 1 => by rw [triJ, triJ, triJ_congr hg ps f s k]; unfold triG; rw [hg]
end Go.Fl
namespace Go.Proofs.Ytbmahankleijkaa
open Go.RowKit Go.Fl

/-- what a closure keeps: k triangles of facet j are done -/
structure Keeps2 (J : Nat → Nat → (Nat → Prop) → World → Prop) : Prop where
  stable : ∀ {j k P w w'}, J j k P w → (∀ b, P b → w'.heap[b]? = w.heap[b]?) → w.heap.size ≤ w'.heap.size → J j k P w'
  low : ∀ {j k P w}, J j k P w → ∀ b, P b → b < w.heap.size
/-- where the walk over the triangles stands -/
structure Walks2 (J : Nat → Nat → (Nat → Prop) → World → Prop) (j k : Nat) (P0 : Nat → Prop) (w wr : World) (P : Nat → Prop) : Prop where
  inv : J j k P wr
  ch : Ch P0 w wr
  new : ∀ b, P b → P0 b ∨ w.heap.size < b
theorem Walks2.drewN {J : Nat → Nat → (Nat → Prop) → World → Prop} {j k : Nat} {P0 P : Nat → Prop} {w wr : World} (h : Walks2 J j k P0 w wr P) (HK : Keeps2 J) (n : Nat) : Walks2 J j k P0 w (wr.drewN n) P :=
  ⟨HK.stable h.inv (fun _ _ => rfl) (Nat.le_refl _), ⟨h.ch.os, h.ch.tape, h.ch.output, h.ch.size, h.ch.block⟩, h.new⟩
theorem cornAt {w : World} {lo hi : Nat} {sa : Option Addr} {ps : List Sp} {f : List Int} (hs : SlP w lo hi sa ps) (hin : InN ps.length f) {k : Nat} (hk : k < f.length) :
    ∃ v b o x y z, iAt f k = ((v : Nat) : Int) ∧ v < ps.length ∧ sa = some ⟨b, o, none⟩ ∧ lo ≤ b ∧ b < hi ∧ w.cell? ⟨b, o + v * 3, none⟩ = some (.float .f32 x) ∧ w.cell? ⟨b, o + v * 3 + 1, none⟩ = some (.float .f32 y) ∧ w.cell? ⟨b, o + v * 3 + 2, none⟩ = some (.float .f32 z) ∧ IsSp x y z (cornP ps f k) := by
  obtain ⟨i0, i1⟩ := hin k hk
  obtain ⟨v, hv⟩ := Int.eq_ofNat_of_zero_le i0
  rw [hv] at i1
  have hvn : v < ps.length := by omega
  obtain ⟨b4, o4, rfl, l1, l2, hc4⟩ := hs (by omega)
  obtain ⟨x, y, z, c1, c2, c3, g1, g2, g3⟩ := hc4 v hvn
  refine ⟨v, b4, o4, x, y, z, hv, hvn, rfl, l1, l2, c1, c2, c3, ?_⟩
  have : cornP ps f k = pAt ps v := by unfold cornP; rw [hv]; rfl
  rw [this]; exact IsSp.of g1 g2 g3

set_option maxHeartbeats 4000000 in
set_option maxRecDepth 100000 in
theorem overTri (G : Sp → Sp → Sp → Nat) (J : Nat → Nat → (Nat → Prop) → World → Prop) (HJ : Keeps2 J) (g : Nat) (caps : Array Value) (hgo : Goes g) (lo hi : Nat) (sa fa : Option Addr) (cn cm : Nat) (ps : List Sp) (fs : List (List Int)) (hp : ps.length ≤ 1048576) (hn : fs.length ≤ 1048576)
    (hsh : ∀ i, i < fs.length → (fAt fs i).length ≤ 1048576) (h3 : ∀ i, i < fs.length → 3 ≤ (fAt fs i).length) (hin : ∀ i, i < fs.length → InN ps.length (fAt fs i)) (w : World)
    (hroll : ∀ j P w1, j < fs.length → J j ((fAt fs j).length - 2) P w1 → J (j + 1) 0 P w1)
    (hst : ∀ j k P w1 x y z x' y' z' x2 y2 z2, j < fs.length → k + 2 < (fAt fs j).length → J j k P w1 → IsSp x y z (cornP ps (fAt fs j) 0) → IsSp x' y' z' (cornP ps (fAt fs j) (k + 1)) → IsSp x2 y2 z2 (cornP ps (fAt fs j) (k + 2)) →
      Calls Try.prog g (#[.agg #[.float .f32 x, .float .f32 y, .float .f32 z], .agg #[.float .f32 x', .float .f32 y', .float .f32 z'], .agg #[.float .f32 x2, .float .f32 y2, .float .f32 z2]] ++ caps) w1 fun e w' => (∃ r, e = .returned (.float .f32 r) ∧ F32 r (triG G ps (fAt fs j) k)) ∧ ∃ P', J j (k + 1) P' w' ∧ Ch P w1 w' ∧ ∀ b, P' b → P b ∨ w1.heap.size ≤ b)
    (hs : NetAt w lo hi sa fa ps fs) (hh : hi ≤ w.heap.size) (P0 : Nat → Prop) (hJ : J 0 0 P0 w) (hP : ∀ b, P0 b → b < lo ∨ hi ≤ b) :
    Calls Try.prog 70 #[netV sa fa ps.length cn fs.length cm, .func (.func g) #[] caps] w fun e w' => (∃ r, e = .returned (.float .f32 r) ∧ F32 r (triF G ps fs fs.length)) ∧ ∃ P, Walks2 J fs.length 0 P0 w w' P := by
  have HS := Lib.hid hs
  have HSH := Lib.hid hsh
  have H3 := Lib.hid h3
  have HIN := Lib.hid hin
  have HST := Lib.hid hst
  have HRO := Lib.hid hroll
  have HP := Lib.hid hP
  have HJ0 := Lib.hid hJ
  have HK := Lib.hid HJ
  clear hs hsh h3 hin hst hroll hP hJ HJ
  have hgo' : ∀ args w, Sem.run Try.prog (callFunc g args) w = .ok (.enter g args) w := hgo
  unfold netV
  go_enter Try.func70, Try.ntmps70
  go_wp2_with fail
  go_loopw [5, 12] (fun su i wr => ∃ (j s : Nat) (P : Nat → Prop), j ≤ fs.length ∧ i = .int .i64 j ∧ su = .float .f32 s ∧ Hid (F32 s (triF G ps fs j)) ∧ Hid (Walks2 J j 0 P0 w wr P) ∧ Hid (OwnC wr w.heap.size #[.slice sa ps.length cn, .slice fa fs.length cm] 33) ∧ Hid (¬ P w.heap.size)) (fun _ i _ => fs.length - (intOf i).toNat)
  case atStart =>
    refine ⟨0, 0, P0, by omega, rfl, rfl, Lib.hid F32.zero, Lib.hid ⟨HK.out.stable HJ0.out (fun b hb => ?_) (by simp), Ch.below (by (repeat (first | exact Below.refl _ _ | assumption | refine below_dr ?_ _ | refine Below.alloc ?_ (by first | omega | (simp; done) | (simp; omega)) _ | refine Below.setCell ?_ (by first | omega | (simp; done) | (simp; omega)) _ | refine Below.trans ?_ (Below.mono (by assumption) (by first | omega | (simp; done) | (simp; omega)))))), fun b hb => .inl hb⟩, Lib.hid (OwnC.new rfl), Lib.hid fun hp => absurd (HK.out.low HJ0.out _ hp) (Nat.lt_irrefl _)⟩
    exact Below.heap_alloc _ _ _ (HK.out.low HJ0.out b hb)
  case round =>
    clear HJ0
    obtain ⟨j, s, P, hj, rfl, rfl, HSU, HW, HA, HNA⟩ := hrel
    by_cases hlt : j < fs.length
    · have hfar : Far lo hi w wr := HW.out.ch.far hh (fun b h1 h2 hp => by have := HP.out b hp; omega)
      obtain ⟨bf, of', rfl, f1, f2, hc⟩ := HS.out.facets (by omega)
      obtain ⟨ai, ci, hc1, hs1⟩ := hc j hlt
      have e1 := (hfar.cell f1 f2).trans hc1
      have HS1 := Lib.hid hs1
      have hlk := HSH.out j hlt
      have hl3 := H3.out j hlt
      have hsz := HW.out.ch.size
      have k0 : (0 : Int) ≤ (j : Int) := by omega
      have k1 : (j : Int) < (fs.length : Int) := by omega
      have HOC := Lib.hid (OwnC.new (w := wr) (cs := #[.slice ai (fAt fs j).length ci]) (T := 82) rfl)
      have HA1 := Lib.hid (HA.out.alloc (.cells #[.slice ai (fAt fs j).length ci] 82))
      have HW1 : Hid (Walks2 J j 0 P0 w (wr.alloc (.cells #[.slice ai (fAt fs j).length ci] 82)) P) :=
        ⟨HK.out.stable HW.out.inv (fun b hb => Below.heap_alloc _ _ _ (HK.out.low HW.out.inv b hb)) (by simp), HW.out.ch.trans (P' := fun _ => False) (Ch.below (by (repeat (first | exact Below.refl _ _ | assumption | refine below_dr ?_ _ | refine Below.alloc ?_ (by first | omega | (simp; done) | (simp; omega)) _ | refine Below.setCell ?_ (by first | omega | (simp; done) | (simp; omega)) _ | refine Below.trans ?_ (Below.mono (by assumption) (by first | omega | (simp; done) | (simp; omega))))))) (fun b hb => hb.elim), HW.out.new⟩
      have HNP : Hid (¬ P wr.heap.size) := fun hp => absurd (HK.out.low HW.out.inv _ hp) (Nat.lt_irrefl _)
      have hna := HA.out.lt
      clear hc hc1 hs1 hfar
      go_wp2_with fail
      generalize wr.heap.size = d7 at *
      go_loopw [5, 8] (fun su i wq => ∃ (k s : Nat) (P : Nat → Prop), k + 2 ≤ (fAt fs j).length ∧ i = .int .i64 ((k : Int) + 1) ∧ su = .float .f32 s ∧ Hid (F32 s (triJ G ps (fAt fs j) (triF G ps fs j) k)) ∧ Hid (Walks2 J j k P0 w wq P) ∧ Hid (OwnC wq w.heap.size #[.slice sa ps.length cn, .slice (some ⟨bf, of', none⟩) fs.length cm] 33) ∧ Hid (OwnC wq d7 #[.slice ai (fAt fs j).length ci] 82) ∧ Hid (¬ P d7) ∧ Hid (¬ P w.heap.size)) (fun _ i _ => (fAt fs j).length - (intOf i).toNat)
      case atStart => exact ⟨0, s, P, by omega, by simp, rfl, HSU, HW1, HA1, HOC, HNP, HNA⟩
      case round =>
        clear HW1 HOC HNP HW e1 HA HA1 HNA HSU
        obtain ⟨k, s, P, hk, rfl, rfl, HSU, HW, HA, HO, HND, HNA⟩ := hrel
        have hfar : Far lo hi w wr := HW.out.ch.far hh (fun b h1 h2 hp => by have := HP.out b hp; omega)
        have o1 := HO.out.cell 0
        have n0 := HA.out.cell 0
        simp at o1 n0
        have t2 : IntKind.i64.wrap ((k : Int) + 1 + 1) = (k : Int) + 1 + 1 := by rw [IntKind.wrap_i64]; omega
        by_cases hlt2 : k + 2 < (fAt fs j).length
        · have hsi := HS1.out.far hfar
          obtain ⟨b3, o3, rfl, f3, f4, hc3⟩ := hsi (by omega)
          have hsp := HS.out.spots.far hfar
          obtain ⟨v0, sb, so, x, y, z, hv0, hl0, hsa, l1, l2, a1, a2, a3, q0⟩ := cornAt hsp (HIN.out j hlt) (k := 0) (by omega)
          subst hsa
          obtain ⟨v1, sb1, so1, x', y', z', hv1, hl1, hsb1, _, _, b1, b2, b3', q1⟩ := cornAt hsp (HIN.out j hlt) (k := k + 1) (by omega)
          cases hsb1
          obtain ⟨v2, sb2, so2, x2, y2, z2, hv2, hl2, hsb2, _, _, c1, c2, c3, q2⟩ := cornAt hsp (HIN.out j hlt) (k := k + 2) (by omega)
          cases hsb2
          have e0 := hc3 0 (by omega)
          have e1 := hc3 (k + 1) (by omega)
          have e2 := hc3 (k + 2) (by omega)
          rw [hv0, Nat.add_zero] at e0
          have m3 : ¬ fAt fs j = [] := fun h => by rw [h] at hlt2; simp at hlt2
          have m5 : 0 < (fAt fs j).length := by omega
          rw [hv1] at e1
          rw [hv2] at e2
          have t0 : (0 : Int) ≤ (k : Int) + 1 := by omega
          have t1 : (k : Int) + 1 < ((fAt fs j).length : Int) := by omega
          have t4 : (0 : Int) ≤ (k : Int) + 1 + 1 := by omega
          have t5 : (k : Int) + 1 + 1 < ((fAt fs j).length : Int) := by omega
          have t6 : ((k : Int) + 1).toNat = k + 1 := by omega
          have t7 : ((k : Int) + 1 + 1).toNat = k + 2 := by omega
          have t8 : (0 : Int) < ((fAt fs j).length : Int) := by omega
          have i0 : (0 : Int) ≤ (v0 : Int) := by omega
          have i1 : (v0 : Int) < (ps.length : Int) := by omega
          have i2 : (0 : Int) ≤ (v1 : Int) := by omega
          have i3 : (v1 : Int) < (ps.length : Int) := by omega
          have i4 : (0 : Int) ≤ (v2 : Int) := by omega
          have i5 : (v2 : Int) < (ps.length : Int) := by omega
          have HC := Lib.hid (HST.out j k P wr.drew x y z x' y' z' x2 y2 z2 hlt hlt2 (HK.out.stable HW.out.inv (fun b hb => rfl) (Nat.le_refl _)) q0 q1 q2)
          have hdl := HO.out.lt
          clear hc3 hsi hsp hfar q0 q1 q2 hv0 hv1 hv2
          have hnlo : ∀ b, lo ≤ b → b < hi → ¬ P b := fun b h1 h2 hp => by
            rcases HW.out.new b hp with h | h
            · have := HP.out b h; omega
            · omega
          have HNS := Lib.hid (hnlo sb l1 l2)
          have HNB := Lib.hid (hnlo b3 f3 f4)
          clear hnlo
          go_wp2_with fail
          go_region_held (fun w' => w'.cell? ⟨w.heap.size, 0, none⟩ = some (.slice (some ⟨sb, so, none⟩) ps.length cn) ∧ w'.cell? ⟨d7, 0, none⟩ = some (.slice (some ⟨b3, o3, none⟩) (fAt fs j).length ci) ∧ w'.cell? ⟨b3, o3, none⟩ = some (.int .i64 v0) ∧ w'.cell? ⟨b3, o3 + (k + 1), none⟩ = some (.int .i64 v1) ∧ w'.cell? ⟨b3, o3 + (k + 2), none⟩ = some (.int .i64 v2) ∧
              w'.cell? ⟨sb, so + v0 * 3, none⟩ = some (.float .f32 x) ∧ w'.cell? ⟨sb, so + v0 * 3 + 1, none⟩ = some (.float .f32 y) ∧ w'.cell? ⟨sb, so + v0 * 3 + 2, none⟩ = some (.float .f32 z) ∧ w'.cell? ⟨sb, so + v1 * 3, none⟩ = some (.float .f32 x') ∧ w'.cell? ⟨sb, so + v1 * 3 + 1, none⟩ = some (.float .f32 y') ∧ w'.cell? ⟨sb, so + v1 * 3 + 2, none⟩ = some (.float .f32 z') ∧
              w'.cell? ⟨sb, so + v2 * 3, none⟩ = some (.float .f32 x2) ∧ w'.cell? ⟨sb, so + v2 * 3 + 1, none⟩ = some (.float .f32 y2) ∧ w'.cell? ⟨sb, so + v2 * 3 + 2, none⟩ = some (.float .f32 z2)) (first | go_keep | (refine ⟨?_, ?_, ?_, ?_, ?_, ?_, ?_, ?_, ?_, ?_, ?_, ?_, ?_, ?_⟩ <;> assumption))
            ((first
              | (refine (HC.out).mono ?_; rintro e w3 ⟨⟨r, rfl, hr⟩, P', hJ', hch, hnew⟩; have HJ' := Lib.hid hJ'; have HCH : Hid (Ch P wr w3) := Lib.hid ⟨hch.os, hch.tape, hch.output, hch.size, hch.block⟩; have HNEW : Hid (∀ b, P' b → P b ∨ wr.heap.size ≤ b) := Lib.hid hnew; have HR := Lib.hid hr; have g1 := HCH.out.cell n0 HNA.out; have g2 := HCH.out.cell o1 HND.out; have g3 := HCH.out.cell e0 HNB.out; have g4 := HCH.out.cell e1 HNB.out; have g5 := HCH.out.cell e2 HNB.out; have g6 := HCH.out.cell a1 HNS.out; have g7 := HCH.out.cell a2 HNS.out; have g8 := HCH.out.cell a3 HNS.out; have g9 := HCH.out.cell b1 HNS.out; have g10 := HCH.out.cell b2 HNS.out; have g11 := HCH.out.cell b3' HNS.out; have g12 := HCH.out.cell c1 HNS.out; have g13 := HCH.out.cell c2 HNS.out; have g14 := HCH.out.cell c3 HNS.out; clear hr hJ' hch hnew)
              | (refine wpList_f rfl rfl rfl rfl (by decide) ?_; intro _ _ _; simp only [Act.put, List.setIfInBounds_toArray, List.set_cons_succ, List.set_cons_zero])))
          have hz1 : wr.heap.size ≤ w3.heap.size := HCH.out.size
          have HW3 : Hid (Walks2 J j (k + 1) P0 w w3 P') := ⟨HJ'.out, HW.out.ch.trans HCH.out (fun b hb => (HW.out.new b hb).imp id fun h => by omega), fun b hb => by
            rcases HNEW.out b hb with h | h
            · exact HW.out.new b h
            · right; omega⟩
          have HO3 := Lib.hid (HCH.out.own HO.out HND.out)
          have HA3 := Lib.hid (HCH.out.own HA.out HNA.out)
          have HND3 : Hid (¬ P' d7) := fun hp => by
            rcases HNEW.out d7 hp with h | h
            · exact HND.out h
            · omega
          have HNA3 : Hid (¬ P' w.heap.size) := fun hp => by
            rcases HNEW.out _ hp with h | h
            · exact HNA.out h
            · omega
          go_wp2_with fail
          go_roundw
          case rel =>
            refine ⟨k + 1, _, P', by omega, by go_num, rfl, Lib.hid ?_, Lib.hid (HW3.out.drewN HK.out _), HA3, HO3, HND3, HNA3⟩
            exact F32.add HSU.out HR.out
          case measure => simp [intOf]; omega
        · have hkk : k + 2 = (fAt fs j).length := by omega
          have hkm : k = (fAt fs j).length - 2 := by omega
          have HW4 : Hid (Walks2 J (j + 1) 0 P0 w wr P) := ⟨HRO.out j P wr hlt (hkm ▸ HW.out.inv), HW.out.ch, HW.out.new⟩
          have HSU4 : Hid (F32 s (triF G ps fs (j + 1))) := Lib.hid (by show F32 s (triJ G ps (fAt fs j) (triF G ps fs j) ((fAt fs j).length - 2)); rw [← hkm]; exact HSU.out)
          have t9 : ¬ ((k : Int) + 1 + 1 < ((fAt fs j).length : Int)) := by omega
          clear hfar
          go_wp2_with fail
          go_roundw
          case rel => exact ⟨j + 1, s, P, by omega, by go_num, rfl, HSU4, HW4, HA, HNA⟩
          case measure => simp [intOf]; omega
    · have hjn : j = fs.length := by omega
      subst hjn
      go_wp2_with fail
      go_ret
      exact ⟨⟨s, rfl, HSU.out⟩, P, HW.out⟩
end Go.Proofs.Ytbmahankleijkaa
