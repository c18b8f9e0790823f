/- Contract: slices.Reverse of numbers. Contract: BackNet, the reference's. Contract: BackNet, the program's. -/
import Derived.Test.YtkjljajjjhfklaaNj17
import Derived.Deep.RegionLaw
import Derived.Deep.Cut
import Derived.Deep.CutRange
import Derived.Test.YtkjljajjjhfklaaNj19
import Derived.Test.YtkjljajjjhfklaaNj21
namespace Go.Proofs.Ytkjljajjjhfklaa
open Go.RowKit Go.Fl

/-- place p, the first k and the last k turned -/
def rvF (xs : List Int) (k p : Nat) : Int := if p < k ∨ xs.length ≤ p + k then iAt xs (xs.length - 1 - p) else iAt xs p
/-- the block reads so -/
def Rd (w : World) (b n : Nat) (f : Nat → Int) : Prop := ∀ p, p < n → w.cell? ⟨b, p, none⟩ = some (.int .i64 (f p))
theorem Rd.step {w w' : World} {b : Nat} {xs : List Int} {k : Nat} (h : Rd w b xs.length (rvF xs k)) (hk : k + k + 1 < xs.length)
    (h1 : w'.cell? ⟨b, k, none⟩ = some (.int .i64 (iAt xs (xs.length - 1 - k)))) (h2 : w'.cell? ⟨b, xs.length - 1 - k, none⟩ = some (.int .i64 (iAt xs k)))
    (h3 : ∀ p, p ≠ k → p ≠ xs.length - 1 - k → w'.cell? ⟨b, p, none⟩ = w.cell? ⟨b, p, none⟩) : Rd w' b xs.length (rvF xs (k + 1)) := fun p hp => by
  by_cases e1 : p = k
  · subst e1
    rw [h1, rvF, if_pos (.inl (by omega))]
  · by_cases e2 : p = xs.length - 1 - k
    · subst e2
      rw [h2, rvF, if_pos (.inr (by omega))]
      congr 3; omega
    · rw [h3 p e1 e2, h p hp]
      unfold rvF
      by_cases c : p < k ∨ xs.length ≤ p + k
      · rw [if_pos c, if_pos (by omega)]
      · rw [if_neg c, if_neg (by omega)]
theorem rvF_end {xs : List Int} {k p : Nat} (hp : p < xs.length) (hk : xs.length ≤ k + k + 1) : rvF xs k p = iAt xs (xs.length - 1 - p) := by
  unfold rvF
  by_cases c : p < k ∨ xs.length ≤ p + k
  · rw [if_pos c]
  · rw [if_neg c]; congr 1; omega
theorem set2 {w : World} {b i j : Nat} {u v : Value} (hij : i ≠ j) (hi : (w.cell? ⟨b, i, none⟩).isSome = true) (hj : (w.cell? ⟨b, j, none⟩).isSome = true) :
    ((w.setCell ⟨b, i, none⟩ u).setCell ⟨b, j, none⟩ v).cell? ⟨b, i, none⟩ = some u ∧ ((w.setCell ⟨b, i, none⟩ u).setCell ⟨b, j, none⟩ v).cell? ⟨b, j, none⟩ = some v ∧
      ∀ p, p ≠ i → p ≠ j → ((w.setCell ⟨b, i, none⟩ u).setCell ⟨b, j, none⟩ v).cell? ⟨b, p, none⟩ = w.cell? ⟨b, p, none⟩ := by
  obtain ⟨x, hx⟩ := Option.isSome_iff_exists.1 hi
  obtain ⟨y, hy⟩ := Option.isSome_iff_exists.1 hj
  refine ⟨?_, ?_, fun p h1 h2 => ?_⟩
  · rw [World.cell?_setCell_other _ _ _ _ (by simp only [ne_eq, Addr.mk.injEq]; omega)]
    exact World.cell?_setCell_same _ _ _ hx
  · exact World.cell?_setCell_same _ _ _ ((World.cell?_setCell_other _ _ _ _ (by simp only [ne_eq, Addr.mk.injEq]; omega)).trans hy)
  · rw [World.cell?_setCell_other _ _ _ _ (by simp only [ne_eq, Addr.mk.injEq]; omega), World.cell?_setCell_other _ _ _ _ (by simp only [ne_eq, Addr.mk.injEq]; omega)]

set_option maxHeartbeats 2000000 in
set_option maxRecDepth 100000 in
theorem reverseI (b c : Nat) (xs : List Int) (hn : xs.length ≤ 1048576) (w : World) (hr : Room w b xs.length) (hd : Rd w b xs.length (iAt xs)) :
    Calls Try.prog 36 #[.slice (some ⟨b, 0, none⟩) xs.length c] w fun e w' => e = .returned (.tuple #[]) ∧ Only (fun c => c = b) w w' ∧ Rd w' b xs.length (fun p => iAt xs (xs.length - 1 - p)) := by
  have HR := Lib.hid hr
  have HD0 : Hid (Rd w b xs.length (rvF xs 0)) := Lib.hid fun p hp => by rw [rvF, if_neg (by omega)]; exact hd p hp
  have u0 : IntKind.i64.wrap ((xs.length : Int) - 1) = (xs.length : Int) - 1 := by rw [IntKind.wrap_i64]; omega
  clear hr hd
  go_enter Try.func36, Try.ntmps36
  go_wp2_with fail
  go_loopw [2, 3] (fun i j wr => ∃ k : Nat, k + k ≤ xs.length + 1 ∧ i = .int .i64 k ∧ j = .int .i64 ((xs.length : Int) - 1 - k) ∧ Hid (Only (fun c => c = b) w wr) ∧ Hid (Rd wr b xs.length (rvF xs k))) (fun i _ _ => xs.length - (intOf i).toNat)
  case atStart => exact ⟨0, by omega, rfl, by simp, Lib.hid (Only.refl _ _), HD0⟩
  case round =>
    clear HD0
    obtain ⟨k, hk, rfl, rfl, HO, HD⟩ := hrel
    by_cases hlt : k + k + 1 < xs.length
    · obtain ⟨q, hq⟩ : ∃ q, q = xs.length - 1 - k := ⟨_, rfl⟩
      have hqi : (xs.length : Int) - 1 - (k : Int) = (q : Int) := by omega
      have c1 := HD.out k (by omega)
      have c2 := HD.out q (by omega)
      have v1 : rvF xs k k = iAt xs k := by rw [rvF, if_neg (by omega)]
      have v2 : rvF xs k q = iAt xs q := by rw [rvF, if_neg (by omega)]
      rw [v1] at c1
      rw [v2] at c2
      have hroom := HO.out.room _ _ HR.out
      have f1 := hroom.free k
      have f2 := hroom.free q
      rw [hqi]
      have k0 : (0 : Int) ≤ (k : Int) := by omega
      have k1 : (k : Int) < (xs.length : Int) := by omega
      have k2 : (0 : Int) ≤ (q : Int) := by omega
      have k3 : (q : Int) < (xs.length : Int) := by omega
      have k4 : (k : Int) < (q : Int) := by omega
      have hkq : ¬ k = q := by omega
      have hqk : ¬ q = k := by omega
      have u1 : IntKind.i64.wrap ((q : Int) - 1) = (xs.length : Int) - 1 - ((k + 1 : Nat) : Int) := by rw [IntKind.wrap_i64]; omega
      have HQ := Lib.hid hq
      clear hroom v1 v2 hq hqi
      go_wp2_with fail
      go_region
      go_wp2_with fail
      go_roundw
      case rel =>
        obtain ⟨s1, s2, s3⟩ := set2 (w := wr) (b := b) (u := .int .i64 (iAt xs q)) (v := .int .i64 (iAt xs k)) hkq (by rw [c1]; rfl) (by rw [c2]; rfl)
        have hst := Rd.step HD.out hlt (by rw [← HQ.out]; exact s1) (by rw [← HQ.out]; exact s2) (fun p h1 h2 => s3 p h1 (by rw [HQ.out]; exact h2))
        have hon := (HO.out.set b k (.int .i64 (iAt xs q)) rfl).set b q (.int .i64 (iAt xs k)) rfl
        exact ⟨k + 1, by omega, by go_num, by go_num, Lib.hid (by first | exact hon | exact Only.dr hon 1), Lib.hid (by exact hst)⟩
      case measure => simp [intOf]; omega
    · have hkk : ¬ ((k : Int) < (xs.length : Int) - 1 - (k : Int)) := by omega
      go_wp2_with fail
      go_end0
      exact ⟨rfl, HO.out, fun p hp => by rw [HD.out p hp, rvF_end hp (by omega)]⟩
end Go.Proofs.Ytkjljajjjhfklaa

namespace Go.Proofs.Ytkjljajjjhfklaa
open Go.RowKit Go.Fl

/-- place p of facet i, the first j facets turned, and k places of facet j -/
def bkF (fs : List (List Int)) (j k : Nat) (i p : Nat) : Int :=
  if i < j ∨ (i = j ∧ (fAt fs i).length ≤ p + k) then iAt (fAt fs i) ((fAt fs i).length - 1 - p) else iAt (fAt fs i) p
theorem bkF_zero {fs : List (List Int)} {i p : Nat} (h : p < (fAt fs i).length) : bkF fs 0 0 i p = iAt (fAt fs i) p := by
  unfold bkF; rw [if_neg (by omega)]
theorem bkF_next {fs : List (List Int)} {j i p : Nat} (h : p < (fAt fs i).length) : bkF fs j (fAt fs j).length i p = bkF fs (j + 1) 0 i p := by
  unfold bkF
  by_cases h1 : i < j
  · rw [if_pos (.inl h1), if_pos (.inl (by omega))]
  · by_cases h2 : i = j
    · subst h2
      rw [if_pos (.inr ⟨rfl, by omega⟩), if_pos (.inl (by omega))]
    · rw [if_neg (by omega), if_neg (by omega)]
theorem bkF_all {fs : List (List Int)} {i p : Nat} (h : i < fs.length) : bkF fs fs.length 0 i p = iAt (fAt fs i) ((fAt fs i).length - 1 - p) := by
  unfold bkF; rw [if_pos (.inl h)]
theorem bkF_here {fs : List (List Int)} {j k : Nat} (h : k < (fAt fs j).length) : bkF fs j (k + 1) j ((fAt fs j).length - 1 - k) = iAt (fAt fs j) k := by
  unfold bkF; rw [if_pos (.inr ⟨rfl, by omega⟩)]; congr 1; omega
theorem bkF_there {fs : List (List Int)} {j k i p : Nat} (hk : k < (fAt fs j).length) (h : ¬ (i = j ∧ p = (fAt fs j).length - 1 - k)) : bkF fs j (k + 1) i p = bkF fs j k i p := by
  unfold bkF
  by_cases h1 : i < j
  · rw [if_pos (.inl h1), if_pos (.inl h1)]
  · by_cases h2 : i = j
    · subst h2
      by_cases h3 : (fAt fs i).length ≤ p + k
      · rw [if_pos (.inr ⟨rfl, by omega⟩), if_pos (.inr ⟨rfl, h3⟩)]
      · rw [if_neg (by omega), if_neg (by omega)]
    · rw [if_neg (by omega), if_neg (by omega)]
theorem keep_set1 {w : World} {b b' o i : Nat} {v x : Value} (hne : b ≠ b') (h : w.cell? ⟨b, o, none⟩ = some v) : (w.setCell ⟨b', i, none⟩ x).cell? ⟨b, o, none⟩ = some v := by
  rw [World.cell?_setCell_far _ _ _ _ (Ne.symm hne), h]
theorem keep_set1d {w : World} {b b' o i : Nat} {v x : Value} (hne : b ≠ b') (h : w.cell? ⟨b, o, none⟩ = some v) : (w.setCell ⟨b', i, none⟩ x).drew.cell? ⟨b, o, none⟩ = some v := keep_set1 hne h
theorem Cors.step {w : World} {fs : List (List Int)} {g : Nat → Nat} {j k : Nat} (h : Cors w g fs (bkF fs j k)) (hj : j < fs.length) (hk : k < (fAt fs j).length) (hinj : ∀ i, i < fs.length → i ≠ j → g i ≠ g j) {q : Nat} (hq : q = (fAt fs j).length - 1 - k) {v : Value} (hv : v = .int .i64 (iAt (fAt fs j) k)) :
    Cors (w.setCell ⟨g j, q, none⟩ v) g fs (bkF fs j (k + 1)) := fun i hi p hp => by
  subst hq hv
  by_cases hij : i = j
  · subst hij
    by_cases hp2 : p = (fAt fs i).length - 1 - k
    · subst hp2
      rw [bkF_here hk]
      exact World.cell?_setCell_same _ _ _ (h i hi _ hp)
    · rw [bkF_there hk (by omega), World.cell?_setCell_other _ _ _ _ (by simp only [ne_eq, Addr.mk.injEq]; omega)]
      exact h i hi p hp
  · rw [bkF_there hk (by omega), World.cell?_setCell_far _ _ _ _ (by simp; exact fun e => hinj i hi hij e.symm)]
    exact h i hi p hp

end Go.Proofs.Ytkjljajjjhfklaa

namespace Go.Proofs.Ytkjljajjjhfklaa
open Go.RowKit Go.Fl

set_option maxHeartbeats 4000000 in
set_option maxRecDepth 100000 in
theorem backB (lo hi : Nat) (sa fa : Option Addr) (sc fc : Nat) (ps : List Sp) (fs : List (List Int)) (hp : ps.length ≤ 1048576) (hn : fs.length ≤ 1048576) (hsh : ∀ i, i < fs.length → (fAt fs i).length ≤ 1048576) (w : World)
    (hs : NetAt w lo hi sa fa ps fs) (hca : SlC w lo hi fa fs) (hh : hi ≤ w.heap.size) :
    Calls Try.prog 10 #[netV sa fa ps.length sc fs.length fc] w (RetN (backP ps fs) (backF ps fs) (okN ps fs) w) := by
  have hA : Far lo hi w ((w.alloc (.cells #[.slice sa ps.length sc, .slice fa fs.length fc] 27)).alloc (.cells #[.slice none 0 0, .slice none 0 0] 27)) := ((Far.refl _ _ _).alloc _ hh).alloc _ (by simp; omega)
  have A0 : OwnC ((w.alloc (.cells #[.slice sa ps.length sc, .slice fa fs.length fc] 27)).alloc (.cells #[.slice none 0 0, .slice none 0 0] 27)) w.heap.size #[.slice sa ps.length sc, .slice fa fs.length fc] 27 := (OwnC.new rfl).alloc _
  have R0 : OwnC ((w.alloc (.cells #[.slice sa ps.length sc, .slice fa fs.length fc] 27)).alloc (.cells #[.slice none 0 0, .slice none 0 0] 27)) (w.heap.size + 1) #[.slice none 0 0, .slice none 0 0] 27 := OwnC.new (by simp)
  have HBA : Hid (Below w.heap.size w ((w.alloc (.cells #[.slice sa ps.length sc, .slice fa fs.length fc] 27)).alloc (.cells #[.slice none 0 0, .slice none 0 0] 27))) := by
    show Below _ _ _
    (repeat (first | exact Below.refl _ _ | assumption | refine below_dr ?_ _ | refine Below.alloc ?_ (by first | omega | (simp; done) | (simp; omega)) _ | refine Below.setCell ?_ (by first | omega | (simp; done) | (simp; omega)) _ | refine Below.trans ?_ (Below.mono (by assumption) (by first | omega | (simp; done) | (simp; omega)))))
  have IS := Lib.hid (validNet lo hi sa fa sc fc ps fs hp hn hsh _ (hs.far hA) (hca.far hA) (by simp; omega))
  have HS := Lib.hid (hs.far hA)
  have HSH := Lib.hid hsh
  have HA0 := Lib.hid A0
  have HR0 := Lib.hid R0
  clear hs hsh A0 R0 hA hca
  unfold netV at *
  cases hv : okN ps fs
  · have HV : Hid (dec (OkNet ps fs (colA fs) (colB fs)) = false) := Lib.hid hv
    have HC := Lib.hid hv
    clear hv
    go_enter Try.func10, Try.ntmps10
    go_wp2_with (go_at_call 26; refine IS.out.mono ?_; rintro e w3 ⟨rfl, hb3⟩; rw [HV.out]; have R3 := HR0.out.below hb3 (by simp); have r0 := R3.cell 0; have r1 := R3.cell 1; have g0 := R3.free 0; have g1 := R3.free 1; simp at r0 r1)
    have R := (R3.set 0 (.slice none 0 0)).set 1 (.slice none 0 0)
    have q0 := R.cell 0
    have q1 := R.cell 1
    simp at q0 q1
    refine bodyPost_ret (v := .tuple #[.agg #[.slice none 0 0, .slice none 0 0], .bool false]) (by simp [results, Try.results10, go_sem, *]) rfl ?_
    have h0 := RetN.no HC.out (((HBA.out.trans (hb3.mono (by simp; omega))).setCell (p := ⟨w.heap.size + 1, 0, none⟩) (by simp) (.slice none 0 0)).setCell (p := ⟨w.heap.size + 1, 1, none⟩) (by simp) (.slice none 0 0))
    rw [HC.out] at h0
    exact h0
  have HV : Hid (dec (OkNet ps fs (colA fs) (colB fs)) = true) := Lib.hid hv
  have hok := okN_net hv
  have hp0 : 0 < ps.length := by have := hok.n3; omega
  have hn0 : 0 < fs.length := by have := hok.f1; omega
  have H1 : Hid (∀ i, i < fs.length → 0 < (fAt fs i).length) := Lib.hid fun i h => by have := (hok.facets i h).1; omega
  have HC1 : Hid (backP ps fs = ps) := Lib.hid (by simp [backP, hv])
  have HC2 : Hid (backF ps fs = fs.map List.reverse) := Lib.hid (by simp [backF, hv])
  clear hok hv
  go_enter Try.func10, Try.ntmps10
  go_wp2_with (go_at_call 26; refine IS.out.mono ?_; rintro e w3 ⟨rfl, hb3⟩; rw [HV.out]; have HB3 := Lib.hid (HBA.out.trans (hb3.mono (by simp; omega))); have A3 := HA0.out.below hb3 (by simp; omega); have q0 := A3.cell 0; have q1 := A3.cell 1; simp at q0 q1; have HA3 := Lib.hid A3; have HR3 := Lib.hid (HR0.out.below hb3 (by simp)); have HS3 := Lib.hid (HS.out.far (Far.below hb3 (by simp; omega))); have z3 : w.heap.size + 1 + 1 ≤ w3.heap.size := (by have := hb3.size; simpa using this); clear hb3 A3)
  go_cut [4] from 11 to 17 (fun u4 wx => ∃ ob bs c1 bf c2 g, u4 = .pointer (some ⟨ob, 0, none⟩) ∧ Hid (MkNet w3 wx ob bs c1 bf c2 g ps fs))
  case first =>
    have T0 := Trk.start #[.slice none 0 0, .slice none 0 0] 27 w3
    have TA := Trk.startA #[.slice none 0 0, .slice none 0 0] 27 w3
    go_region_held (fun w' => w'.cell? ⟨w.heap.size, 0, none⟩ = some (.slice sa ps.length sc) ∧ w'.cell? ⟨w.heap.size, 1, none⟩ = some (.slice fa fs.length fc))
      (refine ⟨?_, ?_⟩ <;> first | (with_reducible assumption) | ((with_reducible refine Trk.k0 ?_) <;> with_reducible assumption) | ((with_reducible refine Trk.k2d _ ?_) <;> with_reducible assumption) | ((with_reducible refine Trk.k1 T2 ?_) <;> with_reducible assumption) | ((with_reducible refine Trk.k2 T2 _ ?_) <;> with_reducible assumption) | ((with_reducible refine Trk.k4 T2 _ _ ?_) <;> with_reducible assumption) | ((with_reducible refine Trk.k1 T1 ?_) <;> with_reducible assumption) | ((with_reducible refine Trk.k2 T1 _ ?_) <;> with_reducible assumption))
      ((first
        | (go_at_call 34; refine (cloneP lo hi sa sc ps hp0 hp w3.drew HS3.out.spots (by simp; omega)).mono ?_; rintro e w4 ⟨⟨bs, c1, cs, rfl, hn1, hn2, hr1, hq1⟩, hb4⟩; have T1 := T0.call hb4; have L1 : w3.heap.size ≤ bs := hn1; have L2 : bs < w4.heap.size := hn2; have HR1 := Lib.hid hr1; have HQ1 := Lib.hid hq1; clear hr1 hq1 hn1 hn2 hb4)
        | (go_at_call 34; refine (cloneP lo hi sa sc ps hp0 hp (w3.alloc (.cells #[.slice none 0 0, .slice none 0 0] 27)).drew (HS3.out.spots.far (Far.below TA.below (by omega))) (by simp; omega)).mono ?_; rintro e w4 ⟨⟨bs, c1, cs, rfl, hn1, hn2, hr1, hq1⟩, hb4⟩; have T1 := TA.call hb4; have L1' : w3.heap.size + 1 ≤ bs := (by simpa using hn1); have L1 : w3.heap.size ≤ bs := (by omega); have L2 : bs < w4.heap.size := hn2; have HR1 := Lib.hid hr1; have HQ1 := Lib.hid hq1; have L4 : bs ≠ w3.heap.size := (by omega); have L5 := (T1.own _ rfl).2.lt; clear hr1 hq1 hn1 hn2 hb4)
        | (go_at_call 35; refine (copyFacets lo hi fa fc fs hn HSH.out H1.out w4 (HS3.out.facets.far (Far.below T1.below (by omega))) (by have := T1.below.size; omega)).mono ?_; rintro e w5 ⟨⟨bf, c2, g, rfl, hf⟩, hb5⟩; have T2 := T1.call hb5; have HR2 := Lib.hid (HR1.out.below hb5 L2); have HF := Lib.hid hf; have L6 : bs < w4.heap.size := L2; have L7 : w3.heap.size ≤ w4.heap.size := T1.below.size; have HLO : Hid (OwnF w5 w4.heap.size w5.heap.size bf g fs) := HF; (try (have d0 := T2.at 0; have d1 := T2.at 1; simp at d0 d1; have g0 := T2.free 0; have g1 := T2.free 1)); clear hf hb5)
        | (go_at_call 35; refine (copyFacets lo hi fa fc fs hn HSH.out H1.out (w4.alloc (.cells #[.slice none 0 0, .slice none 0 0] 27)) ((HS3.out.facets.far (Far.below T1.below (by omega))).far ((Far.refl _ _ _).alloc _ (by have := T1.below.size; omega))) (by have := T1.below.size; simp; omega)).mono ?_; rintro e w5 ⟨⟨bf, c2, g, rfl, hf⟩, hb5⟩; have T2 := (Trk.alloc T1).call hb5; have HR2 := Lib.hid ((HR1.out.below (Below.alloc (Below.refl w4.heap.size w4) (Nat.le_refl _) _) L2).below hb5 (by simp; omega)); have HF := Lib.hid hf; have L7 : w3.heap.size ≤ w4.heap.size := T1.below.size; have L8 : bs ≠ w4.heap.size := (by omega); have d0 := T2.at 0; have d1 := T2.at 1; simp at d0 d1; have g0 := T2.free 0; have g1 := T2.free 1; clear hf hb5)))
    all_goals (try go_wp2_with fail)
    all_goals go_meet
    all_goals first
      | exact ⟨_, bs, c1, bf, c2, g, rfl, Lib.hid (mkNet_alloc T2 HR2.out HQ1.out HF.out (by omega) L1 (by omega))⟩
      | exact ⟨_, bs, c1, bf, c2, g, rfl, Lib.hid (mkNet_set T2 rfl HR2.out HQ1.out HF.out L4 (by omega) L1 (by omega) L5)⟩
      | exact ⟨_, bs, c1, bf, c2, g, rfl, Lib.hid (mkNet_set T2 rfl HR2.out HQ1.out HF.out L8 (by simp; omega) L1 (by simp; omega) (by simp))⟩
  case rest =>
    obtain ⟨ob, bs, c1, bf, c2, g, rfl, HMK⟩ := hcut
    clear q0 q1 HA3 HA0 HR0 HS HBA IS
    have hw := HMK.out.below.size
    have hR5 : OwnC wc (w.heap.size + 1) #[.slice none 0 0, .slice none 0 0] 27 := HR3.out.below HMK.out.below (by omega)
    have HR5 := Lib.hid hR5
    have HB5 := Lib.hid (HB3.out.trans (HMK.out.below.mono (by omega)))
    have HO5 := Lib.hid HMK.out.own
    have HN5 := Lib.hid HMK.out.net
    have hob := HMK.out.new
    have hobl := HO5.out.lt
    have hapo := HMK.out.apart
    have hF := HN5.out.facets
    have HG : Hid (∀ i, i < fs.length → w3.heap.size ≤ g i ∧ g i < wc.heap.size ∧ g i ≠ bf ∧ g i ≠ ob) := Lib.hid fun i hi => ⟨(hF.blk i hi).1, (hF.blk i hi).2.1, (hF.blk i hi).2.2, hapo.2.2 i hi⟩
    have HINJ : Hid (∀ i k, i < fs.length → k < fs.length → i ≠ k → g i ≠ g k) := Lib.hid fun i k hi hk hne => by
      rcases Nat.lt_or_gt_of_ne hne with h | h
      · exact hF.inj i k h hk
      · exact fun e => hF.inj k i h hi e.symm
    have hrowb := hF.row
    have hbo := hapo.2.1
    have HI0 : Hid (Cors wc g fs (bkF fs 0 0)) := Lib.hid fun i hi p hp => by rw [bkF_zero hp]; exact HN5.out.facets.cors i hi p hp
    have HRM0 : Hid (∀ i, i < fs.length → Room wc (g i) (fAt fs i).length) := Lib.hid hF.room
    have o0 := HO5.out.cell 0
    have o1 := HO5.out.cell 1
    simp at o0 o1
    clear hF hR5 hapo HR3 HB3 HS3
    go_wp2_with fail
    go_loopw [21] (fun i wr => ∃ j : Nat, j ≤ fs.length ∧ i = .int .i64 j ∧ Hid (Ch (Corn g fs.length) wc wr) ∧ Hid (∀ i, i < fs.length → Room wr (g i) (fAt fs i).length) ∧ Hid (Cors wr g fs (bkF fs j 0))) (fun i _ => fs.length - (intOf i).toNat)
    case atStart => exact ⟨0, by omega, rfl, Lib.hid (Ch.refl _ _), HRM0, HI0⟩
    case round =>
      clear HI0 HRM0 o0 o1
      obtain ⟨j, hj, rfl, HON, HRM, HCO⟩ := hrel
      have hnc : ∀ b, b < w3.heap.size ∨ b = bf ∨ b = ob → ¬ Corn g fs.length b := fun b hb => by
        rintro ⟨i, hi, e⟩
        have := HG.out i hi
        omega
      have hzr := HON.out.size
      by_cases hlt : j < fs.length
      · obtain ⟨cg, hd⟩ := HN5.out.facets.head j hlt
        have h1 := HON.out.cell hd (hnc bf (by omega))
        have hlj := HSH.out j hlt
        have hgj := HG.out j hlt
        have k0 : (0 : Int) ≤ (j : Int) := by omega
        have k1 : (j : Int) < (fs.length : Int) := by omega
        have HAL : Hid (Below wr.heap.size wr (wr.alloc (.cells #[.slice (some ⟨g j, 0, none⟩) (fAt fs j).length cg] 38))) := Lib.hid (Below.alloc (Below.refl _ _) (Nat.le_refl _) _)
        have HRA : Hid (∀ i, i < fs.length → Room (wr.alloc (.cells #[.slice (some ⟨g j, 0, none⟩) (fAt fs j).length cg] 38)) (g i) (fAt fs i).length) := Lib.hid fun i hi => (HRM.out i hi).far (lo := 0) (hi := wr.heap.size) (Far.below HAL.out (Nat.le_refl _)) (Nat.zero_le _) (by have := HG.out i hi; omega)
        have HCA : Hid (Cors (wr.alloc (.cells #[.slice (some ⟨g j, 0, none⟩) (fAt fs j).length cg] 38)) g fs (bkF fs j 0)) := Lib.hid fun i hi p hp => keep_cell HAL.out (HCO.out i hi p hp)
        have HRD : Hid (Rd (wr.alloc (.cells #[.slice (some ⟨g j, 0, none⟩) (fAt fs j).length cg] 38)) (g j) (fAt fs j).length (iAt (fAt fs j))) := Lib.hid fun p hp => by
          rw [HCA.out j hlt p hp, bkF, if_neg (by omega)]
        clear hd
        go_wp2_with (go_at_call 36; refine (reverseI (g j) cg (fAt fs j) hlj _ (HRA.out j hlt) HRD.out).mono ?_; rintro e w6 ⟨rfl, ho6, hr6⟩; have HO6 := Lib.hid ho6; have HR6 := Lib.hid hr6; clear ho6 hr6)
        go_roundw
        case rel =>
          refine ⟨j + 1, by omega, by go_num, Lib.hid ?_, Lib.hid fun i hi => HO6.out.room _ _ (HRA.out i hi), Lib.hid fun i hi p hp => ?_⟩
          · have h2 : Ch (Corn g fs.length) wc (wr.alloc (.cells #[.slice (some ⟨g j, 0, none⟩) (fAt fs j).length cg] 38)) := HON.out.trans (P' := fun _ => False) (Ch.below HAL.out) (fun b hb => hb.elim)
            refine h2.trans (P' := fun c => c = g j) ⟨HO6.out.os, HO6.out.tape, HO6.out.output, Nat.le_of_eq HO6.out.size.symm, fun b _ hb => HO6.out.block b hb⟩ (fun b hb => .inl ⟨j, hlt, hb⟩)
          · rw [← bkF_next hp]
            by_cases hij : i = j
            · subst hij
              rw [HR6.out p hp, bkF, if_pos (.inr ⟨rfl, by omega⟩)]
            · rw [HO6.out.cell (b := g i) (o := p) (fun e => HINJ.out i j hi hlt hij e), HCA.out i hi p hp, bkF, bkF]
              by_cases hl : i < j
              · rw [if_pos (.inl hl), if_pos (.inl hl)]
              · rw [if_neg (by omega), if_neg (by omega)]
        case measure => simp [intOf]; omega
      · have hjn : j = fs.length := by omega
        subst hjn
        have hR : OwnC wr (w.heap.size + 1) #[.slice none 0 0, .slice none 0 0] 27 := HON.out.own HR5.out (hnc _ (by omega))
        have hO : OwnC wr ob #[.slice (some ⟨bs, 0, none⟩) ps.length c1, .slice (some ⟨bf, 0, none⟩) fs.length c2] 27 := HON.out.own HO5.out (hnc _ (by omega))
        have hap := HN5.out.apart
        have hlow := HN5.out.low
        have hFT := HN5.out.facets.turned (w' := wr) (fun i hi p hp => by show wr.cell? ⟨g i, p, none⟩ = some (.int .i64 (iAt (fAt fs i) ((fAt fs i).length - 1 - p))); rw [← bkF_all hi]; exact HCO.out i hi p hp) (fun i hi => by
          obtain ⟨ci, hd⟩ := HN5.out.facets.head i hi
          rw [hd]; exact HON.out.cell hd (hnc bf (by omega))) HRM.out
        have hfs : Far bs (bs + 1) wc wr := HON.out.far (by omega) (fun b h1 h2 hp => by obtain ⟨i, hi, e⟩ := hp; have := hap.2 i hi; omega)
        have hSP : OwnP wr w3.heap.size wc.heap.size (some ⟨bs, 0, none⟩) ps := ⟨.inr ⟨bs, rfl, hlow.1, hlow.2, HN5.out.room.far hfs (Nat.le_refl _) (Nat.lt_succ_self _), HN5.out.spots.far hfs⟩⟩
        have HNN : Hid (ONet wr w3.heap.size wc.heap.size (some ⟨bs, 0, none⟩) (some ⟨bf, 0, none⟩) ps (fs.map List.reverse)) := Lib.hid ⟨hSP, .inr ⟨bf, g, rfl, hFT, fun b e => by cases e; exact ⟨hap.1, fun i hi => hap.2 i (by rw [List.length_map] at hi; exact hi)⟩⟩⟩
        have HBW : Hid (Below w.heap.size w wr) := Lib.hid (HB5.out.trans (HON.out.toBelow (by omega) (fun c hc => by obtain ⟨i, hi, rfl⟩ := hc; have := HG.out i hi; omega)))
        have o0 := hO.cell 0
        have o1 := hO.cell 1
        have r0 := hR.cell 0
        have r1 := hR.cell 1
        have g0 := hR.free 0
        have g1 := hR.free 1
        simp at o0 o1 r0 r1
        have HRR := Lib.hid hR
        clear hR hO hFT hSP hfs
        go_wp2_with fail
        have R := ((HRR.out.set 0 (.slice (some ⟨bs, 0, none⟩) ps.length c1)).set 1 (.slice (some ⟨bf, 0, none⟩) fs.length c2))
        have q0 := R.cell 0
        have q1 := R.cell 1
        simp at q0 q1
        refine bodyPost_ret (v := .tuple #[.agg #[.slice (some ⟨bs, 0, none⟩) ps.length c1, .slice (some ⟨bf, 0, none⟩) fs.length c2], .bool true]) (by simp [results, Try.results10, go_sem, *]) rfl ?_
        rw [HC1.out, HC2.out]
        have hfin : Far w3.heap.size wc.heap.size wr ((wr.setCell ⟨w.heap.size + 1, 0, none⟩ (.slice (some ⟨bs, 0, none⟩) ps.length c1)).setCell ⟨w.heap.size + 1, 1, none⟩ (.slice (some ⟨bf, 0, none⟩) fs.length c2)) := ((Far.refl _ _ _).set _ _ (by simp; omega)).set _ _ (by simp; omega)
        refine ⟨⟨some ⟨bs, 0, none⟩, some ⟨bf, 0, none⟩, c1, c2, by rw [List.length_map]; rfl, ?_⟩, (HBW.out.setCell (by simp) _).setCell (by simp) _⟩
        have := HNN.out.far hfin
        simp only [World.size_setCell]
        exact this.wide (by omega) (by omega)
end Go.Proofs.Ytkjljajjjhfklaa
