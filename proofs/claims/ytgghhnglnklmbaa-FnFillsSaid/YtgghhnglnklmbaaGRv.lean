/- slices.Clone and slices.Reverse at complex numbers; the closures of BackLoops and MoveOutline. (Written by mkgrv.py.) -/
import Derived.Test.YtgghhnglnklmbaaGAr
import Derived.Test.YtgghhnglnklmbaaSprd
namespace Go.Fl
open Go.RowKit
theorem cVs_one {l : List Cx} : ∀ u ∈ l.map cV, u.oneCell' = true := fun u hu => by
  obtain ⟨x, _, rfl⟩ := List.mem_map.1 hu
  rfl
theorem SlC.news {w : World} {lo hi b : Nat} {l : List Cx} (h : SlC w lo hi (some ⟨b, 0, none⟩) l) : ∀ j u, (l.map cV)[j]? = some u → w.cell? ((⟨b, 0, none⟩ : Addr).add j) = some u := fun j u hu => by
  have hj : j < l.length := by
    have := (List.getElem?_eq_some_iff.1 hu).1
    simpa using this
  obtain ⟨b', e, _, _, hc⟩ := h (by omega)
  cases e
  have hadd : (⟨b, 0, none⟩ : Addr).add j = ⟨b, j, none⟩ := by
    cases j
    · simp [Addr.add]
    · simp [Addr.add]
  rw [hadd, hc j hj, ← hu]
  simp [cAt, hj]
theorem Only.dr {S : Nat → Prop} {a w : World} (h : Only S a w) (n : Nat) : Only S a (w.drewN n) := h.drewN n
theorem cAt_reverse {l : List Cx} {i : Nat} (h : i < l.length) : cAt l.reverse i = cAt l (l.length - 1 - i) := by
  have h2 : l.length - 1 - i < l.length := by omega
  simp [cAt, h, h2, List.getElem?_reverse]
end Go.Fl
namespace Go.Proofs.Ytgghhnglnklmbaa
open Go.RowKit Go.Fl

set_option maxHeartbeats 1000000 in
set_option maxRecDepth 100000 in
theorem cloneC (lo hi : Nat) (ao : Option Addr) (c : Nat) (xs : List Cx) (h0 : 0 < xs.length) (hn : xs.length ≤ 1048576) (w : World) (hs : SlC w lo hi ao xs) (hh : hi ≤ w.heap.size) :
    Calls Try.prog 44 #[.slice ao xs.length c] w fun e w' => (∃ b cap, e = .returned (.slice (some ⟨b, 0, none⟩) xs.length cap) ∧ w.heap.size ≤ b ∧ OwnC1 w' b xs) ∧ Below w.heap.size w w' := by
  obtain ⟨b0, rfl, l1, l2, _⟩ := hs h0
  have hsA : SlC (w.alloc (.cells #[] 44)) lo hi (some ⟨b0, 0, none⟩) xs := hs.far ((Far.refl _ _ _).alloc _ hh)
  have HS := Lib.hid hsA
  have HH0 := Lib.hid h0
  clear hs hsA h0
  have he : ∀ w : World, (binOp .eql 58 (.slice (some ⟨b0, 0, none⟩) xs.length c) (.slice none 0 0)).run Try.prog w = .ok (.bool false) w := fun _ => rfl
  go_enter Try.func44, Try.ntmps44
  go_wp2_with (at_builtin; refine wpList_spread rfl _ _ _ rfl 44 (.complex .f32 0 0) 1 8 Try.underlying58 infoCx rfl (by decide) _ w.heap.size 0 0 [] rfl (ORow.new w _ _) _ xs.length _ (xs.map cV) rfl (by simp) HS.out.news cVs_one HH0.out (by omega) (by decide) ?_; intro b1 cap1 w1 hr1 hb1 hl1 hg1)
  go_ret
  simp only [World.size_alloc] at hb1
  simp only [Nat.zero_add, List.nil_append] at hr1
  exact ⟨⟨b1, cap1, by simp, by omega, OwnC1.row hr1 rfl⟩, Below.trans (by (repeat (first | exact Below.refl _ _ | assumption | refine below_dr ?_ _ | refine Below.alloc ?_ (by first | omega | (simp; done) | (simp; omega)) _ | refine Below.setCell ?_ (by first | omega | (simp; done) | (simp; omega)) _ | refine Below.trans ?_ (Below.mono (by assumption) (by first | omega | (simp; done) | (simp; omega)))))) (hg1.below (Nat.le_refl _) (by simp))⟩

/-- place p, the first k and the last k turned -/
def rvF (xs : List Cx) (k p : Nat) : Cx := if p < k ∨ xs.length ≤ p + k then cAt xs (xs.length - 1 - p) else cAt xs p
/-- the block reads so -/
def Rd (w : World) (b n : Nat) (f : Nat → Cx) : Prop := ∀ p, p < n → w.cell? ⟨b, p, none⟩ = some (cV (f p))
theorem Rd.step {w w' : World} {b : Nat} {xs : List Cx} {k : Nat} (h : Rd w b xs.length (rvF xs k)) (hk : k + k + 1 < xs.length)
    (h1 : w'.cell? ⟨b, k, none⟩ = some (cV (cAt xs (xs.length - 1 - k)))) (h2 : w'.cell? ⟨b, xs.length - 1 - k, none⟩ = some (cV (cAt xs k)))
    (h3 : ∀ p, p ≠ k → p ≠ xs.length - 1 - k → w'.cell? ⟨b, p, none⟩ = w.cell? ⟨b, p, none⟩) : Rd w' b xs.length (rvF xs (k + 1)) := fun p hp => by
  by_cases e1 : p = k
  · subst e1
    rw [h1, rvF, if_pos (.inl (by omega))]
  · by_cases e2 : p = xs.length - 1 - k
    · subst e2
      rw [h2, rvF, if_pos (.inr (by omega))]
      congr 3; omega
    · rw [h3 p e1 e2, h p hp]
      unfold rvF
      by_cases c : p < k ∨ xs.length ≤ p + k
      · rw [if_pos c, if_pos (by omega)]
      · rw [if_neg c, if_neg (by omega)]
theorem rvF_end {xs : List Cx} {k p : Nat} (hp : p < xs.length) (hk : xs.length ≤ k + k + 1) : rvF xs k p = cAt xs (xs.length - 1 - p) := by
  unfold rvF
  by_cases c : p < k ∨ xs.length ≤ p + k
  · rw [if_pos c]
  · rw [if_neg c]; congr 1; omega
theorem set2 {w : World} {b i j : Nat} {u v : Value} (hij : i ≠ j) (hi : (w.cell? ⟨b, i, none⟩).isSome = true) (hj : (w.cell? ⟨b, j, none⟩).isSome = true) :
    ((w.setCell ⟨b, i, none⟩ u).setCell ⟨b, j, none⟩ v).cell? ⟨b, i, none⟩ = some u ∧ ((w.setCell ⟨b, i, none⟩ u).setCell ⟨b, j, none⟩ v).cell? ⟨b, j, none⟩ = some v ∧
      ∀ p, p ≠ i → p ≠ j → ((w.setCell ⟨b, i, none⟩ u).setCell ⟨b, j, none⟩ v).cell? ⟨b, p, none⟩ = w.cell? ⟨b, p, none⟩ := by
  obtain ⟨x, hx⟩ := Option.isSome_iff_exists.1 hi
  obtain ⟨y, hy⟩ := Option.isSome_iff_exists.1 hj
  refine ⟨?_, ?_, fun p h1 h2 => ?_⟩
  · rw [World.cell?_setCell_other _ _ _ _ (by simp only [ne_eq, Addr.mk.injEq]; omega)]
    exact World.cell?_setCell_same _ _ _ hx
  · exact World.cell?_setCell_same _ _ _ ((World.cell?_setCell_other _ _ _ _ (by simp only [ne_eq, Addr.mk.injEq]; omega)).trans hy)
  · rw [World.cell?_setCell_other _ _ _ _ (by simp only [ne_eq, Addr.mk.injEq]; omega), World.cell?_setCell_other _ _ _ _ (by simp only [ne_eq, Addr.mk.injEq]; omega)]

set_option maxHeartbeats 2000000 in
set_option maxRecDepth 100000 in
theorem reverseC (b c : Nat) (xs : List Cx) (hn : xs.length ≤ 1048576) (w : World) (hr : Room w b xs.length) (hd : Rd w b xs.length (cAt xs)) :
    Calls Try.prog 25 #[.slice (some ⟨b, 0, none⟩) xs.length c] w fun e w' => e = .returned (.tuple #[]) ∧ Only (fun c => c = b) w w' ∧ Rd w' b xs.length (fun p => cAt xs (xs.length - 1 - p)) := by
  have HR := Lib.hid hr
  have HD0 : Hid (Rd w b xs.length (rvF xs 0)) := Lib.hid fun p hp => by rw [rvF, if_neg (by omega)]; exact hd p hp
  have u0 : IntKind.i64.wrap ((xs.length : Int) - 1) = (xs.length : Int) - 1 := by rw [IntKind.wrap_i64]; omega
  clear hr hd
  go_enter Try.func25, Try.ntmps25
  go_wp2_with fail
  go_loopw [2, 3] (fun i j wr => ∃ k : Nat, k + k ≤ xs.length + 1 ∧ i = .int .i64 k ∧ j = .int .i64 ((xs.length : Int) - 1 - k) ∧ Hid (Only (fun c => c = b) w wr) ∧ Hid (Rd wr b xs.length (rvF xs k))) (fun i _ _ => xs.length - (intOf i).toNat)
  case atStart => exact ⟨0, by omega, rfl, by simp, Lib.hid (Only.refl _ _), HD0⟩
  case round =>
    clear HD0
    obtain ⟨k, hk, rfl, rfl, HO, HD⟩ := hrel
    by_cases hlt : k + k + 1 < xs.length
    · obtain ⟨q, hq⟩ : ∃ q, q = xs.length - 1 - k := ⟨_, rfl⟩
      have hqi : (xs.length : Int) - 1 - (k : Int) = (q : Int) := by omega
      have c1 := HD.out k (by omega)
      have c2 := HD.out q (by omega)
      have v1 : rvF xs k k = cAt xs k := by rw [rvF, if_neg (by omega)]
      have v2 : rvF xs k q = cAt xs q := by rw [rvF, if_neg (by omega)]
      rw [v1] at c1
      rw [v2] at c2
      have c1' := c1
      have c2' := c2
      rcases hcq : cAt xs q with ⟨qa, qb⟩
      rcases hck : cAt xs k with ⟨ka, kb⟩
      rw [hck] at c1
      rw [hcq] at c2
      unfold cV at c1 c2
      have HCQ := Lib.hid hcq
      have HCK := Lib.hid hck
      have HC1 := Lib.hid c1'
      have HC2 := Lib.hid c2'
      clear hcq hck c1' c2'
      have hroom := HO.out.room _ _ HR.out
      have f1 := hroom.free k
      have f2 := hroom.free q
      rw [hqi]
      have k0 : (0 : Int) ≤ (k : Int) := by omega
      have k1 : (k : Int) < (xs.length : Int) := by omega
      have k2 : (0 : Int) ≤ (q : Int) := by omega
      have k3 : (q : Int) < (xs.length : Int) := by omega
      have k4 : (k : Int) < (q : Int) := by omega
      have hkq : ¬ k = q := by omega
      have hqk : ¬ q = k := by omega
      have u1 : IntKind.i64.wrap ((q : Int) - 1) = (xs.length : Int) - 1 - ((k + 1 : Nat) : Int) := by rw [IntKind.wrap_i64]; omega
      have HQ := Lib.hid hq
      clear hroom v1 v2 hq hqi
      go_wp2_with fail
      go_region
      go_wp2_with fail
      go_roundw
      case rel =>
        obtain ⟨s1, s2, s3⟩ := set2 (w := wr) (b := b) (u := cV (cAt xs q)) (v := cV (cAt xs k)) hkq (by rw [HC1.out]; rfl) (by rw [HC2.out]; rfl)
        have hst := Rd.step HD.out hlt (by rw [← HQ.out]; exact s1) (by rw [← HQ.out]; exact s2) (fun p h1 h2 => s3 p h1 (by rw [HQ.out]; exact h2))
        have hon := (HO.out.set b k (cV (cAt xs q)) rfl).set b q (cV (cAt xs k)) rfl
        rw [HCQ.out, HCK.out] at hst hon
        exact ⟨k + 1, by omega, by go_num, by go_num, Lib.hid (by first | exact hon | exact Only.dr hon 1), Lib.hid (by exact hst)⟩
      case measure => simp [intOf]; omega
    · have hkk : ¬ ((k : Int) < (xs.length : Int) - 1 - (k : Int)) := by omega
      go_wp2_with fail
      go_end0
      exact ⟨rfl, HO.out, fun p hp => by rw [HD.out p hp, rvF_end hp (by omega)]⟩

set_option maxHeartbeats 1000000 in
theorem backLoops1 (g c : Nat) (xs : List Cx) (hn : xs.length ≤ 1048576) (w : World) (ho : OwnC1 w g xs) :
    Calls Try.prog 24 #[.slice (some ⟨g, 0, none⟩) xs.length c] w fun e w' => e = .returned (.slice (some ⟨g, 0, none⟩) xs.length c) ∧ OwnC1 w' g xs.reverse ∧ Only (fun c => c = g) w w' := by
  have HR := Lib.hid (reverseC g c xs hn w ho.1 ho.2)
  have HO := Lib.hid ho.1
  clear ho
  go_enter Try.func24, Try.ntmps24
  go_wp2_with fail
  refine HR.out.mono ?_
  rintro e w1 ⟨rfl, hon, hrd⟩
  have HON := Lib.hid hon
  have HRD := Lib.hid hrd
  clear hon hrd
  go_wp2_with fail
  go_ret
  refine ⟨rfl, ⟨by rw [List.length_reverse]; exact HON.out.room _ _ HO.out, fun i hi => ?_⟩, HON.out⟩
  rw [List.length_reverse] at hi
  rw [HRD.out i hi, cAt_reverse hi]

set_option maxHeartbeats 2000000 in
set_option maxRecDepth 100000 in
theorem moveOutline1 (g c B : Nat) (xs : List Cx) (d : Cx) (hn : xs.length ≤ 1048576) (hB : B ≠ g) (w : World) (ho : OwnC1 w g xs) (hd : w.cell? ⟨B, 0, none⟩ = some (cV d)) :
    Calls Try.prog 38 #[.slice (some ⟨g, 0, none⟩) xs.length c, .pointer (some ⟨B, 0, none⟩)] w fun e w' => e = .returned (.slice (some ⟨g, 0, none⟩) xs.length c) ∧ (∃ ys : List Cx, ys.length = xs.length ∧ OwnC1 w' g ys ∧ ∀ i, i < xs.length → F32 (cAt ys i).1 (fadd (can .f32 (cAt xs i).1) (can .f32 d.1)) ∧ F32 (cAt ys i).2 (fadd (can .f32 (cAt xs i).2) (can .f32 d.2))) ∧ Only (fun c => c = g) w w' := by
  obtain ⟨d1, d2⟩ := d
  unfold cV at hd
  have HO := Lib.hid ho
  have HD := Lib.hid hd
  clear ho hd
  go_enter Try.func38, Try.ntmps38
  go_wp2_with fail
  go_loopw [8] (fun i wr => ∃ (k : Nat) (ys : List Cx), k ≤ xs.length ∧ i = .int .i64 k ∧ ys.length = xs.length ∧ Hid (OwnC1 wr g ys) ∧ Hid (∀ i, i < k → F32 (cAt ys i).1 (fadd (can .f32 (cAt xs i).1) (can .f32 d1)) ∧ F32 (cAt ys i).2 (fadd (can .f32 (cAt xs i).2) (can .f32 d2))) ∧ Hid (∀ i, k ≤ i → cAt ys i = cAt xs i) ∧ Hid (Only (fun c => c = g) w wr)) (fun i _ => xs.length - (intOf i).toNat)
  case atStart => exact ⟨0, xs, by omega, rfl, rfl, HO, Lib.hid (fun i h => absurd h (Nat.not_lt_zero _)), Lib.hid (fun _ _ => rfl), Lib.hid (Only.refl _ _)⟩
  case round =>
    obtain ⟨k, ys, hk, rfl, hyl, HY, HF, HE, HON⟩ := hrel
    have HYL := Lib.hid hyl
    clear hyl
    by_cases hlt : k < xs.length
    · have c1 := HY.out.2 k (by rw [HYL.out]; exact hlt)
      have f1 := HY.out.1.free k
      have c2 := (HON.out.cell (b := B) (o := 0) hB).trans HD.out
      rw [HE.out k (Nat.le_refl _)] at c1
      have HC1 := Lib.hid c1
      rcases hx : cAt xs k with ⟨x1, x2⟩
      rw [hx] at c1
      unfold cV at c1
      have HX := Lib.hid hx
      have k0 : (0 : Int) ≤ (k : Int) := by omega
      have k1 : (k : Int) < (xs.length : Int) := by omega
      clear hx
      go_wp2_with fail
      refine (plusC _ _ _ _ _).mono ?_
      rintro e w3 ⟨⟨r1, r2, rfl, h1, h2⟩, n3, rfl⟩
      have H1 := Lib.hid h1
      have H2 := Lib.hid h2
      clear h1 h2
      go_wp2_with fail
      have hset : ∀ (q : Nat), OwnC1 ((wr.setCell ⟨g, k, none⟩ (.complex .f32 r1 r2)).drewN q) g (ys.set k (r1, r2)) := fun q => ⟨by
        rw [List.length_set]; exact (HY.out.1.set _ _ _), fun i hi => by
        rw [List.length_set] at hi
        show (wr.setCell ⟨g, k, none⟩ (.complex .f32 r1 r2)).cell? ⟨g, i, none⟩ = _
        by_cases e : i = k
        · subst e
          rw [World.cell?_setCell_same _ _ _ HC1.out]
          simp [cAt, hi, cV]
        · rw [World.cell?_setCell_other _ _ _ _ (by simp [e]), HY.out.2 i hi]
          simp [cAt, List.getElem?_set, Ne.symm e]⟩
      refine ⟨⟨k + 1, ys.set k (r1, r2), by omega, by go_num, by rw [List.length_set, HYL.out], Lib.hid (hset _), Lib.hid (fun i hi => ?_), Lib.hid (fun i hi => ?_), Lib.hid ?_⟩, by simp [intOf]; omega⟩
      · by_cases e : i = k
        · subst e
          have hk2 : i < ys.length := by rw [HYL.out]; exact hlt
          have e1 : cAt (ys.set i (r1, r2)) i = (r1, r2) := by simp [cAt, hk2]
          rw [e1, HX.out]
          exact ⟨H1.out, H2.out⟩
        · have e1 : cAt (ys.set k (r1, r2)) i = cAt ys i := by simp [cAt, List.getElem?_set, Ne.symm e]
          rw [e1]
          exact HF.out i (by omega)
      · have e1 : cAt (ys.set k (r1, r2)) i = cAt ys i := by
          have : k ≠ i := by omega
          simp [cAt, List.getElem?_set, this]
        rw [e1]
        exact HE.out i (by omega)
      · first | exact (HON.out.set g k _ rfl).drewN _ | exact (HON.out.drewN _).set g k _ rfl | exact HON.out.set g k _ rfl
    · have hkn : k = xs.length := by omega
      have k1 : ¬ (k : Int) < (xs.length : Int) := by omega
      have HKN := Lib.hid hkn
      clear hkn
      go_wp2_with fail
      go_ret
      exact ⟨rfl, ⟨ys, HYL.out, HY.out, fun i hi => HF.out i (by rw [HKN.out]; exact hi)⟩, HON.out⟩
end Go.Proofs.Ytgghhnglnklmbaa
