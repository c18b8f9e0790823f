/- impl.HullOfPoints walked. -/
import Derived.Test.YtkpjhoiaegioeaaHuH
namespace Go.Fl
open Go.RowKit
theorem cAt_reverse {l : List Cx} {i : Nat} (h : i < l.length) : cAt l.reverse i = cAt l (l.length - 1 - i) := by
  have h2 : l.length - 1 - i < l.length := by omega
  simp [cAt, h, h2, List.getElem?_reverse]
/-- place p, the first k and the last k turned -/
def rvF (xs : List Cx) (k p : Nat) : Cx := if p < k ∨ xs.length ≤ p + k then cAt xs (xs.length - 1 - p) else cAt xs p
/-- the block reads so -/
def RdH (w : World) (b n : Nat) (f : Nat → Cx) : Prop := ∀ p, p < n → w.cell? ⟨b, p, none⟩ = some (cV (f p))
theorem RdH.step {w w' : World} {b : Nat} {xs : List Cx} {k : Nat} (h : RdH w b xs.length (rvF xs k)) (hk : k + k + 1 < xs.length)
    (h1 : w'.cell? ⟨b, k, none⟩ = some (cV (cAt xs (xs.length - 1 - k)))) (h2 : w'.cell? ⟨b, xs.length - 1 - k, none⟩ = some (cV (cAt xs k)))
    (h3 : ∀ p, p ≠ k → p ≠ xs.length - 1 - k → w'.cell? ⟨b, p, none⟩ = w.cell? ⟨b, p, none⟩) : RdH w' b xs.length (rvF xs (k + 1)) := fun p hp => by
  by_cases e1 : p = k
  · subst e1
    rw [h1, rvF, if_pos (.inl (by omega))]
  · by_cases e2 : p = xs.length - 1 - k
    · subst e2
      rw [h2, rvF, if_pos (.inr (by omega))]
      congr 3; omega
    · rw [h3 p e1 e2, h p hp]
      unfold rvF
      by_cases c : p < k ∨ xs.length ≤ p + k
      · rw [if_pos c, if_pos (by omega)]
      · rw [if_neg c, if_neg (by omega)]
theorem rvF_end {xs : List Cx} {k p : Nat} (hp : p < xs.length) (hk : xs.length ≤ k + k + 1) : rvF xs k p = cAt xs (xs.length - 1 - p) := by
  unfold rvF
  by_cases c : p < k ∨ xs.length ≤ p + k
  · rw [if_pos c]
  · rw [if_neg c]; congr 1; omega
theorem set2 {w : World} {b i j : Nat} {u v : Value} (hij : i ≠ j) (hi : (w.cell? ⟨b, i, none⟩).isSome = true) (hj : (w.cell? ⟨b, j, none⟩).isSome = true) :
    ((w.setCell ⟨b, i, none⟩ u).setCell ⟨b, j, none⟩ v).cell? ⟨b, i, none⟩ = some u ∧ ((w.setCell ⟨b, i, none⟩ u).setCell ⟨b, j, none⟩ v).cell? ⟨b, j, none⟩ = some v ∧
      ∀ p, p ≠ i → p ≠ j → ((w.setCell ⟨b, i, none⟩ u).setCell ⟨b, j, none⟩ v).cell? ⟨b, p, none⟩ = w.cell? ⟨b, p, none⟩ := by
  obtain ⟨x, hx⟩ := Option.isSome_iff_exists.1 hi
  obtain ⟨y, hy⟩ := Option.isSome_iff_exists.1 hj
  refine ⟨?_, ?_, fun p h1 h2 => ?_⟩
  · rw [World.cell?_setCell_other _ _ _ _ (by simp only [ne_eq, Addr.mk.injEq]; omega)]
    exact World.cell?_setCell_same _ _ _ hx
  · exact World.cell?_setCell_same _ _ _ ((World.cell?_setCell_other _ _ _ _ (by simp only [ne_eq, Addr.mk.injEq]; omega)).trans hy)
  · rw [World.cell?_setCell_other _ _ _ _ (by simp only [ne_eq, Addr.mk.injEq]; omega), World.cell?_setCell_other _ _ _ _ (by simp only [ne_eq, Addr.mk.injEq]; omega)]

/-- H is the hull of the points xs -/
structure HullR (xs H : List Cx) : Prop where
  hull : ∃ L : List Zp, Asc L ∧ (∀ p, p ∈ L ↔ p ∈ xs.map hz) ∧ H.map hz = hullZ L ∧ L.length ≤ xs.length
  sub : ∀ z, z ∈ H → z ∈ xs
theorem RdH.own {w : World} {b n : Nat} {xs : List Cx} (hr : Room w b n) (hn : xs.length = n) (h : RdH w b n (fun p => cAt xs (n - 1 - p))) : OwnC1 w b xs.reverse := by
  refine ⟨by rw [List.length_reverse, hn]; exact hr, fun i hi => ?_⟩
  rw [List.length_reverse] at hi
  rw [h i (by omega), cAt_reverse hi, hn]
theorem sideC_sub {zs : List Cx} {z : Cx} (h : z ∈ sideC zs) : z ∈ zs := by
  unfold sideC at h
  rcases foldC_sub zs [] z (List.mem_of_mem_tail (List.mem_reverse.1 h)) with h | h
  · exact h
  · cases h
theorem side_pos {L : List Zp} (h : Asc L) (h2 : 2 ≤ L.length) : 0 < (sideZ L).length ∧ 0 < (sideZ L.reverse).length := by
  obtain ⟨lo, hi, S, U, _, _, H, _⟩ := hull_of h h2
  obtain ⟨S', hS⟩ := H.sne
  obtain ⟨U', hU⟩ := H.une
  unfold sideZ
  rw [H.eS, H.eU, hS, hU]
  simp
theorem HullR.of {xs ys zs : List Cx} (hm : ∀ z, z ∈ ys ↔ z ∈ xs) (hl : ys.length = xs.length) (hc : CompR ys zs) (h2 : 2 ≤ zs.length) : HullR xs (sideC zs ++ sideC zs.reverse) := by
  refine ⟨⟨zs.map hz, hc.asc, fun p => ?_, ?_, by rw [List.length_map, ← hl]; exact hc.le⟩, fun z hz1 => ?_⟩
  · rw [hc.mem, List.mem_map, List.mem_map]
    exact ⟨fun ⟨z, a, b⟩ => ⟨z, (hm z).1 a, b⟩, fun ⟨z, a, b⟩ => ⟨z, (hm z).2 a, b⟩⟩
  · rw [List.map_append, sideC_map, sideC_map, List.map_reverse]
    unfold hullZ
    rw [if_neg (by rw [List.length_map]; omega)]
  · rcases List.mem_append.1 hz1 with h | h
    · exact (hm z).1 (hc.sub z (sideC_sub h))
    · exact (hm z).1 (hc.sub z (List.mem_reverse.1 (sideC_sub h)))
theorem HullR.one {xs ys zs : List Cx} (hm : ∀ z, z ∈ ys ↔ z ∈ xs) (hl : ys.length = xs.length) (hc : CompR ys zs) (h1 : zs.length = 1) : HullR xs zs := by
  refine ⟨⟨zs.map hz, hc.asc, fun p => ?_, ?_, by rw [List.length_map, ← hl]; exact hc.le⟩, fun z hz1 => (hm z).1 (hc.sub z hz1)⟩
  · rw [hc.mem, List.mem_map, List.mem_map]
    exact ⟨fun ⟨z, a, b⟩ => ⟨z, (hm z).1 a, b⟩, fun ⟨z, a, b⟩ => ⟨z, (hm z).2 a, b⟩⟩
  · unfold hullZ
    rw [if_pos (by rw [List.length_map]; exact h1)]
end Go.Fl
namespace Go.Proofs.Ytkpjhoiaegioeaa
open Go.RowKit Go.Fl

set_option maxHeartbeats 2000000 in
set_option maxRecDepth 100000 in
theorem reverseC (b c : Nat) (xs : List Cx) (hn : xs.length ≤ 1048576) (w : World) (hr : Room w b xs.length) (hd : RdH w b xs.length (cAt xs)) :
    Calls Try.prog 37 #[.slice (some ⟨b, 0, none⟩) xs.length c] w fun e w' => e = .returned (.tuple #[]) ∧ Only (fun c => c = b) w w' ∧ RdH w' b xs.length (fun p => cAt xs (xs.length - 1 - p)) := by
  have HR := Lib.hid hr
  have HD0 : Hid (RdH w b xs.length (rvF xs 0)) := Lib.hid fun p hp => by rw [rvF, if_neg (by omega)]; exact hd p hp
  have u0 : IntKind.i64.wrap ((xs.length : Int) - 1) = (xs.length : Int) - 1 := by rw [IntKind.wrap_i64]; omega
  clear hr hd
  go_enter Try.func37, Try.ntmps37
  go_wp2_with fail
  go_loopw [2, 3] (fun i j wr => ∃ k : Nat, k + k ≤ xs.length + 1 ∧ i = .int .i64 k ∧ j = .int .i64 ((xs.length : Int) - 1 - k) ∧ Hid (Only (fun c => c = b) w wr) ∧ Hid (RdH wr b xs.length (rvF xs k))) (fun i _ _ => xs.length - (intOf i).toNat)
  case atStart => exact ⟨0, by omega, rfl, by simp, Lib.hid (Only.refl _ _), HD0⟩
  case round =>
    clear HD0
    obtain ⟨k, hk, rfl, rfl, HO, HD⟩ := hrel
    by_cases hlt : k + k + 1 < xs.length
    · obtain ⟨q, hq⟩ : ∃ q, q = xs.length - 1 - k := ⟨_, rfl⟩
      have hqi : (xs.length : Int) - 1 - (k : Int) = (q : Int) := by omega
      have c1 := HD.out k (by omega)
      have c2 := HD.out q (by omega)
      have v1 : rvF xs k k = cAt xs k := by rw [rvF, if_neg (by omega)]
      have v2 : rvF xs k q = cAt xs q := by rw [rvF, if_neg (by omega)]
      rw [v1] at c1
      rw [v2] at c2
      have c1' := c1
      have c2' := c2
      rcases hcq : cAt xs q with ⟨qa, qb⟩
      rcases hck : cAt xs k with ⟨ka, kb⟩
      rw [hck] at c1
      rw [hcq] at c2
      unfold cV at c1 c2
      have HCQ := Lib.hid hcq
      have HCK := Lib.hid hck
      have HC1 := Lib.hid c1'
      have HC2 := Lib.hid c2'
      clear hcq hck c1' c2'
      have hroom := HO.out.room _ _ HR.out
      have f1 := hroom.free k
      have f2 := hroom.free q
      rw [hqi]
      have k0 : (0 : Int) ≤ (k : Int) := by omega
      have k1 : (k : Int) < (xs.length : Int) := by omega
      have k2 : (0 : Int) ≤ (q : Int) := by omega
      have k3 : (q : Int) < (xs.length : Int) := by omega
      have k4 : (k : Int) < (q : Int) := by omega
      have hkq : ¬ k = q := by omega
      have hqk : ¬ q = k := by omega
      have u1 : IntKind.i64.wrap ((q : Int) - 1) = (xs.length : Int) - 1 - ((k + 1 : Nat) : Int) := by rw [IntKind.wrap_i64]; omega
      have HQ := Lib.hid hq
      clear hroom v1 v2 hq hqi
      go_wp2_with fail
      go_region
      go_wp2_with fail
      go_roundw
      case rel =>
        obtain ⟨s1, s2, s3⟩ := set2 (w := wr) (b := b) (u := cV (cAt xs q)) (v := cV (cAt xs k)) hkq (by rw [HC1.out]; rfl) (by rw [HC2.out]; rfl)
        have hst := RdH.step HD.out hlt (by rw [← HQ.out]; exact s1) (by rw [← HQ.out]; exact s2) (fun p h1 h2 => s3 p h1 (by rw [HQ.out]; exact h2))
        have hon := (HO.out.set b k (cV (cAt xs q)) rfl).set b q (cV (cAt xs k)) rfl
        rw [HCQ.out, HCK.out] at hst hon
        exact ⟨k + 1, by omega, by go_num, by go_num, Lib.hid (by first | exact hon | exact Only.dr hon 1), Lib.hid (by exact hst)⟩
      case measure => simp [intOf]; omega
    · have hkk : ¬ ((k : Int) < (xs.length : Int) - 1 - (k : Int)) := by omega
      go_wp2_with fail
      go_end0
      exact ⟨rfl, HO.out, fun p hp => by rw [HD.out p hp, rvF_end hp (by omega)]⟩
set_option maxHeartbeats 1000000 in
set_option maxRecDepth 100000 in
theorem cloneN (lo hi : Nat) (ao : Option Addr) (c n : Nat) (xs : List Cx) (hxn : xs.length = n) (h0 : 0 < n) (hn : n ≤ 1048576) (w : World) (hs : SlC w lo hi ao xs) (hh : hi ≤ w.heap.size) :
    Calls Try.prog 31 #[.slice ao n c] w fun e w' => (∃ b cap, e = .returned (.slice (some ⟨b, 0, none⟩) n cap) ∧ n ≤ cap ∧ w.heap.size ≤ b ∧ OwnC1 w' b xs) ∧ Below w.heap.size w w' := by
  subst hxn
  obtain ⟨b0, rfl, l1, l2, _⟩ := hs h0
  have hsA : SlC (w.alloc (.cells #[] 26)) lo hi (some ⟨b0, 0, none⟩) xs := hs.far ((Far.refl _ _ _).alloc _ hh)
  have HS := Lib.hid hsA
  have HH0 := Lib.hid h0
  clear hs hsA h0
  have he : ∀ w : World, (binOp .eql 24 (.slice (some ⟨b0, 0, none⟩) xs.length c) (.slice none 0 0)).run Try.prog w = .ok (.bool false) w := fun _ => rfl
  go_enter Try.func31, Try.ntmps31
  go_wp2_with (at_builtin; refine wpList_spread rfl _ _ _ rfl 26 (.complex .f32 0 0) 1 8 Try.underlying24 infoCx rfl (by decide) _ w.heap.size 0 0 [] rfl (ORow.new w _ _) _ xs.length _ (xs.map cV) rfl (by simp) HS.out.news cVs_one HH0.out (by omega) (by decide) ?_; intro b1 cap1 w1 hr1 hb1 hl1 hg1)
  go_ret
  simp only [World.size_alloc] at hb1
  simp only [Nat.zero_add, List.nil_append] at hr1
  exact ⟨⟨b1, cap1, by simp, hr1.cap, by omega, OwnC1.row hr1 rfl⟩, Below.trans (by (repeat (first | exact Below.refl _ _ | assumption | refine below_dr ?_ _ | refine Below.alloc ?_ (by first | omega | (simp; done) | (simp; omega)) _ | refine Below.setCell ?_ (by first | omega | (simp; done) | (simp; omega)) _ | refine Below.trans ?_ (Below.mono (by assumption) (by first | omega | (simp; done) | (simp; omega)))))) (hg1.below (Nat.le_refl _) (by simp))⟩

set_option maxHeartbeats 4000000 in
set_option maxRecDepth 100000 in
theorem hullOfPoints (lo hi : Nat) (ao : Option Addr) (c n : Nat) (xs : List Cx) (hn : xs.length = n) (h1 : 1 ≤ n) (h19 : n ≤ 19) (hok : ∀ z, z ∈ xs → goodP z) (w : World) (hs : SlC w lo hi ao xs) (htop : hi ≤ w.heap.size) :
    Calls Try.prog 7 #[.slice ao n c] w fun e w' => (∃ g cap m H, e = .returned (.tuple #[.slice (some ⟨g, 0, none⟩) m cap, .bool true]) ∧ m = H.length ∧ w.heap.size ≤ g ∧ OwnC1 w' g H ∧ HullR xs H) ∧ Below w.heap.size w w' := by
  have hap := arePoints lo hi ao c xs (by omega) w hs
  rw [all_ok (fun z hz => show nN z from ⟨(hok z hz).1.1.num, (hok z hz).1.2.num⟩), hn] at hap
  have HAP := Lib.hid hap
  have HOK := Lib.hid hok
  have HN := Lib.hid hn
  have HCL := Lib.hid (fun q => cloneN lo hi ao c n xs hn (by omega) (by omega) (w.drewN q) (hs.far ((Far.refl _ _ _).drewN q)) htop)
  have n1 : ¬ (n : Int) < 1 := by omega
  have n2 : ¬ (64 : Int) < (n : Int) := by omega
  have n3 : (n : Int) ≤ 64 := by omega
  have n4 : (1 : Int) ≤ (n : Int) := by omega
  clear hap hok hn hs
  go_enter Try.func7, Try.ntmps7
  go_wp2_with fail
  refine HAP.out.mono ?_
  rintro e w1 ⟨rfl, q1, rfl⟩
  go_wp2_with fail
  refine (HCL.out q1).mono ?_
  rintro e w2 ⟨⟨b, cap, rfl, hcap, hb, ho⟩, hbl⟩
  have HO2 := Lib.hid ho
  have HB2 := Lib.hid (Below.trans (below_dr (Below.refl w.heap.size w) q1) hbl)
  have hb' : w.heap.size ≤ b := hb
  clear ho hbl hb HCL HAP
  go_wp2_with fail
  refine (sortStable b cap xs n HN.out h19 HOK.out w2 HO2.out).mono ?_
  rintro e w3 ⟨rfl, ⟨ys, hyl, hym, hys, hyo⟩, hon⟩
  have HYL := Lib.hid hyl
  have HYM := Lib.hid hym
  have HYS := Lib.hid hys
  have HYO := Lib.hid hyo
  have HON := Lib.hid hon
  clear hyl hym hys hyo hon
  go_wp2_with fail
  refine (compactC b cap n ys HYL.out h1 h19 hcap (fun z hz => HOK.out z ((HYM.out z).1 hz)) HYS.out w3 HYO.out).mono ?_
  rintro e w4 ⟨⟨zs, hcr, rfl, hzo⟩, hon⟩
  have HCR := Lib.hid hcr
  have HZO := Lib.hid hzo
  have HON2 := Lib.hid (HON.out.trans hon)
  have HB4 := Lib.hid (HB2.out.trans (HON2.out.below (B := w.heap.size) (fun c hc => by omega)))
  have HG := Lib.hid (show ∀ z, z ∈ zs → goodP z from fun z hz => HOK.out z ((HYM.out z).1 (hcr.sub z hz)))
  have hlen := hcr.le
  have hne := hcr.ne (by have := HYL.out; omega)
  rw [HYL.out] at hlen
  obtain ⟨m, hm⟩ : ∃ m, m = zs.length := ⟨_, rfl⟩
  rw [← hm] at hlen hne ⊢
  have HM := Lib.hid hm
  have hsz : b < w4.heap.size := HZO.out.1.lt
  clear hcr hzo hon hm HON HO2 HYO HYS
  by_cases hm1 : m = 1
  · subst hm1
    go_wp2_with fail
    go_ret2
    exact ⟨⟨b, cap, 1, zs, rfl, HM.out, hb', HZO.out, HullR.one HYM.out (by rw [HYL.out, HN.out]) HCR.out HM.out.symm⟩, HB4.out⟩
  · have hm1' : ((m : Int) == 1) = false := by simp; omega
    have hm1'' : ¬ (m : Int) = 1 := by omega
    have HSD := Lib.hid (hullSideC b (b + 1) b cap m zs HM.out.symm (by omega) (by omega) HG.out w4 (HZO.out.sl (Nat.le_refl _) (Nat.lt_succ_self _)) hsz)
    go_wp2_with fail
    refine HSD.out.mono ?_
    rintro e w5 ⟨⟨g, cap5, m5, rfl, hm5, hg5, hr5⟩, hb5⟩
    have hzo5 : OwnC1 w5 b zs := HZO.out.far (Far.below hb5 (Nat.le_refl _)) (Nat.zero_le _) hsz
    have hrv := reverseC b cap zs (by have := HM.out; omega) w5 hzo5.1 hzo5.2
    rw [← HM.out] at hrv
    have HRV := Lib.hid hrv
    have HR5 := Lib.hid hr5
    have HM5 := Lib.hid hm5
    have HB5 := Lib.hid (HB4.out.trans (hb5.mono HB4.out.size))
    have HZ5 := Lib.hid hzo5
    have hs5 := hb5.size
    have hl5 := hr5.lt
    clear hrv hr5 hm5 hzo5 hb5 HSD
    go_wp2_with fail
    refine HRV.out.mono ?_
    rintro e w6 ⟨rfl, hon6, hrd6⟩
    have hz6 : OwnC1 w6 b zs.reverse := RdH.own (by have := hon6.room b zs.length HZ5.out.1; rw [← HM.out] at this; exact this) HM.out.symm hrd6
    have hr6 : ORow w6 26 1 g cap5 m5 ((sideC zs).map cV) := HR5.out.far (lo := g) (hi := g + 1) (hon6.far (fun c hc => by left; omega)) (Nat.le_refl _) (Nat.lt_succ_self _)
    have HB6 := Lib.hid (HB5.out.trans (hon6.below (B := w.heap.size) (fun c hc => by omega)))
    have hs6 : w6.heap.size = w5.heap.size := hon6.size
    have HSD := Lib.hid (hullSideC b (b + 1) b cap m zs.reverse (by rw [List.length_reverse, HM.out]) (by omega) (by omega) (fun z hz => HG.out z (List.mem_reverse.1 hz)) w6 (hz6.sl (Nat.le_refl _) (Nat.lt_succ_self _)) (by omega))
    have HR6 := Lib.hid hr6
    have hg6 : g < w6.heap.size := by omega
    clear hon6 hrd6 hz6 hr6 HRV hs6
    go_wp2_with fail
    refine HSD.out.mono ?_
    rintro e w7 ⟨⟨g7, cap7, m7, rfl, hm7, hg7, hr7⟩, hb7⟩
    have hp := side_pos HCR.out.asc (by rw [List.length_map, ← HM.out]; omega)
    rw [← sideC_map, ← List.map_reverse, ← sideC_map, List.length_map, List.length_map, ← HM5.out, ← hm7] at hp
    have HR7 := Lib.hid (show ORow w7 26 1 g cap5 m5 ((sideC zs).map cV) from HR6.out.far (lo := 0) (hi := w6.heap.size) (Far.below hb7 (Nat.le_refl _)) (Nat.zero_le _) hg6)
    have HS7 := Lib.hid (show SlC w7 0 w7.heap.size (some ⟨g7, 0, none⟩) (sideC zs.reverse) from (OwnC1.row hr7 hm7).sl (Nat.zero_le _) hr7.lt)
    have HB7 := Lib.hid (HB6.out.trans (hb7.mono HB6.out.size))
    have HM7 := Lib.hid hm7
    have hbb : m5 ≤ 19 := by
      have h1 := HM5.out
      have h2 := foldC_len zs []
      have h3 := HM.out
      have h4 : (sideC zs).length ≤ (foldC zs []).length := by unfold sideC; rw [List.length_reverse, List.length_tail]; omega
      simp at h2
      omega
    have hbb7 : m7 ≤ 19 := by
      have h1 := HM7.out
      have h2 := foldC_len zs.reverse []
      have h3 := HM.out
      have h4 : (sideC zs.reverse).length ≤ (foldC zs.reverse []).length := by unfold sideC; rw [List.length_reverse, List.length_tail]; omega
      simp at h2
      omega
    have hp2 := hp.2
    have hs7 := HB7.out.size
    have HH := Lib.hid (HullR.of HYM.out (by rw [HYL.out, HN.out]) HCR.out (by rw [← HM.out]; omega))
    have hg5' : w.heap.size ≤ g := Nat.le_trans HB4.out.size hg5
    clear hr7 hm7 hb7 HSD hp HR6
    go_wp2_with (at_builtin; refine wpList_spread rfl _ _ _ rfl 26 (.complex .f32 0 0) 1 8 Try.underlying24 infoCx rfl (by decide) _ g cap5 m5 _ rfl HR7.out _ m7 _ ((sideC zs.reverse).map cV) rfl (by rw [List.length_map, HM7.out]; omega) HS7.out.news cVs_one hp2 (by omega) (by decide) ?_; intro b8 cap8 w8 hr8 hb8 hl8 hg8)
    have HR8 := Lib.hid hr8
    have HB8 := Lib.hid (HB7.out.trans (hg8.below (B := w.heap.size) hg5' hs7))
    clear hr8 hg8 hl8
    go_wp2_with fail
    go_ret2
    refine ⟨⟨b8, cap8, m5 + m7, _, rfl, ?_, by omega, OwnC1.row (n := m5 + m7) (l := sideC zs ++ sideC zs.reverse) (by rw [List.map_append]; exact HR8.out) ?_, HH.out⟩, HB8.out⟩
    · rw [List.length_append, ← HM5.out, ← HM7.out]
    · rw [List.length_append, ← HM5.out, ← HM7.out]
end Go.Proofs.Ytkpjhoiaegioeaa
