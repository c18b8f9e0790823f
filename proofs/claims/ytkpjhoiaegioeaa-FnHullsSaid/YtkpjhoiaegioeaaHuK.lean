/- slices.Compact at a dozen points: what is sorted rises. -/
import Derived.Test.YtkpjhoiaegioeaaHuS
import Derived.Lib.SliceRun
namespace Go.Fl
open Go.RowKit
/-- the first t points of ys are the first i points of xs, no two alike -/
structure CompI (ys xs : List Cx) (i t : Nat) : Prop where
  len : xs.length = ys.length
  one : 1 ≤ i
  lt : i < t
  asc : ∀ p q, p < q → q < i → ltZ (hA xs p) (hA xs q)
  mem : ∀ q, q < t → ∃ p, p < i ∧ hA xs p = hA ys q
  sub : ∀ p, p < i → ∃ q, q < ys.length ∧ cAt xs p = cAt ys q
  last : hA xs (i - 1) = hA ys (t - 1)
  rest : ∀ p, t - 1 ≤ p → p < ys.length → cAt xs p = cAt ys p
theorem CompI.start {ys : List Cx} {i : Nat} (h1 : 1 ≤ i) (hi : i < ys.length) (ha : ∀ p q, p < q → q < i → ltZ (hA ys p) (hA ys q)) (he : hA ys i = hA ys (i - 1)) : CompI ys ys i (i + 1) :=
  ⟨rfl, h1, Nat.lt_succ_self _, ha, fun q hq => by
    by_cases h : q = i
    · exact ⟨i - 1, by omega, by rw [h, he]⟩
    · exact ⟨q, by omega, rfl⟩, fun p hp => ⟨p, by omega, rfl⟩, by rw [Nat.add_sub_cancel, he], fun _ _ _ => rfl⟩
theorem CompI.same {ys xs : List Cx} {i t : Nat} (h : CompI ys xs i t) (ht : t < ys.length) (he : hA ys t = hA ys (t - 1)) : CompI ys xs i (t + 1) :=
  ⟨h.len, h.one, by have := h.lt; omega, h.asc, fun q hq => by
    by_cases hqt : q = t
    · have := h.one
      exact ⟨i - 1, by omega, by rw [h.last, hqt, he]⟩
    · exact h.mem q (by omega), h.sub, by rw [h.last, Nat.add_sub_cancel, he], fun p h1 h2 => h.rest p (by omega) h2⟩
theorem cAt_set {xs : List Cx} {i : Nat} (x : Cx) (hi : i < xs.length) (p : Nat) : cAt (xs.set i x) p = if p = i then x else cAt xs p := by
  unfold cAt
  by_cases e : p = i
  · subst e; simp [hi]
  · simp [List.getElem?_set, e, Ne.symm e]
theorem CompI.next {ys xs : List Cx} {i t : Nat} (h : CompI ys xs i t) (ht : t < ys.length) (hlt : ltZ (hA ys (t - 1)) (hA ys t)) : CompI ys (xs.set i (cAt ys t)) (i + 1) (t + 1) := by
  have hit := h.lt
  have h1 := h.one
  have hl := h.len
  have ha : ∀ p, hA (xs.set i (cAt ys t)) p = if p = i then hA ys t else hA xs p := fun p => by
    unfold hA; rw [cAt_set _ (by omega)]; split <;> rfl
  refine ⟨by rw [List.length_set]; exact hl, by omega, by omega, fun p q hpq hq => ?_, fun q hq => ?_, fun p hp => ?_, ?_, fun p hp1 hp2 => ?_⟩
  · rw [ha, ha, if_neg (by omega)]
    by_cases e : q = i
    · rw [if_pos e]
      have hl2 := h.last
      by_cases e2 : p = i - 1
      · rw [e2, hl2]; exact hlt
      · exact (h.asc p (i - 1) (by omega) (by omega)).trans (by rw [hl2]; exact hlt)
    · rw [if_neg e]; exact h.asc p q hpq (by omega)
  · by_cases e : q = t
    · exact ⟨i, by omega, by rw [ha, if_pos rfl, e]⟩
    · obtain ⟨p, hp, hpe⟩ := h.mem q (by omega)
      exact ⟨p, by omega, by rw [ha, if_neg (by omega)]; exact hpe⟩
  · by_cases e : p = i
    · exact ⟨t, ht, by rw [cAt_set _ (by omega), if_pos e]⟩
    · rw [cAt_set _ (by omega), if_neg e]; exact h.sub p (by omega)
  · rw [ha, if_pos (by omega), Nat.add_sub_cancel]
  · rw [cAt_set _ (by omega), if_neg (by omega)]; exact h.rest p (by omega) hp2
theorem Asc.of_at : ∀ {l : List Zp}, (∀ p q, p < q → q < l.length → ltZ (zAt l p) (zAt l q)) → Asc l
  | [], _ => trivial
  | [_], _ => trivial
  | a :: b :: r, h => ⟨h 0 1 (by omega) (by simp), Asc.of_at (l := b :: r) fun p q h1 h2 => by
      have := h (p + 1) (q + 1) (by omega) (by simp at h2 ⊢; omega)
      exact this⟩
theorem zAt_map_hz {zs : List Cx} {i : Nat} (h : i < zs.length) : zAt (zs.map hz) i = hA zs i := by simp [zAt, hA, cAt, h]
/-- what Compact gives of ys -/
structure CompR (ys zs : List Cx) : Prop where
  ne : 0 < ys.length → 0 < zs.length
  le : zs.length ≤ ys.length
  asc : Asc (zs.map hz)
  mem : ∀ q : Zp, q ∈ zs.map hz ↔ q ∈ ys.map hz
  sub : ∀ z, z ∈ zs → z ∈ ys
theorem mem_map_hz {zs : List Cx} {q : Zp} : q ∈ zs.map hz ↔ ∃ p, p < zs.length ∧ hA zs p = q := by
  rw [List.mem_map]
  constructor
  · rintro ⟨z, hz1, rfl⟩
    obtain ⟨i, hi, e⟩ := mem_cAt.1 hz1
    exact ⟨i, hi, by unfold hA; rw [e]⟩
  · rintro ⟨p, hp, rfl⟩
    exact ⟨cAt zs p, mem_cAt.2 ⟨p, hp, rfl⟩, rfl⟩
theorem CompR.whole {ys : List Cx} (ha : ∀ p q, p < q → q < ys.length → ltZ (hA ys p) (hA ys q)) : CompR ys ys :=
  ⟨id, Nat.le_refl _, Asc.of_at fun p q h1 h2 => by
    rw [List.length_map] at h2
    rw [zAt_map_hz (by omega), zAt_map_hz h2]; exact ha p q h1 h2, fun _ => Iff.rfl, fun _ h => h⟩
theorem cAt_take {xs : List Cx} {i p : Nat} (h : p < i) : cAt (xs.take i) p = cAt xs p := by simp [cAt, List.getElem?_take, h]
theorem CompI.done {ys xs : List Cx} {i : Nat} (h : CompI ys xs i ys.length) : CompR ys (xs.take i) := by
  have hl := h.len
  have hit := h.lt
  have ln : (xs.take i).length = i := by rw [List.length_take]; omega
  have hA2 : ∀ p, p < i → hA (xs.take i) p = hA xs p := fun p hp => by unfold hA; rw [cAt_take hp]
  refine ⟨fun _ => by rw [ln]; exact h.one, by rw [ln]; omega, Asc.of_at fun p q h1 h2 => ?_, fun q => ?_, fun z hz1 => ?_⟩
  · rw [List.length_map, ln] at h2
    rw [zAt_map_hz (by omega), zAt_map_hz (by omega), hA2 p (by omega), hA2 q h2]
    exact h.asc p q h1 h2
  · rw [mem_map_hz, mem_map_hz, ln]
    constructor
    · rintro ⟨p, hp, e⟩
      obtain ⟨q', hq', e2⟩ := h.sub p hp
      exact ⟨q', hq', by rw [← e, hA2 p hp]; unfold hA; rw [e2]⟩
    · rintro ⟨q', hq', e⟩
      obtain ⟨p, hp, e2⟩ := h.mem q' hq'
      exact ⟨p, hp, by rw [hA2 p hp, e2, e]⟩
  · obtain ⟨p, hp, e⟩ := mem_cAt.1 hz1
    rw [ln] at hp
    obtain ⟨q', hq', e2⟩ := h.sub p hp
    rw [cAt_take hp] at e
    exact mem_cAt.2 ⟨q', hq', by rw [← e2, e]⟩
theorem Only.setCells {S : Nat → Prop} {a : World} {b : Nat} (hb : S b) : ∀ (vs : List Value) (o : Nat) (w : World), Only S a w → Only S a (w.setCells b o vs)
  | [], _, _, h => h
  | v :: vs, o, w, h => Only.setCells hb vs (o + 1) _ (h.set b o v hb)
/-- two good points are one to the program where they are one -/
theorem good_eq {x y : Cx} (hx : goodP x) (hy : goodP y) : ((FloatKind.f32.format.order x.1 y.1 == some .eq) && (FloatKind.f32.format.order x.2 y.2 == some .eq)) = decide (hz x = hz y) := by
  have key : ∀ {a b : Nat} {k l : Int}, Q .f32 a k 1 → Q .f32 b l 1 → (FloatKind.f32.format.order a b == some .eq) = decide (k = l) := fun {a b k l} ha hb => by
    rw [ha.order hb]
    cases h : compare k l
    · rw [Int.compare_eq_lt] at h; simp; omega
    · rw [Int.compare_eq_eq] at h; simp [h]
    · rw [Int.compare_eq_gt] at h; simp; omega
  rw [key hx.1.1 hy.1.1, key hx.1.2 hy.1.2, ← Bool.decide_and]
  congr 1
  exact propext ⟨fun ⟨a, b⟩ => Prod.ext a b, fun h => by rw [h]; exact ⟨rfl, rfl⟩⟩
end Go.Fl
namespace Go.Proofs.Ytkpjhoiaegioeaa
open Go.RowKit Go.Fl

theorem zeroCx (w : World) : (zeroValue 26).run Try.prog w = .ok (.complex .f32 0 0) w := by kernel_rfl

set_option maxHeartbeats 4000000 in
set_option maxRecDepth 100000 in
theorem compactC (b c n : Nat) (ys : List Cx) (hn : ys.length = n) (h1 : 1 ≤ n) (h19 : n ≤ 19) (hc : n ≤ c) (hok : ∀ z, z ∈ ys → goodP z) (hs : SortTo ys n) (w : World) (hr : OwnC1 w b ys) :
    Calls Try.prog 35 #[.slice (some ⟨b, 0, none⟩) n c] w fun e w' => (∃ zs, CompR ys zs ∧ e = .returned (.slice (some ⟨b, 0, none⟩) zs.length c) ∧ OwnC1 w' b zs) ∧ Only (fun c => c = b) w w' := by
  have HR := Lib.hid hr
  have HOK := Lib.hid hok
  have HN := Lib.hid hn
  have HS := Lib.hid hs
  have hcI : (n : Int) ≤ (c : Int) := by omega
  clear hr hok hn hs
  go_enter Try.func35, Try.ntmps35
  by_cases h2 : n < 2
  · have h2' : (n : Int) < 2 := by omega
    go_wp2_with fail
    go_ret
    exact ⟨⟨ys, CompR.whole (fun p q h1 h2 => by have := HN.out; omega), HN.out ▸ rfl, HR.out⟩, Only.refl _ _⟩
  · have h2' : ¬ (n : Int) < 2 := by omega
    go_wp2_with fail
    go_loopw [3] (fun iv wr => ∃ (i q : Nat), 1 ≤ i ∧ i ≤ n ∧ iv = .int .i64 i ∧ wr = w.drewN q ∧ Hid (∀ p q, p < q → q < i → ltZ (hA ys p) (hA ys q))) (fun iv _ => n - (intOf iv).toNat)
    case atStart => exact ⟨1, 0, Nat.le_refl _, h1, rfl, rfl, Lib.hid (fun p q h1 h2 => by omega)⟩
    case round =>
      obtain ⟨i, q, hi1, hi, rfl, rfl, HA⟩ := hrel
      by_cases hlt : i < n
      · obtain ⟨j, hj⟩ : ∃ j, j = i - 1 := ⟨_, rfl⟩
        have c1 := HR.out.2 i (by rw [HN.out]; exact hlt)
        have c2 := HR.out.2 j (by rw [HN.out]; omega)
        have key : ∀ q, q < n → goodP (cAt ys q) := fun q hq => HOK.out _ (mem_cAt.2 ⟨q, by rw [HN.out]; exact hq, rfl⟩)
        have HE := Lib.hid (good_eq (key i hlt) (key j (by omega)))
        have k0 : (0 : Int) ≤ (i : Int) := by omega
        have k1 : (i : Int) < (n : Int) := by omega
        have k2 : (0 : Int) ≤ (j : Int) := by omega
        have k3 : (j : Int) < (n : Int) := by omega
        have k4 : (i : Int) - 1 = (j : Int) := by omega
        have w1 : IntKind.i64.wrap ((i : Int) - 1) = (j : Int) := by rw [IntKind.wrap_i64]; omega
        have HJ := Lib.hid hj
        obtain ⟨x, hx⟩ : ∃ x, x = cAt ys i := ⟨_, rfl⟩
        obtain ⟨y, hy⟩ : ∃ y, y = cAt ys j := ⟨_, rfl⟩
        rw [← hx] at c1 HE
        rw [← hy] at c2 HE
        have HX := Lib.hid hx
        have HY := Lib.hid hy
        clear key hj hx hy
        unfold cV at c1 c2
        by_cases hxy : hz x = hz y
        · have e1 := HE.out
          rw [decide_eq_true hxy] at e1
          go_wp2_with fail
          go_quiet (fail)
          obtain ⟨M, hM⟩ : ∃ M, M = n - i := ⟨_, rfl⟩
          have m1 : (n : Int) - (i : Int) = (M : Int) := by omega
          have hst := CompI.start hi1 (by rw [HN.out]; exact hlt) HA.out (show hA ys i = hA ys (i - 1) by unfold hA; rw [← HX.out, ← HJ.out, ← HY.out]; exact hxy)
          have HST := Lib.hid hst
          have HMM := Lib.hid hM
          have m2 : (i : Int) ≤ (n : Int) := by omega
          clear hst hM c1 c2 HE e1 k2 k3 k4 w1
          go_wp2_with fail
          go_loopw [3, 5] (fun iv kv wr => ∃ (i' k : Nat) (xs : List Cx), 1 ≤ k ∧ k ≤ M ∧ i' ≤ n ∧ iv = .int .i64 i' ∧ kv = .int .i64 k ∧ Hid (CompI ys xs i' (i + k)) ∧ Hid (OwnC1 wr b xs) ∧ Hid (Only (fun c => c = b) w wr)) (fun _ kv _ => M - (intOf kv).toNat)
          case atStart => exact ⟨i, 1, ys, Nat.le_refl _, by have := HMM.out; omega, hi, rfl, rfl, HST, Lib.hid (HR.out.far ((Far.refl 0 (b + 1) _).drewN _) (Nat.zero_le _) (Nat.lt_succ_self _)), Lib.hid ((Only.refl _ _).drewN _)⟩
          case round =>
            obtain ⟨i', k, xs, hk1, hkM, hi'n, rfl, rfl, HC, HW, HO⟩ := hrel
            by_cases hkl : k < M
            · obtain ⟨t, ht⟩ : ∃ t, t = i + k := ⟨_, rfl⟩
              obtain ⟨t1, ht1⟩ : ∃ t1, t1 = t - 1 := ⟨_, rfl⟩
              obtain ⟨k', hk'⟩ : ∃ k', k' = k - 1 := ⟨_, rfl⟩
              have hM := HMM.out
              have htn : t < n := by omega
              have lenx : xs.length = n := by rw [HC.out.len, HN.out]
              have d1 := HW.out.2 t (by rw [lenx]; exact htn)
              have d2 := HW.out.2 t1 (by rw [lenx]; omega)
              have r1 := HC.out.rest t (by omega) (by rw [HN.out]; exact htn)
              have r2 := HC.out.rest t1 (by omega) (by rw [HN.out]; omega)
              rw [r1] at d1
              rw [r2] at d2
              have key : ∀ q, q < n → goodP (cAt ys q) := fun q hq => HOK.out _ (mem_cAt.2 ⟨q, by rw [HN.out]; exact hq, rfl⟩)
              have HE := Lib.hid (good_eq (key t htn) (key t1 (by omega)))
              obtain ⟨u, hu⟩ : ∃ u, u = cAt ys t := ⟨_, rfl⟩
              obtain ⟨v, hv⟩ : ∃ v, v = cAt ys t1 := ⟨_, rfl⟩
              rw [← hu] at d1 HE
              rw [← hv] at d2 HE
              have a0 : (0 : Int) ≤ (k : Int) := by omega
              have a1 : (k : Int) < (M : Int) := by omega
              have a2 : (0 : Int) ≤ (k' : Int) := by omega
              have a3 : (k' : Int) < (M : Int) := by omega
              have a4 : (k : Int) - 1 = (k' : Int) := by omega
              have a5 : IntKind.i64.wrap ((k : Int) - 1) = (k' : Int) := by rw [IntKind.wrap_i64]; omega
              have a6 : i + k = t := ht.symm
              have a7 : i + k' = t1 := by omega
              have HT := Lib.hid (show t = i + k ∧ t1 = t - 1 ∧ hA ys t = hz u ∧ hA ys t1 = hz v from ⟨ht, ht1, by rw [hu]; rfl, by rw [hv]; rfl⟩)
              have HU := Lib.hid hu
              unfold cV at d1 d2
              clear key r1 r2 ht ht1 hk' hM hu hv
              by_cases huv : hz u = hz v
              · have e2 := HE.out
                rw [decide_eq_true huv] at e2
                go_wp2_with fail
                go_quiet (fail)
                go_wp2_with fail
                go_roundw
                case rel =>
                  obtain ⟨h1, h2, h3, h4⟩ := HT.out
                  exact ⟨i', k + 1, xs, by omega, by have := HMM.out; omega, hi'n, rfl, by go_num, Lib.hid (by
                    rw [show i + (k + 1) = t + 1 by omega]
                    exact CompI.same (by rw [h1]; exact HC.out) (by rw [HN.out]; omega) (by rw [← h2, h3, h4, huv])), Lib.hid (HW.out.far ((Far.refl 0 (b + 1) _).drewN _) (Nat.zero_le _) (Nat.lt_succ_self _)), Lib.hid (HO.out.drewN _)⟩
                case measure => have := HMM.out; simp [intOf]; omega
              · have e2 := HE.out
                rw [decide_eq_false huv] at e2
                have hi1 := HC.out.lt
                have d3 := HW.out.2 i' (by rw [lenx]; omega)
                have f1 := HW.out.1.free i'
                have b0 : (0 : Int) ≤ (i' : Int) := by omega
                have b1 : (i' : Int) < (n : Int) := by omega
                unfold cV at d3
                clear hi1
                go_wp2_with fail
                go_quiet (fail)
                go_wp2_with fail
                obtain ⟨h1, h2, h3, h4⟩ := HT.out
                have hM := HMM.out
                have hlt3 : ltZ (hA ys (t - 1)) (hA ys t) := by
                  have hle := HS.out (t - 1) t (by omega) (by omega)
                  rcases hle.eq_or with h | h
                  · exact absurd (show hz u = hz v by rw [← h3, ← h4, h2, h]) huv
                  · exact h
                have hnext := CompI.next (ys := ys) (xs := xs) (i := i') (t := t) (by rw [h1]; exact HC.out) (by rw [HN.out]; omega) hlt3
                rw [← HU.out] at hnext
                have hset := HW.out.set (j := i') (by rw [lenx]; omega) u
                exact ⟨⟨i' + 1, k + 1, xs.set i' u, by omega, by omega, by omega, by go_num, by go_num, Lib.hid (by rw [show i + (k + 1) = t + 1 by omega]; exact hnext), Lib.hid (hset.far ((Far.refl 0 (b + 1) _).drewN _) (Nat.zero_le _) (Nat.lt_succ_self _)), Lib.hid ((HO.out.set b i' (cV u) rfl).drewN _)⟩, meas_upI a1⟩
            · have hM := HMM.out
              have hkM2 : k = M := by omega
              have hC := HC.out
              rw [show i + k = ys.length by rw [HN.out]; omega] at hC
              have hi1 := hC.lt
              rw [HN.out] at hi1
              have lenx : xs.length = n := by rw [hC.len, HN.out]
              have a1 : ¬ (k : Int) < (M : Int) := by omega
              obtain ⟨r, hr⟩ : ∃ r, r = n - i' := ⟨_, rfl⟩
              have hcl : ∀ ty, (Builtin.clear_ #[24] ty #[.slice (some ⟨b, i', none⟩) (n - i') (c - i')]).run Try.prog wr = .ok (.tuple #[]) (wr.setCells b i' (List.replicate (n - i') (.complex .f32 0 0))) :=
                fun ty => Lib.run_clear_slice wr 24 26 ty (.complex .f32 0 0) Try.underlying24 zeroCx rfl rfl b i' (n - i') (c - i') (by omega) (fun j hj => by rw [HW.out.2 (i' + j) (by rw [lenx]; omega)]; rfl) (fun j _ => HW.out.1.free _)
              have b0 : (i' : Int) ≤ (n : Int) := by omega
              have HCC := Lib.hid hC
              clear hC hr hM
              go_wp2_with (simp only [hcl])
              go_ret
              have ln : (xs.take i').length = i' := by rw [List.length_take, lenx]; omega
              refine ⟨⟨xs.take i', HCC.out.done, by rw [ln] <;> rfl, ?_, fun p hp => ?_⟩, Only.setCells (S := fun c => c = b) (b := b) rfl _ _ _ HO.out⟩
              · have hroom := (Only.setCells (S := fun c => c = b) rfl (List.replicate (n - i') (.complex .f32 0 0)) i' wr (Only.refl _ wr)).room b _ HW.out.1
                exact hroom.mono (by rw [ln, lenx]; omega)
              · rw [ln] at hp
                rw [World.cell?_setCells_out b _ i' wr ⟨b, p, none⟩ (fun _ _ => .inl hp), HW.out.2 p (by rw [lenx]; omega), cAt_take hp]
        · have e1 := HE.out
          rw [decide_eq_false hxy] at e1
          go_wp2_with fail
          go_quiet (fail)
          go_wp2_with fail
          go_roundw
          case rel =>
            have hle := HS.out j i (by have := HJ.out; omega) hlt
            have hlt2 : ltZ (hA ys (i - 1)) (hA ys i) := by
              rw [← HJ.out]
              rcases hle.eq_or with h | h
              · exact absurd (show hz x = hz y by unfold hA at h; rw [HX.out, HY.out, h]) hxy
              · exact h
            exact ⟨i + 1, q + nq, by omega, by omega, by go_num, by first | rfl | rw [World.drewN_drewN], Lib.hid (fun p r hp hr => by
              by_cases e : r = i
              · subst e
                by_cases e2 : p = r - 1
                · subst e2; exact hlt2
                · exact (HA.out p (r - 1) (by omega) (by omega)).trans hlt2
              · exact HA.out p r hp (by omega))⟩
          case measure => simp [intOf]; omega
      · have hin : i = n := by omega
        have k1 : ¬ (i : Int) < (n : Int) := by omega
        go_wp2_with fail
        go_ret
        exact ⟨⟨ys, CompR.whole (fun p r hp hr => HA.out p r hp (by rw [hin, ← HN.out]; exact hr)), HN.out ▸ rfl, HR.out.far ((Far.refl 0 (b + 1) _).drewN q) (Nat.zero_le _) (Nat.lt_succ_self _)⟩, (Only.refl _ _).drewN q⟩
end Go.Proofs.Ytkpjhoiaegioeaa
