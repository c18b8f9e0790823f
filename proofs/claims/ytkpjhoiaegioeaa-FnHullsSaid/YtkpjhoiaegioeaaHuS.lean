/- slices.SortStableFunc at a dozen points: sorted from left to right, and from low to high. -/
import Derived.Test.YtkpjhoiaegioeaaHuD
import Derived.Test.YtkpjhoiaegioeaaHuQ
namespace Go.Fl
open Go.RowKit
theorem Only.dr {S : Nat → Prop} {a w : World} (h : Only S a w) (n : Nat) : Only S a (w.drewN n) := h.drewN n
/-- the point of bits, in halves -/
def hz (z : Cx) : Zp := (V .f32 z.1 / 2 ^ 148, V .f32 z.2 / 2 ^ 148)
/-- bits of a point of halves that is no farther than 4 -/
def goodP (z : Cx) : Prop := PX z (hz z) 1 ∧ low (hz z) 8
theorem PX.hz {z : Cx} {p : Zp} (h : PX z p 1) : Go.Fl.hz z = p := by
  have e : ∀ {x : Nat} {k : Int}, Q .f32 x k 1 → V .f32 x / 2 ^ 148 = k := fun {x k} hq => by
    rw [hq.val]
    exact Int.mul_ediv_cancel _ (Int.ne_of_gt (pow_pos_i 148))
  exact Prod.ext (e h.1) (e h.2)
theorem goodP.of {z : Cx} {p : Zp} (h : PX z p 1) (hl : low p 8) : goodP z := by
  have := h.hz
  exact ⟨by rw [this]; exact h, by rw [this]; exact hl⟩
def hA (xs : List Cx) (i : Nat) : Zp := hz (cAt xs i)
theorem q_lt {x y : Nat} {k l : Int} (hx : Q .f32 x k 1) (hy : Q .f32 y l 1) : (FloatKind.f32.format.order x y == some .lt) = decide (k < l) := by
  rw [hx.order hy]
  cases h : compare k l
  · rw [Int.compare_eq_lt] at h; simp [h]
  · rw [Int.compare_eq_eq] at h; subst h; simp
  · rw [Int.compare_eq_gt] at h; simp; omega
theorem q_gt {x y : Nat} {k l : Int} (hx : Q .f32 x k 1) (hy : Q .f32 y l 1) : (FloatKind.f32.format.order x y == some .gt) = decide (l < k) := by
  rw [hx.order hy]
  cases h : compare k l
  · rw [Int.compare_eq_lt] at h; simp; omega
  · rw [Int.compare_eq_eq] at h; subst h; simp
  · rw [Int.compare_eq_gt] at h; simp [h]
theorem OwnC1.set {w : World} {b : Nat} {xs : List Cx} (h : OwnC1 w b xs) {j : Nat} (hj : j < xs.length) (x : Cx) : OwnC1 (w.setCell ⟨b, j, none⟩ (cV x)) b (xs.set j x) := by
  refine ⟨by rw [List.length_set]; exact h.1.set _ _ _, fun i hi => ?_⟩
  rw [List.length_set] at hi
  by_cases e : i = j
  · subst e
    rw [World.cell?_setCell_same _ _ _ (h.2 i hi)]
    simp [cAt, hi]
  · rw [World.cell?_setCell_other _ _ _ _ (by simp [e]), h.2 i hi]
    simp [cAt, List.getElem?_set, Ne.symm e]
def swapC (xs : List Cx) (j : Nat) : List Cx := (xs.set j (cAt xs (j - 1))).set (j - 1) (cAt xs j)
theorem swapC_len (xs : List Cx) (j : Nat) : (swapC xs j).length = xs.length := by simp [swapC]
theorem swapC_at {xs : List Cx} {j : Nat} (hj : 0 < j) (hl : j < xs.length) (p : Nat) : cAt (swapC xs j) p = if p = j then cAt xs (j - 1) else if p = j - 1 then cAt xs j else cAt xs p := by
  unfold swapC cAt
  have h1 : j - 1 < xs.length := by omega
  by_cases e : p = j
  · subst e
    have : p - 1 ≠ p := by omega
    simp [List.getElem?_set, this, hl]
  · by_cases e2 : p = j - 1
    · subst e2
      simp [List.getElem?_set, e, h1]
    · simp [List.getElem?_set, e, e2, Ne.symm e, Ne.symm e2]
theorem mem_cAt {xs : List Cx} {z : Cx} : z ∈ xs ↔ ∃ i, i < xs.length ∧ cAt xs i = z := by
  constructor
  · intro h
    obtain ⟨i, hi, e⟩ := List.getElem_of_mem h
    exact ⟨i, hi, by rw [← e]; simp [cAt, hi]⟩
  · rintro ⟨i, hi, rfl⟩
    have : cAt xs i = xs[i] := by simp [cAt, hi]
    rw [this]; exact List.getElem_mem hi
theorem swapC_mem {xs : List Cx} {j : Nat} (hj : 0 < j) (hl : j < xs.length) (z : Cx) : z ∈ swapC xs j ↔ z ∈ xs := by
  rw [mem_cAt, mem_cAt, swapC_len]
  constructor
  · rintro ⟨i, hi, e⟩
    rw [swapC_at hj hl] at e
    split at e
    · exact ⟨j - 1, by omega, e⟩
    · split at e
      · exact ⟨j, hl, e⟩
      · exact ⟨i, hi, e⟩
  · rintro ⟨i, hi, e⟩
    by_cases h1 : i = j
    · exact ⟨j - 1, by omega, by rw [swapC_at hj hl, if_neg (by omega), if_pos rfl, ← h1]; exact e⟩
    · by_cases h2 : i = j - 1
      · exact ⟨j, hl, by rw [swapC_at hj hl, if_pos rfl, ← h2]; exact e⟩
      · exact ⟨i, hi, by rw [swapC_at hj hl, if_neg h1, if_neg h2]; exact e⟩
def SortTo (xs : List Cx) (i : Nat) : Prop := ∀ p q, p < q → q < i → leZ (hA xs p) (hA xs q)
def InsI (xs : List Cx) (i j : Nat) : Prop := ∀ p q, p < q → q ≤ i → q ≠ j → leZ (hA xs p) (hA xs q)
theorem InsI.start {xs : List Cx} {i : Nat} (h : SortTo xs i) : InsI xs i i := fun p q h1 h2 h3 => h p q h1 (by omega)
theorem InsI.swap {xs : List Cx} {i j : Nat} (h : InsI xs i j) (hj : 0 < j) (hl : j < xs.length) (hji : j ≤ i) (hlt : ltZ (hA xs j) (hA xs (j - 1))) : InsI (swapC xs j) i (j - 1) := fun p q h1 h2 h3 => by
  have hv : ∀ p, hA (swapC xs j) p = if p = j then hA xs (j - 1) else if p = j - 1 then hA xs j else hA xs p := fun p => by
    unfold hA; rw [swapC_at hj hl]; split
    · rfl
    · split <;> rfl
  rw [hv, hv]
  by_cases q1 : q = j
  · subst q1
    rw [if_pos rfl, if_neg (by omega)]
    by_cases p1 : p = q - 1
    · rw [if_pos p1]; exact hlt.le
    · rw [if_neg p1]
      exact h p (q - 1) (by omega) (by omega) (by omega)
  · rw [if_neg q1, if_neg h3]
    by_cases p1 : p = j
    · subst p1
      rw [if_pos rfl]
      exact h (p - 1) q (by omega) h2 q1
    · rw [if_neg p1]
      by_cases p2 : p = j - 1
      · rw [if_pos p2]
        have : j ≤ q := by omega
        exact h j q (by omega) h2 q1
      · rw [if_neg p2]
        exact h p q h1 h2 q1
theorem InsI.stop0 {xs : List Cx} {i : Nat} (h : InsI xs i 0) : SortTo xs (i + 1) := fun p q h1 h2 => h p q h1 (by omega) (by omega)
theorem InsI.stop {xs : List Cx} {i j : Nat} (h : InsI xs i j) (hj : 0 < j) (hle : leZ (hA xs (j - 1)) (hA xs j)) (hji : j ≤ i) : SortTo xs (i + 1) := fun p q h1 h2 => by
  by_cases q1 : q = j
  · subst q1
    by_cases p1 : p = q - 1
    · rw [p1]; exact hle
    · exact (h p (q - 1) (by omega) (by omega) (by omega)).trans hle
  · exact h p q h1 (by omega) q1
end Go.Fl
namespace Go.Proofs.Ytkpjhoiaegioeaa
open Go.RowKit Go.Fl

theorem cmpNumbers (x y : Nat) {k l : Int} (hx : Q .f32 x k 1) (hy : Q .f32 y l 1) (w : World) : Calls Try.prog 34 #[.float .f32 x, .float .f32 y] w fun e w' => (∃ r : Int, e = .returned (.int .i64 r) ∧ (r < 0 ↔ k < l) ∧ (r = 0 ↔ k = l) ∧ -1 ≤ r ∧ r ≤ 1) ∧ w' = w := by
  have o1 := q_lt hx hy
  have o2 := q_gt hx hy
  by_cases h1 : k < l
  · rw [decide_eq_true h1] at o1
    clear o2
    go_enter Try.func34, Try.ntmps34
    go_wp2_with fail
    go_ret
    exact ⟨⟨-1, rfl, by omega, by omega, by omega, by omega⟩, rfl⟩
  · rw [decide_eq_false h1] at o1
    by_cases h2 : l < k
    · rw [decide_eq_true h2] at o2
      go_enter Try.func34, Try.ntmps34
      go_wp2_with fail
      go_ret
      exact ⟨⟨1, rfl, by omega, by omega, by omega, by omega⟩, rfl⟩
    · rw [decide_eq_false h2] at o2
      go_enter Try.func34, Try.ntmps34
      go_wp2_with fail
      go_ret
      exact ⟨⟨0, rfl, by omega, by omega, by omega, by omega⟩, rfl⟩
theorem hullCmp (x y : Cx) (hx : goodP x) (hy : goodP y) (w : World) : Calls Try.prog 33 #[cV x, cV y] w fun e w' => (∃ r : Int, e = .returned (.int .i64 r) ∧ (r < 0 ↔ ltZ (hz x) (hz y)) ∧ -1 ≤ r ∧ r ≤ 1) ∧ w' = w := by
  have HC1 := Lib.hid (fun W => cmpNumbers x.1 y.1 hx.1.1 hy.1.1 W)
  have HC2 := Lib.hid (fun W => cmpNumbers x.2 y.2 hx.1.2 hy.1.2 W)
  obtain ⟨p, hp⟩ : ∃ p, p = hz x := ⟨_, rfl⟩
  obtain ⟨q, hq⟩ : ∃ p, p = hz y := ⟨_, rfl⟩
  rw [← hp, ← hq] at HC1 HC2 ⊢
  clear hp hq hx hy
  obtain ⟨x1, x2⟩ := x
  obtain ⟨y1, y2⟩ := y
  unfold cV
  go_enter Try.func33, Try.ntmps33
  go_wp2_with fail
  refine (HC1.out _).mono ?_
  rintro e w1 ⟨⟨r, rfl, hr1, hr2, hr3, hr4⟩, rfl⟩
  have HR1 := Lib.hid hr1
  have HR2 := Lib.hid hr2
  clear hr1 hr2
  by_cases h0 : r = 0
  · subst h0
    go_wp2_with fail
    refine (HC2.out _).mono ?_
    rintro e w2 ⟨⟨s, rfl, hs1, hs2, hs3, hs4⟩, rfl⟩
    have HS1 := Lib.hid hs1
    clear hs1 hs2
    go_wp2_with fail
    go_ret
    refine ⟨⟨s, rfl, ?_, hs3, hs4⟩, rfl⟩
    have h1 := HR1.out
    have h2 := HR2.out
    have h3 := HS1.out
    unfold ltZ
    have e : p.1 = q.1 := by simpa using h2
    constructor
    · intro h; exact .inr ⟨e, h3.1 h⟩
    · rintro (h | ⟨_, h⟩)
      · exact absurd h (by omega)
      · exact h3.2 h
  · go_wp2_with fail
    go_ret
    refine ⟨⟨r, rfl, ?_, hr3, hr4⟩, rfl⟩
    have h1 := HR1.out
    have h2 := HR2.out
    unfold ltZ
    constructor
    · intro h; exact .inl (h1.1 h)
    · rintro (h | ⟨h, _⟩)
      · exact h1.2 h
      · exact absurd (h2.2 h) h0

set_option maxHeartbeats 4000000 in
set_option maxRecDepth 100000 in
theorem insertion (b c : Nat) (xs : List Cx) (n : Nat) (hn : xs.length = n) (h12 : n ≤ 19) (hok : ∀ x, x ∈ xs → goodP x) (w : World) (hr : OwnC1 w b xs) :
    Calls Try.prog 75 #[.slice (some ⟨b, 0, none⟩) n c, .int .i64 0, .int .i64 n, .func (.func 33) #[] #[]] w fun e w' => e = .returned (.tuple #[]) ∧ (∃ ys : List Cx, ys.length = n ∧ (∀ x, x ∈ ys ↔ x ∈ xs) ∧ SortTo ys n ∧ OwnC1 w' b ys) ∧ Only (fun c => c = b) w w' := by
  have HR := Lib.hid hr
  have HOK := Lib.hid hok
  have HN := Lib.hid hn
  clear hr hok hn
  go_enter Try.func75, Try.ntmps75
  go_wp2_with fail
  go_loopw [8] (fun i wr => ∃ (k : Nat) (ys : List Cx), 1 ≤ k ∧ k ≤ n + 1 ∧ i = .int .i64 k ∧ Hid (ys.length = n) ∧ Hid (∀ x, x ∈ ys ↔ x ∈ xs) ∧ Hid (SortTo ys k) ∧ Hid (OwnC1 wr b ys) ∧ Hid (Only (fun c => c = b) w wr)) (fun i _ => n + 1 - (intOf i).toNat)
  case atStart => exact ⟨1, xs, by omega, by omega, rfl, HN, Lib.hid (fun _ => Iff.rfl), Lib.hid (fun p q h1 h2 => by omega), HR, Lib.hid (Only.refl _ _)⟩
  case round =>
    obtain ⟨k, ys, hk1, hk, rfl, HL, HO, HS, HG, HW⟩ := hrel
    by_cases hlt : k < n
    · have k1 : (k : Int) < (n : Int) := by omega
      go_wp2_with fail
      go_loopw [9] (fun jv wr => ∃ (j : Nat) (ys : List Cx), j ≤ k ∧ jv = .int .i64 j ∧ Hid (ys.length = n) ∧ Hid (∀ x, x ∈ ys ↔ x ∈ xs) ∧ Hid (InsI ys k j) ∧ Hid (OwnC1 wr b ys) ∧ Hid (Only (fun c => c = b) w wr)) (fun jv _ => (intOf jv).toNat)
      case atStart => exact ⟨k, ys, by omega, rfl, HL, HO, Lib.hid (InsI.start HS.out), HG, HW⟩
      case round =>
        clear HL HO HS HG HW
        obtain ⟨j, ys, hj, rfl, HL, HO, HI, HG, HW⟩ := hrel
        by_cases hj0 : 0 < j
        · have j0 : (0 : Int) < (j : Int) := by omega
          obtain ⟨j1, hj1⟩ : ∃ j1, j1 = j - 1 := ⟨_, rfl⟩
          have c1 := HG.out.2 j (by rw [HL.out]; omega)
          have c2 := HG.out.2 j1 (by rw [HL.out]; omega)
          have f1 := HG.out.1.free j
          have f2 := HG.out.1.free j1
          have key : ∀ q, q < n → goodP (cAt ys q) := fun q hq => by
            have hq' : q < ys.length := by rw [HL.out]; exact hq
            have : cAt ys q = ys[q] := by simp [cAt, hq']
            rw [this]; exact HOK.out _ ((HO.out _).1 (List.getElem_mem hq'))
          have HC := Lib.hid (fun W => hullCmp (cAt ys j) (cAt ys j1) (key j (by omega)) (key j1 (by omega)) W)
          obtain ⟨x, hx⟩ : ∃ x, x = cAt ys j := ⟨_, rfl⟩
          obtain ⟨y, hy⟩ : ∃ y, y = cAt ys j1 := ⟨_, rfl⟩
          rw [← hx] at c1 HC
          rw [← hy] at c2 HC
          have w1 : IntKind.i64.wrap ((j : Int) - 1) = (j1 : Int) := by rw [IntKind.wrap_i64]; omega
          have k2 : (0 : Int) ≤ (j : Int) := by omega
          have k3 : (j : Int) < (n : Int) := by omega
          have k4 : (0 : Int) ≤ (j1 : Int) := by omega
          have k5 : (j1 : Int) < (n : Int) := by omega
          have HX := Lib.hid hx
          have HY := Lib.hid hy
          have HJ1 := Lib.hid hj1
          have hne : ¬ j = j1 := by omega
          have hne2 : ¬ j1 = j := by omega
          clear key hx hy hj1
          unfold cV at c1 c2
          go_wp2_with fail
          go_region_held3 (fun w' => w'.cell? ⟨b, j, none⟩ = some (.complex .f32 x.1 x.2) ∧ w'.cell? ⟨b, j1, none⟩ = some (.complex .f32 y.1 y.2)) (first | go_keep | (exact ⟨c1, c2⟩)) (first | (go_at_call 33; refine (HC.out _).mono ?_; rintro e w3 ⟨⟨r, rfl, hr1, hr2, hr3⟩, rfl⟩; have HR1 := Lib.hid hr1; clear hr1))
          by_cases hr : r < 0
          · have hlt2 : ltZ (hA ys j) (hA ys (j - 1)) := by
              have := HR1.out.1 hr
              rw [HX.out, HY.out, HJ1.out] at this
              exact this
            have HLT := Lib.hid hlt2
            clear hlt2
            go_wp2_with fail
            go_region
            all_goals (try go_wp2_with fail)
            all_goals go_roundw
            case rel =>
              have hjn : j < ys.length := by rw [HL.out]; omega
              have hjn1 : j1 < (ys.set j y).length := by rw [List.length_set, HL.out]; omega
              have hsw : OwnC1 ((wr.setCell ⟨b, j, none⟩ (cV y)).setCell ⟨b, j1, none⟩ (cV x)) b (swapC ys j) := by
                have h1 := OwnC1.set (OwnC1.set HG.out hjn y) hjn1 x
                have e : swapC ys j = (ys.set j y).set j1 x := by unfold swapC; rw [HX.out, HY.out, HJ1.out]
                rw [e]; exact h1
              have hon := (HW.out.set b j (cV y) rfl).set b j1 (cV x) rfl
              have hj1j := HJ1.out
              exact ⟨j1, swapC ys j, by omega, by go_num, Lib.hid (by rw [swapC_len, HL.out]), Lib.hid (fun z => (swapC_mem hj0 hjn z).trans (HO.out z)), Lib.hid (by rw [hj1j]; exact HI.out.swap hj0 hjn hj HLT.out), Lib.hid (by first | exact hsw | exact (OwnC1.far hsw ((Far.refl 0 (b + 1) _).drewN 2) (Nat.zero_le _) (Nat.lt_succ_self _)) | exact (OwnC1.far hsw ((Far.refl 0 (b + 1) _).drewN 1) (Nat.zero_le _) (Nat.lt_succ_self _))), Lib.hid (by first | exact hon | exact Only.dr hon 2 | exact Only.dr hon 1)⟩
            case measure => have := HJ1.out; simp [intOf]; omega
          · have hle : leZ (hA ys (j - 1)) (hA ys j) := by
              have h1 : ¬ ltZ (hz x) (hz y) := fun h => hr (HR1.out.2 h)
              rw [HX.out, HY.out, HJ1.out] at h1
              rcases le_or_lt (hz (cAt ys (j - 1))) (hz (cAt ys j)) with h | h
              · exact h
              · exact absurd h h1
            have HLE := Lib.hid (HI.out.stop hj0 hle hj)
            clear hle
            go_wp2_with fail
            go_roundw
            case rel => exact ⟨k + 1, ys, by omega, by omega, by go_num, HL, HO, HLE, Lib.hid (by first | exact HG.out | exact (OwnC1.far HG.out ((Far.refl 0 (b + 1) _).drewN _) (Nat.zero_le _) (Nat.lt_succ_self _))), Lib.hid (by first | exact HW.out | exact Only.dr HW.out _)⟩
            case measure => simp [intOf]; omega
        · have hj00 : j = 0 := by omega
          subst hj00
          have HLE := Lib.hid (HI.out.stop0)
          go_wp2_with fail
          go_quiet (fail)
          go_wp2_with fail
          go_roundw
          case rel => exact ⟨k + 1, ys, by omega, by omega, by go_num, HL, HO, HLE, Lib.hid (by first | exact HG.out | exact (OwnC1.far HG.out ((Far.refl 0 (b + 1) _).drewN _) (Nat.zero_le _) (Nat.lt_succ_self _))), Lib.hid (by first | exact HW.out | exact Only.dr HW.out _)⟩
          case measure => simp [intOf]; omega
    · have k1 : ¬ (k : Int) < (n : Int) := by omega
      go_wp2_with fail
      go_end0
      exact ⟨rfl, ⟨ys, HL.out, (by first | exact HO.out | exact fun a b => HO.out (a, b)), fun p q h1 h2 => HS.out p q h1 (by omega), HG.out⟩, HW.out⟩

set_option maxHeartbeats 2000000 in
set_option maxRecDepth 100000 in
theorem stable (b c : Nat) (xs : List Cx) (n : Nat) (hn : xs.length = n) (h12 : n ≤ 19) (hok : ∀ x, x ∈ xs → goodP x) (w : World) (hr : OwnC1 w b xs) :
    Calls Try.prog 62 #[.slice (some ⟨b, 0, none⟩) n c, .int .i64 n, .func (.func 33) #[] #[]] w fun e w' => e = .returned (.tuple #[]) ∧ (∃ ys : List Cx, ys.length = n ∧ (∀ x, x ∈ ys ↔ x ∈ xs) ∧ SortTo ys n ∧ OwnC1 w' b ys) ∧ Only (fun c => c = b) w w' := by
  have HI := Lib.hid (insertion b c xs n hn h12 hok w hr)
  have k1 : ¬ (20 : Int) ≤ (n : Int) := by omega
  have k2 : ¬ (20 : Int) < (n : Int) := by omega
  clear hr hok hn
  go_enter Try.func62, Try.ntmps62
  go_wp2_with fail
  refine wp_loop_rounds 1 ?_
  rw [rounds_succ]
  go_wp2_with fail
  refine HI.out.mono ?_
  rintro e w1 ⟨rfl, ⟨ys, h1, h2, h3, h4⟩, h5⟩
  have H1 := Lib.hid h1
  have H2 := Lib.hid h2
  have H3 := Lib.hid h3
  have H4 := Lib.hid h4
  have H5 := Lib.hid h5
  clear h1 h2 h3 h4 h5
  go_wp2_with fail
  refine wp_loop_rounds 1 ?_
  rw [rounds_succ]
  go_wp2_with fail
  go_end0
  exact ⟨rfl, ⟨ys, H1.out, (by first | exact H2.out | exact fun a b => H2.out (a, b)), H3.out, H4.out⟩, H5.out⟩
set_option maxHeartbeats 1000000 in
theorem sortStable (b c : Nat) (xs : List Cx) (n : Nat) (hn : xs.length = n) (h12 : n ≤ 19) (hok : ∀ x, x ∈ xs → goodP x) (w : World) (hr : OwnC1 w b xs) :
    Calls Try.prog 32 #[.slice (some ⟨b, 0, none⟩) n c, .func (.func 33) #[] #[]] w fun e w' => e = .returned (.tuple #[]) ∧ (∃ ys : List Cx, ys.length = n ∧ (∀ x, x ∈ ys ↔ x ∈ xs) ∧ SortTo ys n ∧ OwnC1 w' b ys) ∧ Only (fun c => c = b) w w' := by
  have HI := Lib.hid (stable b c xs n hn h12 hok w hr)
  clear hr hok hn
  go_enter Try.func32, Try.ntmps32
  go_wp2_with fail
  refine HI.out.mono ?_
  rintro e w1 ⟨rfl, ⟨ys, h1, h2, h3, h4⟩, h5⟩
  have H1 := Lib.hid h1
  have H2 := Lib.hid h2
  have H3 := Lib.hid h3
  have H4 := Lib.hid h4
  have H5 := Lib.hid h5
  clear h1 h2 h3 h4 h5
  go_wp2_with fail
  go_end0
  exact ⟨rfl, ⟨ys, H1.out, (by first | exact H2.out | exact fun a b => H2.out (a, b)), H3.out, H4.out⟩, H5.out⟩
end Go.Proofs.Ytkpjhoiaegioeaa
