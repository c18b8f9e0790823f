/- slices.SortStableFunc at a dozen numbers: sorted; the program's comparison. -/
import Derived.Test.YtgghhnglnklmbaaGBm
namespace Go.Fl
open Go.RowKit
def nA (xs : List Nat) (i : Nat) : Nat := xs.getD i 0
/-- the value of a number's bits -/
def vB (x : Nat) : Int := V .f32 (can .f32 x)
def vA (xs : List Nat) (i : Nat) : Int := vB (nA xs i)
/-- bits of a number -/
def okN (x : Nat) : Prop := isN .f32 (can .f32 x) = true
theorem okN.q {x : Nat} (h : okN x) : Q .f32 (can .f32 x) (vB x) 149 := ⟨h, by show V .f32 _ = V .f32 _ * 2 ^ (LP .f32 - 149); simp [LP], by decide⟩
theorem okN.lt {x y : Nat} (hx : okN x) (hy : okN y) : (FloatKind.f32.format.order x y == some .lt) = decide (vB x < vB y) := ord_lt hx.q hy.q
theorem okN.gt {x y : Nat} (hx : okN x) (hy : okN y) : (FloatKind.f32.format.order x y == some .gt) = decide (vB y < vB x) := ord_gt hx.q hy.q
/-- block b holds the numbers xs, and is the walk's own -/
def GRow (w : World) (b : Nat) (xs : List Nat) : Prop := Room w b xs.length ∧ ∀ i, i < xs.length → w.cell? ⟨b, i, none⟩ = some (.float .f32 (nA xs i))
theorem GRow.far {w w' : World} {b : Nat} {xs : List Nat} (h : GRow w b xs) (hf : Far b (b + 1) w w') : GRow w' b xs :=
  ⟨h.1.far hf (Nat.le_refl _) (Nat.lt_succ_self _), fun i hi => (hf.cell (Nat.le_refl _) (Nat.lt_succ_self _)).trans (h.2 i hi)⟩
theorem GRow.set {w : World} {b : Nat} {xs : List Nat} (h : GRow w b xs) {j : Nat} (hj : j < xs.length) (x : Nat) : GRow (w.setCell ⟨b, j, none⟩ (.float .f32 x)) b (xs.set j x) := by
  refine ⟨by rw [List.length_set]; exact h.1.set _ _ _, fun i hi => ?_⟩
  rw [List.length_set] at hi
  by_cases e : i = j
  · subst e
    rw [World.cell?_setCell_same _ _ _ (h.2 i hi)]
    simp [nA, hi]
  · rw [World.cell?_setCell_other _ _ _ _ (by simp [e]), h.2 i hi]
    simp [nA, List.getElem?_set, Ne.symm e]
def swapN (xs : List Nat) (j : Nat) : List Nat := (xs.set j (nA xs (j - 1))).set (j - 1) (nA xs j)
theorem swapN_len (xs : List Nat) (j : Nat) : (swapN xs j).length = xs.length := by simp [swapN]
theorem swapN_at {xs : List Nat} {j : Nat} (hj : 0 < j) (hl : j < xs.length) (p : Nat) : nA (swapN xs j) p = if p = j then nA xs (j - 1) else if p = j - 1 then nA xs j else nA xs p := by
  unfold swapN nA
  have h1 : j - 1 < xs.length := by omega
  by_cases e : p = j
  · subst e
    have : p - 1 ≠ p := by omega
    simp [List.getElem?_set, this, hl]
  · by_cases e2 : p = j - 1
    · subst e2
      simp [List.getElem?_set, e, h1]
    · simp [List.getElem?_set, e, e2, Ne.symm e, Ne.symm e2]
theorem swapN_ok {xs : List Nat} (h : ∀ x, x ∈ xs → okN x) {j : Nat} (hj : 0 < j) (hl : j < xs.length) : ∀ x, x ∈ swapN xs j → okN x := fun x hx => by
  obtain ⟨p, hp, rfl⟩ := List.getElem_of_mem hx
  rw [swapN_len] at hp
  have e : (swapN xs j)[p]'(by rw [swapN_len]; exact hp) = nA (swapN xs j) p := by simp [nA, swapN_len, hp]
  rw [e, swapN_at hj hl]
  have key : ∀ q, q < xs.length → okN (nA xs q) := fun q hq => by
    have : nA xs q = xs[q] := by simp [nA, hq]
    rw [this]; exact h _ (List.getElem_mem hq)
  split
  · exact key _ (by omega)
  · split
    · exact key _ hl
    · exact key _ hp
def SortTo (xs : List Nat) (i : Nat) : Prop := ∀ p q, p < q → q < i → vA xs p ≤ vA xs q
def InsI (xs : List Nat) (i j : Nat) : Prop := ∀ p q, p < q → q ≤ i → q ≠ j → vA xs p ≤ vA xs q
theorem InsI.start {xs : List Nat} {i : Nat} (h : SortTo xs i) : InsI xs i i := fun p q h1 h2 h3 => h p q h1 (by omega)
theorem InsI.swap {xs : List Nat} {i j : Nat} (h : InsI xs i j) (hj : 0 < j) (hl : j < xs.length) (hji : j ≤ i) (hlt : vA xs j < vA xs (j - 1)) : InsI (swapN xs j) i (j - 1) := fun p q h1 h2 h3 => by
  have hv : ∀ p, vA (swapN xs j) p = if p = j then vA xs (j - 1) else if p = j - 1 then vA xs j else vA xs p := fun p => by
    unfold vA; rw [swapN_at hj hl]; split
    · rfl
    · split <;> rfl
  rw [hv, hv]
  by_cases q1 : q = j
  · subst q1
    rw [if_pos rfl, if_neg (by omega)]
    by_cases p1 : p = q - 1
    · rw [if_pos p1]; omega
    · rw [if_neg p1]
      exact h p (q - 1) (by omega) (by omega) (by omega)
  · rw [if_neg q1, if_neg h3]
    by_cases p1 : p = j
    · subst p1
      rw [if_pos rfl]
      exact h (p - 1) q (by omega) h2 q1
    · rw [if_neg p1]
      by_cases p2 : p = j - 1
      · rw [if_pos p2]
        have : j ≤ q := by omega
        exact h j q (by omega) h2 q1
      · rw [if_neg p2]
        exact h p q h1 h2 q1
theorem InsI.stop0 {xs : List Nat} {i : Nat} (h : InsI xs i 0) : SortTo xs (i + 1) := fun p q h1 h2 => h p q h1 (by omega) (by omega)
theorem InsI.stop {xs : List Nat} {i j : Nat} (h : InsI xs i j) (hj : 0 < j) (hle : vA xs (j - 1) ≤ vA xs j) (hji : j ≤ i) : SortTo xs (i + 1) := fun p q h1 h2 => by
  by_cases q1 : q = j
  · subst q1
    by_cases p1 : p = q - 1
    · rw [p1]; exact hle
    · exact Int.le_trans (h p (q - 1) (by omega) (by omega) (by omega)) hle
  · exact h p q h1 (by omega) q1
end Go.Fl
namespace Go.Proofs.Ytgghhnglnklmbaa
open Go.RowKit Go.Fl

theorem compareNumbers (x y : Nat) (hx : okN x) (hy : okN y) (w : World) : Calls Try.prog 37 #[.float .f32 x, .float .f32 y] w fun e w' => (∃ r : Int, e = .returned (.int .i64 r) ∧ (r < 0 ↔ vB x < vB y) ∧ -1 ≤ r ∧ r ≤ 1) ∧ w' = w := by
  have o1 := hx.lt hy
  have o2 := hx.gt hy
  by_cases h1 : vB x < vB y
  · rw [decide_eq_true h1] at o1
    clear o2
    go_enter Try.func37, Try.ntmps37
    go_wp2_with fail
    go_ret
    exact ⟨⟨-1, rfl, by omega, by omega, by omega⟩, rfl⟩
  · rw [decide_eq_false h1] at o1
    by_cases h2 : vB y < vB x
    · rw [decide_eq_true h2] at o2
      go_enter Try.func37, Try.ntmps37
      go_wp2_with fail
      go_ret
      exact ⟨⟨1, rfl, by omega, by omega, by omega⟩, rfl⟩
    · rw [decide_eq_false h2] at o2
      go_enter Try.func37, Try.ntmps37
      go_wp2_with fail
      go_ret
      exact ⟨⟨0, rfl, by omega, by omega, by omega⟩, rfl⟩

set_option maxHeartbeats 4000000 in
set_option maxRecDepth 100000 in
theorem insertion (b c : Nat) (xs : List Nat) (n : Nat) (hn : xs.length = n) (h12 : n ≤ 19) (hok : ∀ x, x ∈ xs → okN x) (w : World) (hr : GRow w b xs) :
    Calls Try.prog 59 #[.slice (some ⟨b, 0, none⟩) n c, .int .i64 0, .int .i64 n, .func (.func 37) #[] #[]] w fun e w' => e = .returned (.tuple #[]) ∧ (∃ ys : List Nat, ys.length = n ∧ (∀ x, x ∈ ys → okN x) ∧ SortTo ys n ∧ GRow w' b ys) ∧ Only (fun c => c = b) w w' := by
  have HR := Lib.hid hr
  have HOK := Lib.hid hok
  have HN := Lib.hid hn
  clear hr hok hn
  go_enter Try.func59, Try.ntmps59
  go_wp2_with fail
  go_loopw [8] (fun i wr => ∃ (k : Nat) (ys : List Nat), 1 ≤ k ∧ k ≤ n + 1 ∧ i = .int .i64 k ∧ Hid (ys.length = n) ∧ Hid (∀ x, x ∈ ys → okN x) ∧ Hid (SortTo ys k) ∧ Hid (GRow wr b ys) ∧ Hid (Only (fun c => c = b) w wr)) (fun i _ => n + 1 - (intOf i).toNat)
  case atStart => exact ⟨1, xs, by omega, by omega, rfl, HN, HOK, Lib.hid (fun p q h1 h2 => by omega), HR, Lib.hid (Only.refl _ _)⟩
  case round =>
    obtain ⟨k, ys, hk1, hk, rfl, HL, HO, HS, HG, HW⟩ := hrel
    by_cases hlt : k < n
    · have k1 : (k : Int) < (n : Int) := by omega
      go_wp2_with fail
      go_loopw [9] (fun jv wr => ∃ (j : Nat) (ys : List Nat), j ≤ k ∧ jv = .int .i64 j ∧ Hid (ys.length = n) ∧ Hid (∀ x, x ∈ ys → okN x) ∧ Hid (InsI ys k j) ∧ Hid (GRow wr b ys) ∧ Hid (Only (fun c => c = b) w wr)) (fun jv _ => (intOf jv).toNat)
      case atStart => exact ⟨k, ys, by omega, rfl, HL, HO, Lib.hid (InsI.start HS.out), HG, HW⟩
      case round =>
        clear HL HO HS HG HW
        obtain ⟨j, ys, hj, rfl, HL, HO, HI, HG, HW⟩ := hrel
        by_cases hj0 : 0 < j
        · have j0 : (0 : Int) < (j : Int) := by omega
          obtain ⟨j1, hj1⟩ : ∃ j1, j1 = j - 1 := ⟨_, rfl⟩
          have c1 := HG.out.2 j (by rw [HL.out]; omega)
          have c2 := HG.out.2 j1 (by rw [HL.out]; omega)
          have f1 := HG.out.1.free j
          have f2 := HG.out.1.free j1
          have key : ∀ q, q < n → okN (nA ys q) := fun q hq => by
            have hq' : q < ys.length := by rw [HL.out]; exact hq
            have : nA ys q = ys[q] := by simp [nA, hq']
            rw [this]; exact HO.out _ (List.getElem_mem hq')
          have HC := Lib.hid (fun W => compareNumbers (nA ys j) (nA ys j1) (key j (by omega)) (key j1 (by omega)) W)
          obtain ⟨x, hx⟩ : ∃ x, x = nA ys j := ⟨_, rfl⟩
          obtain ⟨y, hy⟩ : ∃ y, y = nA ys j1 := ⟨_, rfl⟩
          rw [← hx] at c1 HC
          rw [← hy] at c2 HC
          have w1 : IntKind.i64.wrap ((j : Int) - 1) = (j1 : Int) := by rw [IntKind.wrap_i64]; omega
          have k2 : (0 : Int) ≤ (j : Int) := by omega
          have k3 : (j : Int) < (n : Int) := by omega
          have k4 : (0 : Int) ≤ (j1 : Int) := by omega
          have k5 : (j1 : Int) < (n : Int) := by omega
          have HX := Lib.hid hx
          have HY := Lib.hid hy
          have HJ1 := Lib.hid hj1
          have hne : ¬ j = j1 := by omega
          have hne2 : ¬ j1 = j := by omega
          clear key hx hy hj1
          go_wp2_with fail
          go_region_held3 (fun w' => w'.cell? ⟨b, j, none⟩ = some (.float .f32 x) ∧ w'.cell? ⟨b, j1, none⟩ = some (.float .f32 y)) (first | go_keep | (exact ⟨c1, c2⟩)) (first | (go_at_call 37; refine (HC.out _).mono ?_; rintro e w3 ⟨⟨r, rfl, hr1, hr2, hr3⟩, rfl⟩; have HR1 := Lib.hid hr1; clear hr1))
          by_cases hr : r < 0
          · have hlt2 : vA ys j < vA ys (j - 1) := by
              have := HR1.out.1 hr
              rw [HX.out, HY.out, HJ1.out] at this
              exact this
            have HLT := Lib.hid hlt2
            clear hlt2
            go_wp2_with fail
            go_region
            all_goals (try go_wp2_with fail)
            all_goals go_roundw
            case rel =>
              have hjn : j < ys.length := by rw [HL.out]; omega
              have hjn1 : j1 < (ys.set j y).length := by rw [List.length_set, HL.out]; omega
              have hsw : GRow ((wr.setCell ⟨b, j, none⟩ (.float .f32 y)).setCell ⟨b, j1, none⟩ (.float .f32 x)) b (swapN ys j) := by
                have h1 := (HG.out.set hjn y).set hjn1 x
                have e : swapN ys j = (ys.set j y).set j1 x := by unfold swapN; rw [HX.out, HY.out, HJ1.out]
                rw [e]; exact h1
              have hon := (HW.out.set b j (.float .f32 y) rfl).set b j1 (.float .f32 x) rfl
              have hj1j := HJ1.out
              exact ⟨j1, swapN ys j, by omega, by go_num, Lib.hid (by rw [swapN_len, HL.out]), Lib.hid (swapN_ok HO.out hj0 hjn), Lib.hid (by rw [hj1j]; exact HI.out.swap hj0 hjn hj HLT.out), Lib.hid (by first | exact hsw | exact (hsw.far ((Far.refl _ _ _).drewN 2)) | exact (hsw.far ((Far.refl _ _ _).drewN 1))), Lib.hid (by first | exact hon | exact Only.dr hon 2 | exact Only.dr hon 1)⟩
            case measure => have := HJ1.out; simp [intOf]; omega
          · have hle : vA ys (j - 1) ≤ vA ys j := by
              have h1 : ¬ vB x < vB y := fun h => hr (HR1.out.2 h)
              rw [HX.out, HY.out, HJ1.out] at h1
              unfold vA; omega
            have HLE := Lib.hid (HI.out.stop hj0 hle hj)
            clear hle
            go_wp2_with fail
            go_roundw
            case rel => exact ⟨k + 1, ys, by omega, by omega, by go_num, HL, HO, HLE, Lib.hid (by first | exact HG.out | exact HG.out.far ((Far.refl _ _ _).drewN _)), Lib.hid (by first | exact HW.out | exact Only.dr HW.out _)⟩
            case measure => simp [intOf]; omega
        · have hj00 : j = 0 := by omega
          subst hj00
          have HLE := Lib.hid (HI.out.stop0)
          go_wp2_with fail
          go_quiet (fail)
          go_wp2_with fail
          go_roundw
          case rel => exact ⟨k + 1, ys, by omega, by omega, by go_num, HL, HO, HLE, Lib.hid (by first | exact HG.out | exact HG.out.far ((Far.refl _ _ _).drewN _)), Lib.hid (by first | exact HW.out | exact Only.dr HW.out _)⟩
          case measure => simp [intOf]; omega
    · have k1 : ¬ (k : Int) < (n : Int) := by omega
      go_wp2_with fail
      go_end0
      exact ⟨rfl, ⟨ys, HL.out, HO.out, fun p q h1 h2 => HS.out p q h1 (by omega), HG.out⟩, HW.out⟩

set_option maxHeartbeats 2000000 in
set_option maxRecDepth 100000 in
theorem stable (b c : Nat) (xs : List Nat) (n : Nat) (hn : xs.length = n) (h12 : n ≤ 19) (hok : ∀ x, x ∈ xs → okN x) (w : World) (hr : GRow w b xs) :
    Calls Try.prog 53 #[.slice (some ⟨b, 0, none⟩) n c, .int .i64 n, .func (.func 37) #[] #[]] w fun e w' => e = .returned (.tuple #[]) ∧ (∃ ys : List Nat, ys.length = n ∧ (∀ x, x ∈ ys → okN x) ∧ SortTo ys n ∧ GRow w' b ys) ∧ Only (fun c => c = b) w w' := by
  have HI := Lib.hid (insertion b c xs n hn h12 hok w hr)
  have k1 : ¬ (20 : Int) ≤ (n : Int) := by omega
  have k2 : ¬ (20 : Int) < (n : Int) := by omega
  clear hr hok hn
  go_enter Try.func53, Try.ntmps53
  go_wp2_with fail
  refine wp_loop_rounds 1 ?_
  rw [rounds_succ]
  go_wp2_with fail
  refine HI.out.mono ?_
  rintro e w1 ⟨rfl, ⟨ys, h1, h2, h3, h4⟩, h5⟩
  have H1 := Lib.hid h1
  have H2 := Lib.hid h2
  have H3 := Lib.hid h3
  have H4 := Lib.hid h4
  have H5 := Lib.hid h5
  clear h1 h2 h3 h4 h5
  go_wp2_with fail
  refine wp_loop_rounds 1 ?_
  rw [rounds_succ]
  go_wp2_with fail
  go_end0
  exact ⟨rfl, ⟨ys, H1.out, H2.out, H3.out, H4.out⟩, H5.out⟩
set_option maxHeartbeats 1000000 in
theorem sortStable (b c : Nat) (xs : List Nat) (n : Nat) (hn : xs.length = n) (h12 : n ≤ 19) (hok : ∀ x, x ∈ xs → okN x) (w : World) (hr : GRow w b xs) :
    Calls Try.prog 36 #[.slice (some ⟨b, 0, none⟩) n c, .func (.func 37) #[] #[]] w fun e w' => e = .returned (.tuple #[]) ∧ (∃ ys : List Nat, ys.length = n ∧ (∀ x, x ∈ ys → okN x) ∧ SortTo ys n ∧ GRow w' b ys) ∧ Only (fun c => c = b) w w' := by
  have HI := Lib.hid (stable b c xs n hn h12 hok w hr)
  clear hr hok hn
  go_enter Try.func36, Try.ntmps36
  go_wp2_with fail
  refine HI.out.mono ?_
  rintro e w1 ⟨rfl, ⟨ys, h1, h2, h3, h4⟩, h5⟩
  have H1 := Lib.hid h1
  have H2 := Lib.hid h2
  have H3 := Lib.hid h3
  have H4 := Lib.hid h4
  have H5 := Lib.hid h5
  clear h1 h2 h3 h4 h5
  go_wp2_with fail
  go_end0
  exact ⟨rfl, ⟨ys, H1.out, H2.out, H3.out, H4.out⟩, H5.out⟩
end Go.Proofs.Ytgghhnglnklmbaa
