/- The speeds of a plan: how fast, how they change, how long it takes. Plain Lean. -/
import Derived.Test.YtfpkdnopbnppmaaRs
import Derived.Test.YtfpkdnopbnppmaaSpA
namespace Go.Fl
open Ieee
theorem zero_N : isN .f32 0 = true ∧ V .f32 0 = 0 := ⟨by decide +kernel, by decide +kernel⟩
theorem R_zero : R .f32 0 = 0 := R_zero_iff.2 zero_N.2
theorem two_N : isN .f32 1073741824 = true ∧ R .f32 1073741824 = 2 := by
  have q : Q .f32 1073741824 2 0 := ⟨by decide +kernel, by decide +kernel, by decide⟩
  exact ⟨q.num, by rw [q.R]; decide +kernel⟩
theorem Q.self {K : FloatKind} {x : Nat} (h : isN K x = true) : Q K x (V K x) (LP K) := ⟨h, by rw [Nat.sub_self]; simp, Nat.le_refl _⟩
theorem ord_V {K : FloatKind} {x y : Nat} (hx : isN K x = true) (hy : isN K y = true) : K.format.order x y = some (compare (V K x) (V K y)) := (Q.self hx).order (Q.self hy)
theorem lt_R {K : FloatKind} {x y : Nat} (hx : isN K x = true) (hy : isN K y = true) : (K.format.order x y == some .lt) = decide (R K x < R K y) := by
  rw [ord_V hx hy]
  cases h : compare (V K x) (V K y)
  · rw [Int.compare_eq_lt] at h; simp [R_lt, h]
  · rw [Int.compare_eq_eq] at h; simp [R_lt, h]
  · rw [Int.compare_eq_gt] at h; simp [R_lt]; omega
theorem gt_R {K : FloatKind} {x y : Nat} (hx : isN K x = true) (hy : isN K y = true) : (K.format.order x y == some .gt) = decide (R K y < R K x) := by
  rw [ord_V hx hy]
  cases h : compare (V K x) (V K y)
  · rw [Int.compare_eq_lt] at h; simp [R_lt]; omega
  · rw [Int.compare_eq_eq] at h; simp [R_lt, h]
  · rw [Int.compare_eq_gt] at h; simp [R_lt, h]
theorem eq_R {K : FloatKind} {x y : Nat} (hx : isN K x = true) (hy : isN K y = true) : (K.format.order x y == some .eq) = decide (R K x = R K y) := by
  rw [ord_V hx hy]
  cases h : compare (V K x) (V K y)
  · rw [Int.compare_eq_lt] at h; simp [R_eq]; omega
  · rw [Int.compare_eq_eq] at h; simp [R_eq, h]
  · rw [Int.compare_eq_gt] at h; simp [R_eq]; omega
theorem flt_R {x y : Nat} (hx : isN .f32 x = true) (hy : isN .f32 y = true) : flt x y = decide (R .f32 x < R .f32 y) := lt_R hx hy
theorem fgt_R {x y : Nat} (hx : isN .f32 x = true) (hy : isN .f32 y = true) : fgt x y = decide (R .f32 y < R .f32 x) := gt_R hx hy
theorem fin_N {x : Nat} (h : isN .f32 x = true) : fin x = true := by
  have h1 := near_sub h h (by rw [Int.sub_self]; exact Nat.zero_le _)
  rw [Int.sub_self] at h1
  have h2 : V .f32 (fop .sub .f32 x x) = 0 := by
    have a := h1.le 0 0 (by decide) (by simp)
    have b := h1.ge 0 0 (by decide) (by simp)
    simp at a b
    omega
  unfold fin feq
  show (FloatKind.f32.format.order (fop .sub .f32 x x) 0 == some .eq) = true
  rw [ord_V h1.num zero_N.1, h2, zero_N.2]
  rfl
theorem fsqrt_facts {x : Nat} (hx : isN .f32 x = true) (h0 : 0 < R .f32 x) (h1 : R .f32 x ≤ 64) : isN .f32 (fsqrt x) = true ∧ 0 ≤ R .f32 (fsqrt x) ∧ R .f32 (fsqrt x) ≤ 9 ∧ R .f32 (fsqrt x) * R .f32 (fsqrt x) ≤ R .f32 x + 1 / 10000 ∧ R .f32 x - 1 / 10000 ≤ R .f32 (fsqrt x) * R .f32 (fsqrt x) := by
  obtain ⟨w1, w2⟩ := wide hx (by grind) (by grind)
  obtain ⟨r, hr, hn, s, s0, s1, s2, s3, s4⟩ := root64 w1 (by rw [w2]; exact h0) (by rw [w2]; grind)
  rw [w2] at s1 s2
  have hK : sqrtK (fcv .f32 .f64 x) = r := by unfold sqrtK; rw [hr]; rfl
  have s8 : s ≤ 8 := by
    rcases Rat.le_total (a := s) (b := 8) with h | h
    · exact h
    · have := Rat.mul_nonneg (a := s - 8) (b := s + 8) (by grind) (by grind)
      have : s * s = 64 := by grind
      have : (s - 8) * (s + 8) = 0 := by grind
      rcases Rat.mul_eq_zero.1 this with h9 | h9 <;> grind
  have hnr := narrow hn (by grind) (by grind)
  have e := hnr.n32 4 (by decide) (B := 16) rfl (by grind) (by grind)
  have hge := hnr.ge 0 zero_N.1 (by rw [R_zero]; grind)
  rw [R_zero] at hge
  unfold fsqrt
  rw [hK]
  obtain ⟨y, hy⟩ : ∃ y, y = R .f32 (fcv .f64 .f32 r) := ⟨_, rfl⟩
  rw [← hy] at e hge ⊢
  obtain ⟨d1, d2⟩ := mul_bd (x := y - s) (y := y + s) (B := 1 / 500000) (C := 17) (by grind) (by grind) (by grind) (by grind)
  exact ⟨hnr.num, hge, by grind, by grind, by grind⟩
/-- what the law's bytes give -/
structure SpIn (ls : List Nat) (most rise n : Nat) : Prop where
  len : ls.length = n
  n2 : 2 ≤ n
  n7 : n ≤ 7
  ls : ∀ k, k < n → isN .f32 (nF ls k) = true ∧ 1 / 4 ≤ R .f32 (nF ls k) ∧ R .f32 (nF ls k) ≤ 4
  mN : isN .f32 most = true
  m1 : 1 / 2 ≤ R .f32 most
  m2 : R .f32 most ≤ 4
  rN : isN .f32 rise = true
  r1 : 1 / 2 ≤ R .f32 rise
  r2 : R .f32 rise ≤ 4
theorem spR_facts {rise l x : Nat} (hr : isN .f32 rise = true) (r1 : 1 / 2 ≤ R .f32 rise) (r2 : R .f32 rise ≤ 4) (hl : isN .f32 l = true) (l1 : 1 / 4 ≤ R .f32 l) (l2 : R .f32 l ≤ 4) (hx : isN .f32 x = true) (x1 : 0 ≤ R .f32 x) (x2 : R .f32 x ≤ 4) :
    isN .f32 (spR rise l x) = true ∧ 49 / 100 ≤ R .f32 (spR rise l x) ∧ R .f32 (spR rise l x) * R .f32 (spR rise l x) ≤ R .f32 x * R .f32 x + 2 * (R .f32 rise * R .f32 l) + 1 / 5000 ∧ R .f32 x * R .f32 x + 2 * (R .f32 rise * R .f32 l) - 1 / 5000 ≤ R .f32 (spR rise l x) * R .f32 (spR rise l x) := by
  obtain ⟨a1, a2⟩ := mul_up x1 x2 x1 x2
  obtain ⟨b1, b2⟩ := mul_up (x := R .f32 rise) (y := R .f32 l) (B := 4) (C := 4) (by grind) r2 (by grind) l2
  have b3 : 1 / 8 ≤ R .f32 rise * R .f32 l := by
    have := Rat.mul_nonneg (a := R .f32 rise - 1 / 2) (b := R .f32 l - 1 / 4) (by grind) (by grind)
    grind
  have h1 := rnd_mul hx hx (by grind) (by grind)
  have e1 := h1.n32 4 (by decide) (B := 16) rfl (by grind) (by grind)
  have h2 := rnd_mul two_N.1 hr (by rw [two_N.2]; grind) (by rw [two_N.2]; grind)
  rw [two_N.2] at h2
  have e2 := h2.n32 3 (by decide) (B := 8) rfl (by grind) (by grind)
  obtain ⟨D, hD⟩ : ∃ D, D = R .f32 (fop .mul .f32 1073741824 rise) := ⟨_, rfl⟩
  rw [← hD] at e2
  obtain ⟨c1, c2⟩ := mul_up (x := D) (y := R .f32 l) (B := 9) (C := 4) (by grind) (by grind) (by grind) l2
  obtain ⟨c3, c4⟩ := mul_bd (x := D - 2 * R .f32 rise) (y := R .f32 l) (B := 1 / 1000000) (C := 4) (by grind) (by grind) (by grind) l2
  have h3 := rnd_mul h2.num hl (by rw [← hD]; grind) (by rw [← hD]; grind)
  rw [← hD] at h3
  have e3 := h3.n32 6 (by decide) (B := 64) rfl (by grind) (by grind)
  have h4 := rnd_add h1.num h3.num (by grind) (by grind)
  have e4 := h4.n32 6 (by decide) (B := 64) rfl (by grind) (by grind)
  obtain ⟨Y, hY⟩ : ∃ Y, Y = R .f32 (fop .add .f32 (fop .mul .f32 x x) (fop .mul .f32 (fop .mul .f32 1073741824 rise) l)) := ⟨_, rfl⟩
  rw [← hY] at e4
  obtain ⟨f1, f2, f3, f4, f5⟩ := fsqrt_facts h4.num (by rw [← hY]; grind) (by rw [← hY]; grind)
  rw [← hY] at f4 f5
  show isN .f32 (fsqrt _) = true ∧ 49 / 100 ≤ R .f32 (fsqrt _) ∧ R .f32 (fsqrt _) * R .f32 (fsqrt _) ≤ _ ∧ _ ≤ R .f32 (fsqrt _) * R .f32 (fsqrt _)
  obtain ⟨z, hz⟩ : ∃ z, z = R .f32 (fsqrt (fop .add .f32 (fop .mul .f32 x x) (fop .mul .f32 (fop .mul .f32 1073741824 rise) l))) := ⟨_, rfl⟩
  rw [← hz] at f2 f3 f4 f5
  refine ⟨f1, ?_, ?_, ?_⟩
  · show 49 / 100 ≤ R .f32 (fsqrt (fop .add .f32 (fop .mul .f32 x x) (fop .mul .f32 (fop .mul .f32 1073741824 rise) l)))
    rw [← hz]
    rcases Rat.le_total (a := 49 / 100) (b := z) with h | h
    · exact h
    · have := Rat.mul_nonneg (a := 49 / 100 - z) (b := 49 / 100 + z) (by grind) (by grind)
      grind
  · show R .f32 (fsqrt (fop .add .f32 (fop .mul .f32 x x) (fop .mul .f32 (fop .mul .f32 1073741824 rise) l))) * R .f32 (fsqrt (fop .add .f32 (fop .mul .f32 x x) (fop .mul .f32 (fop .mul .f32 1073741824 rise) l))) ≤ _
    rw [← hz]; grind
  · show _ ≤ R .f32 (fsqrt (fop .add .f32 (fop .mul .f32 x x) (fop .mul .f32 (fop .mul .f32 1073741824 rise) l))) * R .f32 (fsqrt (fop .add .f32 (fop .mul .f32 x x) (fop .mul .f32 (fop .mul .f32 1073741824 rise) l)))
    rw [← hz]; grind
theorem nF_set {V : List Nat} {i : Nat} (x : Nat) (hi : i < V.length) (j : Nat) : nF (V.set i x) j = if j = i then x else nF V j := by
  unfold nF
  by_cases e : j = i
  · subst e; simp [hi]
  · simp [List.getElem?_set, e, Ne.symm e]
/-- speeds on the way -/
structure VIn (V : List Nat) (most n : Nat) : Prop where
  len : V.length = n + 1
  z0 : nF V 0 = 0
  zn : nF V n = 0
  num : ∀ i, i ≤ n → isN .f32 (nF V i) = true ∧ 0 ≤ R .f32 (nF V i) ∧ R .f32 (nF V i) ≤ R .f32 most
  mid : ∀ i, 0 < i → i < n → 49 / 100 ≤ R .f32 (nF V i)
theorem v0_in {ls : List Nat} {most rise n : Nat} (h : SpIn ls most rise n) : VIn (spV0 n most) most n := by
  have hn := h.n2
  have hmid : ∀ i, 0 < i → i < n → nF (spV0 n most) i = most := fun i h1 h2 => by
    obtain ⟨j, rfl⟩ : ∃ j, i = j + 1 := ⟨i - 1, by omega⟩
    show (List.replicate (n - 1) most ++ [0]).getD j 0 = most
    rw [List.getD_eq_getElem?_getD, List.getElem?_append_left (by rw [List.length_replicate]; omega), List.getElem?_replicate, if_pos (by omega)]
    rfl
  have hn0 : nF (spV0 n most) n = 0 := by
    obtain ⟨j, rfl⟩ : ∃ j, n = j + 1 := ⟨n - 1, by omega⟩
    show (List.replicate j most ++ [0]).getD j 0 = 0
    rw [List.getD_eq_getElem?_getD, List.getElem?_append_right (by rw [List.length_replicate]; omega), List.length_replicate, Nat.sub_self]
    rfl
  have m1 := h.m1
  refine ⟨spV0_len most (by omega), rfl, hn0, fun i hi => ?_, fun i h1 h2 => by rw [hmid i h1 h2]; grind⟩
  by_cases e0 : i = 0
  · subst e0
    show isN .f32 0 = true ∧ 0 ≤ R .f32 0 ∧ R .f32 0 ≤ _
    rw [R_zero]
    exact ⟨zero_N.1, by grind, by grind⟩
  · by_cases en : i = n
    · rw [en, hn0, R_zero]
      exact ⟨zero_N.1, by grind, by grind⟩
    · rw [hmid i (by omega) (by omega)]
      exact ⟨h.mN, by grind, by grind⟩
theorem VIn.sp {ls V : List Nat} {most rise n k i : Nat} (h : SpIn ls most rise n) (hv : VIn V most n) (hk : k < n) (hi : i ≤ n) :
    isN .f32 (spR rise (nF ls k) (nF V i)) = true ∧ 49 / 100 ≤ R .f32 (spR rise (nF ls k) (nF V i)) ∧ R .f32 (spR rise (nF ls k) (nF V i)) * R .f32 (spR rise (nF ls k) (nF V i)) ≤ R .f32 (nF V i) * R .f32 (nF V i) + 2 * (R .f32 rise * R .f32 (nF ls k)) + 1 / 5000 ∧
      R .f32 (nF V i) * R .f32 (nF V i) + 2 * (R .f32 rise * R .f32 (nF ls k)) - 1 / 5000 ≤ R .f32 (spR rise (nF ls k) (nF V i)) * R .f32 (spR rise (nF ls k) (nF V i)) := by
  obtain ⟨l0, l1, l2⟩ := h.ls k hk
  obtain ⟨v0, v1, v2⟩ := hv.num i hi
  have := h.m2
  exact spR_facts h.rN h.r1 h.r2 l0 l1 l2 v0 v1 (by grind)
/-- one entry made less -/
theorem VIn.less {V : List Nat} {most n i x : Nat} (hv : VIn V most n) (hi : i ≤ n) (hx : isN .f32 x = true) (h1 : 49 / 100 ≤ R .f32 x) (hlt : flt x (nF V i) = true) : VIn (V.set i x) most n := by
  obtain ⟨v0, v1, v2⟩ := hv.num i hi
  rw [flt_R hx v0] at hlt
  have hlt := of_decide_eq_true hlt
  have hl := hv.len
  have ne : ∀ j, nF V j = 0 → j ≠ i := fun j h e => by
    subst e
    rw [h, R_zero] at hlt; grind
  have g := nF_set (V := V) (i := i) x (by omega)
  refine ⟨by rw [List.length_set]; exact hl, by rw [g, if_neg (ne 0 hv.z0)]; exact hv.z0, by rw [g, if_neg (ne n hv.zn)]; exact hv.zn, fun j hj => ?_, fun j h1' h2 => ?_⟩
  · rw [g]
    split
    · exact ⟨hx, by grind, by grind⟩
    · exact hv.num j hj
  · rw [g]
    split
    · exact h1
    · exact hv.mid j h1' h2
/-- no faster than what can be reached -/
def upOk (ls : List Nat) (rise : Nat) (V : List Nat) (k : Nat) : Prop := R .f32 (nF V (k + 1)) ≤ R .f32 (spR rise (nF ls k) (nF V k))
theorem up_in {ls : List Nat} {most rise n : Nat} (h : SpIn ls most rise n) : ∀ k, k ≤ n → VIn (spUp ls rise (spV0 n most) k) most n ∧ ∀ i, i < k → upOk ls rise (spUp ls rise (spV0 n most) k) i
  | 0, _ => ⟨v0_in h, fun i hi => absurd hi (Nat.not_lt_zero _)⟩
  | k + 1, hk => by
    obtain ⟨hv, hu⟩ := up_in h k (by omega)
    obtain ⟨V, hV⟩ : ∃ V, V = spUp ls rise (spV0 n most) k := ⟨_, rfl⟩
    rw [spUp, ← hV]
    rw [← hV] at hv hu
    obtain ⟨s1, s2, _⟩ := hv.sp h (show k < n by omega) (show k ≤ n by omega)
    obtain ⟨v0, v1, v2⟩ := hv.num (k + 1) hk
    have hl := hv.len
    by_cases c : flt (spR rise (nF ls k) (nF V k)) (nF V (k + 1)) = true
    · rw [if_pos c]
      have g := nF_set (V := V) (i := k + 1) (spR rise (nF ls k) (nF V k)) (by omega)
      refine ⟨hv.less hk s1 s2 c, fun i hi => ?_⟩
      unfold upOk
      by_cases e : i = k
      · subst e
        rw [g, g, if_pos rfl, if_neg (by omega)]
        exact Rat.le_refl
      · rw [g, g, if_neg (by omega), if_neg (by omega)]
        exact hu i (by omega)
    · rw [if_neg c]
      refine ⟨hv, fun i hi => ?_⟩
      by_cases e : i = k
      · subst e
        rw [flt_R s1 v0] at c
        unfold upOk
        have : ¬ R .f32 (spR rise (nF ls i) (nF V i)) < R .f32 (nF V (i + 1)) := by simpa using c
        grind
      · exact hu i (by omega)
/-- back: entry i is as it was, or what can be reached from behind -/
structure DnOk (ls : List Nat) (rise : Nat) (U V : List Nat) (i : Nat) : Prop where
  le : R .f32 (nF V i) ≤ R .f32 (spR rise (nF ls i) (nF V (i + 1)))
  or : nF V i = nF U i ∨ nF V i = spR rise (nF ls i) (nF V (i + 1))
theorem dn_in {ls U : List Nat} {most rise n : Nat} (h : SpIn ls most rise n) (hU : VIn U most n) : ∀ k, k ≤ n → VIn (spDn ls rise n U k) most n ∧ (∀ i, n - k ≤ i → i < n → DnOk ls rise U (spDn ls rise n U k) i) ∧ (∀ i, i < n - k → nF (spDn ls rise n U k) i = nF U i) ∧ ∀ i, i ≤ n → R .f32 (nF (spDn ls rise n U k) i) ≤ R .f32 (nF U i)
  | 0, _ => ⟨hU, fun i h1 h2 => by omega, fun i _ => rfl, fun i _ => Rat.le_refl⟩
  | k + 1, hk => by
    obtain ⟨hv, hd, hs, hle⟩ := dn_in h hU k (by omega)
    obtain ⟨V, hV⟩ : ∃ V, V = spDn ls rise n U k := ⟨_, rfl⟩
    obtain ⟨m, hm⟩ : ∃ m, m = n - 1 - k := ⟨_, rfl⟩
    rw [spDn, ← hV, ← hm]
    rw [← hV] at hv hd hs hle
    obtain ⟨s1, s2, _⟩ := hv.sp h (show m < n by omega) (show m + 1 ≤ n by omega)
    obtain ⟨v0, v1, v2⟩ := hv.num m (by omega)
    have hl := hv.len
    by_cases c : flt (spR rise (nF ls m) (nF V (m + 1))) (nF V m) = true
    · rw [if_pos c]
      have g := nF_set (V := V) (i := m) (spR rise (nF ls m) (nF V (m + 1))) (by omega)
      have hlt : R .f32 (spR rise (nF ls m) (nF V (m + 1))) < R .f32 (nF V m) := by
        rw [flt_R s1 v0] at c; exact of_decide_eq_true c
      refine ⟨hv.less (by omega) s1 s2 c, fun i h1 h2 => ?_, fun i hi => ?_, fun i hi => ?_⟩
      · by_cases e : i = m
        · subst e
          exact ⟨by rw [g, g, if_pos rfl, if_neg (by omega)]; exact Rat.le_refl, .inr (by rw [g, g, if_pos rfl, if_neg (by omega)])⟩
        · obtain ⟨d1, d2⟩ := hd i (by omega) h2
          refine ⟨?_, ?_⟩
          · rw [g, g, if_neg e, if_neg (by omega)]; exact d1
          · rw [g, g, if_neg e, if_neg (by omega)]; exact d2
      · rw [g, if_neg (by omega)]; exact hs i (by omega)
      · rw [g]
        split
        · rename_i e
          subst e
          have := hle i hi
          grind
        · exact hle i hi
    · rw [if_neg c]
      refine ⟨hv, fun i h1 h2 => ?_, fun i hi => hs i (by omega), hle⟩
      by_cases e : i = m
      · subst e
        rw [flt_R s1 v0] at c
        have hnl : ¬ R .f32 (spR rise (nF ls i) (nF V (i + 1))) < R .f32 (nF V i) := by simpa using c
        exact ⟨by grind, .inl (hs i (by omega))⟩
      · exact hd i (by omega) h2
theorem sq_le {x y : Rat} (h0 : 0 ≤ x) (h : x ≤ y) : x * x ≤ y * y := by
  have := Rat.mul_nonneg (a := y - x) (b := y + x) (by grind) (by grind)
  grind
/-- what the law tells of the speeds -/
theorem speeds_ok {ls : List Nat} {most rise n : Nat} (h : SpIn ls most rise n) : VIn (spEnd ls most rise) most n ∧ ∀ k, k < n →
    R .f32 (nF (spEnd ls most rise) k) * R .f32 (nF (spEnd ls most rise) k) ≤ R .f32 (nF (spEnd ls most rise) (k + 1)) * R .f32 (nF (spEnd ls most rise) (k + 1)) + 2 * (R .f32 rise * R .f32 (nF ls k)) + 1 / 5000 ∧
      R .f32 (nF (spEnd ls most rise) (k + 1)) * R .f32 (nF (spEnd ls most rise) (k + 1)) ≤ R .f32 (nF (spEnd ls most rise) k) * R .f32 (nF (spEnd ls most rise) k) + 2 * (R .f32 rise * R .f32 (nF ls k)) + 1 / 5000 := by
  unfold spEnd
  rw [h.len]
  obtain ⟨hu, hup⟩ := up_in h n (Nat.le_refl _)
  obtain ⟨U, hU⟩ : ∃ U, U = spUp ls rise (spV0 n most) n := ⟨_, rfl⟩
  rw [← hU] at hu hup ⊢
  obtain ⟨hd, hdn, _, hle⟩ := dn_in h hu n (Nat.le_refl _)
  obtain ⟨D, hD⟩ : ∃ D, D = spDn ls rise n U n := ⟨_, rfl⟩
  rw [← hD] at hd hdn hle ⊢
  refine ⟨hd, fun k hk => ?_⟩
  obtain ⟨d1, d2⟩ := hdn k (by omega) hk
  obtain ⟨a0, a1, a2⟩ := hd.num k (by omega)
  obtain ⟨b0, b1, b2⟩ := hd.num (k + 1) (by omega)
  obtain ⟨_, _, s3, s4⟩ := hd.sp h hk (show k + 1 ≤ n by omega)
  obtain ⟨l0, l1, l2⟩ := h.ls k hk
  have r1 := h.r1
  have q0 : 0 ≤ R .f32 rise * R .f32 (nF ls k) := Rat.mul_nonneg (by grind) (by grind)
  refine ⟨?_, ?_⟩
  · have := sq_le a1 d1
    grind
  · rcases d2 with e | e
    · obtain ⟨u0, u1, u2⟩ := hu.num k (by omega)
      have h1 := hup k hk
      unfold upOk at h1
      obtain ⟨_, _, t3, _⟩ := hu.sp h hk (show k ≤ n by omega)
      have h2 := hle (k + 1) (by omega)
      have h3 := sq_le b1 (Rat.le_trans h2 h1)
      rw [e]
      grind
    · rw [e]
      grind
end Go.Fl
