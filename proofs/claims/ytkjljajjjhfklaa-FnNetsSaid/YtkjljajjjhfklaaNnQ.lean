/- Nets, the law: all that is told of the drawn nets. -/
import Derived.Test.YtkjljajjjhfklaaNj24
import Derived.Test.YtkjljajjjhfklaaNj12
import Derived.Test.YtkjljajjjhfklaaEaseB
namespace Go.Proofs.Ytkjljajjjhfklaa
open Go.RowKit Go.Fl
/-- the facets at a corner, in a form that runs -/
def faC (fs : List (List Int)) (x : Int) : Nat → List Int
  | 0 => []
  | j + 1 => faC fs x j ++ (if (List.range (fAt fs j).length).any (fun s => iAt (fAt fs j) s == x) then [(j : Int)] else [])
theorem faI_C (fs : List (List Int)) (x : Int) : ∀ j, faI fs x j = faC fs x j
  | 0 => rfl
  | j + 1 => by
    unfold faI faC
    rw [faI_C fs x j]
    have : dec (Has (fAt fs j) (fAt fs j).length x) = (List.range (fAt fs j).length).any (fun s => iAt (fAt fs j) s == x) := by
      cases h : (List.range (fAt fs j).length).any (fun s => iAt (fAt fs j) s == x)
      · refine dec_no fun ⟨s, hs, e⟩ => ?_
        have := List.any_eq_false.1 h s (List.mem_range.2 hs)
        simp [e] at this
      · obtain ⟨s, hs, e⟩ := List.any_eq_true.1 h
        exact dec_yes ⟨s, List.mem_range.1 hs, by simpa using e⟩
    rw [this]
/-- what the law wants of the corners of a net of n spots -/
noncomputable def shpB (n : Nat) (fs : List (List Int)) : Bool :=
  okB n fs && okB (rnK n fs) (rnF fs n) && cntB n fs && decide ((fsts (rnF fs n)).length = (prL false (rnF fs n)).length / 2) &&
  okB n (fs.map List.reverse) && decide ((prL true (fs.map List.reverse)).length = 0 ↔ (prL true fs).length = 0) &&
  (List.range n).all fun i => decide (1 ≤ (faC fs i fs.length).length) &&
    (!(decide ((othBd fs i).length = 0)) || (decide (3 ≤ (faC fs i fs.length).length) && decide ((faC fs i fs.length).length ≤ 100) && decide (1 ≤ (othA fs i).length) && decide ((othA fs i).length ≤ 100)))
theorem box_shp : shpB 8 boxF = true := by decide +kernel
theorem quad_shp : shpB 4 quadF = true := by decide +kernel
theorem grid_shp : (List.range 3).all (fun m => (List.range 3).all fun n => shpB ((m + 2) * (n + 2)) (gridF (m + 1) (n + 1))) = true := by decide +kernel
/-- the shapes of the drawn nets -/
def Shp (n : Nat) (fs : List (List Int)) : Prop := (n = 8 ∧ fs = boxF) ∨ (n = 4 ∧ fs = quadF) ∨ ∃ a b : Nat, a < 3 ∧ b < 3 ∧ n = (a + 2) * (b + 2) ∧ fs = gridF (a + 1) (b + 1)
theorem Shp.all {n : Nat} {fs : List (List Int)} (h : Shp n fs) : shpB n fs = true := by
  rcases h with ⟨rfl, rfl⟩ | ⟨rfl, rfl⟩ | ⟨a, b, ha, hb, rfl, rfl⟩
  · exact box_shp
  · exact quad_shp
  · exact List.all_eq_true.1 (List.all_eq_true.1 grid_shp a (List.mem_range.2 ha)) b (List.mem_range.2 hb)
structure ShpF (n : Nat) (fs : List (List Int)) : Prop where
  ok : okB n fs = true
  rnd : okB (rnK n fs) (rnF fs n) = true
  cnt : cntB n fs = true
  fst : (fsts (rnF fs n)).length = (prL false (rnF fs n)).length / 2
  bk : okB n (fs.map List.reverse) = true
  bd : (prL true (fs.map List.reverse)).length = 0 ↔ (prL true fs).length = 0
  one : ∀ i, i < n → 1 ≤ (faI fs i fs.length).length
  inn : ∀ i, i < n → (othBd fs i).length = 0 → (3 ≤ (faI fs i fs.length).length ∧ (faI fs i fs.length).length ≤ 100) ∧ (1 ≤ (othA fs i).length ∧ (othA fs i).length ≤ 100)
theorem Shp.f {n : Nat} {fs : List (List Int)} (h : Shp n fs) : ShpF n fs := by
  have h := h.all
  unfold shpB at h
  simp only [Bool.and_eq_true, decide_eq_true_eq] at h
  obtain ⟨⟨⟨⟨⟨⟨h1, h2⟩, h3⟩, h4⟩, h5⟩, h6⟩, h7⟩ := h
  have h8 : ∀ i, i < n → 1 ≤ (faC fs i fs.length).length ∧ ((!(decide ((othBd fs i).length = 0)) || (decide (3 ≤ (faC fs i fs.length).length) && decide ((faC fs i fs.length).length ≤ 100) && decide (1 ≤ (othA fs i).length) && decide ((othA fs i).length ≤ 100))) = true) := fun i hi => by
    have := List.all_eq_true.1 h7 i (List.mem_range.2 hi)
    rw [Bool.and_eq_true, decide_eq_true_eq] at this
    exact this
  refine ⟨h1, h2, h3, h4, h5, h6, fun i hi => by rw [faI_C]; exact (h8 i hi).1, fun i hi h0 => ?_⟩
  have := (h8 i hi).2
  rw [h0] at this
  simp only [decide_true, Bool.not_true, Bool.false_or, Bool.and_eq_true, decide_eq_true_eq] at this
  rw [faI_C]
  exact ⟨⟨this.1.1.1, this.1.1.2⟩, this.1.2, this.2⟩
theorem ok_len {n : Nat} {fs : List (List Int)} (h : okB n fs = true) : ∀ i, i < fs.length → 3 ≤ (fAt fs i).length ∧ (fAt fs i).length ≤ 8 := fun i hi => by
  simp only [okB, Bool.and_eq_true, decide_eq_true_eq] at h
  have h1 := List.all_eq_true.1 h.1.1.2 i (List.mem_range.2 hi)
  simp only [Bool.and_eq_true, decide_eq_true_eq] at h1
  exact ⟨h1.1.1, h1.1.2⟩
theorem half_SB {p q : Sp} {b : Int} (hb : 0 ≤ b) (hb2 : b ≤ 100) (hp : SB p 0 b) (hq : SB q 0 b) : SB (spMul (spAdd p q) (can .f32 1056964608)) 0 b := by
  have h : ∀ {x y : Nat}, Bd x 0 b → Bd y 0 b → Bd (fmul (fadd x y) (can .f32 1056964608)) 0 b := fun k l =>
    ((k.add l (by omega) (by omega) (by omega)).mono (c := 0) (d := b * 2) (by omega) (by omega)).half hb (by omega)
  exact ⟨h hp.x hq.x, h hp.y hq.y, h hp.z hq.z⟩
theorem part_34 : Bd (can .f32 1061158912) 0 1 := by
  have hn : isN .f32 (can .f32 1061158912) = true := by decide +kernel
  have hv : R .f32 (can .f32 1061158912) = 3 / 4 := by
    have q : Q .f32 (can .f32 1061158912) 3 2 := ⟨hn, by decide +kernel, by decide⟩
    rw [q.R]; rfl
  exact ⟨hn, by rw [hv]; show (0 : Rat) ≤ 3 / 4; grind, by rw [hv]; show 3 / 4 ≤ (1 : Rat); grind⟩
/-- an eighth of what is six at most -/
theorem eighth_Bd {x : Nat} (h : Bd x 0 6) : Bd (fmul x (can .f32 1040187392)) 0 1 := by
  have hn : isN .f32 (can .f32 1040187392) = true := by decide +kernel
  have hv : R .f32 (can .f32 1040187392) = 1 / 8 := by
    have q : Q .f32 (can .f32 1040187392) 1 3 := ⟨hn, by decide +kernel, by decide⟩
    rw [q.R]; rfl
  have a1 : 0 ≤ R .f32 x := h.lo
  have a2 : R .f32 x ≤ 6 := h.hi
  have r := rnd_mul h.n hn (by rw [hv]; grind) (by rw [hv]; grind)
  rw [hv] at r
  exact r.bd (by decide) (by decide) (by show (0 : Rat) ≤ _; grind) (by show _ ≤ (1 : Rat); grind)
theorem rdP_SB {ps : List Sp} {fs : List (List Int)} (h : ShpF ps.length fs) (hb : AllB 3 ps) {i : Nat} (hi : i < ps.length) : SB (rdP ps fs i) 0 4 := by
  have hM := mids_SB (b := 3) (by decide) (by decide) hb (ok_len h.ok)
  unfold rdP
  by_cases h0 : (othBd fs i).length = 0
  · rw [if_pos h0]
    obtain ⟨⟨c3, c100⟩, o1, o100⟩ := h.inn i hi h0
    have m1 : SB (meanQ (rdQ1 ps fs i)) 0 3 := mean_SB (by decide) (by decide) (qsOf_SB (by decide) hM _) (by show 1 ≤ (qsOf _ _).length; rw [qsOf_len]; omega) (by show (qsOf _ _).length ≤ _; rw [qsOf_len]; omega)
    have m2 : SB (meanQ (rdQ2 ps fs i)) 0 3 := mean_SB (by decide) (by decide) (AllB.of (by decide) fun p hp => by
      obtain ⟨k, _, rfl⟩ := List.mem_map.1 hp
      exact half_SB (by decide) (by decide) (hb _) (hb _)) (by simp [rdQ2]; omega) (by simp [rdQ2]; omega)
    have c : Bd (rdC fs i) ((faI fs i fs.length).length : Int) ((faI fs i fs.length).length : Int) := Bd.cnt _ (by omega)
    obtain ⟨n, hn⟩ : ∃ n : Nat, n = (faI fs i fs.length).length := ⟨_, rfl⟩
    rw [← hn] at c c3 c100
    have two : Bd (can .f32 1073741824) 0 2 := (Bd.const _ 2 (by decide +kernel) (by decide)).mono (by decide) (by decide)
    have three : Bd (can .f32 1077936128) 3 3 := Bd.const _ 3 (by decide +kernel) (by decide)
    have d : Bd (fsub (rdC fs i) (can .f32 1077936128)) 0 ((n : Int) - 3) := (c.sub three (by omega) (by omega) (by omega)).mono (by omega) (by omega)
    have k : ∀ {x y z : Nat}, Bd x 0 3 → Bd y 0 3 → Bd z 0 3 → Bd (fdiv (fadd (fadd x (fmul y (can .f32 1073741824))) (fmul z (fsub (rdC fs i) (can .f32 1077936128)))) (rdC fs i)) 0 3 := fun hx hy hz =>
      ((((hx.add (hy.up two (by decide) (by decide)) (by decide) (by decide) (by decide)).add (hz.up d (by omega) (by omega)) (by omega) (by omega) (by omega)).mono (c := 0) (d := 3 * (n : Int)) (by omega) (by omega))).quo c (by omega) (by decide) (by decide)
    exact SB.mono ⟨k m1.x m2.x (hb i).x, k m1.y m2.y (hb i).y, k m1.z m2.z (hb i).z⟩ (by decide) (by decide)
  · rw [if_neg h0]
    by_cases h2 : (othBd fs i).length = 2
    · rw [if_pos h2]
      have k : ∀ {x y z : Nat}, Bd x 0 3 → Bd y 0 3 → Bd z 0 3 → Bd (fadd (fmul x (can .f32 1061158912)) (fmul (fadd y z) (can .f32 1040187392))) 0 4 := fun hx hy hz =>
        (hx.part part_34 (by decide)).add (eighth_Bd (hy.add hz (by decide) (by decide) (by decide))) (by decide) (by decide) (by decide)
      exact ⟨k (hb _).x (hb _).x (hb _).x, k (hb _).y (hb _).y (hb _).y, k (hb _).z (hb _).z (hb _).z⟩
    · rw [if_neg h2]
      exact (hb i).mono (by decide) (by decide)
theorem egP_SB {ps : List Sp} {fs : List (List Int)} (h : ShpF ps.length fs) (hb : AllB 3 ps) (s : Nat) : SB (egP ps fs s) 0 4 := by
  have hM := mids_SB (b := 3) (by decide) (by decide) hb (ok_len h.ok)
  unfold egP
  split
  · exact (half_SB (by decide) (by decide) (hb _) (hb _)).mono (by decide) (by decide)
  · have k : ∀ {x y z u : Nat}, Bd x 0 3 → Bd y 0 3 → Bd z 0 3 → Bd u 0 3 → Bd (fmul (fadd (fadd (fadd x y) z) u) (can .f32 1048576000)) 0 3 := fun hx hy hz hu =>
      ((((hx.add hy (by decide) (by decide) (by decide)).add hz (by decide) (by decide) (by decide)).add hu (by decide) (by decide) (by decide)).mono (c := 0) (d := 3 * 4) (by decide) (by decide)).quarter (by decide) (by decide)
    exact SB.mono ⟨k (hb _).x (hb _).x (hM _).x (hM _).x, k (hb _).y (hb _).y (hM _).y (hM _).y, k (hb _).z (hb _).z (hM _).z (hM _).z⟩ (by decide) (by decide)
theorem rnP_SB {ps : List Sp} {fs : List (List Int)} (h : ShpF ps.length fs) (hb : AllB 3 ps) : AllB 4 (rnP ps fs) := AllB.of (by decide) fun p hp => by
  have hM := mids_SB (b := 3) (by decide) (by decide) hb (ok_len h.ok)
  unfold rnP rn2 at hp
  rcases List.mem_append.1 hp with hp | hp
  · rcases List.mem_append.1 hp with hp | hp
    · obtain ⟨i, hi, rfl⟩ := List.mem_map.1 hp
      exact rdP_SB h hb (List.mem_range.1 hi)
    · exact (hM.mem hp).mono (by decide) (by decide)
  · obtain ⟨i, hi, rfl⟩ := List.mem_map.1 hp
    exact egP_SB h hb _
/-- a spot of the net that is eased by nothing -/
theorem ezP_zero {ps : List Sp} {fs : List (List Int)} (h : ShpF ps.length fs) (hb : AllB 3 ps) {i : Nat} (hi : i < ps.length) :
    finSp (ezP ps fs 0 i) = true ∧ NoGap (ezP ps fs 0 i).1 (ezP ps fs 0 i).2.1 (ezP ps fs 0 i).2.2 (pAt ps i).1 (pAt ps i).2.1 (pAt ps i).2.2 := by
  have b3 : ∀ {x : Nat}, Bd x 0 3 → -1000 ≤ R .f32 x ∧ R .f32 x ≤ 1000 := fun k => by
    have a1 : 0 ≤ R .f32 _ := k.lo
    have a2 : R .f32 _ ≤ 3 := k.hi
    constructor <;> grind
  unfold ezP
  by_cases h0 : (othBd fs i).length = 0
  · rw [if_pos h0]
    obtain ⟨_, o1, o100⟩ := h.inn i hi h0
    have m : SB (meanQ (qsOf ps (othA fs i))) 0 3 := mean_SB (by decide) (by decide) (qsOf_SB (by decide) hb _) (by rw [qsOf_len]; omega) (by rw [qsOf_len]; omega)
    have k : ∀ {x y : Nat}, Bd x 0 3 → Bd y 0 3 → isN .f32 (fadd x (fmul (fsub y x) 0)) = true ∧ R .f32 (fadd x (fmul (fsub y x) 0)) = R .f32 x := fun hx hy => by
      obtain ⟨m1, m2⟩ := mul_zero (b := 3) (hy.sub hx (by decide) (by decide) (by decide)) (by decide)
      exact add_zero hx (by decide) m1 m2
    obtain ⟨x1, x2⟩ := k (hb i).x m.x
    obtain ⟨y1, y2⟩ := k (hb i).y m.y
    obtain ⟨z1, z2⟩ := k (hb i).z m.z
    have fx := b3 (hb i).x
    have fy := b3 (hb i).y
    have fz := b3 (hb i).z
    refine ⟨?_, ⟨x1, (hb i).x.n, x2, ?_, ?_⟩, ⟨y1, (hb i).y.n, y2, ?_, ?_⟩, ⟨z1, (hb i).z.n, z2, ?_, ?_⟩⟩
    · simp only [finSp, spAdd, spMul, spSub, Bool.and_eq_true, fin_isNum]
      exact ⟨⟨x1, y1⟩, z1⟩
    · exact x2 ▸ fx.1
    · exact x2 ▸ fx.2
    · exact y2 ▸ fy.1
    · exact y2 ▸ fy.2
    · exact z2 ▸ fz.1
    · exact z2 ▸ fz.2
  · rw [if_neg h0]
    exact ⟨(hb i).isFin, ⟨(hb i).x.n, (hb i).x.n, rfl, (b3 (hb i).x).1, (b3 (hb i).x).2⟩, ⟨(hb i).y.n, (hb i).y.n, rfl, (b3 (hb i).y).1, (b3 (hb i).y).2⟩, ⟨(hb i).z.n, (hb i).z.n, rfl, (b3 (hb i).z).1, (b3 (hb i).z).2⟩⟩
theorem ez_ok {ps : List Sp} {fs : List (List Int)} (h : ShpF ps.length fs) (hb : AllB 3 ps) : ezO ps fs 0 = true := by
  have h1 : okN ps fs = true := okB_okN h.ok hb.isFin
  have h2 : okN (ezL ps fs 0) fs = true := okB_okN (by rw [ezL_len]; exact h.ok) (List.all_eq_true.2 fun p hp => by
    obtain ⟨i, hi, rfl⟩ := List.mem_map.1 hp
    exact (ezP_zero h hb (List.mem_range.1 hi)).1)
  have h3 : in01 0 = true := by decide +kernel
  unfold ezO
  rw [h1, h2, h3]
  rfl
end Go.Proofs.Ytkjljajjjhfklaa
