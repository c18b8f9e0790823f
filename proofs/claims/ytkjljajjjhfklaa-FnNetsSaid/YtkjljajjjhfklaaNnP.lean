/- Nets, the law: the shapes of the drawn nets are nets. -/
import Derived.Test.YtkjljajjjhfklaaNnE
namespace Go.Proofs.Ytkjljajjjhfklaa
open Go.RowKit Go.Fl
/-- the facets test of a net, in a form that runs -/
def fGood (n : Nat) (f : List Int) : Bool :=
  (List.range f.length).all fun t => inB (iAt f t) 0 ((n : Int) - 1) && (List.range t).all fun s => !(iAt f s == iAt f t)
def okB (n : Nat) (fs : List (List Int)) : Bool :=
  (decide (3 ≤ n) && decide (n ≤ 256) && decide (1 ≤ fs.length) && decide (fs.length ≤ 256)) &&
  ((List.range fs.length).all fun i => decide (3 ≤ (fAt fs i).length) && decide ((fAt fs i).length ≤ 8) && fGood n (fAt fs i)) &&
  ((List.range (colA fs).length).all fun t => (List.range t).all fun s => !(iAt (colA fs) s == iAt (colA fs) t && iAt (colB fs) s == iAt (colB fs) t)) &&
  ((List.range n).all fun v => (List.range (colA fs).length).any fun t => iAt (colA fs) t == (v : Int))
theorem fGood_of {n : Nat} {f : List Int} (h : fGood n f = true) : FGood n f f.length := by
  intro t ht
  have h1 := List.all_eq_true.1 h t (List.mem_range.2 ht)
  simp only [Bool.and_eq_true] at h1
  refine ⟨h1.1, fun s hs e => ?_⟩
  have h2 := List.all_eq_true.1 h1.2 s (List.mem_range.2 hs)
  simp [e] at h2
theorem okB_net {ps : List Sp} {fs : List (List Int)} (h : okB ps.length fs = true) (hf : ps.all finSp = true) : OkNet ps fs (colA fs) (colB fs) := by
  simp only [okB, Bool.and_eq_true, decide_eq_true_eq] at h
  obtain ⟨⟨⟨⟨⟨⟨n3, n256⟩, f1⟩, f256⟩, hF⟩, hO⟩, hU⟩ := h
  refine ⟨n3, n256, f1, f256, hf, fun i hi => ?_, fun s t hs ht => ?_, fun v hv => ?_⟩
  · have h1 := List.all_eq_true.1 hF i (List.mem_range.2 hi)
    simp only [Bool.and_eq_true, decide_eq_true_eq] at h1
    exact ⟨h1.1.1, h1.1.2, fGood_of h1.2⟩
  · have h1 := List.all_eq_true.1 (List.all_eq_true.1 hO t (List.mem_range.2 ht)) s (List.mem_range.2 hs)
    intro e
    simp [e.1, e.2] at h1
  · obtain ⟨t, h1, h2⟩ := List.any_eq_true.1 (List.all_eq_true.1 hU v (List.mem_range.2 hv))
    exact ⟨t, List.mem_range.1 h1, by simpa using h2⟩
theorem okB_okN {ps : List Sp} {fs : List (List Int)} (h : okB ps.length fs = true) (hf : ps.all finSp = true) : okN ps fs = true := by
  unfold okN dec
  exact @decide_eq_true _ (Classical.propDecidable _) (okB_net h hf)
/-- the facets of a box, of tiles, and of a quad -/
def boxF : List (List Int) := [[0, 2, 3, 1], [4, 5, 7, 6], [0, 1, 5, 4], [2, 6, 7, 3], [0, 4, 6, 2], [1, 3, 7, 5]]
def gridF (m n : Nat) : List (List Int) := (List.range (m * n)).map fun i => let p : Nat := i / m * (m + 1) + i % m; [(p : Int), (p : Int) + 1, ((p + m + 2 : Nat) : Int), ((p + m + 1 : Nat) : Int)]
def quadF : List (List Int) := [[0, 1, 3, 2]]
theorem box_ok : okB 8 boxF = true := by decide +kernel
theorem quad_ok : okB 4 quadF = true := by decide +kernel
theorem grid_ok : (List.range 4).all (fun m => (List.range 4).all fun n => okB ((m + 2) * (n + 2)) (gridF (m + 1) (n + 1))) = true := by decide +kernel
/-- how many spots the round net has -/
def rnK (n : Nat) (fs : List (List Int)) : Nat := n + fs.length + (fsts fs).length
theorem rnP_len (ps : List Sp) (fs : List (List Int)) : (rnP ps fs).length = rnK ps.length fs := rn2_len _ _ _
theorem box_round : okB (rnK 8 boxF) (rnF boxF 8) = true := by decide +kernel
theorem quad_round : okB (rnK 4 quadF) (rnF quadF 4) = true := by decide +kernel
theorem grid_round : (List.range 3).all (fun m => (List.range 3).all fun n => okB (rnK ((m + 2) * (n + 2)) (gridF (m + 1) (n + 1))) (rnF (gridF (m + 1) (n + 1)) ((m + 2) * (n + 2)))) = true := by decide +kernel
/-- what the law counts at a net of n spots and facets fs -/
noncomputable def cntB (n : Nat) (fs : List (List Int)) : Bool :=
  decide ((prL true fs).length ≤ (prL false fs).length) && decide ((prL false fs).length % 2 = 0) &&
  decide ((sumTo fs fs.length : Int) = 2 * (((prL false fs).length / 2 : Nat) : Int) - (((prL true fs).length / 2 : Nat) : Int)) &&
  decide ((fsts fs).length = (prL false fs).length / 2) &&
  decide ((prL true (rnF fs n)).length = 2 * (prL true fs).length) &&
  decide ((rnK n fs : Int) - (((prL false (rnF fs n)).length / 2 : Nat) : Int) + ((rnF fs n).length : Int) = (n : Int) - (((prL false fs).length / 2 : Nat) : Int) + (fs.length : Int))
theorem box_cnt : cntB 8 boxF = true := by decide +kernel
theorem quad_cnt : cntB 4 quadF = true := by decide +kernel
theorem grid_cnt : (List.range 3).all (fun m => (List.range 3).all fun n => cntB ((m + 2) * (n + 2)) (gridF (m + 1) (n + 1))) = true := by decide +kernel
end Go.Proofs.Ytkjljajjjhfklaa

