/- What BackNet answers, as a plain function. -/
import Derived.Test.YtbmahankleijkaaONet
import Derived.Test.YtbmahankleijkaaPrB
namespace Go.Proofs.Ytbmahankleijkaa
open Go.RowKit Go.Fl
/-- the facets, the first j of them turned -/
def turnTo (fs : List (List Int)) (j : Nat) : List (List Int) := (fs.take j).map List.reverse ++ fs.drop j
noncomputable def backP (ps : List Sp) (fs : List (List Int)) : List Sp := if okN ps fs then ps else []
noncomputable def backF (ps : List Sp) (fs : List (List Int)) : List (List Int) := if okN ps fs then fs.map List.reverse else []
theorem back_len1 {ps : List Sp} {fs : List (List Int)} (h : ps.length ≤ 1048576) : (backP ps fs).length ≤ 1048576 := by
  unfold backP; split
  · exact h
  · simp
theorem back_len2 {ps : List Sp} {fs : List (List Int)} (h : fs.length ≤ 1048576) : (backF ps fs).length ≤ 1048576 := by
  unfold backF; split
  · simpa using h
  · simp
theorem fAt_rev {fs : List (List Int)} {i : Nat} (h : i < fs.length) : fAt (fs.map List.reverse) i = (fAt fs i).reverse := by
  simp [fAt, h]
theorem back_len3 {ps : List Sp} {fs : List (List Int)} (h : ∀ i, i < fs.length → (fAt fs i).length ≤ 1048576) : ∀ i, i < (backF ps fs).length → (fAt (backF ps fs) i).length ≤ 1048576 := by
  unfold backF; split
  · intro i hi
    rw [List.length_map] at hi
    rw [fAt_rev hi, List.length_reverse]
    exact h i hi
  · intro i hi
    simp at hi
theorem iAt_rev {xs : List Int} {i : Nat} (h : i < xs.length) : iAt xs.reverse i = iAt xs (xs.length - 1 - i) := by
  unfold iAt
  rw [List.getD_eq_getElem?_getD, List.getD_eq_getElem?_getD, List.getElem?_reverse h]
theorem RetN.no {ps : List Sp} {fs : List (List Int)} {w w' : World} (h : okN ps fs = false) (hb : Below w.heap.size w w') : RetN (backP ps fs) (backF ps fs) (okN ps fs) w (.returned (.tuple #[.agg #[.slice none 0 0, .slice none 0 0], .bool false])) w' := by
  have h1 : backP ps fs = [] := by simp [backP, h]
  have h2 : backF ps fs = [] := by simp [backF, h]
  rw [h1, h2, h]
  exact ⟨⟨none, none, 0, 0, rfl, ONet.nil _ _ _⟩, hb⟩
theorem OwnF.wide {w : World} {lo hi lo' hi' bf : Nat} {g : Nat → Nat} {fs : List (List Int)} (h : OwnF w lo hi bf g fs) (hl : lo' ≤ lo) (hh : hi ≤ hi') : OwnF w lo' hi' bf g fs :=
  ⟨⟨Nat.le_trans hl h.row.1, Nat.lt_of_lt_of_le h.row.2 hh⟩, h.head, fun i hi => ⟨Nat.le_trans hl (h.blk i hi).1, Nat.lt_of_lt_of_le (h.blk i hi).2.1 hh, (h.blk i hi).2.2⟩, h.inj, h.room, h.reads, h.cap⟩
theorem ONet.wide {w : World} {lo hi lo' hi' : Nat} {sa fa : Option Addr} {ps : List Sp} {fs : List (List Int)} (h : ONet w lo hi sa fa ps fs) (hl : lo' ≤ lo) (hh : hi ≤ hi') : ONet w lo' hi' sa fa ps fs :=
  ⟨h.spots.mono hl hh, h.facets.imp id fun ⟨bf, g, e, ho, ha⟩ => ⟨bf, g, e, ho.wide hl hh, ha⟩⟩
/-- the corners of a net's facets, as they stand: f i p the number at place p of facet i -/
def Cors (w : World) (g : Nat → Nat) (fs : List (List Int)) (f : Nat → Nat → Int) : Prop := ∀ i, i < fs.length → ∀ p, p < (fAt fs i).length → w.cell? ⟨g i, p, none⟩ = some (.int .i64 (f i p))
theorem OwnF.cors {w : World} {lo hi bf : Nat} {g : Nat → Nat} {fs : List (List Int)} (h : OwnF w lo hi bf g fs) : Cors w g fs (fun i p => iAt (fAt fs i) p) := fun i hi p hp => by
  obtain ⟨b, o, e, _, _, hc⟩ := h.reads i hi (by omega)
  cases e
  have := hc p hp
  rw [Nat.zero_add] at this
  exact this
/-- all corners turned: the facets are turned -/
theorem OwnF.turned {w w' : World} {lo hi bf : Nat} {g : Nat → Nat} {fs : List (List Int)} (h : OwnF w lo hi bf g fs) (hc : Cors w' g fs (fun i p => iAt (fAt fs i) ((fAt fs i).length - 1 - p)))
    (hh : ∀ i, i < fs.length → w'.cell? ⟨bf, i, none⟩ = w.cell? ⟨bf, i, none⟩) (hr : ∀ i, i < fs.length → Room w' (g i) (fAt fs i).length) : OwnF w' lo hi bf g (fs.map List.reverse) := by
  have hl : (fs.map List.reverse).length = fs.length := List.length_map _
  refine ⟨h.row, fun i hi => ?_, fun i hi => h.blk i (by omega), fun i k hik hk => h.inj i k hik (by omega), fun i hi => ?_, fun i hi => ?_, fun i hi ai n ci e => ?_⟩
  · obtain ⟨ci, hd⟩ := h.head i (by omega)
    rw [fAt_rev (by omega), List.length_reverse]
    exact ⟨ci, (hh i (by omega)).trans hd⟩
  · rw [fAt_rev (by omega), List.length_reverse]
    exact hr i (by omega)
  · rw [fAt_rev (by omega)]
    intro hp
    refine ⟨g i, 0, rfl, Nat.le_refl _, Nat.lt_succ_self _, fun p hp2 => ?_⟩
    rw [List.length_reverse] at hp2
    rw [Nat.zero_add, iAt_rev hp2]
    exact hc i (by omega) p hp2
  · exact h.cap i (by omega) ai n ci ((hh i (by omega)).symm.trans e)
theorem Only.dr {S : Nat → Prop} {a w : World} (h : Only S a w) (n : Nat) : Only S a (w.drewN n) := h.trans ⟨rfl, rfl, rfl, rfl, fun _ _ => rfl, fun _ _ h => h⟩
end Go.Proofs.Ytbmahankleijkaa
