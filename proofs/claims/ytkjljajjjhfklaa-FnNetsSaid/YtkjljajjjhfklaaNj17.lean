/- How a net among the arguments of a law is opened. Nets that a call made: their marks, and whether they are held. What BackNet answers, as a plain function. -/
import Derived.Test.YtkjljajjjhfklaaNj16
import Derived.Test.YtkjljajjjhfklaaNj09
import Derived.Deep.Slices
import Derived.Deep.Strs
import Derived.Test.YtkjljajjjhfklaaNj06
import Derived.Test.YtkjljajjjhfklaaNj12
namespace Go.Proofs.Ytkjljajjjhfklaa
open Go.ChangeShapes Go.WideShapes Go.ChangeAt Go.RowKit Go.Joins Go.Fl Go.Deep

theorem maxLen_le : maxLen ≤ 9223372036854775807 := by decide
theorem cells_spot {w : World} {a : Addr} {v : Value} (h : w.cell? a = some v) : a.spot = none := by
  unfold World.cell? at h
  split at h
  · split at h
    · cases h
    · rename_i h1; cases hs : a.spot <;> simp_all
  · cases h

section
variable {H : Type} {enc : TypeId × Value → H} {w : World} {spare : Nat → Bool} {held : Bool}

theorem openInts {fuel : Nat} {cs : List Value} {x : DataW H × List MemPlace} (h : DataW.trod enc Try.prog w 0 spare held fuel 29 cs = some x) :
    ∃ ao n c xs, cs = [.slice ao n c] ∧ n = xs.length ∧ n ≤ 9223372036854775807 ∧ SlI w 0 w.heap.size ao xs := by
  rcases open_ints Try.underlying29 Try.underlying2 (by kernel_rfl) h with ⟨rfl, _⟩ | ⟨a, len, cap, zs, rfl, _, hlc, hm, hz, _, hc, _⟩
  · exact ⟨none, 0, 0, [], rfl, rfl, by omega, fun h => absurd h (Nat.not_lt_zero _)⟩
  · have hle : len ≤ zs.length := by rw [hz]; split <;> omega
    refine ⟨some a, len, cap, zs.take len, rfl, by simp; omega, Nat.le_trans hlc (Nat.le_trans hm maxLen_le), fun hp => ?_⟩
    simp only [List.length_take] at hp
    have hc0 := hc 0 (by omega)
    have hs : a.spot = none := cells_spot (a := a) (by simpa [Addr.add] using hc0)
    refine ⟨a.block, a.off, by cases a; simp_all, Nat.zero_le _, World.block_lt_of_cell? w a (by simpa [Addr.add] using hc0), fun i hi => ?_⟩
    simp only [List.length_take] at hi
    have := hc i (by omega)
    have he : a.add i = ⟨a.block, a.off + i, none⟩ := by
      unfold Addr.add
      by_cases h0 : i = 0
      · subst h0; cases a; simp_all
      · simp [h0]
    rw [he] at this
    rw [this]
    simp [iAt, List.getElem?_take, show i < len by omega]

theorem addr_add {a : Addr} (hs : a.spot = none) (i : Nat) : a.add i = ⟨a.block, a.off + i, none⟩ := by
  unfold Addr.add
  by_cases h0 : i = 0
  · subst h0; cases a; simp_all
  · simp [h0]

end
end Go.Proofs.Ytkjljajjjhfklaa

namespace Go.Proofs.Ytkjljajjjhfklaa
open Go.RowKit Go.Fl
/-- a net that a call made: each slice nil, or in a block of its own -/
structure ONet (w : World) (lo hi : Nat) (sa fa : Option Addr) (ps : List Sp) (fs : List (List Int)) : Prop where
  spots : OwnP w lo hi sa ps
  facets : (fa = none ∧ fs = []) ∨ ∃ bf g, fa = some ⟨bf, 0, none⟩ ∧ OwnF w lo hi bf g fs ∧ ∀ b, sa = some ⟨b, 0, none⟩ → b ≠ bf ∧ ∀ i, i < fs.length → g i ≠ b
theorem ONet.far {w w' : World} {lo hi : Nat} {sa fa : Option Addr} {ps : List Sp} {fs : List (List Int)} (h : ONet w lo hi sa fa ps fs) (hf : Far lo hi w w') : ONet w' lo hi sa fa ps fs :=
  ⟨h.spots.far hf, h.facets.imp id fun ⟨bf, g, e, ho, ha⟩ => ⟨bf, g, e, ho.far hf, ha⟩⟩
theorem ONet.net {w : World} {lo hi : Nat} {sa fa : Option Addr} {ps : List Sp} {fs : List (List Int)} (h : ONet w lo hi sa fa ps fs) : NetAt w lo hi sa fa ps fs := by
  refine ⟨h.spots.reads, ?_⟩
  rcases h.facets with ⟨rfl, rfl⟩ | ⟨bf, g, rfl, ho, _⟩
  · exact fun h => absurd h (Nat.not_lt_zero _)
  · exact ho.net
theorem ONet.nil (w : World) (lo hi : Nat) : ONet w lo hi none none [] [] := ⟨OwnP.nil _ _ _, .inl ⟨rfl, rfl⟩⟩
theorem OwnNet.onet {w : World} {lo hi bs bf : Nat} {g : Nat → Nat} {ps : List Sp} {fs : List (List Int)} (h : OwnNet w lo hi bs bf g ps fs) : ONet w lo hi (some ⟨bs, 0, none⟩) (some ⟨bf, 0, none⟩) ps fs :=
  ⟨⟨.inr ⟨bs, rfl, h.low.1, h.low.2, h.room, h.spots⟩⟩, .inr ⟨bf, g, rfl, h.facets, fun b hb => by cases hb; exact h.apart⟩⟩
/-- a net that bears its marks -/
structure MNet (w : World) (lo hi : Nat) (sa fa : Option Addr) (n : Nat) (fs : List (List Int)) (k : Int) : Prop where
  spots : SlM w lo hi sa n k
  facets : 0 < fs.length → ∃ bf, fa = some ⟨bf, 0, none⟩ ∧ lo ≤ bf ∧ bf < hi ∧ ∀ i, i < fs.length → ∃ ai ci, w.cell? ⟨bf, i, none⟩ = some (.slice ai (fAt fs i).length ci) ∧ SlI w lo hi ai (marks (k + n * 3 + sumTo fs i) (fAt fs i).length)
theorem MNet.far {w w' : World} {lo hi : Nat} {sa fa : Option Addr} {n : Nat} {fs : List (List Int)} {k : Int} (h : MNet w lo hi sa fa n fs k) (hf : Far lo hi w w') : MNet w' lo hi sa fa n fs k :=
  ⟨h.spots.far hf, fun hp => by
    obtain ⟨bf, e, h1, h2, hc⟩ := h.facets hp
    exact ⟨bf, e, h1, h2, fun i hi => by
      obtain ⟨ai, ci, c1, s1⟩ := hc i hi
      exact ⟨ai, ci, (hf.cell h1 h2).trans c1, s1.far hf⟩⟩⟩
/-- the call from w answers with the net of ps and fs, and with ok -/
def RetN (ps : List Sp) (fs : List (List Int)) (ok : Bool) (w : World) (e : Ending) (w' : World) : Prop :=
  (∃ sa fa c1 c2, e = .returned (.tuple #[netV sa fa ps.length c1 fs.length c2, .bool ok]) ∧ ONet w' w.heap.size w'.heap.size sa fa ps fs) ∧ Below w.heap.size w w'

end Go.Proofs.Ytkjljajjjhfklaa

namespace Go.Proofs.Ytkjljajjjhfklaa
open Go.RowKit Go.Fl
/-- the facets, the first j of them turned -/
def turnTo (fs : List (List Int)) (j : Nat) : List (List Int) := (fs.take j).map List.reverse ++ fs.drop j
noncomputable def backP (ps : List Sp) (fs : List (List Int)) : List Sp := if okN ps fs then ps else []
noncomputable def backF (ps : List Sp) (fs : List (List Int)) : List (List Int) := if okN ps fs then fs.map List.reverse else []
theorem back_len1 {ps : List Sp} {fs : List (List Int)} (h : ps.length ≤ 1048576) : (backP ps fs).length ≤ 1048576 := by
  unfold backP; split
  · exact h
  · simp
theorem back_len2 {ps : List Sp} {fs : List (List Int)} (h : fs.length ≤ 1048576) : (backF ps fs).length ≤ 1048576 := by
  unfold backF; split
  · simpa using h
  · simp
theorem fAt_rev {fs : List (List Int)} {i : Nat} (h : i < fs.length) : fAt (fs.map List.reverse) i = (fAt fs i).reverse := by
  simp [fAt, h]
theorem back_len3 {ps : List Sp} {fs : List (List Int)} (h : ∀ i, i < fs.length → (fAt fs i).length ≤ 1048576) : ∀ i, i < (backF ps fs).length → (fAt (backF ps fs) i).length ≤ 1048576 := by
  unfold backF; split
  · intro i hi
    rw [List.length_map] at hi
    rw [fAt_rev hi, List.length_reverse]
    exact h i hi
  · intro i hi
    simp at hi
theorem iAt_rev {xs : List Int} {i : Nat} (h : i < xs.length) : iAt xs.reverse i = iAt xs (xs.length - 1 - i) := by
  unfold iAt
  rw [List.getD_eq_getElem?_getD, List.getD_eq_getElem?_getD, List.getElem?_reverse h]
theorem RetN.no {ps : List Sp} {fs : List (List Int)} {w w' : World} (h : okN ps fs = false) (hb : Below w.heap.size w w') : RetN (backP ps fs) (backF ps fs) (okN ps fs) w (.returned (.tuple #[.agg #[.slice none 0 0, .slice none 0 0], .bool false])) w' := by
  have h1 : backP ps fs = [] := by simp [backP, h]
  have h2 : backF ps fs = [] := by simp [backF, h]
  rw [h1, h2, h]
  exact ⟨⟨none, none, 0, 0, rfl, ONet.nil _ _ _⟩, hb⟩
theorem OwnF.wide {w : World} {lo hi lo' hi' bf : Nat} {g : Nat → Nat} {fs : List (List Int)} (h : OwnF w lo hi bf g fs) (hl : lo' ≤ lo) (hh : hi ≤ hi') : OwnF w lo' hi' bf g fs :=
  ⟨⟨Nat.le_trans hl h.row.1, Nat.lt_of_lt_of_le h.row.2 hh⟩, h.head, fun i hi => ⟨Nat.le_trans hl (h.blk i hi).1, Nat.lt_of_lt_of_le (h.blk i hi).2.1 hh, (h.blk i hi).2.2⟩, h.inj, h.room, h.reads, h.cap⟩
theorem ONet.wide {w : World} {lo hi lo' hi' : Nat} {sa fa : Option Addr} {ps : List Sp} {fs : List (List Int)} (h : ONet w lo hi sa fa ps fs) (hl : lo' ≤ lo) (hh : hi ≤ hi') : ONet w lo' hi' sa fa ps fs :=
  ⟨h.spots.mono hl hh, h.facets.imp id fun ⟨bf, g, e, ho, ha⟩ => ⟨bf, g, e, ho.wide hl hh, ha⟩⟩
/-- the corners of a net's facets, as they stand: f i p the number at place p of facet i -/
def Cors (w : World) (g : Nat → Nat) (fs : List (List Int)) (f : Nat → Nat → Int) : Prop := ∀ i, i < fs.length → ∀ p, p < (fAt fs i).length → w.cell? ⟨g i, p, none⟩ = some (.int .i64 (f i p))
theorem OwnF.cors {w : World} {lo hi bf : Nat} {g : Nat → Nat} {fs : List (List Int)} (h : OwnF w lo hi bf g fs) : Cors w g fs (fun i p => iAt (fAt fs i) p) := fun i hi p hp => by
  obtain ⟨b, o, e, _, _, hc⟩ := h.reads i hi (by omega)
  cases e
  have := hc p hp
  rw [Nat.zero_add] at this
  exact this
/-- all corners turned: the facets are turned -/
theorem OwnF.turned {w w' : World} {lo hi bf : Nat} {g : Nat → Nat} {fs : List (List Int)} (h : OwnF w lo hi bf g fs) (hc : Cors w' g fs (fun i p => iAt (fAt fs i) ((fAt fs i).length - 1 - p)))
    (hh : ∀ i, i < fs.length → w'.cell? ⟨bf, i, none⟩ = w.cell? ⟨bf, i, none⟩) (hr : ∀ i, i < fs.length → Room w' (g i) (fAt fs i).length) : OwnF w' lo hi bf g (fs.map List.reverse) := by
  have hl : (fs.map List.reverse).length = fs.length := List.length_map _
  refine ⟨h.row, fun i hi => ?_, fun i hi => h.blk i (by omega), fun i k hik hk => h.inj i k hik (by omega), fun i hi => ?_, fun i hi => ?_, fun i hi ai n ci e => ?_⟩
  · obtain ⟨ci, hd⟩ := h.head i (by omega)
    rw [fAt_rev (by omega), List.length_reverse]
    exact ⟨ci, (hh i (by omega)).trans hd⟩
  · rw [fAt_rev (by omega), List.length_reverse]
    exact hr i (by omega)
  · rw [fAt_rev (by omega)]
    intro hp
    refine ⟨g i, 0, rfl, Nat.le_refl _, Nat.lt_succ_self _, fun p hp2 => ?_⟩
    rw [List.length_reverse] at hp2
    rw [Nat.zero_add, iAt_rev hp2]
    exact hc i (by omega) p hp2
  · exact h.cap i (by omega) ai n ci ((hh i (by omega)).symm.trans e)
theorem Only.dr {S : Nat → Prop} {a w : World} (h : Only S a w) (n : Nat) : Only S a (w.drewN n) := h.trans ⟨rfl, rfl, rfl, rfl, fun _ _ => rfl, fun _ _ h => h⟩
end Go.Proofs.Ytkjljajjjhfklaa
