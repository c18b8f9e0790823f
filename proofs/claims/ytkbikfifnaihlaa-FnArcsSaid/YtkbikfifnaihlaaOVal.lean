/- Loops of complex numbers in memory; what is valid: the reference's functions. -/
import Derived.Test.YtkbikfifnaihlaaOByt
import Derived.Test.YtkbikfifnaihlaaPl
import Derived.Deep.QuietTactic
import Derived.BigQuiet
import Derived.Deep.RegionHeld3
namespace Go.Fl
open Go.RowKit
def cV (z : Cx) : Value := .complex .f32 z.1 z.2
def cAt (l : List Cx) (i : Nat) : Cx := l.getD i (0, 0)
/-- a slice at ao reads as the numbers l; its block lies from lo up to hi -/
def SlC (w : World) (lo hi : Nat) (ao : Option Addr) (l : List Cx) : Prop :=
  0 < l.length → ∃ b, ao = some ⟨b, 0, none⟩ ∧ lo ≤ b ∧ b < hi ∧ ∀ i, i < l.length → w.cell? ⟨b, i, none⟩ = some (cV (cAt l i))
/-- a slice at ao reads as the loops ls -/
def SlL (w : World) (lo hi : Nat) (ao : Option Addr) (ls : List (List Cx)) : Prop :=
  0 < ls.length → ∃ b, ao = some ⟨b, 0, none⟩ ∧ lo ≤ b ∧ b < hi ∧ ∀ i, i < ls.length → ∃ ai ci, w.cell? ⟨b, i, none⟩ = some (.slice ai (lpAt ls i).length ci) ∧ SlC w lo hi ai (lpAt ls i)
theorem SlC.far {w w' : World} {lo hi : Nat} {ao : Option Addr} {l : List Cx} (h : SlC w lo hi ao l) (hf : Far lo hi w w') : SlC w' lo hi ao l := fun hp => by
  obtain ⟨b, rfl, h1, h2, hc⟩ := h hp
  exact ⟨b, rfl, h1, h2, fun i hi => (hf.cell h1 h2).trans (hc i hi)⟩
theorem SlC.mono {w : World} {lo hi lo' hi' : Nat} {ao : Option Addr} {l : List Cx} (h : SlC w lo hi ao l) (hl : lo' ≤ lo) (hh : hi ≤ hi') : SlC w lo' hi' ao l := fun hp => by
  obtain ⟨b, rfl, h1, h2, hc⟩ := h hp
  exact ⟨b, rfl, by omega, by omega, hc⟩
theorem SlL.far {w w' : World} {lo hi : Nat} {ao : Option Addr} {ls : List (List Cx)} (h : SlL w lo hi ao ls) (hf : Far lo hi w w') : SlL w' lo hi ao ls := fun hp => by
  obtain ⟨b, rfl, h1, h2, hc⟩ := h hp
  refine ⟨b, rfl, h1, h2, fun i hi => ?_⟩
  obtain ⟨ai, ci, c1, s1⟩ := hc i hi
  exact ⟨ai, ci, (hf.cell h1 h2).trans c1, s1.far hf⟩
theorem SlL.mono {w : World} {lo hi lo' hi' : Nat} {ao : Option Addr} {ls : List (List Cx)} (h : SlL w lo hi ao ls) (hl : lo' ≤ lo) (hh : hi ≤ hi') : SlL w lo' hi' ao ls := fun hp => by
  obtain ⟨b, rfl, h1, h2, hc⟩ := h hp
  refine ⟨b, rfl, by omega, by omega, fun i hi => ?_⟩
  obtain ⟨ai, ci, c1, s1⟩ := hc i hi
  exact ⟨ai, ci, c1, s1.mono hl hh⟩
instance (s : ByteArray) (k : Nat) : Decidable (lowS s k) := inferInstanceAs (Decidable (∀ i, i < k → 97 ≤ bN s i ∧ bN s i ≤ 122))
instance (s : ByteArray) : Decidable (okName s) := inferInstanceAs (Decidable (lowS s s.size ∧ 1 ≤ s.size ∧ s.size ≤ 8))
instance (nm : ByteArray) (ls : List (List Cx)) : Decidable (okOut nm ls) := inferInstanceAs (Decidable (okName nm ∧ 1 ≤ ls.length ∧ ls.length ≤ 4 ∧ ls.all okLoop = true))
theorem lowS.succ {s : ByteArray} {k : Nat} (h : lowS s k) (hk : 97 ≤ bN s k ∧ bN s k ≤ 122) : lowS s (k + 1) := fun i hi => by
  rcases Nat.lt_succ_iff_lt_or_eq.1 hi with h1 | rfl
  · exact h i h1
  · exact hk
theorem all_snoc {α : Type} {p : α → Bool} {xs : List α} {k : Nat} (d : α) (hk : k < xs.length) (hn : (xs.take k).all p = true) (hp : p (xs.getD k d) = true) : (xs.take (k + 1)).all p = true := by
  rw [List.getD_eq_getElem?_getD, List.getElem?_eq_getElem hk] at hp
  rw [List.take_succ_eq_append_getElem hk, List.all_append, hn]; simpa using hp
theorem all_no {α : Type} {p : α → Bool} {xs : List α} {k : Nat} (d : α) (hk : k < xs.length) (hp : p (xs.getD k d) = false) : xs.all p = false := by
  rw [List.getD_eq_getElem?_getD, List.getElem?_eq_getElem hk] at hp
  exact List.all_eq_false.2 ⟨xs[k], List.getElem_mem hk, by rw [show xs[k] = (some xs[k]).getD d from rfl, hp]; decide⟩
end Go.Fl
namespace Go.Proofs.Ytkbikfifnaihlaa
open Go.RowKit Go.Fl

end Go.Proofs.Ytkbikfifnaihlaa
