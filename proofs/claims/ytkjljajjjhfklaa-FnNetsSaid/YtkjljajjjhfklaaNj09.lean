/- Contracts: how much a net holds, by the law's own functions. Contracts: marks on a slice of numbers that a call made. Contracts: marks on rows of spots, and whether they are held. -/
import Derived.Test.YtkjljajjjhfklaaChecked
import Derived.Test.YtkjljajjjhfklaaNj01
import Derived.IntWalk
import Derived.Test.YtkjljajjjhfklaaNj08
import Derived.Test.YtkjljajjjhfklaaNj04
namespace Go.Proofs.Ytkjljajjjhfklaa
open Go.RowKit Go.Fl

/-- what is left of a number behind a list of that length -/
def lessLen (left : Int) (n : Nat) : Int := if left < n then -1 else left - n

theorem lessLen_yes {left : Int} {n : Nat} (h : left < n) : lessLen left n = -1 := if_pos h
theorem lessLen_no {left : Int} {n : Nat} (h : ¬ left < n) : lessLen left n = left - n := if_neg h

theorem lessLen_le {left : Int} {n : Nat} (h0 : 0 ≤ left) : lessLen left n ≤ left := by unfold lessLen; split <;> omega
theorem lessLen_ge {left : Int} {n : Nat} (h0 : 0 ≤ left) (h : ¬ lessLen left n < 0) : ¬ left < n := by unfold lessLen at h; split at h <;> omega

/-- every facet is as short as told -/
def Short (fs : List (List Int)) (n k : Nat) : Prop := ∀ j, j < k → (fAt fs j).length ≤ n
theorem Short.zero (fs : List (List Int)) (n : Nat) : Short fs n 0 := fun _ h => absurd h (Nat.not_lt_zero _)
theorem Short.succ {fs : List (List Int)} {n k : Nat} (h : Short fs n k) (hk : (fAt fs k).length ≤ n) : Short fs n (k + 1) := fun j hj => by
  rcases Nat.lt_succ_iff_lt_or_eq.1 hj with h1 | rfl
  · exact h j h1
  · exact hk

/-- what a net's length is bound by -/
structure Fits (ps : List Sp) (fs : List (List Int)) : Prop where
  spots : ps.length ≤ 1048576
  facets : fs.length ≤ 1048576
  short : Short fs 1048576 fs.length

end Go.Proofs.Ytkjljajjjhfklaa

namespace Go.Fl
theorem OwnC.far {w w' : World} {lo hi b : Nat} {cs : Array Value} {T : TypeId} (h : OwnC w b cs T) (hf : Far lo hi w w') (h1 : lo ≤ b) (h2 : b < hi) : OwnC w' b cs T := (hf b h1 h2).trans h
end Go.Fl
namespace Go.Proofs.Ytkjljajjjhfklaa
open Go.RowKit Go.Fl

end Go.Proofs.Ytkjljajjjhfklaa

namespace Go.Fl
/-- a slice of n spots at ao holds the marks from k on -/
def SlM (w : World) (lo hi : Nat) (ao : Option Addr) (n : Nat) (k : Int) : Prop :=
  0 < n → ∃ b off, ao = some ⟨b, off, none⟩ ∧ lo ≤ b ∧ b < hi ∧ ∀ i : Nat, i < n → w.cell? ⟨b, off + i * 3, none⟩ = some (.float .f32 (floatOfInt .f32 (k + (i : Int) * 3))) ∧
    w.cell? ⟨b, off + i * 3 + 1, none⟩ = some (.float .f32 (floatOfInt .f32 (k + (i : Int) * 3 + 1))) ∧ w.cell? ⟨b, off + i * 3 + 2, none⟩ = some (.float .f32 (floatOfInt .f32 (k + (i : Int) * 3 + 1 + 1)))
theorem SlM.far {w w' : World} {lo hi : Nat} {ao : Option Addr} {n : Nat} {k : Int} (h : SlM w lo hi ao n k) (hf : Far lo hi w w') : SlM w' lo hi ao n k := fun hp => by
  obtain ⟨b, off, e, h1, h2, hc⟩ := h hp
  exact ⟨b, off, e, h1, h2, fun i hi => by
    obtain ⟨c1, c2, c3⟩ := hc i hi
    exact ⟨(hf.cell h1 h2).trans c1, (hf.cell h1 h2).trans c2, (hf.cell h1 h2).trans c3⟩⟩
theorem SlM.mono {w : World} {lo hi lo' hi' : Nat} {ao : Option Addr} {n : Nat} {k : Int} (h : SlM w lo hi ao n k) (hl : lo' ≤ lo) (hh : hi ≤ hi') : SlM w lo' hi' ao n k := fun hp => by
  obtain ⟨b, off, e, h1, h2, hc⟩ := h hp
  exact ⟨b, off, e, by omega, by omega, hc⟩
theorem nearest_self (n : Int) : FloatKind.f32.format.order (floatOfInt .f32 n) (floatOfInt .f32 n) = some .eq := order_self (show nanB .f32 (floatOfInt .f32 n) = false from write_not_nan (k := .f32) (d := .number (n < 0) n.natAbs 0) rfl)
theorem nearest_ne (n : Int) : (FloatKind.f32.format.order (floatOfInt .f32 n) (floatOfInt .f32 n) != some .eq) = false := by rw [nearest_self]; rfl
/-- a slice of spots that a call made: nil, or in a block of its own -/
structure OwnP (w : World) (lo hi : Nat) (ao : Option Addr) (ps : List Sp) : Prop where
  at' : (ao = none ∧ ps = []) ∨ ∃ b, ao = some ⟨b, 0, none⟩ ∧ lo ≤ b ∧ b < hi ∧ Room w b (ps.length * 3) ∧ SlP w b (b + 1) ao ps
theorem OwnP.reads {w : World} {lo hi : Nat} {ao : Option Addr} {ps : List Sp} (h : OwnP w lo hi ao ps) : SlP w lo hi ao ps := by
  rcases h.at' with ⟨rfl, rfl⟩ | ⟨b, rfl, h1, h2, _, h4⟩
  · exact fun h => absurd h (Nat.not_lt_zero _)
  · exact h4.mono (by omega) (by omega)
theorem OwnP.far {w w' : World} {lo hi : Nat} {ao : Option Addr} {ps : List Sp} (h : OwnP w lo hi ao ps) (hf : Far lo hi w w') : OwnP w' lo hi ao ps := by
  rcases h.at' with h0 | ⟨b, rfl, h1, h2, h3, h4⟩
  · exact ⟨.inl h0⟩
  · exact ⟨.inr ⟨b, rfl, h1, h2, h3.far hf h1 h2, h4.far (hf.mono h1 (by omega))⟩⟩
theorem OwnP.mono {w : World} {lo hi lo' hi' : Nat} {ao : Option Addr} {ps : List Sp} (h : OwnP w lo hi ao ps) (hl : lo' ≤ lo) (hh : hi ≤ hi') : OwnP w lo' hi' ao ps := by
  rcases h.at' with h0 | ⟨b, rfl, h1, h2, h3, h4⟩
  · exact ⟨.inl h0⟩
  · exact ⟨.inr ⟨b, rfl, by omega, by omega, h3, h4⟩⟩
theorem OwnP.nil (w : World) (lo hi : Nat) : OwnP w lo hi none [] := ⟨.inl ⟨rfl, rfl⟩⟩
/-- the call from w answers with the spots ps and with ok -/
def RetP (ps : List Sp) (ok : Bool) (w : World) (e : Ending) (w' : World) : Prop :=
  (∃ ao c, e = .returned (.tuple #[.slice ao ps.length c, .bool ok]) ∧ OwnP w' w.heap.size w'.heap.size ao ps) ∧ RowKit.Below w.heap.size w w'
end Go.Fl
namespace Go.Proofs.Ytkjljajjjhfklaa
open Go.RowKit Go.Fl

end Go.Proofs.Ytkjljajjjhfklaa
