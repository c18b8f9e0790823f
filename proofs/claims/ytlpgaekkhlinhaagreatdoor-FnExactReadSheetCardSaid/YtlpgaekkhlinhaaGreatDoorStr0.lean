/- Contracts: lists of strings: how much they hold, their equality, by the law's own functions. -/
import Derived.Test.YtlpgaekkhlinhaaGreatDoorChecked
import Derived.Test.YtlpgaekkhlinhaaGreatDoorMem
import Derived.Test.YtlpgaekkhlinhaaGreatDoorRow
import Derived.IntWalk
import Derived.Below
import Derived.Deep.OwnRows
import Derived.Deep.QuietTactic
import Derived.BigQuiet
namespace Go.Fl
def sAt (ps : List ByteArray) (i : Nat) : ByteArray := ps.getD i ⟨#[]⟩
/-- a slice at ao reads as the strings ps; its block lies from lo up to hi -/
def SlT (w : World) (lo hi : Nat) (ao : Option Addr) (ps : List ByteArray) : Prop :=
  0 < ps.length → ∃ b off, ao = some ⟨b, off, none⟩ ∧ lo ≤ b ∧ b < hi ∧ ∀ i, i < ps.length → w.cell? ⟨b, off + i, none⟩ = some (.string (sAt ps i))
theorem SlT.far {w w' : World} {lo hi : Nat} {ao : Option Addr} {ps : List ByteArray} (h : SlT w lo hi ao ps) (hf : Far lo hi w w') : SlT w' lo hi ao ps := fun hp => by
  obtain ⟨b, off, rfl, h1, h2, hc⟩ := h hp
  exact ⟨b, off, rfl, h1, h2, fun i hi => (hf.cell h1 h2).trans (hc i hi)⟩
theorem SlT.mono {w : World} {lo hi lo' hi' : Nat} {ao : Option Addr} {ps : List ByteArray} (h : SlT w lo hi ao ps) (hl : lo' ≤ lo) (hh : hi ≤ hi') : SlT w lo' hi' ao ps := fun hp => by
  obtain ⟨b, off, rfl, h1, h2, hc⟩ := h hp
  exact ⟨b, off, rfl, by omega, by omega, hc⟩
/-- how many letters the first k strings have together -/
def lens (ps : List ByteArray) : Nat → Nat
  | 0 => 0
  | k + 1 => lens ps k + (sAt ps k).size
/-- every string's length fits -/
def Fit (ps : List ByteArray) : Prop := ∀ i, i < ps.length → (sAt ps i).size ≤ 9223372036854775807
theorem rowT {w : World} {b : Nat} {T : TypeId} {n : Nat} {f : Nat → Value} {ps : List ByteArray} (h : w.rowIs b T n f) (hn : n = ps.length) (hf : ∀ i, i < n → f i = .string (sAt ps i)) : SlT w b (b + 1) (some ⟨b, 0, none⟩) ps := by
  subst hn
  refine fun _ => ⟨b, 0, rfl, Nat.le_refl _, Nat.lt_succ_self _, fun i hi => ?_⟩
  rw [Nat.zero_add, h.cell hi, hf i hi]
theorem strStep (f : Nat → ByteArray) (j k : Nat) : (if j = k then Value.string (f k) else .string (if j < k then f j else ⟨#[]⟩)) = .string (if j < k + 1 then f j else ⟨#[]⟩) := by
  by_cases h : j = k
  · subst h; simp
  · rw [if_neg h]
    by_cases h2 : j < k
    · rw [if_pos h2, if_pos (by omega)]
    · rw [if_neg h2, if_neg (by omega)]
theorem ORow.cap {w : World} {e : TypeId} {size b cap n : Nat} {cs : List Value} (h : ORow w e size b cap n cs) : n ≤ cap := by
  obtain ⟨hl, hr⟩ := h
  rcases hr with ⟨hn, _⟩ | ⟨g, c, cur, hv, hb, hg, h1, _⟩
  · cases hn
  · have : cap = c := (Value.slice.inj hv).2.2
    omega
theorem ORow.strs {w : World} {e : TypeId} {b cap n : Nat} {ps : List ByteArray} (h : ORow w e 1 b cap n (ps.map Value.string)) : SlT w b (b + 1) (some ⟨b, 0, none⟩) ps := fun _ =>
  ⟨b, 0, rfl, Nat.le_refl _, Nat.lt_succ_self _, fun i hi => by
    have hl := h.1
    rw [List.length_map] at hl
    rw [Nat.zero_add, h.cell i (by omega)]
    simp [sAt, hi]⟩
end Go.Fl
namespace Go.Proofs.YtlpgaekkhlinhaaGreatDoor
open Go.RowKit Go.Fl

end Go.Proofs.YtlpgaekkhlinhaaGreatDoor
