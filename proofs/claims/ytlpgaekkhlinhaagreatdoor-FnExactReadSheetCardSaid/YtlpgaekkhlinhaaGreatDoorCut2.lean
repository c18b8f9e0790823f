/- A text cut at the first of a byte: plain Lean, no program. -/
import Derived.Test.YtlpgaekkhlinhaaGreatDoorRead
import Derived.Lib.IndexLaws
import Derived.Lib.IndexMore
import Derived.Lib.IndexBytes
namespace Go.Fl
open Go.Lib
theorem cut_free {l : List UInt8} {c : UInt8} (h : c ∉ l) : Lib.cut l [c] = (l, [], false) := by
  have hi : Lib.index l [c] < 0 := by
    rw [Lib.index_one]
    rcases Int.lt_or_le (Lib.indexByte l c) 0 with h1 | h1
    · exact h1
    · obtain ⟨o, ho⟩ := Int.eq_ofNat_of_zero_le h1
      have := (Lib.indexByte_some ho).1
      exact absurd (List.mem_of_getElem? this) h
  rw [Lib.cut, if_neg (by omega)]
theorem cut_hit {p q : List UInt8} {c : UInt8} (h : c ∉ p) : Lib.cut (p ++ c :: q) [c] = (p, q, true) := by
  have hi : Lib.index (p ++ c :: q) [c] = (p.length : Int) := by
    rw [Lib.index_one]
    rcases Int.lt_or_le (Lib.indexByte (p ++ c :: q) c) 0 with h1 | h1
    · have hge := Lib.indexByte_ge (p ++ c :: q) c
      have := Lib.indexByte_none (show Lib.indexByte (p ++ c :: q) c = -1 by omega) p.length
      simp at this
    · obtain ⟨o, ho⟩ := Int.eq_ofNat_of_zero_le h1
      obtain ⟨h2, h3⟩ := Lib.indexByte_some ho
      rw [ho]
      have h4 : ¬ o < p.length := fun hlt => by
        rw [List.getElem?_append_left hlt] at h2
        exact h (List.mem_of_getElem? h2)
      have h5 : ¬ p.length < o := fun hlt => by
        have := h3 p.length hlt
        simp at this
      have : o = p.length := by omega
      rw [this]
  rw [Lib.cut, hi, if_pos (by omega)]
  simp
theorem cutL_hit2 {p q : List UInt8} {c : UInt8} (h : c ∉ p) : cutL c (p ++ c :: q) = p :: cutL c q := by
  rw [cutL_free c p _ h, cutL_hit]; simp [prep]
theorem cutL_none {l : List UInt8} {c : UInt8} (h : c ∉ l) : cutL c l = [l] := by
  have := cutL_free c l [] h
  rw [List.append_nil] at this
  rw [this]; simp [cutL, prep]
theorem split_at {l : List UInt8} {c : UInt8} (h : c ∈ l) : ∃ p q, l = p ++ c :: q ∧ c ∉ p := by
  induction l with
  | nil => cases h
  | cons b l ih =>
    by_cases hb : b = c
    · exact ⟨[], l, by simp [hb], by simp⟩
    · obtain ⟨p, q, h1, h2⟩ := ih (by simpa [Ne.symm hb] using h)
      exact ⟨b :: p, q, by simp [h1], by simp [h2, Ne.symm hb]⟩
theorem not_mem_join {c : UInt8} (hc : c ≠ 44) (ps : List (List UInt8)) (h : ∀ p ∈ ps, c ∉ p) : c ∉ Lib.join ps [44] := by
  induction ps with
  | nil => simp [Lib.join_nil]
  | cons p r ih =>
    cases r with
    | nil => rw [Lib.join_one]; exact h p (by simp)
    | cons q r =>
      rw [join_cons2]
      simp only [List.mem_append, List.mem_singleton, not_or]
      exact ⟨⟨h p (by simp), hc⟩, ih fun x hx => h x (by simp [hx])⟩
theorem semi_digit {n k : Nat} : (59 : UInt8) ∉ hexK n k := fun h => by
  obtain ⟨d, hd, he⟩ := hexK_mem h
  have h1 := hexV_D ⟨d, hd⟩
  simp only at h1
  rw [← he] at h1
  exact absurd h1 (by show hexV 59 ≠ some d; simp [hexV])
theorem semi_free {α : Type} {f : α → List UInt8} {P : α → Prop} {s : List UInt8} {xs : List α} (hf : ∀ x, (59 : UInt8) ∉ f x) (h : Reads f P s xs) : (59 : UInt8) ∉ s := by
  obtain ⟨_, _, rfl⟩ := h
  rw [textL]
  split
  · decide
  · refine not_mem_join (by decide) _ fun p hp => ?_
    obtain ⟨x, _, rfl⟩ := List.mem_map.1 hp
    exact hf x
theorem semi1 (x : Nat) : (59 : UInt8) ∉ hex1 x := semi_digit
theorem semi2 (z : Nat × Nat) : (59 : UInt8) ∉ hex2 z := fun h => by
  rcases List.mem_append.1 h with h | h <;> exact semi_digit h
end Go.Fl
