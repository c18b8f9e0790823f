/- Where the loop that cuts a text stands. -/
import Derived.Test.YtlpgaekkhlinhaaGreatDoorPieces
namespace Go.Fl
/-- behind j places: the pieces done, and where the next begins -/
def stR (s : ByteArray) (c : UInt8) (j : Nat) : List ByteArray × Nat :=
  if j ≤ s.size then ((cutSt c s.data.toList j).1.map fun x => ⟨x.toArray⟩, (cutSt c s.data.toList j).2) else (pieces s c, s.size + 1)
theorem size_list (s : ByteArray) : s.data.toList.length = s.size := by cases s; rfl
theorem getD_byte (s : ByteArray) {j : Nat} (hj : j < s.size) : s.data.toList.getD j 0 = s[j] := by
  have h : j < s.data.toList.length := by rw [size_list]; exact hj
  rw [List.getD_eq_getElem?_getD, List.getElem?_eq_getElem h]
  cases s; rfl
theorem stR_zero (s : ByteArray) (c : UInt8) : stR s c 0 = ([], 0) := by simp [stR, cutSt]
theorem stR_hit {s : ByteArray} {c : UInt8} {j : Nat} (hj : j < s.size) (h : s[j] = c) : stR s c (j + 1) = ((stR s c j).1 ++ [s.extract (stR s c j).2 j], j + 1) := by
  unfold stR
  rw [if_pos (show j + 1 ≤ s.size from hj), if_pos (show j ≤ s.size by omega), extract_piece]
  have e : cutSt c s.data.toList (j + 1) = ((cutSt c s.data.toList j).1 ++ [(s.data.toList.drop (cutSt c s.data.toList j).2).take (j - (cutSt c s.data.toList j).2)], j + 1) := by
    rw [cutSt, if_pos (by rw [getD_byte s hj]; exact h)]
  rw [e]; simp
theorem stR_miss {s : ByteArray} {c : UInt8} {j : Nat} (hj : j < s.size) (h : ¬ s[j] = c) : stR s c (j + 1) = stR s c j := by
  unfold stR
  rw [if_pos (show j + 1 ≤ s.size from hj), if_pos (show j ≤ s.size by omega)]
  have e : cutSt c s.data.toList (j + 1) = cutSt c s.data.toList j := by
    rw [cutSt, if_neg (by rw [getD_byte s hj]; exact h)]
  rw [e]
theorem stR_end (s : ByteArray) (c : UInt8) : stR s c (s.size + 1) = ((stR s c s.size).1 ++ [s.extract (stR s c s.size).2 s.size], s.size + 1) := by
  unfold stR
  rw [if_neg (show ¬ s.size + 1 ≤ s.size by omega), if_pos (Nat.le_refl _), extract_piece]
  have h := cutSt_end c s.data.toList
  rw [size_list] at h
  unfold pieces
  rw [h]
  have : ((s.data.toList.drop (cutSt c s.data.toList s.size).2).take (s.size - (cutSt c s.data.toList s.size).2)) = s.data.toList.drop (cutSt c s.data.toList s.size).2 :=
    List.take_of_length_le (by rw [List.length_drop, size_list]; omega)
  simp only [this, List.map_append, List.map_cons, List.map_nil]
theorem stR_all (s : ByteArray) (c : UInt8) : (stR s c (s.size + 1)).1 = pieces s c := by
  unfold stR; rw [if_neg (show ¬ s.size + 1 ≤ s.size by omega)]
theorem stR_le (s : ByteArray) (c : UInt8) {j : Nat} (hj : j ≤ s.size + 1) : (stR s c j).2 ≤ j := by
  unfold stR; split
  · exact cutSt_le _ _ _
  · show s.size + 1 ≤ j; omega
theorem stR_len (s : ByteArray) (c : UInt8) : ∀ {j : Nat}, j ≤ s.size + 1 → (stR s c j).1.length ≤ j
  | 0, _ => by simp [stR_zero]
  | j + 1, h => by
    have ih := stR_len s c (j := j) (by omega)
    by_cases hj : j < s.size
    · by_cases hc : s[j] = c
      · rw [stR_hit hj hc]; simp; omega
      · rw [stR_miss hj hc]; omega
    · have : j = s.size := by omega
      subst this
      rw [stR_end]; simp; omega
end Go.Fl
