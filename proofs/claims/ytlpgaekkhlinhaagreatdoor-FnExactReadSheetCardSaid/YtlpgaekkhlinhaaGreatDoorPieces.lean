/- A text cut at a byte: the pieces, by a loop over the places, and by the library's words. -/
import Derived.Lib.Split
import Derived.Lib.SplitLaws
namespace Go.Fl
open Go.Lib
/-- the pieces of l between the bytes c -/
def cutL (c : UInt8) : List UInt8 → List (List UInt8)
  | [] => [[]]
  | b :: l => if b = c then [] :: cutL c l else match cutL c l with
    | p :: ps => (b :: p) :: ps
    | [] => [[b]]
theorem cutL_ne (c : UInt8) (l : List UInt8) : cutL c l ≠ [] := by
  cases l with
  | nil => simp [cutL]
  | cons b l =>
    unfold cutL
    split
    · simp
    · split <;> simp
/-- p ahead of the first piece -/
def prep (p : List UInt8) : List (List UInt8) → List (List UInt8)
  | q :: qs => (p ++ q) :: qs
  | [] => [p]
theorem prep_nil {r : List (List UInt8)} (h : r ≠ []) : prep [] r = r := by
  cases r with
  | nil => exact absurd rfl h
  | cons q qs => rfl
theorem cutL_hit (c : UInt8) (l : List UInt8) : cutL c (c :: l) = [] :: cutL c l := by rw [cutL, if_pos rfl]
theorem cutL_miss {b c : UInt8} (h : b ≠ c) (l : List UInt8) : cutL c (b :: l) = prep [b] (cutL c l) := by
  rw [cutL, if_neg h]
  cases cutL c l <;> rfl
theorem prep_prep (p q : List UInt8) (r : List (List UInt8)) : prep p (prep q r) = prep (p ++ q) r := by
  cases r <;> simp [prep]
/-- where the loop stands behind i bytes: the pieces done, and where the next begins -/
def cutSt (c : UInt8) (l : List UInt8) : Nat → List (List UInt8) × Nat
  | 0 => ([], 0)
  | i + 1 => if l.getD i 0 = c then ((cutSt c l i).1 ++ [(l.drop (cutSt c l i).2).take (i - (cutSt c l i).2)], i + 1) else cutSt c l i
theorem cutSt_le (c : UInt8) (l : List UInt8) : ∀ i, (cutSt c l i).2 ≤ i
  | 0 => Nat.le_refl _
  | i + 1 => by
    unfold cutSt
    split
    · exact Nat.le_refl _
    · have := cutSt_le c l i; omega
theorem cutSt_inv (c : UInt8) (l : List UInt8) : ∀ i, i ≤ l.length → cutL c l = (cutSt c l i).1 ++ prep ((l.drop (cutSt c l i).2).take (i - (cutSt c l i).2)) (cutL c (l.drop i))
  | 0, _ => by simp [cutSt, prep_nil (cutL_ne c l)]
  | i + 1, h => by
    have ih := cutSt_inv c l i (by omega)
    have hle := cutSt_le c l i
    have hd : l.drop i = l.getD i 0 :: l.drop (i + 1) := by
      rw [List.getD_eq_getElem?_getD, List.getElem?_eq_getElem (by omega)]
      exact List.drop_eq_getElem_cons (by omega)
    rw [ih]
    by_cases hb : l.getD i 0 = c
    · have e : cutSt c l (i + 1) = ((cutSt c l i).1 ++ [(l.drop (cutSt c l i).2).take (i - (cutSt c l i).2)], i + 1) := by rw [cutSt, if_pos hb]
      rw [e]
      simp only [Nat.sub_self, List.take_zero]
      rw [prep_nil (cutL_ne _ _), hd, hb, cutL_hit]
      simp [prep]
    · have e : cutSt c l (i + 1) = cutSt c l i := by rw [cutSt, if_neg hb]
      rw [e, hd, cutL_miss hb, prep_prep]
      congr 2
      have : i + 1 - (cutSt c l i).2 = (i - (cutSt c l i).2) + 1 := by omega
      rw [this, List.take_add_one, List.getElem?_drop, show (cutSt c l i).2 + (i - (cutSt c l i).2) = i by omega, List.getElem?_eq_getElem (by omega), List.getD_eq_getElem?_getD, List.getElem?_eq_getElem (by omega)]
      rfl
/-- at the end -/
theorem cutSt_end (c : UInt8) (l : List UInt8) : cutL c l = (cutSt c l l.length).1 ++ [l.drop (cutSt c l l.length).2] := by
  have h := cutSt_inv c l l.length (Nat.le_refl _)
  rw [List.drop_length] at h
  rw [h, List.take_of_length_le (by simp)]
  simp [cutL, prep]
/-- the library's pieces -/
theorem splitK_cut (c : UInt8) : ∀ (l : List UInt8) (k : Nat), l.count c ≤ k → splitK [c] 0 k l = cutL c l
  | [], k, _ => by
    cases k with
    | zero => rfl
    | succ k => simp [splitK, index, cutL]
  | b :: l, k, h => by
    by_cases hb : b = c
    · subst hb
      rw [List.count_cons_self] at h
      obtain ⟨k', rfl⟩ : ∃ k', k = k' + 1 := ⟨k - 1, by omega⟩
      have hi : index (b :: l) [b] = 0 := by simp [index]
      rw [splitK, hi, cutL_hit, ← splitK_cut b l k' (by omega)]
      simp
    · rw [List.count_cons_of_ne hb] at h
      have ih := splitK_cut c l k h
      rw [cutL_miss hb, ← ih]
      cases k with
      | zero => simp [splitK, prep]
      | succ k =>
        have hi : index (b :: l) [c] = if index l [c] == -1 then -1 else index l [c] + 1 := by
          rw [index, if_neg (by simp [List.isPrefixOf]; exact fun e => hb e.symm)]
        unfold splitK
        rw [hi]
        by_cases hm : index l [c] = -1
        · simp [hm, prep]
        · have hge := index_ge l [c]
          obtain ⟨n, hn⟩ := Int.eq_ofNat_of_zero_le (show 0 ≤ index l [c] by omega)
          rw [hn]
          have h1 : ((n : Int) == -1) = false := by simp
          have h2 : ((n : Int) + 1 == -1) = false := by
            have : ¬ (n : Int) + 1 = -1 := by omega
            simpa using this
          have h3 : ((n : Int) + 1).toNat = n + 1 := by omega
          rw [h1]
          simp only [Bool.false_eq_true, if_false]
          rw [h2, h3]
          simp [prep]
/-- the pieces as texts -/
def pieces (s : ByteArray) (c : UInt8) : List ByteArray := (cutL c s.data.toList).map fun x => ⟨x.toArray⟩
theorem bytes_self (b : ByteArray) : (⟨b.data.toList.toArray⟩ : ByteArray) = b := by cases b; simp
theorem splitB_pieces (s : ByteArray) (c : UInt8) : splitB ⟨#[c]⟩ 0 (countB s ⟨#[c]⟩) s = pieces s c := by
  have h := splitB_data ⟨#[c]⟩ 0 (countB s ⟨#[c]⟩) s
  have hc : countB s ⟨#[c]⟩ = s.data.toList.count c := count_one c _
  have h2 : (splitB ⟨#[c]⟩ 0 (countB s ⟨#[c]⟩) s).map (·.data.toList) = cutL c s.data.toList := by
    rw [h]
    exact splitK_cut c _ _ (by rw [hc]; exact Nat.le_refl _)
  unfold pieces
  rw [← h2, List.map_map]
  have : ((fun x : List UInt8 => (⟨x.toArray⟩ : ByteArray)) ∘ fun b : ByteArray => b.data.toList) = id := by
    funext b; exact bytes_self b
  rw [this, List.map_id]
theorem pieces_len (s : ByteArray) (c : UInt8) : (pieces s c).length = countB s ⟨#[c]⟩ + 1 := by
  have h1 : (pieces s c).length = (cutL c s.data.toList).length := by simp [pieces]
  have h2 : ∀ l : List UInt8, (cutL c l).length = l.count c + 1 := by
    intro l
    induction l with
    | nil => rfl
    | cons b l ih =>
      by_cases hb : b = c
      · subst hb; rw [cutL_hit, List.length_cons, ih, List.count_cons_self]
      · rw [cutL_miss hb, List.count_cons_of_ne hb, ← ih]
        cases h : cutL c l with
        | nil => exact absurd h (cutL_ne c l)
        | cons q qs => rfl
  rw [h1, h2, show countB s ⟨#[c]⟩ = s.data.toList.count c from count_one c _]
/-- the piece from a up to b -/
theorem extract_piece (s : ByteArray) (a b : Nat) : s.extract a b = ⟨((s.data.toList.drop a).take (b - a)).toArray⟩ := by
  rw [← bytes_self (s.extract a b), extract_data]
end Go.Fl
