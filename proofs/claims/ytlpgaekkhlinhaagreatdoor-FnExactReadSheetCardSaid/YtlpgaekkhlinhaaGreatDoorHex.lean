/- Hexadecimal digits, texts of lists: plain Lean, no program. -/
import Derived.Test.YtlpgaekkhlinhaaGreatDoorMem
import Derived.Lib.Join
namespace Go.Fl
/-- a hexadecimal digit -/
def hexD (n : Nat) : UInt8 := if n < 10 then UInt8.ofNat (48 + n) else UInt8.ofNat (87 + n)
/-- the k lowest hexadecimal digits -/
def hexK (n : Nat) : Nat → List UInt8
  | 0 => []
  | k + 1 => hexK (n / 16) k ++ [hexD (n % 16)]
/-- the hexadecimal digits, no more than are needed -/
def hexM (n : Nat) : List UInt8 := if n < 16 then [hexD n] else hexM (n / 16) ++ [hexD (n % 16)]
theorem hexM_small {n : Nat} (h : n < 16) : hexM n = [hexD n] := by rw [hexM, if_pos h]
theorem hexM_big {n : Nat} (h : ¬ n < 16) : hexM n = hexM (n / 16) ++ [hexD (n % 16)] := by rw [hexM, if_neg h]
theorem hexK_length (n k : Nat) : (hexK n k).length = k := by
  induction k generalizing n with
  | zero => rfl
  | succ k ih => simp [hexK, ih]
theorem hexK_zero (k : Nat) : hexK 0 k = List.replicate k 48 := by
  induction k with
  | zero => rfl
  | succ k ih => rw [hexK, Nat.zero_div, ih, List.replicate_succ']; rfl
theorem hexM_pos (n : Nat) : 1 ≤ (hexM n).length := by
  rw [hexM]; split <;> simp
theorem hexM_pad (k n : Nat) (h : n < 16 ^ (k + 1)) : (hexM n).length ≤ k + 1 ∧ List.replicate (k + 1 - (hexM n).length) 48 ++ hexM n = hexK n (k + 1) := by
  induction k generalizing n with
  | zero =>
    have h1 : n < 16 := by simpa using h
    rw [hexM_small h1]
    refine ⟨by simp, ?_⟩
    simp [hexK, Nat.mod_eq_of_lt h1]
  | succ k ih =>
    by_cases h1 : n < 16
    · rw [hexM_small h1]
      refine ⟨by simp, ?_⟩
      rw [hexK, Nat.div_eq_of_lt h1, hexK_zero, Nat.mod_eq_of_lt h1]
      simp
    · obtain ⟨h2, h3⟩ := ih (n / 16) (by rw [Nat.div_lt_iff_lt_mul (by omega), ← Nat.pow_succ]; exact h)
      rw [hexM_big h1]
      refine ⟨by simp; omega, ?_⟩
      rw [hexK, ← h3, List.length_append, ← List.append_assoc]
      simp only [List.length_cons, List.length_nil]
      congr 2
      rw [show k + 1 + 1 - ((hexM (n / 16)).length + (0 + 1)) = k + 1 - (hexM (n / 16)).length by omega]
/-- a text of a list: its members with commas between them, 'none' of none -/
def textL (l : List (List UInt8)) : List UInt8 := if l = [] then [110, 111, 110, 101] else Lib.join l [44]
theorem textL_nil : textL [] = [110, 111, 110, 101] := rfl
theorem textL_one (x : List UInt8) : textL [x] = x := by rw [textL, if_neg (by simp), Lib.join_one]
theorem textL_snoc (l : List (List UInt8)) (y : List UInt8) (h : l ≠ []) : textL (l ++ [y]) = textL l ++ [44] ++ y := by
  rw [textL, textL, if_neg h, if_neg (by simp)]
  cases l with
  | nil => exact absurd rfl h
  | cons x r =>
    rw [List.cons_append, Lib.join_cons, Lib.join_cons]
    simp [Lib.joinTail]
/-- the text of numbers -/
def numT (xs : List Nat) : List UInt8 := textL (xs.map fun x => hexK x 8)
theorem numT_take {xs : List Nat} {k : Nat} (h : k < xs.length) (h0 : 0 < k) : numT (xs.take (k + 1)) = numT (xs.take k) ++ [44] ++ hexK xs[k] 8 := by
  have h1 : xs.take (k + 1) = xs.take k ++ [xs[k]] := List.take_succ_eq_append_getElem h
  rw [numT, numT, h1, List.map_append, List.map_cons, List.map_nil, textL_snoc]
  intro e
  have := congrArg List.length e
  rw [List.length_map, List.length_take, List.length_nil] at this
  omega
theorem join_len8 (xs : List (List UInt8)) (m : Nat) (h : ∀ x ∈ xs, x.length ≤ m) : (Lib.join xs [44]).length ≤ (m + 1) * xs.length := by
  cases xs with
  | nil => simp [Lib.join_nil]
  | cons x r =>
    rw [Lib.join_cons, List.length_append, Lib.joinTail_length]
    have h1 : x.length ≤ m := h x (by simp)
    have h2 : ∀ l : List (List UInt8), (∀ x ∈ l, x.length ≤ m) → Lib.lens l ≤ m * l.length := by
      intro l
      induction l with
      | nil => intro _; simp [Lib.lens]
      | cons y l ih =>
        intro hl
        have := ih fun z hz => hl z (by simp [hz])
        have := hl y (by simp)
        simp only [Lib.lens, List.map_cons, List.sum_cons, List.length_cons, Nat.mul_succ] at *
        omega
    have := h2 r fun z hz => h z (by simp [hz])
    have e : (m + 1) * (x :: r).length = m * r.length + r.length + (m + 1) := by rw [List.length_cons, Nat.mul_succ, Nat.succ_mul]
    rw [e]
    simp only [List.length_cons, List.length_nil]
    omega
theorem textL_len (l : List (List UInt8)) (m : Nat) (h : ∀ x ∈ l, x.length ≤ m) : (textL l).length ≤ (m + 1) * l.length + 4 := by
  rw [textL]
  split
  · simp
  · have := join_len8 l m h; omega
theorem numT_len (xs : List Nat) : (numT xs).length ≤ 9 * xs.length + 4 := by
  have := textL_len (xs.map fun x => hexK x 8) 8 (fun x hx => by
    obtain ⟨y, _, rfl⟩ := List.mem_map.1 hx
    rw [hexK_length]; exact Nat.le_refl _)
  rw [List.length_map] at this
  exact this
end Go.Fl
