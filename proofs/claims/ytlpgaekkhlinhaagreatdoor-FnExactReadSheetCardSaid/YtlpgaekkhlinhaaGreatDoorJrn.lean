/- The journal of lines: plain Lean, no program. -/
import Derived.Test.YtlpgaekkhlinhaaGreatDoorStr0
import Derived.Lib.ItoaNum
import Derived.Lib.IndexLaws
namespace Go.Fl
/-- the byte at a place -/
def bAt (s : ByteArray) (i : Nat) : Int := if h : i < s.size then (s[i].toNat : Int) else 0
theorem bAt_lt {s : ByteArray} {i : Nat} (h : i < s.size) : bAt s i = (s[i].toNat : Int) := dif_pos h
theorem bAt_range (s : ByteArray) (i : Nat) : 0 ≤ bAt s i ∧ bAt s i ≤ 255 := by
  unfold bAt
  split
  · rename_i h
    have := s[i].toNat_lt
    omega
  · omega
/-- the check of the first k bytes -/
def chJ (n : Int) (s : ByteArray) : Nat → Int
  | 0 => n
  | k + 1 => (859 * chJ n s k + bAt s k + 151) % 65003
theorem chJ_range (n : Int) (s : ByteArray) (h0 : 0 ≤ n) (h1 : n < 65003) : ∀ k, 0 ≤ chJ n s k ∧ chJ n s k < 65003
  | 0 => ⟨h0, h1⟩
  | k + 1 => by unfold chJ; omega
/-- the check behind the first k lines, and the journal of them -/
def jch (ps : List ByteArray) : Nat → Int
  | 0 => 0
  | k + 1 => chJ (jch ps k) (sAt ps k) (sAt ps k).size
theorem jch_range (ps : List ByteArray) : ∀ k, 0 ≤ jch ps k ∧ jch ps k < 65003
  | 0 => by unfold jch; omega
  | k + 1 => chJ_range _ _ (jch_range ps k).1 (jch_range ps k).2 _
def jtx (ps : List ByteArray) : Nat → List UInt8
  | 0 => []
  | k + 1 => jtx ps k ++ (Lib.itoa (jch ps (k + 1)) ++ [32] ++ (sAt ps k).data.toList ++ [10])
theorem itoa_len {n : Int} (h0 : 0 ≤ n) (h1 : n < 65003) : 1 ≤ (Lib.itoa n).length ∧ (Lib.itoa n).length ≤ 5 := by
  unfold Lib.itoa
  rw [if_neg (by omega), Lib.decDigits_length]
  refine ⟨Lib.nDigits_pos _, ?_⟩
  have e : ∀ u, Lib.nDigits u = if u < 10 then 1 else Lib.nDigits (u / 10) + 1 := fun u => by rw [Lib.nDigits]; split <;> rfl
  generalize hn : n.toNat = u
  have hu : u < 65003 := by omega
  rw [e]; split
  · omega
  rw [e]; split
  · omega
  rw [e]; split
  · omega
  rw [e]; split
  · omega
  rw [e]; split
  · omega
  · omega
theorem jtx_len (ps : List ByteArray) (k : Nat) : (jtx ps k).length + (Lib.itoa (jch ps (k + 1))).length + (sAt ps k).size + 2 = (jtx ps (k + 1)).length := by
  have : (sAt ps k).data.toList.length = (sAt ps k).size := by simp
  simp [jtx]; omega
theorem jtx_ge (ps : List ByteArray) : ∀ k, lens ps k + 3 * k ≤ (jtx ps k).length
  | 0 => by simp [lens]
  | k + 1 => by
    have h1 := jtx_ge ps k
    have h2 := jtx_len ps k
    have h3 := itoa_len (jch_range ps (k + 1)).1 (jch_range ps (k + 1)).2
    simp only [lens]; omega
theorem jtx_le (ps : List ByteArray) : ∀ k, (jtx ps k).length ≤ lens ps k + 7 * k
  | 0 => by simp [lens, jtx]
  | k + 1 => by
    have h1 := jtx_le ps k
    have h2 := jtx_len ps k
    have h3 := itoa_len (jch_range ps (k + 1)).1 (jch_range ps (k + 1)).2
    simp only [lens]; omega
/-- a journal is no shorter than this -/
def tot (ps : List ByteArray) (k : Nat) : Nat := lens ps k + 3 * k
theorem tot_succ (ps : List ByteArray) (k : Nat) : tot ps (k + 1) = tot ps k + ((sAt ps k).size + 3) := by simp only [tot, lens]; omega
theorem tot_le (ps : List ByteArray) (k : Nat) : tot ps k ≤ (jtx ps k).length := jtx_ge ps k
theorem lens_mono (ps : List ByteArray) {j k : Nat} (h : j ≤ k) : lens ps j ≤ lens ps k := by
  induction k with
  | zero => have : j = 0 := by omega
            subst this; exact Nat.le_refl _
  | succ k ih =>
    rcases Nat.lt_or_ge j (k + 1) with h1 | h1
    · have := ih (by omega)
      simp only [lens]; omega
    · have : j = k + 1 := by omega
      subst this; exact Nat.le_refl _
theorem jtx_mono (ps : List ByteArray) {j k : Nat} (h : j ≤ k) : (jtx ps j).length ≤ (jtx ps k).length := by
  induction k with
  | zero => have : j = 0 := by omega
            subst this; exact Nat.le_refl _
  | succ k ih =>
    rcases Nat.lt_or_ge j (k + 1) with h1 | h1
    · have := ih (by omega)
      have := jtx_len ps k
      omega
    · have : j = k + 1 := by omega
      subst this; exact Nat.le_refl _
/-- no byte of the first k is a newline -/
def Plain (s : ByteArray) (k : Nat) : Prop := ∀ i, i < k → bAt s i ≠ 10
/-- the first k lines hold no newline -/
def Plains (ps : List ByteArray) (k : Nat) : Prop := ∀ i, i < k → Plain (sAt ps i) (sAt ps i).size
/-- lines that have a journal -/
def OkJ (ps : List ByteArray) : Prop := Plains ps ps.length ∧ (jtx ps ps.length).length ≤ 16000
theorem Plain.succ {s : ByteArray} {k : Nat} (h : Plain s k) (hk : bAt s k ≠ 10) : Plain s (k + 1) := fun i hi => by
  rcases Nat.lt_succ_iff_lt_or_eq.1 hi with h1 | rfl
  · exact h i h1
  · exact hk
theorem Plains.succ {ps : List ByteArray} {k : Nat} (h : Plains ps k) (hk : Plain (sAt ps k) (sAt ps k).size) : Plains ps (k + 1) := fun i hi => by
  rcases Nat.lt_succ_iff_lt_or_eq.1 hi with h1 | rfl
  · exact h i h1
  · exact hk
theorem plain_iff (s : ByteArray) : Plain s s.size ↔ Lib.indexByte s.data.toList 10 < 0 := by
  have hge := Lib.indexByte_ge s.data.toList 10
  constructor
  · intro h
    by_cases h1 : Lib.indexByte s.data.toList 10 < 0
    · exact h1
    · obtain ⟨o, ho⟩ := Int.eq_ofNat_of_zero_le (Int.not_lt.1 h1)
      have := (Lib.indexByte_some ho).1
      obtain ⟨hl, he⟩ := List.getElem?_eq_some_iff.1 this
      have hl' : o < s.size := by simpa using hl
      refine absurd ?_ (h o hl')
      rw [bAt_lt hl']
      have : s[o] = 10 := by simpa [ByteArray.getElem_eq_getElem_data] using he
      rw [this]; rfl
  · intro h i hi e
    have h1 : Lib.indexByte s.data.toList 10 = -1 := by omega
    rw [bAt_lt hi] at e
    have h2 : s[i] = 10 := UInt8.toNat_inj.1 (by have : (10 : UInt8).toNat = 10 := rfl
                                                 omega)
    refine Lib.indexByte_none h1 i ?_
    rw [List.getElem?_eq_getElem (by simpa using hi)]
    exact congrArg some h2
end Go.Fl
