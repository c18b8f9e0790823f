/- Bytes of a text, their check; an outline's bytes: plain Lean; and the contracts of the two checks. -/
import Derived.Test.YtkbikfifnaihlaaChecked
import Derived.Test.YtkbikfifnaihlaaMem
import Derived.Test.YtkbikfifnaihlaaRow
import Derived.IntWalk
import Derived.Below
import Derived.Lib.UnsafeStr
namespace Go.Fl
open Go.RowKit
/-- the byte at a place -/
def bN (s : ByteArray) (i : Nat) : Nat := if h : i < s.size then s[i].toNat else 0
theorem bN_lt {s : ByteArray} {i : Nat} (h : i < s.size) : bN s i = s[i].toNat := dif_pos h
theorem bN_le (s : ByteArray) (i : Nat) : bN s i ≤ 255 := by
  unfold bN
  split
  · rename_i h
    have := s[i].toNat_lt
    omega
  · omega
/-- the check of the first k bytes -/
def chN (n : Int) (s : ByteArray) : Nat → Int
  | 0 => n
  | k + 1 => (859 * chN n s k + (bN s k : Int) + 151) % 65003
theorem chN_range (n : Int) (s : ByteArray) (h0 : 0 ≤ n) (h1 : n < 65003) : ∀ k, 0 ≤ chN n s k ∧ chN n s k < 65003
  | 0 => ⟨h0, h1⟩
  | k + 1 => by unfold chN; omega
/-- a complex number: the bits of its two parts -/
abbrev Cx := Nat × Nat
/-- a number of 32 bits, the least byte first -/
def le4 (x : Nat) : List UInt8 := [UInt8.ofNat x, UInt8.ofNat (x / 256), UInt8.ofNat (x / 65536), UInt8.ofNat (x / 16777216)]
def word (x : Nat) : List UInt8 := le4 (can .f32 x)
/-- a loop's bytes, those of the first k points -/
def ptB (l : List Cx) : Nat → List UInt8
  | 0 => []
  | k + 1 => ptB l k ++ (word (l.getD k (0, 0)).1 ++ word (l.getD k (0, 0)).2)
def lpAt (ls : List (List Cx)) (i : Nat) : List Cx := ls.getD i []
/-- the bytes of the first k loops -/
def lpB (ls : List (List Cx)) : Nat → List UInt8
  | 0 => []
  | k + 1 => lpB ls k ++ (UInt8.ofNat (lpAt ls k).length :: ptB (lpAt ls k) (lpAt ls k).length)
/-- an outline's bytes ahead of the check -/
def preB (nm : ByteArray) (ls : List (List Cx)) : List UInt8 :=
  [79, 85, 84, 49] ++ [UInt8.ofNat nm.size] ++ nm.data.toList ++ [UInt8.ofNat ls.length] ++ lpB ls ls.length
def chkB (l : List UInt8) : Int := chN 0 ⟨l.toArray⟩ l.length
/-- an outline's bytes -/
def stoB (nm : ByteArray) (ls : List (List Cx)) : List UInt8 :=
  preB nm ls ++ [UInt8.ofNat (chkB (preB nm ls)).toNat, UInt8.ofNat ((chkB (preB nm ls)).toNat / 256)]
/-- letters a to z -/
def lowS (s : ByteArray) (k : Nat) : Prop := ∀ i, i < k → 97 ≤ bN s i ∧ bN s i ≤ 122
def okName (s : ByteArray) : Prop := lowS s s.size ∧ 1 ≤ s.size ∧ s.size ≤ 8
def okPt (z : Cx) : Bool := fin (can .f32 z.1) && fin (can .f32 z.2)
def okLoop (l : List Cx) : Bool := decide (3 ≤ l.length) && decide (l.length ≤ 64) && l.all okPt
def okOut (nm : ByteArray) (ls : List (List Cx)) : Prop := okName nm ∧ 1 ≤ ls.length ∧ ls.length ≤ 4 ∧ ls.all okLoop = true
/-- where the parts lie -/
def pName (s : ByteArray) : Nat := bN s 4
def pLoops (s : ByteArray) : Nat := bN s (5 + pName s)
def qAt (s : ByteArray) : Nat → Nat
  | 0 => 6 + pName s
  | i + 1 => qAt s i + 1 + 8 * bN s (qAt s i)
def pFits (s : ByteArray) (i : Nat) : Prop := qAt s i + 1 + 8 * bN s (qAt s i) ≤ s.size
/-- all parts are there -/
def POk (s : ByteArray) : Prop := 6 + pName s ≤ s.size ∧ (∀ i, i < pLoops s → pFits s i) ∧ qAt s (pLoops s) + 2 ≤ s.size
def w32 (s : ByteArray) (p : Nat) : Nat := bN s p + 256 * bN s (p + 1) + 65536 * bN s (p + 2) + 16777216 * bN s (p + 3)
theorem w32_lt (s : ByteArray) (p : Nat) : w32 s p < 4294967296 := by
  have h0 := bN_le s p
  have h1 := bN_le s (p + 1)
  have h2 := bN_le s (p + 2)
  have h3 := bN_le s (p + 3)
  unfold w32; omega
/-- the first k points of loop i -/
def pPts (s : ByteArray) (i k : Nat) : List Cx := (List.range k).map fun j => (w32 s (qAt s i + 1 + 8 * j), w32 s (qAt s i + 1 + 8 * j + 4))
/-- the first k loops -/
def pLps (s : ByteArray) (k : Nat) : List (List Cx) := (List.range k).map fun i => pPts s i (bN s (qAt s i))
def pNm (s : ByteArray) : ByteArray := s.extract 5 (5 + pName s)
theorem pPts_succ (s : ByteArray) (i k : Nat) : pPts s i (k + 1) = pPts s i k ++ [(w32 s (qAt s i + 1 + 8 * k), w32 s (qAt s i + 1 + 8 * k + 4))] := by simp [pPts, List.range_succ]
theorem pPts_len (s : ByteArray) (i k : Nat) : (pPts s i k).length = k := by simp [pPts]
theorem pLps_succ (s : ByteArray) (k : Nat) : pLps s (k + 1) = pLps s k ++ [pPts s k (bN s (qAt s k))] := by simp [pLps, List.range_succ]
theorem pLps_len (s : ByteArray) (k : Nat) : (pLps s k).length = k := by simp [pLps]
theorem qAt_mono (s : ByteArray) {i j : Nat} (h : i ≤ j) : qAt s i ≤ qAt s j := by
  induction j with
  | zero => have : i = 0 := by omega
            subst this; exact Nat.le_refl _
  | succ j ih =>
    rcases Nat.lt_or_ge i (j + 1) with h1 | h1
    · have := ih (by omega)
      simp only [qAt]; omega
    · have : i = j + 1 := by omega
      subst this; exact Nat.le_refl _
/-- an outline stands at the beginning of s -/
def Rd (s : ByteArray) : Prop := POk s ∧ okOut (pNm s) (pLps s (pLoops s)) ∧ (⟨(stoB (pNm s) (pLps s (pLoops s))).toArray⟩ : ByteArray) = s.extract 0 (qAt s (pLoops s) + 2)
/-- what is read at the beginning of s -/
def RdJ (s : ByteArray) (nm : ByteArray) (ls : List (List Cx)) (n : Nat) : Prop :=
  (Rd s ∧ nm = pNm s ∧ ls = pLps s (pLoops s) ∧ n = qAt s (pLoops s) + 2) ∨ (¬ Rd s ∧ nm = ⟨#[]⟩ ∧ ls = [] ∧ n = 0)
theorem RdJ.unique {s nm nm' : ByteArray} {ls ls' : List (List Cx)} {n n' : Nat} (h : RdJ s nm ls n) (h' : RdJ s nm' ls' n') : nm' = nm ∧ ls' = ls ∧ n' = n := by
  rcases h with ⟨h1, rfl, rfl, rfl⟩ | ⟨h1, rfl, rfl, rfl⟩ <;> rcases h' with ⟨k1, rfl, rfl, rfl⟩ | ⟨k1, rfl, rfl, rfl⟩
  · exact ⟨rfl, rfl, rfl⟩
  · exact absurd h1 k1
  · exact absurd k1 h1
  · exact ⟨rfl, rfl, rfl⟩
end Go.Fl
namespace Go.Proofs.Ytkbikfifnaihlaa
open Go.RowKit Go.Fl

end Go.Proofs.Ytkbikfifnaihlaa
