/- SpeedPlan, the reference's. -/
import Derived.Test.YtfpkdnopbnppmaaSpA
namespace Go.Fl
open Go.RowKit
/-- what both return -/
def RetS (ok : Prop) (V : List Nat) (S : Nat) (w : World) (e : Ending) (w' : World) : Prop :=
  ((ok ∧ ∃ b c s, e = .returned (.tuple #[.slice (some ⟨b, 0, none⟩) V.length c, .float .f32 s, .bool true]) ∧ F32 s S ∧ w.heap.size ≤ b ∧ b < w'.heap.size ∧ OwnF1 w' b V) ∨
    (¬ ok ∧ e = .returned (.tuple #[.slice none 0 0, .float .f32 0, .bool false]))) ∧ Below w.heap.size w w'
theorem take_all {α : Type} {p : α → Bool} {l : List α} {k : Nat} (d : α) (hk : k < l.length) (h : (l.take k).all p = true) (hp : p (l.getD k d) = true) : (l.take (k + 1)).all p = true := by
  rw [List.getD_eq_getElem?_getD, List.getElem?_eq_getElem hk] at hp
  rw [List.take_succ_eq_append_getElem hk, List.all_append, h]; simpa using hp
theorem all_fails {α : Type} {p : α → Bool} {l : List α} {k : Nat} (d : α) (hk : k < l.length) (hp : p (l.getD k d) = false) : l.all p = false := by
  rw [List.getD_eq_getElem?_getD, List.getElem?_eq_getElem hk] at hp
  exact List.all_eq_false.2 ⟨l[k], List.getElem_mem hk, by rw [show l[k] = (some l[k]).getD d from rfl, hp]; decide⟩
/-- the bits of what the reference begins with, after k pieces of n -/
def spB (mb n k : Nat) : List Nat := 0 :: (List.replicate (min k (n - 1)) mb ++ List.replicate (k - (n - 1)) 0)
theorem spB_zero (mb n : Nat) (h : 1 ≤ n) : spB mb n 0 = [0] := by simp [spB]
theorem spB_mid (mb n k : Nat) (h : k + 1 < n) : spB mb n (k + 1) = spB mb n k ++ [mb] := by
  unfold spB
  rw [show min (k + 1) (n - 1) = min k (n - 1) + 1 by omega, show k + 1 - (n - 1) = 0 by omega, show k - (n - 1) = 0 by omega, List.replicate_succ']
  simp
theorem spB_last (mb n k : Nat) (h : k + 1 = n) : spB mb n (k + 1) = spB mb n k ++ [0] := by
  unfold spB
  rw [show min (k + 1) (n - 1) = min k (n - 1) by omega, show k + 1 - (n - 1) = 1 by omega, show k - (n - 1) = 0 by omega]
  simp
theorem spB_len (mb n k : Nat) : (spB mb n k).length = k + 1 := by simp only [spB, List.length_cons, List.length_append, List.length_replicate]; omega
theorem spB_end (mb n : Nat) (h : 1 ≤ n) : spB mb n n = 0 :: (List.replicate (n - 1) mb ++ [0]) := by
  unfold spB
  rw [show min n (n - 1) = n - 1 by omega, show n - (n - 1) = 1 by omega]
  rfl
theorem can_l2N : nanB .f32 1073741824 = false := by decide +kernel
theorem zero_can : can .f32 0 = 0 := by decide +kernel
theorem RowV.ofBits {w : World} {T : TypeId} {b cap n : Nat} {bs V : List Nat} (h : ORow w T 1 b cap n (bs.map (Value.float .f32))) (hn : n = bs.length) (hV : bs.map (can .f32) = V) : RowV w b V := by
  subst hn hV
  refine ⟨by have := h.room; rw [Nat.mul_one] at this; rw [List.length_map]; exact this, fun i hi => ?_⟩
  rw [List.length_map] at hi
  refine ⟨bs[i], ?_, ?_⟩
  · rw [h.cell i (by omega), List.getElem?_map, List.getElem?_eq_getElem hi]; rfl
  · show can .f32 bs[i] = nF (bs.map (can .f32)) i
    simp [nF, hi]
theorem spV0_of (mb n : Nat) (h : 1 ≤ n) : (spB mb n n).map (can .f32) = spV0 n (can .f32 mb) := by
  rw [spB_end mb n h]
  simp [spV0, zero_can]
end Go.Fl
namespace Go.Proofs.Ytfpkdnopbnppmaa
open Go.RowKit Go.Fl
end Go.Proofs.Ytfpkdnopbnppmaa
