/- The plain law of a spline's three texts. (Written by mkrpr.py.) -/
import Derived.Test.YtlpgaekkhlinhaaGreatDoorRcT
import Derived.Test.YtlpgaekkhlinhaaGreatDoorRpK
namespace Go.Fl
open Go.RowKit
theorem three_list {α : Type} (L : List α) (h : L.length = 3) : L = [L[0], L[1], L[2]] := by
  match L, h with
  | [p, q, r], _ => rfl
theorem cut3 (s : ByteArray) (h : (pieces s 59).length = 3) : cutL 59 s.data.toList = [(sAt (pieces s 59) 0).data.toList, (sAt (pieces s 59) 1).data.toList, (sAt (pieces s 59) 2).data.toList] := by
  rw [piece_data s 59 (by omega), piece_data s 59 (by omega), piece_data s 59 (by omega)]
  have hl : (cutL 59 s.data.toList).length = 3 := by rw [← pieces_cut_len]; exact h
  exact three_list _ hl
theorem size3 (s : ByteArray) (hs : s.size ≤ 1048576) (h : (pieces s 59).length = 3) : (sAt (pieces s 59) 0).size ≤ 1048576 ∧ (sAt (pieces s 59) 1).size ≤ 1048576 ∧ (sAt (pieces s 59) 2).size ≤ 1048576 := by
  have hj := join_cutL 59 s.data.toList
  rw [cut3 s h, join_cons2, join_cons2, Lib.join_one] at hj
  have := congrArg List.length hj
  simp only [List.length_append, size_list] at this
  omega
theorem RdSpline.parts {s : List UInt8} {d : Int} {xs : List Nat} {zs : List Cx} {o p q : List UInt8} (h : RdSpline s d xs zs) (hc : cutL 59 s = [o, p, q]) : RdInt o d ∧ Reads hex1 Own1 p xs ∧ Reads hex2 Own2 q zs ∧ SplY d xs zs := by
  obtain ⟨o', p', q', h1, h2, h3, h4, h5⟩ := h
  rw [hc] at h1
  simp only [List.cons.injEq, and_true] at h1
  obtain ⟨rfl, rfl, rfl⟩ := h1
  exact ⟨h2, h3, h4, h5⟩
theorem RetI.split {l : List UInt8} {w0 w' : World} {e : Ending} (h : RetI l w0 e w') : ∃ (n : Int) (B : Bool), e = .returned (.tuple #[.int .i64 n, .bool B]) ∧ (B = true → RdInt l n) ∧ (B = false → ∀ n, ¬ RdInt l n) ∧ Below w0.heap.size w0 w' := by
  by_cases k : ∃ n, RdInt l n
  · obtain ⟨n, k⟩ := k
    exact ⟨n, true, h.1 n k, fun _ => k, fun h => absurd h (by decide), h.2.2⟩
  · have k' : ∀ n, ¬ RdInt l n := fun n h => k ⟨n, h⟩
    exact ⟨0, false, h.2.1 k', fun h => absurd h (by decide), fun _ => k', h.2.2⟩
theorem splitN {s : List UInt8} {w0 w' : World} {e : Ending} {T : TypeId} (hy : ∀ xs, Reads hex1 Own1 s xs → ∃ b cap, e = .returned (.tuple #[.slice (some ⟨b, 0, none⟩) xs.length cap, .bool true]) ∧ ORow w' T 1 b cap xs.length (xs.map (Value.float .f32)) ∧ w0.heap.size ≤ b)
    (hn : (∀ xs, ¬ Reads hex1 Own1 s xs) → e = .returned (.tuple #[.slice none 0 0, .bool false])) : ∃ (v : Value) (B : Bool), e = .returned (.tuple #[v, .bool B]) ∧ v.oneCell' = true ∧
      (B = true → ∃ xs b cap, Reads hex1 Own1 s xs ∧ v = .slice (some ⟨b, 0, none⟩) xs.length cap ∧ ORow w' T 1 b cap xs.length (xs.map (Value.float .f32)) ∧ w0.heap.size ≤ b) ∧ (B = false → ∀ xs, ¬ Reads hex1 Own1 s xs) := by
  by_cases k : ∃ xs, Reads hex1 Own1 s xs
  · obtain ⟨xs, k⟩ := k
    obtain ⟨b, cap, he, hr, hb⟩ := hy xs k
    exact ⟨_, true, he, rfl, fun _ => ⟨xs, b, cap, k, rfl, hr, hb⟩, fun h => absurd h (by decide)⟩
  · have k' : ∀ xs, ¬ Reads hex1 Own1 s xs := fun n h => k ⟨n, h⟩
    exact ⟨_, false, hn k', rfl, fun h => absurd h (by decide), fun _ => k'⟩
theorem splitC {s : List UInt8} {w0 w' : World} {e : Ending} {T : TypeId} (hy : ∀ xs, Reads hex2 Own2 s xs → ∃ b cap, e = .returned (.tuple #[.slice (some ⟨b, 0, none⟩) xs.length cap, .bool true]) ∧ ORow w' T 1 b cap xs.length (xs.map cV) ∧ w0.heap.size ≤ b)
    (hn : (∀ xs, ¬ Reads hex2 Own2 s xs) → e = .returned (.tuple #[.slice none 0 0, .bool false])) : ∃ (v : Value) (B : Bool), e = .returned (.tuple #[v, .bool B]) ∧ v.oneCell' = true ∧
      (B = true → ∃ xs b cap, Reads hex2 Own2 s xs ∧ v = .slice (some ⟨b, 0, none⟩) xs.length cap ∧ ORow w' T 1 b cap xs.length (xs.map cV) ∧ w0.heap.size ≤ b) ∧ (B = false → ∀ xs, ¬ Reads hex2 Own2 s xs) := by
  by_cases k : ∃ xs, Reads hex2 Own2 s xs
  · obtain ⟨xs, k⟩ := k
    obtain ⟨b, cap, he, hr, hb⟩ := hy xs k
    exact ⟨_, true, he, rfl, fun _ => ⟨xs, b, cap, k, rfl, hr, hb⟩, fun h => absurd h (by decide)⟩
  · have k' : ∀ xs, ¬ Reads hex2 Own2 s xs := fun n h => k ⟨n, h⟩
    exact ⟨_, false, hn k', rfl, fun h => absurd h (by decide), fun _ => k'⟩
end Go.Fl
