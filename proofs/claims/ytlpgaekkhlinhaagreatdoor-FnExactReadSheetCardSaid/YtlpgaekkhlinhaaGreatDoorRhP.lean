/- The plain law of a sheet's two texts. -/
import Derived.Test.YtlpgaekkhlinhaaGreatDoorRhS
import Derived.Test.YtlpgaekkhlinhaaGreatDoorRhG
namespace Go.Fl
open Go.RowKit
/-- the spots that numbers tell, three by three -/
def spotsOf (xs : List Nat) (m : Nat) : List Sp := (List.range m).map fun i => (xs.getD (3 * i) 0, xs.getD (3 * i + 1) 0, xs.getD (3 * i + 2) 0)
theorem spotsOf_len (xs : List Nat) (m : Nat) : (spotsOf xs m).length = m := by simp [spotsOf]
theorem spotsOf_succ (xs : List Nat) (m : Nat) : spotsOf xs (m + 1) = spotsOf xs m ++ [(xs.getD (3 * m) 0, xs.getD (3 * m + 1) 0, xs.getD (3 * m + 2) 0)] := by simp [spotsOf, List.range_succ]
/-- the sheet that a text tells -/
def RdSheet (s : List UInt8) (a l : Int) (ps : List Sp) : Prop := ∃ (p q : ByteArray) (xs : List Nat) (m : Nat), cutL 59 s = [p.data.toList, q.data.toList] ∧ RdInts p [a, l] ∧ Reads hex1 Own1 q.data.toList xs ∧ xs.length = 3 * m ∧ ps = spotsOf xs m ∧ okSh a l ps = true
theorem data_ext {p q : ByteArray} (h : p.data.toList = q.data.toList) : p = q := by
  obtain ⟨⟨a⟩⟩ := p
  obtain ⟨⟨b⟩⟩ := q
  cases h
  rfl
theorem RdSheet.unique {s : List UInt8} {a l c d : Int} {ps qs : List Sp} (h : RdSheet s a l ps) (k : RdSheet s c d qs) : a = c ∧ l = d ∧ ps = qs := by
  obtain ⟨p, q, xs, m, h1, h2, h3, h4, h5, _⟩ := h
  obtain ⟨p', q', us, m', k1, k2, k3, k4, k5, _⟩ := k
  rw [h1] at k1
  simp only [List.cons.injEq, and_true] at k1
  obtain rfl := data_ext k1.1
  obtain rfl := data_ext k1.2
  obtain rfl := h3.unique texts1 k3
  have e := h2.unique k2
  simp only [List.cons.injEq, and_true] at e
  obtain rfl : m = m' := by omega
  exact ⟨e.1, e.2, h5.trans k5.symm⟩
/-- what the reading of a sheet returns -/
structure RetS (s : List UInt8) (w0 : World) (e : Ending) (w' : World) : Prop where
  yes : ∀ a l ps, RdSheet s a l ps → ∃ b c, e = .returned (.tuple #[.agg #[.int .i64 a, .int .i64 l, .slice (some ⟨b, 0, none⟩) ps.length c], .bool true]) ∧ OwnP1 w' b ps ∧ w0.heap.size ≤ b
  no : (∀ a l ps, ¬ RdSheet s a l ps) → e = .returned (.tuple #[.agg #[.int .i64 0, .int .i64 0, .slice none 0 0], .bool false])
  below : Below w0.heap.size w0 w'
end Go.Fl
