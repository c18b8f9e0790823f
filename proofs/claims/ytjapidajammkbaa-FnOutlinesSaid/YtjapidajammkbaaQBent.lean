/- A text as bytes of its own, of which one is turned to another: the law FnOutlines' last step. -/
import Derived.Test.YtjapidajammkbaaQAt
import Derived.Test.YtjapidajammkbaaOPlw
import Derived.Laws.IdiomStrings
namespace Go.Fl
open Go.RowKit
/-- the block g holds the bytes l, and more behind them -/
def RowB (w : World) (g : Nat) (T : TypeId) (l : List UInt8) : Prop := ∃ (ex : List Value) (fr : Nat × Nat), l.length ≤ fr.1 ∧ w.heap[g]? = some (.cells (Lib.byteCells l ++ ex).toArray T fr)
theorem RowB.far {w w' : World} {lo hi g : Nat} {T : TypeId} {l : List UInt8} (h : RowB w g T l) (hf : Far lo hi w w') (h1 : lo ≤ g) (h2 : g < hi) : RowB w' g T l := by
  obtain ⟨ex, fr, a, b⟩ := h
  exact ⟨ex, fr, a, (hf g h1 h2).trans b⟩
theorem RowB.lt {w : World} {g : Nat} {T : TypeId} {l : List UInt8} (h : RowB w g T l) : g < w.heap.size := by
  obtain ⟨_, _, _, h⟩ := h
  rcases Nat.lt_or_ge g w.heap.size with h1 | h1
  · exact h1
  · rw [Array.getElem?_eq_none h1] at h; cases h
theorem RowB.cell {w : World} {g : Nat} {T : TypeId} {l : List UInt8} (h : RowB w g T l) {i : Nat} (hi : i < l.length) : w.cell? ⟨g, i, none⟩ = some (.int .u8 (l[i].toNat : Nat)) := by
  obtain ⟨ex, fr, _, h⟩ := h
  have : (Lib.byteCells l).length = l.length := Lib.byteCells_length l
  simp only [World.cell?, h]
  simp [List.getElem?_append, this, hi, Lib.byteCells]
theorem RowB.free {w : World} {g : Nat} {T : TypeId} {l : List UInt8} (h : RowB w g T l) {i : Nat} (hi : i < l.length) : w.frozen? ⟨g, i, none⟩ = false := by
  obtain ⟨ex, fr, h1, h⟩ := h
  simp [World.frozen?, h]
  omega
theorem RowB.set {w : World} {g : Nat} {T : TypeId} {l : List UInt8} (h : RowB w g T l) {i v : Nat} (hi : i < l.length) (hv : v ≤ 255) : RowB (w.setCell ⟨g, i, none⟩ (.int .u8 (v : Nat))) g T (l.set i (UInt8.ofNat v)) := by
  have hl := h.lt
  obtain ⟨ex, fr, h1, h⟩ := h
  refine ⟨ex, fr, by simpa using h1, ?_⟩
  simp only [World.setCell, Array.getElem?_modify, if_true]
  rw [h]
  have e : Lib.byteCells (l.set i (UInt8.ofNat v)) = (Lib.byteCells l).set i (.int .u8 (v : Nat)) := by
    simp only [Lib.byteCells, List.map_set]
    rw [toNat_ofNat (by omega)]
  have hb : (Lib.byteCells l).length = l.length := Lib.byteCells_length l
  rw [e]
  simp [List.set_append, hb, hi]
theorem take_set (l : List UInt8) (i : Nat) (x : UInt8) (j : Nat) (hj : j < i) : (l.set i x)[j]? = l[j]? := by
  rw [List.getElem?_set]
  simp; omega
theorem bent_facts {os : List Ol} {S BS : ByteArray} {C k : Nat} {x : UInt8} (h8 : os.length ≤ 8) (hg : ∀ o, o ∈ os → GoodO o) (hS : S = ⟨(catB os).toArray⟩) (hk : k ≤ os.length) (hE : endAt os k ≤ C) (hB : BS = ⟨(S.data.toList.set C x).toArray⟩) :
    BS.size = S.size ∧ k ≤ (recF BS 8 0).1.length ∧ (recF BS 8 0).2 ≤ S.size ∧ (⟨(catB (recF BS 8 0).1).toArray⟩ : ByteArray) = BS.extract 0 (recF BS 8 0).2 ∧ ∀ o, o ∈ (recF BS 8 0).1 → GoodO o := by
  have hl : S.data.toList.length = S.size := by simp
  have hz : BS.size = S.size := by rw [hB]; show (S.data.toList.set C x).toArray.size = _; simp
  have hSz : S.size = (catB os).length := by rw [hS]; show (catB os).toArray.size = _; simp
  obtain ⟨l1, l2, l3⟩ := recF_bytes (t := BS) 8 0 (Nat.zero_le _)
  have l4 := l1.1
  have l5 := l1.extract
  rw [Nat.zero_add] at l2 l4 l5
  refine ⟨hz, rec_bent h8 hg hk hE (by rw [hz, hSz]) (fun i hi => ?_), by omega, by rw [l2, l5], l3⟩
  rw [← hS]
  by_cases h : i < S.size
  · rw [hB, bN_mk _ _ (by rw [List.length_set]; omega), List.getElem_set_ne (by omega), bN_lt h]
    rfl
  · have e1 : bN BS i = 0 := by unfold bN; simp [show ¬ i < BS.size by omega]
    have e2 : bN S i = 0 := by unfold bN; simp [h]
    rw [e1, e2]
theorem mk_extract (l : List UInt8) (n : Nat) : (⟨(l.take n).toArray⟩ : ByteArray) = (⟨l.toArray⟩ : ByteArray).extract 0 n := by
  apply ByteArray.ext
  apply Array.toList_inj.1
  rw [Lib.extract_data]
  simp
end Go.Fl
namespace Go.Proofs.Ytjapidajammkbaa
open Go.RowKit Go.Fl
theorem conv_bytes (S : ByteArray) (w : World) : ∃ (cap : Nat) (w8 : World), S.size ≤ cap ∧ (convert 9 22 (.string S)).run Try.prog w = .ok (.slice (some ⟨w.heap.size, 0, none⟩) S.size cap) w8 ∧ RowB w8 w.heap.size 5 S.data.toList ∧ Below w.heap.size w w8 ∧ w8.heap.size = w.heap.size + 1 := by
  refine ⟨_, _, grownCap_ge w S.size 0 5, run_bytes_of_string (P := Try.prog) w 9 22 5 S Try.underlying9 Try.underlying22 Try.underlying5, ?_, ?_, ?_⟩
  · refine ⟨List.replicate (grownCap w S.size 0 5 - S.size) (.int .u8 0), ((bytesRow S (grownCap w S.size 0 5)).size, (bytesRow S (grownCap w S.size 0 5)).size + 1), ?_, ?_⟩
    · show _ ≤ (bytesRow _ _).size
      unfold bytesRow
      simp
    · show (w.heap.push _)[w.heap.size]? = _
      simp [bytesRow, Lib.byteCells]
  · exact (Below.alloc (w := w.drew) (B := w.heap.size) (Below.refl _ _ |>.drew) (Nat.le_refl _) _)
  · simp
theorem conv_back {w : World} {g : Nat} {l : List UInt8} (h : RowB w g 5 l) (n cap : Nat) (hn : n ≤ l.length) :
    (convert 22 9 (.slice (some ⟨g, 0, none⟩) n cap)).run Try.prog w = .ok (.string ⟨(l.take n).toArray⟩) w := by
  have hl : (l.take n).length = n := by rw [List.length_take]; omega
  have := run_convert_bytes_back (P := Try.prog) w 22 9 5 ⟨g, 0, none⟩ cap (l.take n) Try.underlying22 Try.underlying5 Try.underlying9 (fun j hj => by
    have hadd : (⟨g, 0, none⟩ : Addr).add j = ⟨g, j, none⟩ := by unfold Addr.add; split <;> simp_all
    rw [hadd, h.cell (by omega)]
    simp)
  rw [hl] at this
  exact this
end Go.Proofs.Ytjapidajammkbaa
