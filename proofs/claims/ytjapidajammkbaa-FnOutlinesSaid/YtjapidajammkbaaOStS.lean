/- An outline's bytes: the reference's l07Store. -/
import Derived.Test.YtjapidajammkbaaOSt2
import Derived.Test.YtjapidajammkbaaOGro
namespace Go.Fl
open Go.RowKit
theorem ptB_len (l : List Cx) : ∀ k, (ptB l k).length = 8 * k
  | 0 => rfl
  | k + 1 => by simp [ptB, ptB_len l k, word, le4]; omega
theorem lpB_le (ls : List (List Cx)) (h : ∀ i, i < ls.length → (lpAt ls i).length ≤ 64) : ∀ k, k ≤ ls.length → (lpB ls k).length ≤ 513 * k
  | 0, _ => Nat.le_refl _
  | k + 1, hk => by
    have h1 := lpB_le ls h k (by omega)
    have h2 := h k (by omega)
    simp [lpB, ptB_len]; omega
/-- the parts have 32 bits -/
def Sm (ls : List (List Cx)) : Prop := ∀ i, i < ls.length → ∀ k, k < (lpAt ls i).length → (cAt (lpAt ls i) k).1 < 4294967296 ∧ (cAt (lpAt ls i) k).2 < 4294967296
theorem okOut_short {nm : ByteArray} {ls : List (List Cx)} (h : okOut nm ls) : ∀ i, i < ls.length → 3 ≤ (lpAt ls i).length ∧ (lpAt ls i).length ≤ 64 := fun i hi => by
  have h1 := List.all_eq_true.1 h.2.2.2 ls[i] (List.getElem_mem hi)
  have h2 : lpAt ls i = ls[i] := by simp [lpAt, hi]
  simp [okLoop] at h1
  rw [h2]; omega
theorem u8c (n : Nat) : Value.int .u8 (((UInt8.ofNat n).toNat : Nat) : Int) = .int .u8 ((n : Int) % 256) := by
  rw [UInt8.toNat_ofNat']
  congr 1
theorem u8s (n : Nat) (h : n ≤ 255) : Lib.byteCells [UInt8.ofNat n] = [.int .u8 (n : Int)] := by
  simp only [Lib.byteCells, List.map_cons, List.map_nil, u8c]
  congr 2
  omega
/-- the cells of a string's bytes made new -/
theorem bytes_cell (w : World) (s : ByteArray) (cap : Nat) (T : TypeId) (fr : Nat × Nat) (j : Nat) (u : Value) (h : (Lib.byteCells s.data.toList)[j]? = some u) : (w.alloc (.cells (bytesRow s cap) T fr)).cell? ⟨w.heap.size, j, none⟩ = some u := by
  rw [World.cell?_alloc_mark]
  have hj : j < s.data.size := by
    have := (List.getElem?_eq_some_iff.1 h).1
    simpa [Lib.byteCells] using this
  rw [bytesRow_at s cap j hj]
  have hj2 : j < s.data.toList.length := by simpa using hj
  rw [Lib.byteCells, List.getElem?_map, List.getElem?_eq_getElem hj2] at h
  simpa using h
theorem mark_cell (w : World) (o : Obj) (j : Nat) (u : Value) (h : (Lib.byteCells [79, 85, 84, 49])[j]? = some u) {T : TypeId} : ((w.alloc (.cells #[.int .u8 79, .int .u8 85, .int .u8 84, .int .u8 49] T (4, 5))).alloc o).cell? ⟨w.heap.size, j, none⟩ = some u := by
  have hb : Below (w.heap.size + 1) (w.alloc (.cells #[.int .u8 79, .int .u8 85, .int .u8 84, .int .u8 49] T (4, 5))) ((w.alloc (.cells #[.int .u8 79, .int .u8 85, .int .u8 84, .int .u8 49] T (4, 5))).alloc o) := Below.alloc (Below.refl _ _) (by simp) _
  rw [hb.cell (p := ⟨w.heap.size, j, none⟩) (Nat.lt_succ_self _), World.cell?_alloc_mark]
  rw [← h, ← Array.getElem?_toList]
  rfl
theorem one_cell (w : World) (o : Obj) (cs : Array Value) {T : TypeId} (j : Nat) (u : Value) (h : cs.toList[j]? = some u) : ((w.alloc o).alloc (.cells cs T)).cell? ⟨w.heap.size + 1, j, none⟩ = some u := by
  have := news_new (w.alloc o) cs T j u h
  simpa using this
theorem row_app {w : World} {T : TypeId} {b cap n : Nat} {l m : List UInt8} (h : ORow w T 1 b cap n (Lib.byteCells l ++ Lib.byteCells m)) : ORow w T 1 b cap n (Lib.byteCells (l ++ m)) := by
  rw [Lib.byteCells_append]; exact h
theorem row_app1 {w : World} {T : TypeId} {b cap n m : Nat} {l : List UInt8} (h : ORow w T 1 b cap n (Lib.byteCells l ++ [.int .u8 (m : Int)])) (hm : m ≤ 255) : ORow w T 1 b cap n (Lib.byteCells (l ++ [UInt8.ofNat m])) := by
  rw [Lib.byteCells_append, u8s m hm]; exact h
theorem row_mark {w : World} {T : TypeId} {b cap n m : Nat} (h : ORow w T 1 b cap n (Lib.byteCells [79, 85, 84, 49] ++ [.int .u8 (m : Int)])) (hm : m ≤ 255) : ORow w T 1 b cap n (Lib.byteCells ([79, 85, 84, 49] ++ [UInt8.ofNat m])) := by
  rw [Lib.byteCells_append, u8s m hm]; exact h
end Go.Fl
namespace Go.Proofs.Ytjapidajammkbaa
open Go.RowKit Go.Fl

theorem conv_row {w : World} {b cap n : Nat} {l : List UInt8} (h : ORow w 5 1 b cap n (Lib.byteCells l)) (hn : n = l.length) :
    (convert 22 9 (.slice (some ⟨b, 0, none⟩) n cap)).run Try.prog w = .ok (.string ⟨l.toArray⟩) w := by
  subst hn
  refine run_convert_bytes_back w _ _ 5 ⟨b, 0, none⟩ cap l Try.underlying22 Try.underlying5 Try.underlying9 (fun j hj => ?_)
  have hadd : (⟨b, 0, none⟩ : Addr).add j = ⟨b, j, none⟩ := by unfold Addr.add; split <;> simp_all
  rw [hadd, h.cell j (by omega)]
  simp [Lib.byteCells, hj]

end Go.Proofs.Ytjapidajammkbaa
