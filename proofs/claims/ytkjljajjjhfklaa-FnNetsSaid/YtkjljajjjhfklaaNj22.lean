/- Nets, the law: a net that grows by spots and facets in turn; the keeper. Nets, the law: the spots and facets of tiles, in the order in which GridNet makes them. -/
import Derived.Test.YtkjljajjjhfklaaNnE
import Derived.Test.YtkjljajjjhfklaaNnP
namespace Go.Proofs.Ytkjljajjjhfklaa
open Go.RowKit Go.Fl
/-- the facets' blocks stay while other blocks change -/
theorem FR.keep {w w' : World} {lo : Nat} {v : Value} {g : Nat → Nat} {fs : List (List Int)} {j : Nat} {cs : List Value} (h : FR w lo v g fs j cs) (hs : w.heap.size ≤ w'.heap.size) (hk : ∀ i, i < j → w'.heap[g i]? = w.heap[g i]?) : FR w' lo v g fs j cs :=
  have hf : ∀ i, i < j → Far (g i) (g i + 1) w w' := fun i hi d h1 h2 => by
    obtain rfl : d = g i := by omega
    exact hk i hi
  ⟨h.cells, fun i hi => ⟨(h.blk i hi).1, Nat.lt_of_lt_of_le (h.blk i hi).2.1 hs, (h.blk i hi).2.2⟩, h.inj, fun i hi => (h.room i hi).far (hf i hi) (Nat.le_refl _) (Nat.lt_succ_self _),
    fun i hi => (h.reads i hi).far (hf i hi)⟩
theorem ORow0.keep {w w' : World} {t : TypeId} {m n : Nat} {v : Value} {cs : List Value} (h : ORow0 w t m v n cs) (hk : ∀ b, v.ownBlock = some b → w'.heap[b]? = w.heap[b]?) : ORow0 w' t m v n cs := by
  obtain ⟨h1, h2⟩ := h
  refine ⟨h1, ?_⟩
  rcases h2 with h | ⟨b, c, arr, e, z, hb, r⟩
  · exact .inl h
  · exact .inr ⟨b, c, arr, e, z, (hk b (by rw [e]; rfl)).trans hb, r⟩
/-- the net in block ob has n spots qs and c facets FS so far -/
structure GrI (wb wr : World) (ob : Nat) (v1 : Value) (n : Nat) (qs : List Sp) (cs : List Value) (v2 : Value) (c : Nat) (FS : List (List Int)) (g : Nat → Nat) (cs2 : List Value) : Prop where
  len : qs.length = n
  row : ORow0 wr 46 3 v1 n cs
  sp : SpL cs qs
  new : ∀ b, v1.ownBlock = some b → wb.heap.size ≤ b ∧ v2.ownBlock ≠ some b ∧ ∀ i, i < c → g i ≠ b
  row2 : ORow0 wr 38 1 v2 c cs2
  fr : FR wr wb.heap.size v2 g FS c cs2
  new2 : ∀ b, v2.ownBlock = some b → wb.heap.size ≤ b
  own : OwnC wr ob #[v1, v2] 27
  ch : Ch (fun c => c = ob) wb wr
theorem GrI.start {wb : World} {ob : Nat} {FS : List (List Int)} (h : OwnC wb ob #[.slice none 0 0, .slice none 0 0] 27) : GrI wb wb ob (.slice none 0 0) 0 [] [] (.slice none 0 0) 0 FS (fun _ => 0) [] :=
  ⟨rfl, ORow0.nil _ _ _, SpL.nil, fun b e => (by cases e), ORow0.nil _ _ _, FR.nil _ _ _ _ _, fun b e => (by cases e), h, Ch.refl _ _⟩
/-- one more spot -/
theorem GrI.spot {wb wr w6 w7 : World} {ob n c : Nat} {v1 v2 : Value} {qs rs : List Sp} {cs cs2 news : List Value} {FS : List (List Int)} {g : Nat → Nat} {b7 c7 m : Nat} (h : GrI wb wr ob v1 n qs cs v2 c FS g cs2) (hob : ob < wb.heap.size) (h6 : Below wr.heap.size wr w6) (hm : rs.length = m)
    (hg7 : w6.grownBy w7 v1.ownBlock) (r7 : ORow w7 46 3 b7 c7 (n + m) (cs ++ news)) (hb7 : v1.ownBlock = some b7 ∨ b7 = w6.heap.size) (hsp : SpL (cs ++ news) (qs ++ rs)) :
    GrI wb (w7.setCell ⟨ob, 0, none⟩ (.slice (some ⟨b7, 0, none⟩) (n + m) c7)) ob (.slice (some ⟨b7, 0, none⟩) (n + m) c7) (n + m) (qs ++ rs) (cs ++ news) v2 c FS g cs2 := by
  have z5 := h.ch.size
  have z6 := h6.size
  have z7 := hg7.size
  have hne : ∀ c, c < w6.heap.size → v1.ownBlock ≠ some c → w7.heap[c]? = w6.heap[c]? := fun c hc hv => hg7.block c hc (fun e => hv e.symm)
  have hvo : v1.ownBlock ≠ some ob := fun e => by have := (h.new _ e).1; omega
  have hown7 : OwnC w7 ob #[v1, v2] 27 := (hne ob (by omega) hvo).trans (h.own.below h6 (by omega))
  have hkeep : ∀ d, d < wr.heap.size → d ≠ ob → v1.ownBlock ≠ some d → (w7.setCell ⟨ob, 0, none⟩ (.slice (some ⟨b7, 0, none⟩) (n + m) c7)).heap[d]? = wr.heap[d]? := fun d hd h1 h2 => by
    rw [Below.heap_setCell _ _ _ _ h1, hne d (by omega) h2]
    exact h6.block d hd
  have h2l : ∀ b, v2.ownBlock = some b → b < wr.heap.size := fun b e => ORow0.lt h.row2 e
  refine ⟨by rw [List.length_append, hm, h.len], ORow0.set r7.row0 _ _ _ ?_, hsp, fun b e => ?_, ORow0.keep h.row2 (fun b e => ?_), h.fr.keep (by simp; omega) (fun i hi => ?_), h.new2, (hown7.set 0 _).congr rfl, ?_⟩
  · have : wb.heap.size ≤ b7 := by
      rcases hb7 with e | e
      · exact (h.new _ e).1
      · omega
    simp [Value.ownBlock]; omega
  · have e : b7 = b := by simpa [Value.ownBlock] using e
    subst e
    rcases hb7 with e | e
    · exact h.new _ e
    · exact ⟨by omega, fun k => by have := h2l _ k; omega, fun i hi k => by have := (h.fr.blk i hi).2.1; omega⟩
  · exact hkeep b (h2l b e) (by have := h.new2 b e; omega) (fun k => (h.new b k).2.1 e)
  · exact hkeep _ (h.fr.blk i hi).2.1 (by have := (h.fr.blk i hi).1; omega) (fun k => (h.new _ k).2.2 i hi rfl)
  · have c1 : Ch (fun c => c = ob) wb w6 := h.ch.trans (P' := fun _ => False) (Ch.below h6) (fun b hb => hb.elim)
    have c2 : Ch (fun c => v1.ownBlock = some c) w6 w7 := ⟨hg7.os, hg7.tape, hg7.output, by omega, hne⟩
    have c3 : Ch (fun c => c = ob) wb w7 := c1.trans c2 (fun b hb => .inr (h.new b hb).1)
    exact c3.trans (P' := fun c => c = ob) (Ch.set _ _ _ rfl) (fun b hb => .inl hb)
/-- one more facet -/
theorem GrI.facet {wb wr w6 w7 : World} {ob n c : Nat} {v1 v2 : Value} {qs : List Sp} {cs cs2 : List Value} {FS : List (List Int)} {g : Nat → Nat} {b6 c6 b7 c7 : Nat} (h : GrI wb wr ob v1 n qs cs v2 c FS g cs2) (hob : ob < wb.heap.size) (h6 : Below wr.heap.size wr w6)
    (r6 : ORow w6 2 1 b6 c6 (fAt FS c).length ((fAt FS c).map (Value.int .i64))) (hb6 : wr.heap.size ≤ b6)
    (hg7 : (w6.alloc (.cells #[.slice (some ⟨b6, 0, none⟩) (fAt FS c).length c6] 38)).grownBy w7 v2.ownBlock)
    (r7 : ORow w7 38 1 b7 c7 (c + 1) (cs2 ++ [.slice (some ⟨b6, 0, none⟩) (fAt FS c).length c6])) (hb7 : v2.ownBlock = some b7 ∨ b7 = w6.heap.size + 1) :
    GrI wb (w7.setCell ⟨ob, 1, none⟩ (.slice (some ⟨b7, 0, none⟩) (c + 1) c7)) ob v1 n qs cs (.slice (some ⟨b7, 0, none⟩) (c + 1) c7) (c + 1) FS (fun i => if i = c then b6 else g i) (cs2 ++ [.slice (some ⟨b6, 0, none⟩) (fAt FS c).length c6]) := by
  have z5 := h.ch.size
  have z6 := h6.size
  have z7 : w6.heap.size + 1 ≤ w7.heap.size := by have := hg7.size; simpa using this
  have hl : cs2.length = c := by have := h.row2.1; omega
  have hbo : wb.heap.size ≤ b7 := by
    rcases hb7 with e | e
    · exact h.new2 _ e
    · omega
  have hne : ∀ d, d < w6.heap.size → v2.ownBlock ≠ some d → w7.heap[d]? = w6.heap[d]? := fun d hc hv => (hg7.block d (by simp; omega) (fun e => hv e.symm)).trans (Below.heap_alloc _ _ _ hc)
  have hvo : v2.ownBlock ≠ some ob := fun e => by have := h.new2 _ e; omega
  have hown7 : OwnC w7 ob #[v1, v2] 27 := (hne ob (by omega) hvo).trans (h.own.below h6 (by omega))
  have hkeep : ∀ d, d < wr.heap.size → d ≠ ob → v2.ownBlock ≠ some d → (w7.setCell ⟨ob, 1, none⟩ (.slice (some ⟨b7, 0, none⟩) (c + 1) c7)).heap[d]? = wr.heap[d]? := fun d hd h1 h2 => by
    rw [Below.heap_setCell _ _ _ _ h1, hne d (by omega) h2]
    exact h6.block d hd
  have h1l : ∀ b, v1.ownBlock = some b → b < wr.heap.size := fun b e => ORow0.lt h.row e
  refine ⟨h.len, ORow0.keep h.row (fun b e => ?_), h.sp, fun b e => ⟨(h.new b e).1, fun k => ?_, fun i hi k => ?_⟩, ORow0.set r7.row0 _ _ _ (by simp [Value.ownBlock]; omega), FR.set ?_ _ _ _ hob, fun b e => ?_, (hown7.set 1 _).congr rfl, ?_⟩
  · exact hkeep b (h1l b e) (by have := (h.new b e).1; omega) (h.new b e).2.1
  · have e2 : b7 = b := by simpa [Value.ownBlock] using k
    subst e2
    rcases hb7 with e' | e'
    · exact (h.new _ e).2.1 e'
    · have := h1l _ e; omega
  · by_cases hi2 : i = c
    · rw [if_pos hi2] at k
      have := h1l _ e
      omega
    · rw [if_neg hi2] at k
      exact (h.new _ e).2.2 i (by omega) k
  · refine (h.fr.below h6).step hl (by omega) (fun i hi => by have := (h.fr.blk i hi).2.1; omega) (fun e => by have := ORow0.lt h.row2 e; omega) r6 (by omega) hne ?_
    rcases hb7 with e | e
    · exact .inl (by rw [e]; rfl)
    · exact .inr ⟨b7, rfl, by omega⟩
  · simp [Value.ownBlock] at e; omega
  · have c1 : Ch (fun c => c = ob) wb w6 := h.ch.trans (P' := fun _ => False) (Ch.below h6) (fun b hb => hb.elim)
    have c2 : Ch (fun c => v2.ownBlock = some c) w6 w7 := ⟨hg7.os, hg7.tape, hg7.output, by omega, hne⟩
    have c3 : Ch (fun c => c = ob) wb w7 := c1.trans c2 (fun b hb => .inr (h.new2 b hb))
    exact c3.trans (P' := fun c => c = ob) (Ch.set _ _ _ rfl) (fun b hb => .inl hb)
end Go.Proofs.Ytkjljajjjhfklaa

namespace Go.Proofs.Ytkjljajjjhfklaa
open Go.RowKit Go.Fl
/-- the float32 of a small number -/
abbrev fI (i : Nat) : Nat := floatOfInt .f32 (i : Int)
theorem fI_fin (i : Nat) (h : i ≤ 4) : fin (can .f32 (fI i)) = true := by
  rcases (by omega : i = 0 ∨ i = 1 ∨ i = 2 ∨ i = 3 ∨ i = 4) with rfl | rfl | rfl | rfl | rfl <;> decide +kernel
def gridS (m t : Nat) : Sp := (can .f32 (fI (t % (m + 1))), can .f32 (fI (t / (m + 1))), can .f32 0)
def gridP (m k : Nat) : List Sp := (List.range k).map (gridS m)
theorem gridP_len (m k : Nat) : (gridP m k).length = k := by simp [gridP]
theorem gridP_succ (m j i : Nat) (hi : i ≤ m) : gridP m (j * (m + 1) + i + 1) = gridP m (j * (m + 1) + i) ++ [(can .f32 (fI i), can .f32 (fI j), can .f32 0)] := by
  have h1 : (j * (m + 1) + i) % (m + 1) = i := by rw [Nat.mul_add_mod_self_right]; exact Nat.mod_eq_of_lt (by omega)
  have h2 : (j * (m + 1) + i) / (m + 1) = j := by rw [Nat.add_comm, Nat.add_mul_div_right _ _ (by omega), Nat.div_eq_of_lt (by omega)]; omega
  simp only [gridP, List.range_succ, List.map_append, List.map_cons, List.map_nil, gridS, h1, h2]
theorem gridP_fin (m k : Nat) (hm : m ≤ 4) (hk : k ≤ 5 * (m + 1)) : (gridP m k).all finSp = true := by
  rw [List.all_eq_true]
  intro p hp
  obtain ⟨t, ht, rfl⟩ := List.mem_map.1 hp
  have ht := List.mem_range.1 ht
  have h1 : t % (m + 1) ≤ 4 := by have := Nat.mod_lt t (show 0 < m + 1 by omega); omega
  have h2 : t / (m + 1) ≤ 4 := by have := (Nat.div_lt_iff_lt_mul (show 0 < m + 1 by omega)).2 (show t < 5 * (m + 1) by omega); omega
  have f0 : fin (can .f32 0) = true := by decide +kernel
  simp only [finSp, gridS, fI_fin _ h1, fI_fin _ h2, f0, Bool.and_self]
theorem gridF_len (m n : Nat) : (gridF m n).length = m * n := by simp [gridF]
theorem gridF_at (m n j i : Nat) (hi : i < m) (hj : j < n) : fAt (gridF m n) (j * m + i) = [((j * (m + 1) + i : Nat) : Int), ((j * (m + 1) + i : Nat) : Int) + 1, ((j * (m + 1) + i + m + 2 : Nat) : Int), ((j * (m + 1) + i + m + 1 : Nat) : Int)] := by
  have h1 : (j * m + i) % m = i := by rw [Nat.mul_add_mod_self_right]; exact Nat.mod_eq_of_lt hi
  have h2 : (j * m + i) / m = j := by rw [Nat.add_comm, Nat.add_mul_div_right _ _ (by omega), Nat.div_eq_of_lt hi]; omega
  have h3 : j * m + i < m * n := by
    have : (j + 1) * m ≤ n * m := Nat.mul_le_mul_right m hj
    rw [Nat.mul_comm n m] at this
    rw [Nat.add_mul, Nat.one_mul] at this
    omega
  unfold fAt gridF
  rw [List.getD_eq_getElem?_getD, List.getElem?_map, List.getElem?_range h3]
  simp only [Option.map_some, Option.getD_some, h1, h2]
end Go.Proofs.Ytkjljajjjhfklaa
