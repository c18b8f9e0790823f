/- Nets, the law: where the drawing of a net stands. Nets, the law: the drawing of a net, walked. -/
import Derived.Test.YtkjljajjjhfklaaNnU
import Derived.Test.YtkjljajjjhfklaaNj12
namespace Go.Fl
open Go.RowKit
theorem ORow.take {w : World} {e : TypeId} {size b cap n : Nat} {cs : List Value} (h : ORow w e size b cap n cs) {m : Nat} (hm : m ≤ n) : ORow w e size b cap m (cs.take (m * size)) := by
  have hms : m * size ≤ n * size := Nat.mul_le_mul_right _ hm
  obtain ⟨hl, hr⟩ := h
  rcases hr with ⟨hn, _⟩ | ⟨g, c, cur, hv, hb, hg, h1, h2, h3, h4⟩
  · cases hn
  · cases hv
    refine ⟨by rw [List.length_take, hl]; omega, .inr ⟨b, cap, cur, rfl, hb, hg, by omega, h2, h3, ?_⟩⟩
    rw [← h4, List.take_take, Nat.min_eq_left hms]
theorem ORow.setAt {w : World} {e : TypeId} {size b cap n : Nat} {cs : List Value} (h : ORow w e size b cap n cs) (j : Nat) (u : Value) : ORow (w.setCell ⟨b, j, none⟩ u) e size b cap n (cs.set j u) := (World.ownsRow.stored (show w.ownsRow b e size (.slice (some ⟨b, 0, none⟩) n cap) n cs from h) j u).1
theorem ORow.same {w w' : World} {e : TypeId} {size b cap n : Nat} {cs : List Value} (h : ORow w e size b cap n cs) (hb : w'.heap[b]? = w.heap[b]?) : ORow w' e size b cap n cs :=
  h.far (lo := b) (hi := b + 1) (fun d h1 h2 => by
    obtain rfl : d = b := by omega
    exact hb) (Nat.le_refl _) (Nat.lt_succ_self _)
theorem ORow.free {w : World} {e : TypeId} {size b cap n : Nat} {cs : List Value} (h : ORow w e size b cap n cs) (i : Nat) : w.frozen? ⟨b, i, none⟩ = false := by
  obtain ⟨cur, h1, _⟩ := h.block
  exact h1.free i
theorem SpL.take {cs : List Value} {ps : List Sp} (h : SpL cs ps) (k : Nat) : SpL (cs.take (k * 3)) (ps.take k) := fun i hi => by
  rw [List.length_take] at hi
  obtain ⟨x, y, z, e1, e2, e3, e4⟩ := h i (by omega)
  refine ⟨x, y, z, ?_, ?_, ?_, ?_⟩
  · rw [List.getElem?_take_of_lt (by omega)]; exact e1
  · rw [List.getElem?_take_of_lt (by omega)]; exact e2
  · rw [List.getElem?_take_of_lt (by omega)]; exact e3
  · unfold pAt at e4 ⊢
    rw [List.getD_eq_getElem?_getD, List.getElem?_take_of_lt (by omega), ← List.getD_eq_getElem?_getD]
    exact e4
/-- spot i gets the height z -/
def setZ (ps : List Sp) (i z : Nat) : List Sp := ps.set i ((pAt ps i).1, (pAt ps i).2.1, z)
theorem setZ_len (ps : List Sp) (i z : Nat) : (setZ ps i z).length = ps.length := by simp [setZ]
theorem setZ_at {ps : List Sp} {i z k : Nat} (hi : i < ps.length) : pAt (setZ ps i z) k = if k = i then ((pAt ps i).1, (pAt ps i).2.1, z) else pAt ps k := by
  unfold setZ
  show (List.getD _ k _) = _
  rw [List.getD_eq_getElem?_getD, List.getElem?_set]
  by_cases h : i = k
  · subst h; simp [hi]
  · rw [if_neg h, if_neg (fun e => h e.symm)]; unfold pAt; rw [List.getD_eq_getElem?_getD]
theorem SpL.setZ {cs : List Value} {ps : List Sp} (h : SpL cs ps) (hl : cs.length = ps.length * 3) {i z : Nat} (hi : i < ps.length) (hz : can .f32 z = z) : SpL (cs.set (i * 3 + 2) (.float .f32 z)) (setZ ps i z) := fun k hk => by
  rw [setZ_len] at hk
  obtain ⟨x, y, z', e1, e2, e3, e4⟩ := h k hk
  rw [setZ_at hi]
  by_cases hki : k = i
  · subst hki
    rw [if_pos rfl, ← e4]
    refine ⟨x, y, z, ?_, ?_, ?_, ?_⟩
    · rw [List.getElem?_set_ne (by omega)]; exact e1
    · rw [List.getElem?_set_ne (by omega)]; exact e2
    · rw [List.getElem?_set_self (by omega)]
    · unfold IsSp; rw [hz]
  · rw [if_neg hki]
    refine ⟨x, y, z', ?_, ?_, ?_, e4⟩
    · rw [List.getElem?_set_ne (by omega)]; exact e1
    · rw [List.getElem?_set_ne (by omega)]; exact e2
    · rw [List.getElem?_set_ne (by omega)]; exact e3
end Go.Fl
namespace Go.Proofs.Ytkjljajjjhfklaa
open Go.RowKit Go.Fl
theorem OwnF.keep {w w' : World} {lo hi bf : Nat} {g : Nat → Nat} {fs : List (List Int)} (h : OwnF w lo hi bf g fs) (hb : w'.heap[bf]? = w.heap[bf]?) (hg : ∀ i, i < fs.length → w'.heap[g i]? = w.heap[g i]?) : OwnF w' lo hi bf g fs :=
  have fb : Far bf (bf + 1) w w' := fun d h1 h2 => by
    obtain rfl : d = bf := by omega
    exact hb
  have fg : ∀ i, i < fs.length → Far (g i) (g i + 1) w w' := fun i hi d h1 h2 => by
    obtain rfl : d = g i := by omega
    exact hg i hi
  ⟨h.row, fun i hi => by
      obtain ⟨ci, hc⟩ := h.head i hi
      exact ⟨ci, (fb.cell (Nat.le_refl _) (Nat.lt_succ_self _)).trans hc⟩, h.blk, h.inj, fun i hi => (h.room i hi).far (fg i hi) (Nat.le_refl _) (Nat.lt_succ_self _), fun i hi => (h.reads i hi).far (fg i hi),
    fun i hi ai n ci hc => h.cap i hi ai n ci ((fb.cell (Nat.le_refl _) (Nat.lt_succ_self _)).symm.trans hc)⟩
theorem NetR.far {w w' : World} {lo bv cv bf cf : Nat} {g : Nat → Nat} {cs csf : List Value} {ps : List Sp} {fs : List (List Int)} (h : NetR w lo bv cv bf cf g cs csf ps fs) (hf : Far lo w.heap.size w w') (hz : w.heap.size ≤ w'.heap.size) : NetR w' lo bv cv bf cf g cs csf ps fs :=
  ⟨h.row.far hf h.lb h.row.lt, h.sp, h.rowF.far hf h.fa.row.1 h.rowF.lt, (h.fa.far hf).wide (Nat.le_refl _) hz, h.lb, h.ne, h.nes⟩
theorem NetR.lower {w : World} {lo lo' bv cv bf cf : Nat} {g : Nat → Nat} {cs csf : List Value} {ps : List Sp} {fs : List (List Int)} (h : NetR w lo bv cv bf cf g cs csf ps fs) (hl : lo' ≤ lo) : NetR w lo' bv cv bf cf g cs csf ps fs :=
  ⟨h.row, h.sp, h.rowF, h.fa.lower hl, Nat.le_trans hl h.lb, h.ne, h.nes⟩
/-- a spot's height is set -/
theorem NetR.setZ {w : World} {lo bv cv bf cf : Nat} {g : Nat → Nat} {cs csf : List Value} {ps : List Sp} {fs : List (List Int)} (h : NetR w lo bv cv bf cf g cs csf ps fs) {i z : Nat} (hi : i < ps.length) (hz : can .f32 z = z) :
    NetR (w.setCell ⟨bv, i * 3 + 2, none⟩ (.float .f32 z)) lo bv cv bf cf g (cs.set (i * 3 + 2) (.float .f32 z)) csf (Go.Fl.setZ ps i z) fs := by
  have hb : ∀ d, d ≠ bv → (w.setCell ⟨bv, i * 3 + 2, none⟩ (.float .f32 z)).heap[d]? = w.heap[d]? := fun d hd => Below.heap_setCell _ _ _ _ hd
  refine ⟨by rw [setZ_len]; exact h.row.setAt _ _, h.sp.setZ (by have := h.row.clen; omega) hi hz, h.rowF.same (hb _ (fun e => h.ne e.symm)), ?_, h.lb, h.ne, h.nes⟩
  have := h.fa.keep (w' := w.setCell ⟨bv, i * 3 + 2, none⟩ (.float .f32 z)) (hb _ (fun e => h.ne e.symm)) (fun k hk => hb _ (h.nes k hk))
  simpa using this
/-- the net is cut to a quad -/
theorem NetR.quad {w : World} {lo bv cv bf cf : Nat} {g : Nat → Nat} {cs csf : List Value} {ps : List Sp} {fs : List (List Int)} (h : NetR w lo bv cv bf cf g cs csf ps fs) (hp : 4 ≤ ps.length) (hf : 1 ≤ fs.length) (hlo : lo ≤ w.heap.size) :
    NetR ((w.alloc (.cells #[.int .i64 0, .int .i64 1, .int .i64 3, .int .i64 2] 2)).setCell ⟨bf, 0, none⟩ (.slice (some ⟨w.heap.size, 0, none⟩) 4 4)) lo bv cv bf cf (fun _ => w.heap.size) (cs.take (4 * 3)) [.slice (some ⟨w.heap.size, 0, none⟩) 4 4] (ps.take 4) quadF := by
  have hbf := h.rowF.lt
  have hbv := h.row.lt
  have hal : ∀ d, d < w.heap.size → (w.alloc (.cells #[.int .i64 0, .int .i64 1, .int .i64 3, .int .i64 2] 2)).heap[d]? = w.heap[d]? := fun d hd => Below.heap_alloc _ _ _ hd
  have hset : ∀ d, d ≠ bf → ((w.alloc (.cells #[.int .i64 0, .int .i64 1, .int .i64 3, .int .i64 2] 2)).setCell ⟨bf, 0, none⟩ (.slice (some ⟨w.heap.size, 0, none⟩) 4 4)).heap[d]? = (w.alloc (.cells #[.int .i64 0, .int .i64 1, .int .i64 3, .int .i64 2] 2)).heap[d]? := fun d hd => Below.heap_setCell _ _ _ _ hd
  have hl4 : (ps.take 4).length = 4 := by rw [List.length_take]; omega
  have hrow : ORow ((w.alloc (.cells #[.int .i64 0, .int .i64 1, .int .i64 3, .int .i64 2] 2)).setCell ⟨bf, 0, none⟩ (.slice (some ⟨w.heap.size, 0, none⟩) 4 4)) 38 1 bf cf 1 [.slice (some ⟨w.heap.size, 0, none⟩) 4 4] := by
    have h1 := (((h.rowF.same (hal bf hbf)).take hf).setAt 0 (.slice (some ⟨w.heap.size, 0, none⟩) 4 4))
    have e : (csf.take (1 * 1)).set 0 (Value.slice (some ⟨w.heap.size, 0, none⟩) 4 4) = [.slice (some ⟨w.heap.size, 0, none⟩) 4 4] := by
      have hl := h.rowF.clen
      cases csf with
      | nil => simp at hl; omega
      | cons x xs => simp
    rw [e] at h1
    exact h1
  have hnew := ORow.full w 2 #[.int .i64 0, .int .i64 1, .int .i64 3, .int .i64 2] (by simp)
  have hnew2 : ORow ((w.alloc (.cells #[.int .i64 0, .int .i64 1, .int .i64 3, .int .i64 2] 2)).setCell ⟨bf, 0, none⟩ (.slice (some ⟨w.heap.size, 0, none⟩) 4 4)) 2 1 w.heap.size 4 4 ([(0 : Int), 1, 3, 2].map (Value.int .i64)) := hnew.same (hset _ (by omega))
  refine ⟨by rw [hl4]; exact ((h.row.same (hal bv hbv)).same (hset _ h.ne)).take hp, h.sp.take 4, hrow, ?_, h.lb, h.ne, fun i hi => by omega⟩
  have h0 : ∀ i, i < quadF.length → i = 0 := fun i hi => by simp [quadF] at hi; exact hi
  refine ⟨⟨h.fa.row.1, by simp; omega⟩, fun i hi => ?_, fun i hi => ⟨hlo, by simp, by omega⟩, fun i j hij hj => by have := h0 j hj; omega, fun i hi => ?_, fun i hi => ?_, fun i hi ai n ci hc => ?_⟩
  · obtain rfl := h0 i hi
    exact ⟨4, hrow.cell 0 (by decide)⟩
  · obtain rfl := h0 i hi
    exact hnew2.room
  · obtain rfl := h0 i hi
    exact hnew2.ints rfl
  · obtain rfl := h0 i hi
    have h1 := hrow.cell 0 (by decide)
    rw [hc] at h1
    cases h1
    exact Nat.le_refl _
end Go.Proofs.Ytkjljajjjhfklaa

namespace Go.Proofs.Ytkjljajjjhfklaa
open Go.RowKit Go.Fl
/-- where the drawing of a net stands: heights are drawn up to spot i -/
structure DrR (w wx : World) (p : Nat) (a : Option Addr) (n c M i ob bv cv bf cf : Nat) (g : Nat → Nat) (cs csf : List Value) (ps : List Sp) (fs : List (List Int)) : Prop where
  src : SrcAt wx 103 p a n c M
  pl : p < w.heap.size
  res : OwnC wx w.heap.size #[.slice none 0 0, .slice none 0 0] 27
  own : OwnC wx ob #[.slice (some ⟨bv, 0, none⟩) ps.length cv, .slice (some ⟨bf, 0, none⟩) fs.length cf] 27
  net : NetR wx (w.heap.size + 1) bv cv bf cf g cs csf ps fs
  obl : w.heap.size < ob
  nv : ob ≠ bv
  nf : ob ≠ bf
  ng : ∀ k, k < fs.length → g k ≠ ob
  shp : Shp ps.length fs
  sb : AllB 3 ps
  z1 : ∀ k, i ≤ k → Bd (pAt ps k).2.2 0 1
  ch : Ch (fun d => d = p) w wx
theorem srcSame {w w' : World} {T : TypeId} {p n c m : Nat} {a : Option Addr} (h : SrcAt w T p a n c m) (hf : ∀ d, d ≤ p → w'.heap[d]? = w.heap[d]?) : SrcAt w' T p a n c m := h.far (fun d _ hd => hf d (by omega))
/-- the source is read -/
theorem DrR.turn {w wx w' : World} {p n c M M' i ob bv cv bf cf : Nat} {a : Option Addr} {g : Nat → Nat} {cs csf : List Value} {ps : List Sp} {fs : List (List Int)} (h : DrR w wx p a n c M i ob bv cv bf cf g cs csf ps fs)
    (ho : Only (fun d => d = p) wx w') (hs : SrcAt w' 103 p a n c M') : DrR w w' p a n c M' i ob bv cv bf cf g cs csf ps fs :=
  have hp := h.pl
  have ho1 := h.obl
  ⟨hs, h.pl, (ho.block _ (by omega)).trans h.res, (ho.block _ (by omega)).trans h.own, h.net.far (ho.far (fun d hd => by omega)) (Nat.le_of_eq ho.size.symm), h.obl, h.nv, h.nf, h.ng, h.shp, h.sb, h.z1, h.ch.trans (P' := fun d => d = p) ⟨ho.os, ho.tape, ho.output, Nat.le_of_eq ho.size.symm, fun c _ hc => ho.block c hc⟩ (fun b hb => .inl hb)⟩
/-- another net is stored -/
theorem DrR.store {w wx w5 : World} {p n c M ob bv cv bf cf bv' cv' bf' cf' : Nat} {a : Option Addr} {g g' : Nat → Nat} {cs csf cs' csf' : List Value} {ps ps' : List Sp} {fs fs' : List (List Int)} (h : DrR w wx p a n c M 0 ob bv cv bf cf g cs csf ps fs)
    (hb : Below wx.heap.size wx w5) (hN : NetR w5 wx.heap.size bv' cv' bf' cf' g' cs' csf' ps' fs') (hS : Shp ps'.length fs') (hB : AllB 3 ps') (hz : ∀ k, Bd (pAt ps' k).2.2 0 1) :
    DrR w ((w5.setCell ⟨ob, 0, none⟩ (.slice (some ⟨bv', 0, none⟩) ps'.length cv')).setCell ⟨ob, 1, none⟩ (.slice (some ⟨bf', 0, none⟩) fs'.length cf')) p a n c M 0 ob bv' cv' bf' cf' g' cs' csf' ps' fs' := by
  have hol := h.own.lt
  have hp := h.pl
  have hob := h.obl
  have hz5 := hb.size
  have hzx := h.ch.size
  have hk : ∀ d, d ≠ ob → ((w5.setCell ⟨ob, 0, none⟩ (.slice (some ⟨bv', 0, none⟩) ps'.length cv')).setCell ⟨ob, 1, none⟩ (.slice (some ⟨bf', 0, none⟩) fs'.length cf')).heap[d]? = w5.heap[d]? := fun d hd => by
    rw [Below.heap_setCell _ _ _ _ hd, Below.heap_setCell _ _ _ _ hd]
  have hl := h.res.lt
  refine ⟨srcSame h.src (fun d hd => (hk d (by omega)).trans (hb.block d (by omega))), hp, (hk _ (by omega)).trans ((hb.block _ hl).trans h.res), (((h.own.below hb hol).set 0 _).set 1 _).congr (by simp), ?_, hob, ?_, ?_, fun k hkk => ?_, hS, hB, fun k _ => hz k, ?_⟩
  · refine (hN.far (lo := wx.heap.size) (fun d h1 h2 => hk d (by omega)) (by simp)).lower (by omega)
  · have := hN.lb; omega
  · have := hN.fa.row; omega
  · have := hN.fa.blk k hkk; omega
  · refine (h.ch.trans (Ch.below hb) (fun b hb => .inl hb)).trans (P' := fun d => d = ob) ⟨rfl, rfl, rfl, by simp, fun d _ hd => hk d hd⟩ (fun b hb => .inr (by omega))
/-- the net is cut to a quad -/
theorem DrR.quad {w wx : World} {p n c M ob bv cv bf cf : Nat} {a : Option Addr} {g : Nat → Nat} {cs csf : List Value} {ps : List Sp} {fs : List (List Int)} (h : DrR w wx p a n c M 0 ob bv cv bf cf g cs csf ps fs) (h4 : 4 ≤ ps.length) (h1 : 1 ≤ fs.length) :
    DrR w (((((wx.setCell ⟨ob, 1, none⟩ (.slice (some ⟨bf, 0, none⟩) 1 cf)).setCell ⟨ob, 0, none⟩ (.slice (some ⟨bv, 0, none⟩) 4 cv))).alloc (.cells #[.int .i64 0, .int .i64 1, .int .i64 3, .int .i64 2] 2)).setCell ⟨bf, 0, none⟩ (.slice (some ⟨wx.heap.size, 0, none⟩) 4 4)) p a n c M 0 ob bv cv bf cf (fun _ => wx.heap.size) (cs.take (4 * 3)) [.slice (some ⟨wx.heap.size, 0, none⟩) 4 4] (ps.take 4) quadF := by
  have hol := h.own.lt
  have hp := h.pl
  have hob := h.obl
  have hzx := h.ch.size
  have hnv := h.nv
  have hnf := h.nf
  have hbf := h.net.fa.row
  have hl4 : (ps.take 4).length = 4 := by rw [List.length_take]; omega
  obtain ⟨w5, hw5⟩ : ∃ w5, w5 = (wx.setCell ⟨ob, 1, none⟩ (.slice (some ⟨bf, 0, none⟩) 1 cf)).setCell ⟨ob, 0, none⟩ (.slice (some ⟨bv, 0, none⟩) 4 cv) := ⟨_, rfl⟩
  have hz5 : w5.heap.size = wx.heap.size := by rw [hw5]; simp
  have hk5 : ∀ d, d ≠ ob → w5.heap[d]? = wx.heap[d]? := fun d hd => by rw [hw5, Below.heap_setCell _ _ _ _ hd, Below.heap_setCell _ _ _ _ hd]
  have hn5 : NetR w5 (w.heap.size + 1) bv cv bf cf g cs csf ps fs := by
    have hb := h.net.row.lt
    refine ⟨h.net.row.same (hk5 _ (fun e => hnv e.symm)), h.net.sp, h.net.rowF.same (hk5 _ (fun e => hnf e.symm)), ?_, h.net.lb, h.net.ne, h.net.nes⟩
    rw [hz5]
    exact h.net.fa.keep (hk5 _ (fun e => hnf e.symm)) (fun k hk => hk5 _ (h.ng k hk))
  have o5 : OwnC w5 ob #[.slice (some ⟨bv, 0, none⟩) 4 cv, .slice (some ⟨bf, 0, none⟩) 1 cf] 27 := by rw [hw5]; exact ((h.own.set 1 _).set 0 _).congr (by simp)
  rw [← hw5]
  rw [← hz5]
  have hq := hn5.quad h4 h1 (by omega)
  have hk : ∀ d, d < w5.heap.size → d ≠ bf → ((w5.alloc (.cells #[.int .i64 0, .int .i64 1, .int .i64 3, .int .i64 2] 2)).setCell ⟨bf, 0, none⟩ (.slice (some ⟨w5.heap.size, 0, none⟩) 4 4)).heap[d]? = w5.heap[d]? := fun d hd hn => by
    rw [Below.heap_setCell _ _ _ _ hn]; exact Below.heap_alloc _ _ _ hd
  refine ⟨srcSame h.src (fun d hd => (hk d (by omega) (by omega)).trans (hk5 d (by omega))), hp, (hk _ (by omega) (by omega)).trans ((hk5 _ (by omega)).trans h.res), (by rw [hl4]; exact (hk _ (by omega) hnf).trans o5), hq, hob, hnv, hnf, fun k _ => by omega, .inr (.inl ⟨hl4, rfl⟩), ?_, fun k _ => ?_, ?_⟩
  · refine AllB.of (by decide) fun q hq => h.sb.mem (List.mem_of_mem_take hq)
  · unfold pAt
    rw [List.getD_eq_getElem?_getD, List.getElem?_take]
    split
    · have := h.z1 k (Nat.zero_le _); unfold pAt at this; rw [List.getD_eq_getElem?_getD] at this; exact this
    · exact Bd.zero.mono (by decide) (by decide)
  · refine ⟨?_, ?_, ?_, by simp; omega, fun d hd hn => ?_⟩
    · rw [hw5]; exact h.ch.os
    · rw [hw5]; exact h.ch.tape
    · rw [hw5]; exact h.ch.output
    · exact (hk d (by omega) (by omega)).trans ((hk5 d (by omega)).trans (h.ch.block d hd hn))
/-- a height is drawn -/
theorem DrR.height {w wx : World} {p n c M i ob bv cv bf cf z : Nat} {a : Option Addr} {g : Nat → Nat} {cs csf : List Value} {ps : List Sp} {fs : List (List Int)} (h : DrR w wx p a n c M i ob bv cv bf cf g cs csf ps fs) (hi : i < ps.length) (hz : Bd z 0 3) :
    DrR w (wx.setCell ⟨bv, i * 3 + 2, none⟩ (.float .f32 z)) p a n c M (i + 1) ob bv cv bf cf g (cs.set (i * 3 + 2) (.float .f32 z)) csf (setZ ps i z) fs := by
  have hp := h.pl
  have hob := h.obl
  have hzx := h.ch.size
  have hlb := h.net.lb
  have hk : ∀ d, d ≠ bv → (wx.setCell ⟨bv, i * 3 + 2, none⟩ (.float .f32 z)).heap[d]? = wx.heap[d]? := fun d hd => Below.heap_setCell _ _ _ _ hd
  refine ⟨srcSame h.src (fun d hd => hk d (by omega)), hp, (hk _ (by omega)).trans h.res, (by rw [setZ_len]; exact (hk _ h.nv).trans h.own), h.net.setZ hi (hz.isCan), hob, h.nv, h.nf, h.ng, (by rw [setZ_len]; exact h.shp), fun k => ?_, fun k hk => ?_, ?_⟩
  · rw [setZ_at hi]
    split
    · exact ⟨(h.sb i).x, (h.sb i).y, hz⟩
    · exact h.sb k
  · rw [setZ_at hi, if_neg (by omega)]
    exact h.z1 k (by omega)
  · exact h.ch.trans (P' := fun d => d = bv) (Ch.set _ _ _ rfl) (fun b hb => .inr (by omega))
theorem DrR.next {w wx : World} {p n c M M' i ob bv cv bf cf : Nat} {a : Option Addr} {g : Nat → Nat} {cs csf : List Value} {ps : List Sp} {fs : List (List Int)} (h : DrR w wx p a n c M i ob bv cv bf cf g cs csf ps fs) (hm : M ≤ M') : DrR w wx p a n c M' (i + 1) ob bv cv bf cf g cs csf ps fs :=
  ⟨h.src.mono hm, h.pl, h.res, h.own, h.net, h.obl, h.nv, h.nf, h.ng, h.shp, h.sb, fun k hk => h.z1 k (by omega), h.ch⟩
theorem DrR.mono {w wx : World} {p n c M M' i ob bv cv bf cf : Nat} {a : Option Addr} {g : Nat → Nat} {cs csf : List Value} {ps : List Sp} {fs : List (List Int)} (h : DrR w wx p a n c M i ob bv cv bf cf g cs csf ps fs) (hm : M ≤ M') : DrR w wx p a n c M' i ob bv cv bf cf g cs csf ps fs :=
  ⟨h.src.mono hm, h.pl, h.res, h.own, h.net, h.obl, h.nv, h.nf, h.ng, h.shp, h.sb, h.z1, h.ch⟩
theorem Shp.len {n : Nat} {fs : List (List Int)} (h : Shp n fs) : 4 ≤ n ∧ n ≤ 16 ∧ 1 ≤ fs.length ∧ fs.length ≤ 9 := by
  rcases h with ⟨rfl, rfl⟩ | ⟨rfl, rfl⟩ | ⟨a, b, ha, hb, rfl, rfl⟩
  · decide
  · decide
  · rw [gridF_len]
    rcases (by omega : a = 0 ∨ a = 1 ∨ a = 2) with rfl | rfl | rfl <;> rcases (by omega : b = 0 ∨ b = 1 ∨ b = 2) with rfl | rfl | rfl <;> decide
end Go.Proofs.Ytkjljajjjhfklaa
