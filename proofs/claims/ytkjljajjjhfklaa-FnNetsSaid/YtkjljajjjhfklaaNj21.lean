/- A region that makes a net out of two copies. Contract: EaseNet, the reference's. -/
import Derived.Test.YtkjljajjjhfklaaNj18
import Derived.Test.YtkjljajjjhfklaaNj19
import Derived.Test.YtkjljajjjhfklaaNj17
import Derived.Test.YtkjljajjjhfklaaNj07
import Derived.Test.YtkjljajjjhfklaaNj20
namespace Go.Proofs.Ytkjljajjjhfklaa
open Go.RowKit Go.Fl
theorem Trk.k4 {cs : Array Value} {T : TypeId} {wr w : World} {b' : Nat} (t : Trk cs T wr (some b') w) (x y : Value) {b o : Nat} {v : Value} (h : wr.cell? ⟨b, o, none⟩ = some v) : ((w.setCell ⟨b', 0, none⟩ x).setCell ⟨b', 1, none⟩ y).cell? ⟨b, o, none⟩ = some v :=
  keep_cell ((t.below.setCell (t.own b' rfl).1 _).setCell (t.own b' rfl).1 _) h
/-- the net that was made from wr on: its variable at ob, its copies elsewhere -/
structure MkNet (wr wx : World) (ob bs c1 bf c2 : Nat) (g : Nat → Nat) (ps : List Sp) (fs : List (List Int)) : Prop where
  below : Below wr.heap.size wr wx
  own : OwnC wx ob #[.slice (some ⟨bs, 0, none⟩) ps.length c1, .slice (some ⟨bf, 0, none⟩) fs.length c2] 27
  new : wr.heap.size ≤ ob
  net : OwnNet wx wr.heap.size wx.heap.size bs bf g ps fs
  apart : bs ≠ ob ∧ bf ≠ ob ∧ ∀ i, i < fs.length → g i ≠ ob
theorem mkNet_aux {wr w5 wx : World} {ob bs c1 bf lo5 : Nat} {g : Nat → Nat} {ps : List Sp} {fs : List (List Int)} {cs : List Value} (hr : ORow w5 46 3 bs c1 ps.length cs) (hq : SpL cs ps) (hF : OwnF w5 lo5 w5.heap.size bf g fs)
    (h2 : bs ≠ ob) (h3 : bs < lo5) (h4 : wr.heap.size ≤ bs) (h5 : wr.heap.size ≤ lo5) (h6 : ob < lo5 ∨ w5.heap.size ≤ ob) (hx : ∀ c, c < w5.heap.size → c ≠ ob → wx.heap[c]? = w5.heap[c]?) (hz : w5.heap.size ≤ wx.heap.size) :
    OwnNet wx wr.heap.size wx.heap.size bs bf g ps fs ∧ (bs ≠ ob ∧ bf ≠ ob ∧ ∀ i, i < fs.length → g i ≠ ob) := by
  have hlt := hr.lt
  have hrow := hF.row
  have hS : ORow wx 46 3 bs c1 ps.length cs := hr.far (lo := bs) (hi := bs + 1) (fun c h1 h2' => hx c (by omega) (by omega)) (Nat.le_refl _) (Nat.lt_succ_self _)
  have hF2 : OwnF wx lo5 w5.heap.size bf g fs := hF.far (fun c h1 h2' => hx c h2' (by omega))
  refine ⟨⟨hS.spots hq, hS.room, hF2.wide h5 hz, ⟨h4, hS.lt⟩, ⟨by omega, fun i hi => ?_⟩⟩, h2, by omega, fun i hi => ?_⟩
  · have := hF.blk i hi; omega
  · have := hF.blk i hi; omega
theorem mkNet_set {c0 : Array Value} {wr w5 : World} {ob bs c1 bf c2 lo5 : Nat} {g : Nat → Nat} {ps : List Sp} {fs : List (List Int)} {cs : List Value} (t : Trk c0 27 wr (some ob) w5) (hc : c0.size = 2) (hr : ORow w5 46 3 bs c1 ps.length cs) (hq : SpL cs ps) (hF : OwnF w5 lo5 w5.heap.size bf g fs)
    (h2 : bs ≠ ob) (h3 : bs < lo5) (h4 : wr.heap.size ≤ bs) (h5 : wr.heap.size ≤ lo5) (h6 : ob < lo5) :
    MkNet wr ((w5.setCell ⟨ob, 0, none⟩ (.slice (some ⟨bs, 0, none⟩) ps.length c1)).setCell ⟨ob, 1, none⟩ (.slice (some ⟨bf, 0, none⟩) fs.length c2)) ob bs c1 bf c2 g ps fs := by
  have ho := t.own ob rfl
  obtain ⟨n1, n2⟩ := mkNet_aux (wr := wr) (wx := (w5.setCell ⟨ob, 0, none⟩ (.slice (some ⟨bs, 0, none⟩) ps.length c1)).setCell ⟨ob, 1, none⟩ (.slice (some ⟨bf, 0, none⟩) fs.length c2)) (ob := ob) hr hq hF h2 h3 h4 h5 (.inl h6)
    (fun c _ hne => (Below.heap_setCell _ _ _ _ hne).trans (Below.heap_setCell _ _ _ _ hne)) (by simp)
  refine ⟨(t.below.setCell ho.1 _).setCell ho.1 _, ((ho.2.set 0 _).set 1 _).congr ?_, ho.1, n1, n2⟩
  obtain ⟨l⟩ := c0
  match l, hc with
  | [_, _], _ => rfl
theorem mkNet_alloc {c0 : Array Value} {T : TypeId} {wr w5 : World} {p : Option Nat} {bs c1 bf c2 lo5 : Nat} {g : Nat → Nat} {ps : List Sp} {fs : List (List Int)} {cs : List Value} (t : Trk c0 T wr p w5) (hr : ORow w5 46 3 bs c1 ps.length cs) (hq : SpL cs ps) (hF : OwnF w5 lo5 w5.heap.size bf g fs)
    (h3 : bs < lo5) (h4 : wr.heap.size ≤ bs) (h5 : wr.heap.size ≤ lo5) :
    MkNet wr (w5.alloc (.cells #[.slice (some ⟨bs, 0, none⟩) ps.length c1, .slice (some ⟨bf, 0, none⟩) fs.length c2] 27)) w5.heap.size bs c1 bf c2 g ps fs := by
  have hlt := hr.lt
  obtain ⟨n1, n2⟩ := mkNet_aux (wr := wr) (wx := w5.alloc (.cells #[.slice (some ⟨bs, 0, none⟩) ps.length c1, .slice (some ⟨bf, 0, none⟩) fs.length c2] 27)) (ob := w5.heap.size) hr hq hF (by omega) h3 h4 h5 (.inr (Nat.le_refl _))
    (fun c hc _ => Below.heap_alloc _ _ _ hc) (by simp)
  exact ⟨t.below.alloc t.below.size _, OwnC.new rfl, t.below.size, n1, n2⟩
end Go.Proofs.Ytkjljajjjhfklaa

namespace Go.Proofs.Ytkjljajjjhfklaa
open Go.RowKit Go.Fl

/-- block b reads as spots, f i the spot at place i -/
def SpsF (w : World) (b n : Nat) (f : Nat → Sp) : Prop := ∀ p, p < n → ∃ x y z, w.cell? ⟨b, p * 3, none⟩ = some (.float .f32 x) ∧ w.cell? ⟨b, p * 3 + 1, none⟩ = some (.float .f32 y) ∧ w.cell? ⟨b, p * 3 + 2, none⟩ = some (.float .f32 z) ∧ IsSp x y z (f p)
theorem SpsF.far {w w' : World} {b n lo hi : Nat} {f : Nat → Sp} (h : SpsF w b n f) (hf : Far lo hi w w') (h1 : lo ≤ b) (h2 : b < hi) : SpsF w' b n f := fun p hp => by
  obtain ⟨x, y, z, c1, c2, c3, q⟩ := h p hp
  exact ⟨x, y, z, (hf.cell h1 h2).trans c1, (hf.cell h1 h2).trans c2, (hf.cell h1 h2).trans c3, q⟩
theorem SpsF.congr {w : World} {b n : Nat} {f g : Nat → Sp} (h : SpsF w b n f) (e : ∀ p, p < n → f p = g p) : SpsF w b n g := fun p hp => by rw [← e p hp]; exact h p hp
theorem SlP.spsF {w : World} {b : Nat} {ps : List Sp} (h : SlP w b (b + 1) (some ⟨b, 0, none⟩) ps) : SpsF w b ps.length (fun i => pAt ps i) := fun p hp => by
  obtain ⟨b', o, e, _, _, hc⟩ := h (by omega)
  cases e
  obtain ⟨x, y, z, c1, c2, c3, g1, g2, g3⟩ := hc p hp
  rw [Nat.zero_add] at c1 c2 c3
  exact ⟨x, y, z, c1, c2, c3, IsSp.of g1 g2 g3⟩
theorem SpsF.slP {w : World} {b : Nat} {ps : List Sp} (h : SpsF w b ps.length (fun i => pAt ps i)) : SlP w b (b + 1) (some ⟨b, 0, none⟩) ps := fun _ => by
  refine ⟨b, 0, rfl, Nat.le_refl _, Nat.lt_succ_self _, fun i hi => ?_⟩
  obtain ⟨x, y, z, c1, c2, c3, q⟩ := h i hi
  rw [Nat.zero_add]
  exact ⟨x, y, z, c1, c2, c3, q.f1, q.f2, q.f3⟩
theorem set3_cells {w : World} {b o : Nat} {x y z : Value} (h0 : (w.cell? ⟨b, o, none⟩).isSome = true) (h1 : (w.cell? ⟨b, o + 1, none⟩).isSome = true) (h2 : (w.cell? ⟨b, o + 2, none⟩).isSome = true) :
    (((w.setCell ⟨b, o, none⟩ x).setCell ⟨b, o + 1, none⟩ y).setCell ⟨b, o + 2, none⟩ z).cell? ⟨b, o, none⟩ = some x ∧ (((w.setCell ⟨b, o, none⟩ x).setCell ⟨b, o + 1, none⟩ y).setCell ⟨b, o + 2, none⟩ z).cell? ⟨b, o + 1, none⟩ = some y ∧
    (((w.setCell ⟨b, o, none⟩ x).setCell ⟨b, o + 1, none⟩ y).setCell ⟨b, o + 2, none⟩ z).cell? ⟨b, o + 2, none⟩ = some z ∧ ∀ p, p ≠ o → p ≠ o + 1 → p ≠ o + 2 → (((w.setCell ⟨b, o, none⟩ x).setCell ⟨b, o + 1, none⟩ y).setCell ⟨b, o + 2, none⟩ z).cell? ⟨b, p, none⟩ = w.cell? ⟨b, p, none⟩ := by
  obtain ⟨u0, e0⟩ := Option.isSome_iff_exists.1 h0
  obtain ⟨u1, e1⟩ := Option.isSome_iff_exists.1 h1
  obtain ⟨u2, e2⟩ := Option.isSome_iff_exists.1 h2
  have ne : ∀ {p q : Nat}, p ≠ q → (⟨b, p, none⟩ : Addr) ≠ ⟨b, q, none⟩ := fun h e => h (by cases e; rfl)
  refine ⟨?_, ?_, ?_, fun p n0 n1 n2 => ?_⟩
  · rw [World.cell?_setCell_other _ _ _ _ (ne (by omega)), World.cell?_setCell_other _ _ _ _ (ne (by omega))]
    exact World.cell?_setCell_same _ _ _ e0
  · rw [World.cell?_setCell_other _ _ _ _ (ne (by omega))]
    exact World.cell?_setCell_same _ _ _ ((World.cell?_setCell_other _ _ _ _ (ne (by omega))).trans e1)
  · exact World.cell?_setCell_same _ _ _ ((World.cell?_setCell_other _ _ _ _ (ne (by omega))).trans ((World.cell?_setCell_other _ _ _ _ (ne (by omega))).trans e2))
  · rw [World.cell?_setCell_other _ _ _ _ (ne (by omega)), World.cell?_setCell_other _ _ _ _ (ne (by omega)), World.cell?_setCell_other _ _ _ _ (ne (by omega))]
theorem SpsF.set {w : World} {b n i : Nat} {f g : Nat → Sp} {x y z : Nat} (h : SpsF w b n f) (hi : i < n) (hq : IsSp x y z (g i)) (hg : ∀ p, p < n → p ≠ i → g p = f p) :
    SpsF (((w.setCell ⟨b, i * 3, none⟩ (.float .f32 x)).setCell ⟨b, i * 3 + 1, none⟩ (.float .f32 y)).setCell ⟨b, i * 3 + 2, none⟩ (.float .f32 z)) b n g := fun p hp => by
  obtain ⟨a0, a1, a2, e0, e1, e2, _⟩ := h i hi
  obtain ⟨s0, s1, s2, s3⟩ := set3_cells (w := w) (b := b) (o := i * 3) (x := .float .f32 x) (y := .float .f32 y) (z := .float .f32 z) (by rw [e0]; rfl) (by rw [e1]; rfl) (by rw [e2]; rfl)
  by_cases hpi : p = i
  · subst hpi
    exact ⟨x, y, z, s0, s1, s2, hq⟩
  · obtain ⟨u, v, t, c0, c1, c2, q⟩ := h p hp
    refine ⟨u, v, t, ?_, ?_, ?_, by rw [hg p hp hpi]; exact q⟩
    · rw [s3 _ (by omega) (by omega) (by omega)]; exact c0
    · rw [s3 _ (by omega) (by omega) (by omega)]; exact c1
    · rw [s3 _ (by omega) (by omega) (by omega)]; exact c2
theorem keep_set3 {w : World} {b b' o i j k : Nat} {v x y z : Value} (hne : b ≠ b') (h : w.cell? ⟨b, o, none⟩ = some v) : (((w.setCell ⟨b', i, none⟩ x).setCell ⟨b', j, none⟩ y).setCell ⟨b', k, none⟩ z).cell? ⟨b, o, none⟩ = some v := by
  rw [World.cell?_setCell_far _ _ _ _ (Ne.symm hne), World.cell?_setCell_far _ _ _ _ (Ne.symm hne), World.cell?_setCell_far _ _ _ _ (Ne.symm hne), h]
end Go.Proofs.Ytkjljajjjhfklaa
