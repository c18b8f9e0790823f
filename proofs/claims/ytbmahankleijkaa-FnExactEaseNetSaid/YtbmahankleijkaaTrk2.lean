/- A region that makes a net out of two copies. -/
import Derived.Test.YtbmahankleijkaaTrk
import Derived.Test.YtbmahankleijkaaOwnS
import Derived.Test.YtbmahankleijkaaBackD
namespace Go.Proofs.Ytbmahankleijkaa
open Go.RowKit Go.Fl
theorem Trk.k4 {cs : Array Value} {T : TypeId} {wr w : World} {b' : Nat} (t : Trk cs T wr (some b') w) (x y : Value) {b o : Nat} {v : Value} (h : wr.cell? ⟨b, o, none⟩ = some v) : ((w.setCell ⟨b', 0, none⟩ x).setCell ⟨b', 1, none⟩ y).cell? ⟨b, o, none⟩ = some v :=
  keep_cell ((t.below.setCell (t.own b' rfl).1 _).setCell (t.own b' rfl).1 _) h
/-- the net that was made from wr on: its variable at ob, its copies elsewhere -/
structure MkNet (wr wx : World) (ob bs c1 bf c2 : Nat) (g : Nat → Nat) (ps : List Sp) (fs : List (List Int)) : Prop where
  below : Below wr.heap.size wr wx
  own : OwnC wx ob #[.slice (some ⟨bs, 0, none⟩) ps.length c1, .slice (some ⟨bf, 0, none⟩) fs.length c2] 33
  new : wr.heap.size ≤ ob
  net : OwnNet wx wr.heap.size wx.heap.size bs bf g ps fs
  apart : bs ≠ ob ∧ bf ≠ ob ∧ ∀ i, i < fs.length → g i ≠ ob
theorem mkNet_aux {wr w5 wx : World} {ob bs c1 bf lo5 : Nat} {g : Nat → Nat} {ps : List Sp} {fs : List (List Int)} {cs : List Value} (hr : ORow w5 79 3 bs c1 ps.length cs) (hq : SpL cs ps) (hF : OwnF w5 lo5 w5.heap.size bf g fs)
    (h2 : bs ≠ ob) (h3 : bs < lo5) (h4 : wr.heap.size ≤ bs) (h5 : wr.heap.size ≤ lo5) (h6 : ob < lo5 ∨ w5.heap.size ≤ ob) (hx : ∀ c, c < w5.heap.size → c ≠ ob → wx.heap[c]? = w5.heap[c]?) (hz : w5.heap.size ≤ wx.heap.size) :
    OwnNet wx wr.heap.size wx.heap.size bs bf g ps fs ∧ (bs ≠ ob ∧ bf ≠ ob ∧ ∀ i, i < fs.length → g i ≠ ob) := by
  have hlt := hr.lt
  have hrow := hF.row
  have hS : ORow wx 79 3 bs c1 ps.length cs := hr.far (lo := bs) (hi := bs + 1) (fun c h1 h2' => hx c (by omega) (by omega)) (Nat.le_refl _) (Nat.lt_succ_self _)
  have hF2 : OwnF wx lo5 w5.heap.size bf g fs := hF.far (fun c h1 h2' => hx c h2' (by omega))
  refine ⟨⟨hS.spots hq, hS.room, hF2.wide h5 hz, ⟨h4, hS.lt⟩, ⟨by omega, fun i hi => ?_⟩⟩, h2, by omega, fun i hi => ?_⟩
  · have := hF.blk i hi; omega
  · have := hF.blk i hi; omega
theorem mkNet_set {c0 : Array Value} {wr w5 : World} {ob bs c1 bf c2 lo5 : Nat} {g : Nat → Nat} {ps : List Sp} {fs : List (List Int)} {cs : List Value} (t : Trk c0 33 wr (some ob) w5) (hc : c0.size = 2) (hr : ORow w5 79 3 bs c1 ps.length cs) (hq : SpL cs ps) (hF : OwnF w5 lo5 w5.heap.size bf g fs)
    (h2 : bs ≠ ob) (h3 : bs < lo5) (h4 : wr.heap.size ≤ bs) (h5 : wr.heap.size ≤ lo5) (h6 : ob < lo5) :
    MkNet wr ((w5.setCell ⟨ob, 0, none⟩ (.slice (some ⟨bs, 0, none⟩) ps.length c1)).setCell ⟨ob, 1, none⟩ (.slice (some ⟨bf, 0, none⟩) fs.length c2)) ob bs c1 bf c2 g ps fs := by
  have ho := t.own ob rfl
  obtain ⟨n1, n2⟩ := mkNet_aux (wr := wr) (wx := (w5.setCell ⟨ob, 0, none⟩ (.slice (some ⟨bs, 0, none⟩) ps.length c1)).setCell ⟨ob, 1, none⟩ (.slice (some ⟨bf, 0, none⟩) fs.length c2)) (ob := ob) hr hq hF h2 h3 h4 h5 (.inl h6)
    (fun c _ hne => (Below.heap_setCell _ _ _ _ hne).trans (Below.heap_setCell _ _ _ _ hne)) (by simp)
  refine ⟨(t.below.setCell ho.1 _).setCell ho.1 _, ((ho.2.set 0 _).set 1 _).congr ?_, ho.1, n1, n2⟩
  obtain ⟨l⟩ := c0
  match l, hc with
  | [_, _], _ => rfl
theorem mkNet_alloc {c0 : Array Value} {T : TypeId} {wr w5 : World} {p : Option Nat} {bs c1 bf c2 lo5 : Nat} {g : Nat → Nat} {ps : List Sp} {fs : List (List Int)} {cs : List Value} (t : Trk c0 T wr p w5) (hr : ORow w5 79 3 bs c1 ps.length cs) (hq : SpL cs ps) (hF : OwnF w5 lo5 w5.heap.size bf g fs)
    (h3 : bs < lo5) (h4 : wr.heap.size ≤ bs) (h5 : wr.heap.size ≤ lo5) :
    MkNet wr (w5.alloc (.cells #[.slice (some ⟨bs, 0, none⟩) ps.length c1, .slice (some ⟨bf, 0, none⟩) fs.length c2] 33)) w5.heap.size bs c1 bf c2 g ps fs := by
  have hlt := hr.lt
  obtain ⟨n1, n2⟩ := mkNet_aux (wr := wr) (wx := w5.alloc (.cells #[.slice (some ⟨bs, 0, none⟩) ps.length c1, .slice (some ⟨bf, 0, none⟩) fs.length c2] 33)) (ob := w5.heap.size) hr hq hF (by omega) h3 h4 h5 (.inr (Nat.le_refl _))
    (fun c hc _ => Below.heap_alloc _ _ _ hc) (by simp)
  exact ⟨t.below.alloc t.below.size _, OwnC.new rfl, t.below.size, n1, n2⟩
end Go.Proofs.Ytbmahankleijkaa
