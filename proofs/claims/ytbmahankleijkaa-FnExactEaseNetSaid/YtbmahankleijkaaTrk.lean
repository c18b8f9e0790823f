/- A region that calls, and makes one block of its own: where it stands. -/
import Derived.Test.YtbmahankleijkaaMem
namespace Go.Fl
open Go.RowKit
/-- from wr on the world came to w: of the old blocks none turned; if o is a block, it is the region's own, still with cs -/
structure Trk (cs : Array Value) (T : TypeId) (wr : World) (o : Option Nat) (w : World) : Prop where
  below : Below wr.heap.size wr w
  own : ∀ b, o = some b → wr.heap.size ≤ b ∧ OwnC w b cs T
theorem Trk.start (cs : Array Value) (T : TypeId) (wr : World) : Trk cs T wr none wr.drew := ⟨⟨rfl, rfl, rfl, Nat.le_refl _, fun _ _ => rfl⟩, fun b h => by cases h⟩
theorem Trk.here (cs : Array Value) (T : TypeId) (wr : World) : Trk cs T wr none wr := ⟨⟨rfl, rfl, rfl, Nat.le_refl _, fun _ _ => rfl⟩, fun b h => by cases h⟩
theorem Trk.startA (cs : Array Value) (T : TypeId) (wr : World) : Trk cs T wr (some wr.heap.size) (wr.alloc (.cells cs T)).drew :=
  ⟨Below.drew (Below.alloc (Below.refl _ _) (Nat.le_refl _) _), fun b h => by cases h; exact ⟨Nat.le_refl _, (OwnC.new (w := wr) rfl)⟩⟩
theorem Trk.alloc {cs : Array Value} {T : TypeId} {wr w : World} (h : Trk cs T wr none w) : Trk cs T wr (some w.heap.size) (w.alloc (.cells cs T)) :=
  ⟨h.below.alloc h.below.size _, fun b e => by cases e; exact ⟨h.below.size, OwnC.new rfl⟩⟩
theorem Trk.call {cs : Array Value} {T : TypeId} {wr w w' : World} {o : Option Nat} (h : Trk cs T wr o w) (hb : Below w.heap.size w w') : Trk cs T wr o w' :=
  ⟨h.below.trans (hb.mono h.below.size), fun b e => ⟨(h.own b e).1, (h.own b e).2.below hb (h.own b e).2.lt⟩⟩
theorem Trk.dr {cs : Array Value} {T : TypeId} {wr w : World} {o : Option Nat} (h : Trk cs T wr o w) (n : Nat) : Trk cs T wr o (w.drewN n) :=
  h.call (below_drewN (Below.refl _ _) n)
/-- the cells of the old blocks, wherever it stands -/
theorem Trk.k0 {wr : World} {b o : Nat} {v : Value} (h : wr.cell? ⟨b, o, none⟩ = some v) : wr.drew.cell? ⟨b, o, none⟩ = some v := h
theorem Trk.k1 {cs : Array Value} {T : TypeId} {wr w : World} {p : Option Nat} (t : Trk cs T wr p w) {b o : Nat} {v : Value} (h : wr.cell? ⟨b, o, none⟩ = some v) : w.cell? ⟨b, o, none⟩ = some v := keep_cell t.below h
theorem Trk.k2 {cs : Array Value} {T : TypeId} {wr w : World} {p : Option Nat} (t : Trk cs T wr p w) (ob : Obj) {b o : Nat} {v : Value} (h : wr.cell? ⟨b, o, none⟩ = some v) : (w.alloc ob).cell? ⟨b, o, none⟩ = some v :=
  keep_cell (t.below.alloc t.below.size ob) h
theorem Trk.k2d {wr : World} (ob : Obj) {b o : Nat} {v : Value} (h : wr.cell? ⟨b, o, none⟩ = some v) : (wr.alloc ob).drew.cell? ⟨b, o, none⟩ = some v :=
  keep_cell (w' := (wr.alloc ob).drew) (Below.drew (Below.alloc (Below.refl _ _) (Nat.le_refl _) _)) h
theorem Trk.belowSet {cs : Array Value} {T : TypeId} {wr w : World} {b' : Nat} (t : Trk cs T wr (some b') w) (x y z : Value) : Below wr.heap.size wr (((w.setCell ⟨b', 0, none⟩ x).setCell ⟨b', 1, none⟩ y).setCell ⟨b', 2, none⟩ z) :=
  ((t.below.setCell (t.own b' rfl).1 _).setCell (t.own b' rfl).1 _).setCell (t.own b' rfl).1 _
theorem Trk.k3 {cs : Array Value} {T : TypeId} {wr w : World} {b' : Nat} (t : Trk cs T wr (some b') w) (x y z : Value) {b o : Nat} {v : Value} (h : wr.cell? ⟨b, o, none⟩ = some v) : (((w.setCell ⟨b', 0, none⟩ x).setCell ⟨b', 1, none⟩ y).setCell ⟨b', 2, none⟩ z).cell? ⟨b, o, none⟩ = some v :=
  keep_cell (t.belowSet x y z) h
theorem Trk.k3n {cs : Array Value} {T : TypeId} {wr w : World} {b' : Nat} (t : Trk cs T wr (some b') w) (x y z : Value) {b o : Nat} {v : Value} (h : wr.cell? ⟨b, o, none⟩ = some v) (n : Nat) : ((((w.setCell ⟨b', 0, none⟩ x).setCell ⟨b', 1, none⟩ y).setCell ⟨b', 2, none⟩ z).drewN n).cell? ⟨b, o, none⟩ = some v :=
  t.k3 x y z h
theorem Trk.at {cs : Array Value} {T : TypeId} {wr w : World} {b' : Nat} (t : Trk cs T wr (some b') w) (i : Nat) : w.cell? ⟨b', i, none⟩ = cs[i]? := (t.own b' rfl).2.cell i
theorem Trk.free {cs : Array Value} {T : TypeId} {wr w : World} {b' : Nat} (t : Trk cs T wr (some b') w) (i : Nat) : w.frozen? ⟨b', i, none⟩ = false := (t.own b' rfl).2.free i
/-- the block that the region made holds these three, and none of the old ones turned -/
def Made (wr : World) (T : TypeId) (cb : Nat) (cs : Array Value) (wx : World) : Prop := Below wr.heap.size wr wx ∧ OwnC wx cb cs T ∧ wr.heap.size ≤ cb
theorem Trk.made {cs : Array Value} {T : TypeId} {wr w : World} {b' : Nat} (t : Trk cs T wr (some b') w) (hc : cs.size = 3) (x y z : Value) : Made wr T b' #[x, y, z] (((w.setCell ⟨b', 0, none⟩ x).setCell ⟨b', 1, none⟩ y).setCell ⟨b', 2, none⟩ z) :=
  ⟨t.belowSet x y z, ((((t.own b' rfl).2.set 0 x).set 1 y).set 2 z).congr (by
    obtain ⟨l⟩ := cs
    match l, hc with
    | [_, _, _], _ => rfl), (t.own b' rfl).1⟩
theorem Trk.madeA {cs : Array Value} {T : TypeId} {wr w : World} {p : Option Nat} (t : Trk cs T wr p w) (cs' : Array Value) : Made wr T w.heap.size cs' (w.alloc (.cells cs' T)) :=
  ⟨t.below.alloc t.below.size _, OwnC.new rfl, t.below.size⟩
theorem Trk.madeAd {cs : Array Value} {T : TypeId} {wr w : World} {p : Option Nat} (t : Trk cs T wr p w) (cs' : Array Value) : Made wr T w.heap.size cs' (w.alloc (.cells cs' T)).drew :=
  ⟨Below.drew (t.below.alloc t.below.size _), OwnC.new (w := w) rfl, t.below.size⟩
end Go.Fl
