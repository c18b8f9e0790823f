/- spec.l04Give, impl.ifSheet. -/
import Derived.Test.YtlpgaekkhlinhaaGreatDoorRhV
namespace Go.Fl
open Go.RowKit
theorem OwnC.tri {w : World} {b : Nat} {t u v : Value} {T : TypeId} (h : OwnC w b #[t, u, v] T) : (w.cell? ⟨b, 0, none⟩ = some t ∧ w.cell? ⟨b, 1, none⟩ = some u ∧ w.cell? ⟨b, 2, none⟩ = some v) ∧ w.frozen? ⟨b, 0, none⟩ = false ∧ w.frozen? ⟨b, 1, none⟩ = false ∧ w.frozen? ⟨b, 2, none⟩ = false :=
  ⟨⟨by rw [h.cell]; rfl, by rw [h.cell]; rfl, by rw [h.cell]; rfl⟩, h.free 0, h.free 1, h.free 2⟩
end Go.Fl
namespace Go.Proofs.YtlpgaekkhlinhaaGreatDoor
open Go.RowKit Go.Fl

set_option maxHeartbeats 2000000 in
set_option maxRecDepth 100000 in
theorem l04Give (lo hi : Nat) (a l : Int) (ao : Option Addr) (c : Nat) (ps : List Sp) (hn : ps.length ≤ 1048576) (w : World) (hs : SlP w lo hi ao ps) (hh : hi ≤ w.heap.size) :
    Calls Tryz.prog 56 #[.agg #[.int .i64 a, .int .i64 l, .slice ao ps.length c]] w fun e w' => (okSh a l ps = true → e = .returned (.tuple #[.agg #[.int .i64 a, .int .i64 l, .slice ao ps.length c], .bool true])) ∧ (okSh a l ps = false → e = .returned (.tuple #[.agg #[.int .i64 0, .int .i64 0, .slice none 0 0], .bool false])) ∧ Below w.heap.size w w' := by
  have hb0 : Below w.heap.size w ((w.alloc (.cells #[.int .i64 a, .int .i64 l, .slice ao ps.length c] 33)).alloc (.cells #[.int .i64 0, .int .i64 0, .slice none 0 0] 33)) := Below.alloc (Below.alloc (Below.refl _ w) (Nat.le_refl _) _) (by simp) _
  have A0 : OwnC ((w.alloc (.cells #[.int .i64 a, .int .i64 l, .slice ao ps.length c] 33)).alloc (.cells #[.int .i64 0, .int .i64 0, .slice none 0 0] 33)) w.heap.size #[.int .i64 a, .int .i64 l, .slice ao ps.length c] 33 := (OwnC.new rfl).alloc _
  have R0 : OwnC ((w.alloc (.cells #[.int .i64 a, .int .i64 l, .slice ao ps.length c] 33)).alloc (.cells #[.int .i64 0, .int .i64 0, .slice none 0 0] 33)) (w.heap.size + 1) #[.int .i64 0, .int .i64 0, .slice none 0 0] 33 := OwnC.new (by simp)
  have HI := Lib.hid (l04Is lo hi w.heap.size a l ao c ps hn ((w.alloc (.cells #[.int .i64 a, .int .i64 l, .slice ao ps.length c] 33)).alloc (.cells #[.int .i64 0, .int .i64 0, .slice none 0 0] 33)) A0.tri.1.1 A0.tri.1.2.1 A0.tri.1.2.2 (hs.far (Far.below hb0 hh)) (by simp; omega))
  have HA0 := Lib.hid A0
  have HR0 := Lib.hid R0
  have HB0 := Lib.hid hb0
  clear hb0 A0 R0 hs
  go_enter Tryz.func56, Tryz.ntmps56
  go_wp2_with fail
  refine HI.out.mono ?_
  rintro e w1 ⟨rfl, hb1⟩
  obtain ⟨⟨a0, a1, a2⟩, _, _, _⟩ := (HA0.out.below hb1 (by simp; omega)).tri
  obtain ⟨⟨d0, d1, d2⟩, f0, f1, f2⟩ := (HR0.out.below hb1 (by simp)).tri
  have HB1 := Lib.hid (HB0.out.trans (hb1.mono (by simp; omega)))
  clear hb1
  cases hok : okSh a l ps
  · go_wp2_with fail
    refine bodyPost_ret (v := .tuple #[.agg #[.int .i64 0, .int .i64 0, .slice none 0 0], .bool false]) (by simp [results, Tryz.results56, go_sem, d0, d1, d2]) rfl ⟨fun h => absurd (h.symm.trans hok) (by decide), fun _ => rfl, ((HB1.out.setCell (by show w.heap.size ≤ w.heap.size + 1; omega) _).setCell (by show w.heap.size ≤ w.heap.size + 1; omega) _).setCell (by show w.heap.size ≤ w.heap.size + 1; omega) _⟩
  · go_wp2_with fail
    refine bodyPost_ret (v := .tuple #[.agg #[.int .i64 a, .int .i64 l, .slice ao ps.length c], .bool true]) (by simp [results, Tryz.results56, go_sem, d0, d1, d2]) rfl ⟨fun _ => rfl, fun h => absurd (h.symm.trans hok) (by decide), ((HB1.out.setCell (by show w.heap.size ≤ w.heap.size + 1; omega) _).setCell (by show w.heap.size ≤ w.heap.size + 1; omega) _).setCell (by show w.heap.size ≤ w.heap.size + 1; omega) _⟩

set_option maxHeartbeats 2000000 in
set_option maxRecDepth 100000 in
theorem ifSheet (lo hi : Nat) (a l : Int) (ao : Option Addr) (c : Nat) (ps : List Sp) (hn : ps.length ≤ 1048576) (w : World) (hs : SlP w lo hi ao ps) (hh : hi ≤ w.heap.size) :
    Calls Tryz.prog 35 #[.agg #[.int .i64 a, .int .i64 l, .slice ao ps.length c]] w fun e w' => (okSh a l ps = true → e = .returned (.tuple #[.agg #[.int .i64 a, .int .i64 l, .slice ao ps.length c], .bool true])) ∧ (okSh a l ps = false → e = .returned (.tuple #[.agg #[.int .i64 0, .int .i64 0, .slice none 0 0], .bool false])) ∧ Below w.heap.size w w' := by
  have hb0 : Below w.heap.size w ((w.alloc (.cells #[.int .i64 a, .int .i64 l, .slice ao ps.length c] 33)).alloc (.cells #[.int .i64 0, .int .i64 0, .slice none 0 0] 33)) := Below.alloc (Below.alloc (Below.refl _ w) (Nat.le_refl _) _) (by simp) _
  have A0 : OwnC ((w.alloc (.cells #[.int .i64 a, .int .i64 l, .slice ao ps.length c] 33)).alloc (.cells #[.int .i64 0, .int .i64 0, .slice none 0 0] 33)) w.heap.size #[.int .i64 a, .int .i64 l, .slice ao ps.length c] 33 := (OwnC.new rfl).alloc _
  have R0 : OwnC ((w.alloc (.cells #[.int .i64 a, .int .i64 l, .slice ao ps.length c] 33)).alloc (.cells #[.int .i64 0, .int .i64 0, .slice none 0 0] 33)) (w.heap.size + 1) #[.int .i64 0, .int .i64 0, .slice none 0 0] 33 := OwnC.new (by simp)
  have HI := Lib.hid (validSheet lo hi a l ao c ps hn ((w.alloc (.cells #[.int .i64 a, .int .i64 l, .slice ao ps.length c] 33)).alloc (.cells #[.int .i64 0, .int .i64 0, .slice none 0 0] 33)) (hs.far (Far.below hb0 hh)) (by simp; omega))
  have HA0 := Lib.hid A0
  have HR0 := Lib.hid R0
  have HB0 := Lib.hid hb0
  clear hb0 A0 R0 hs
  go_enter Tryz.func35, Tryz.ntmps35
  go_wp2_with fail
  refine HI.out.mono ?_
  rintro e w1 ⟨rfl, hb1⟩
  obtain ⟨⟨a0, a1, a2⟩, _, _, _⟩ := (HA0.out.below hb1 (by simp; omega)).tri
  obtain ⟨⟨d0, d1, d2⟩, f0, f1, f2⟩ := (HR0.out.below hb1 (by simp)).tri
  have HB1 := Lib.hid (HB0.out.trans (hb1.mono (by simp; omega)))
  clear hb1
  cases hok : okSh a l ps
  · go_wp2_with fail
    refine bodyPost_ret (v := .tuple #[.agg #[.int .i64 0, .int .i64 0, .slice none 0 0], .bool false]) (by simp [results, Tryz.results35, go_sem, d0, d1, d2]) rfl ⟨fun h => absurd (h.symm.trans hok) (by decide), fun _ => rfl, ((HB1.out.setCell (by show w.heap.size ≤ w.heap.size + 1; omega) _).setCell (by show w.heap.size ≤ w.heap.size + 1; omega) _).setCell (by show w.heap.size ≤ w.heap.size + 1; omega) _⟩
  · go_wp2_with fail
    refine bodyPost_ret (v := .tuple #[.agg #[.int .i64 a, .int .i64 l, .slice ao ps.length c], .bool true]) (by simp [results, Tryz.results35, go_sem, d0, d1, d2]) rfl ⟨fun _ => rfl, fun h => absurd (h.symm.trans hok) (by decide), ((HB1.out.setCell (by show w.heap.size ≤ w.heap.size + 1; omega) _).setCell (by show w.heap.size ≤ w.heap.size + 1; omega) _).setCell (by show w.heap.size ≤ w.heap.size + 1; omega) _⟩
end Go.Proofs.YtlpgaekkhlinhaaGreatDoor
