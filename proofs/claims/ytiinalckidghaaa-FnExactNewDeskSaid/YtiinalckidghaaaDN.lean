/- The reference's desk at the beginning. -/
import Derived.Test.YtiinalckidghaaaDS
namespace Go.Fl
open Go.RowKit
def curP : List Cx := [(0, 0), (1065353216, 1065353216), (1073741824, 0)]
def curW : List Nat := [1065353216, 1065353216, 1065353216]
def splP : List Cx := [(0, 0), (1065353216, 0), (1073741824, 0), (1077936128, 0)]
def rngP : List Cx := [(0, 0), (1082130432, 0), (1082130432, 1082130432)]
theorem SlC.new {w : World} {l : List Cx} {T : TypeId} {nb : Nat} {cs : Array Value} (hcs : cs = (l.map cV).toArray) (hb : nb = w.heap.size) : SlC (w.alloc (.cells cs T)) nb (nb + 1) (some ⟨nb, 0, none⟩) l := fun _ => by
  subst hb hcs
  refine ⟨w.heap.size, rfl, Nat.le_refl _, Nat.lt_succ_self _, fun i hi => ?_⟩
  rw [World.cell?_alloc_new]
  simp [hi, cAt]
theorem OwnC1.new {w : World} {l : List Cx} {T : TypeId} {nb : Nat} {cs : Array Value} (hcs : cs = (l.map cV).toArray) (hb : nb = w.heap.size) : OwnC1 (w.alloc (.cells cs T)) nb l := by
  refine ⟨⟨cs, T, OwnC.new hb, by rw [hcs]; simp⟩, fun i hi => ?_⟩
  obtain ⟨b, e, _, _, hc⟩ := SlC.new (w := w) (T := T) hcs hb (by omega)
  cases e
  exact hc i hi
def nth (l : List Nat) (i : Nat) : Nat := l.getD i 0
/-- what both return: six rows of their own -/
structure DeskAt (w : World) (lo : Nat) (b : Nat → Nat) : Prop where
  lo : ∀ i, i < 6 → lo ≤ b i ∧ b i < w.heap.size
  inj : ∀ i j, i < j → j < 6 → b i ≠ b j
  r0 : OwnC1 w (b 0) curP
  r1 : OwnF1 w (b 1) curW
  r2 : OwnF1 w (b 2) knF
  r3 : OwnC1 w (b 3) splP
  r4 : OwnP1 w (b 4) spF
  r5 : OwnC1 w (b 5) rngP
def dskV (b c : Nat → Nat) : Value := .agg #[.slice (some ⟨b 0, 0, none⟩) 3 (c 0), .slice (some ⟨b 1, 0, none⟩) 3 (c 1), .int .i64 2, .slice (some ⟨b 2, 0, none⟩) 7 (c 2), .slice (some ⟨b 3, 0, none⟩) 4 (c 3), .int .i64 2, .int .i64 2, .slice (some ⟨b 4, 0, none⟩) 4 (c 4), .slice (some ⟨b 5, 0, none⟩) 3 (c 5)]
def DeskR (w : World) (e : Ending) (w' : World) : Prop := ∃ b c, e = .returned (dskV b c) ∧ DeskAt w' w.heap.size b ∧ Below w.heap.size w w'
theorem OwnC1.below {w w' : World} {B g : Nat} {l : List Cx} (h : OwnC1 w g l) (hb : Below B w w') (hg : g < B) : OwnC1 w' g l := h.far (Far.below hb (Nat.le_refl B)) (Nat.zero_le _) hg
theorem OwnF1.below {w w' : World} {B g : Nat} {l : List Nat} (h : OwnF1 w g l) (hb : Below B w w') (hg : g < B) : OwnF1 w' g l := h.far (Far.below hb (Nat.le_refl B)) (Nat.zero_le _) hg
theorem OwnP1.below {w w' : World} {B g : Nat} {l : List Sp} (h : OwnP1 w g l) (hb : Below B w w') (hg : g < B) : OwnP1 w' g l := h.far (Far.below hb (Nat.le_refl B)) (Nat.zero_le _) hg
end Go.Fl
namespace Go.Proofs.Ytiinalckidghaaa
open Go.RowKit Go.Fl
def dskZ : Array Value := #[.slice none 0 0, .slice none 0 0, .int .i64 0, .slice none 0 0, .slice none 0 0, .int .i64 0, .int .i64 0, .slice none 0 0, .slice none 0 0]
set_option maxHeartbeats 2000000 in
set_option maxRecDepth 100000 in
theorem specNewDesk (w : World) : Calls Try.prog 4 #[] w (DeskR w) := by
  go_enter Try.func4, Try.ntmps4
  have hA := l02Plain (w.heap.size + 1) (w.heap.size + 2) (w.heap.size + 1) 3 curP (by decide) (by decide) ((w.alloc (.cells dskZ 32)).alloc (.cells #[.complex .f32 0 0, .complex .f32 1065353216 1065353216, .complex .f32 1073741824 0] 38)) (SlC.new (by rfl) (by simp)) (by simp)
  have HA := Lib.hid hA
  have hT := OwnC.new (w := w) (b := w.heap.size) (cs := dskZ) (T := 32) rfl
  have HT := Lib.hid hT
  clear hA hT
  go_wp2_with (go_at_call 9; refine HA.out.mono ?_; rintro e w1 ⟨⟨b0, c0, b1, c1, rfl, l0, l1, n01, t0, t1, o0, o1⟩, hb1⟩; unfold curV; simp only [show curP.length = 3 from rfl] at *; have O0 := Lib.hid o0; have O1 := Lib.hid o1; have HB1 := Lib.hid hb1; clear o0 o1 hb1)
  have z1 : w.heap.size + 2 ≤ w1.heap.size := by have := HB1.out.size; simpa using this
  simp at l0 l1
  obtain ⟨L, hL⟩ : ∃ x : World, x = w1.alloc (.cells #[.slice (some ⟨b0, 0, none⟩) 3 c0, .slice (some ⟨b1, 0, none⟩) 3 c1, .int .i64 0, .slice none 0 0, .slice none 0 0, .int .i64 0, .int .i64 0, .slice none 0 0, .slice none 0 0] 32) := ⟨_, rfl⟩
  have hP : OwnC L w1.heap.size #[.slice (some ⟨b0, 0, none⟩) 3 c0, .slice (some ⟨b1, 0, none⟩) 3 c1, .int .i64 0, .slice none 0 0, .slice none 0 0, .int .i64 0, .int .i64 0, .slice none 0 0, .slice none 0 0] 32 := by rw [hL]; exact OwnC.new rfl
  have zL : L.heap.size = w1.heap.size + 1 := by rw [hL]; simp
  have hBL : Below w1.heap.size w1 L := by rw [hL]; exact Below.alloc (Below.refl _ _) (Nat.le_refl _) _
  rw [← hL]
  have HBL := Lib.hid hBL
  have hB := l02Even L.heap.size (L.heap.size + 1) L.heap.size 4 splP rfl (L.alloc (.cells #[.complex .f32 0 0, .complex .f32 1065353216 0, .complex .f32 1073741824 0, .complex .f32 1077936128 0] 38)) (SlC.new (by rfl) rfl) (by simp)
  have hPA := hP.alloc (.cells #[.complex .f32 0 0, .complex .f32 1065353216 0, .complex .f32 1073741824 0, .complex .f32 1077936128 0] 38)
  have HB := Lib.hid hB
  have HPA := Lib.hid hPA
  clear hL hP hBL hB hPA
  rw [← zL]
  refine HB.out.mono ?_
  rintro e w2 ⟨⟨b2, c2, b3, c3, rfl, l2, l3, n23, t2, t3, o2, o3⟩, hb2⟩
  unfold spnV
  simp only [World.size_alloc] at l2 l3
  have hP2 := HPA.out.below hb2 (by simp; omega)
  have z2 := hb2.size
  simp only [World.size_alloc] at z2
  have O2 := Lib.hid o2
  have O3 := Lib.hid o3
  have HB2 := Lib.hid hb2
  have p2 := hP2.cell 2
  have p3 := hP2.cell 3
  have p4 := hP2.cell 4
  have q2 := hP2.free 2
  have q3 := hP2.free 3
  have q4 := hP2.free 4
  simp at p2 p3 p4
  have HP2 := Lib.hid hP2
  clear o2 o3 hb2 hP2
  go_wp2_with fail
  obtain ⟨L2, hL2⟩ : ∃ x : World, x = ((w2.setCell ⟨w1.heap.size, 2, none⟩ (.int .i64 2)).setCell ⟨w1.heap.size, 3, none⟩ (.slice (some ⟨b2, 0, none⟩) 7 c2)).setCell ⟨w1.heap.size, 4, none⟩ (.slice (some ⟨b3, 0, none⟩) 4 c3) := ⟨_, rfl⟩
  rw [← hL2]
  have hPL2 : OwnC L2 w1.heap.size #[.slice (some ⟨b0, 0, none⟩) 3 c0, .slice (some ⟨b1, 0, none⟩) 3 c1, .int .i64 2, .slice (some ⟨b2, 0, none⟩) 7 c2, .slice (some ⟨b3, 0, none⟩) 4 c3, .int .i64 0, .int .i64 0, .slice none 0 0, .slice none 0 0] 32 := by
    rw [hL2]; exact (((HP2.out.set 2 _).set 3 _).set 4 _).congr (by simp)
  have hF2 : Far L.heap.size w2.heap.size w2 L2 := by
    rw [hL2]; exact (((Far.refl _ _ _).set _ _ (.inl (by simp; omega))).set _ _ (.inl (by simp; omega))).set _ _ (.inl (by simp; omega))
  have hB12 : Below w1.heap.size w1 L2 := by
    have h1 : Below w1.heap.size w1 w2 := HBL.out.trans ((Below.alloc (Below.refl _ _) (Nat.le_refl _) _ : Below L.heap.size L (L.alloc (.cells #[.complex .f32 0 0, .complex .f32 1065353216 0, .complex .f32 1073741824 0, .complex .f32 1077936128 0] 38))).trans (HB2.out.mono (by simp)) |>.mono (by omega))
    rw [hL2]; exact ((h1.setCell (Nat.le_refl _) _).setCell (Nat.le_refl _) _).setCell (Nat.le_refl _) _
  have zL2 : L2.heap.size = w2.heap.size := by rw [hL2]; simp
  have HF2 := Lib.hid hF2
  have HB12 := Lib.hid hB12
  clear hL2 p2 p3 p4 q2 q3 q4 HP2 hF2 hB12
  refine (l04Flat L2).mono ?_
  rintro e w3 ⟨⟨b4, c4, rfl, l4, t4, o4⟩, hb3⟩
  unfold shtV
  have z3 := hb3.size
  have hP3 := hPL2.below hb3 (by omega)
  have hR3 : OwnC w3 w.heap.size dskZ 32 := (HT.out.alloc _).below (HB1.out.trans ((HB12.out.trans (hb3.mono (by omega))).mono (by simp; omega))) (by simp; omega)
  have s0 := hP3.cell 0
  have f0 := hP3.free 0
  have r0 := hR3.cell 0
  have g0 := hR3.free 0
  have s1 := hP3.cell 1
  have f1 := hP3.free 1
  have r1 := hR3.cell 1
  have g1 := hR3.free 1
  have s2 := hP3.cell 2
  have f2 := hP3.free 2
  have r2 := hR3.cell 2
  have g2 := hR3.free 2
  have s3 := hP3.cell 3
  have f3 := hP3.free 3
  have r3 := hR3.cell 3
  have g3 := hR3.free 3
  have s4 := hP3.cell 4
  have f4 := hP3.free 4
  have r4 := hR3.cell 4
  have g4 := hR3.free 4
  have s5 := hP3.cell 5
  have f5 := hP3.free 5
  have r5 := hR3.cell 5
  have g5 := hR3.free 5
  have s6 := hP3.cell 6
  have f6 := hP3.free 6
  have r6 := hR3.cell 6
  have g6 := hR3.free 6
  have s7 := hP3.cell 7
  have f7 := hP3.free 7
  have r7 := hR3.cell 7
  have g7 := hR3.free 7
  have s8 := hP3.cell 8
  have f8 := hP3.free 8
  have r8 := hR3.cell 8
  have g8 := hR3.free 8
  simp [dskZ] at s0 s1 s2 s3 s4 s5 s6 s7 s8 r0 r1 r2 r3 r4 r5 r6 r7 r8
  have hB13 : Below w1.heap.size w1 w3 := HB12.out.trans (hb3.mono (by omega))
  have y1 : w1.heap.size < w3.heap.size := by omega
  have y2 : ¬ w1.heap.size = w3.heap.size := by omega
  have y3 : w.heap.size < w3.heap.size := by omega
  have y4 : ¬ w.heap.size = w3.heap.size := by omega
  have y5 : ¬ w1.heap.size = w.heap.size := by omega
  have y6 : ¬ w.heap.size = w1.heap.size := by omega
  have HP3 := Lib.hid hP3
  have HR3 := Lib.hid hR3
  have HB13 := Lib.hid hB13
  have O4 := Lib.hid o4
  have HB3 := Lib.hid hb3
  clear o4 hb3 hP3 hPL2 hB13 hR3
  go_wp2_with fail
  obtain ⟨W, hW⟩ : ∃ x : World, x = (((((((((((((w3.setCell ⟨w1.heap.size, 5, none⟩ (.int .i64 2)).setCell ⟨w1.heap.size, 6, none⟩ (.int .i64 2)).setCell ⟨w1.heap.size, 7, none⟩ (.slice (some ⟨b4, 0, none⟩) 4 c4)).setCell ⟨w1.heap.size, 8, none⟩ (.slice (some ⟨w3.heap.size, 0, none⟩) 3 3)).setCell ⟨w.heap.size, 0, none⟩ (.slice (some ⟨b0, 0, none⟩) 3 c0)).setCell ⟨w.heap.size, 1, none⟩ (.slice (some ⟨b1, 0, none⟩) 3 c1)).setCell ⟨w.heap.size, 2, none⟩ (.int .i64 2)).setCell ⟨w.heap.size, 3, none⟩ (.slice (some ⟨b2, 0, none⟩) 7 c2)).setCell ⟨w.heap.size, 4, none⟩ (.slice (some ⟨b3, 0, none⟩) 4 c3)).setCell ⟨w.heap.size, 5, none⟩ (.int .i64 2)).setCell ⟨w.heap.size, 6, none⟩ (.int .i64 2)).setCell ⟨w.heap.size, 7, none⟩ (.slice (some ⟨b4, 0, none⟩) 4 c4)).setCell ⟨w.heap.size, 8, none⟩ (.slice (some ⟨w3.heap.size, 0, none⟩) 3 3)) := ⟨_, rfl⟩
  have hFar : Far L.heap.size w3.heap.size w3 W := by rw [hW]; exact ((((((((((((((Far.refl L.heap.size w3.heap.size w3).set _ _ (.inl (by simp; omega))).set _ _ (.inl (by simp; omega))).set _ _ (.inl (by simp; omega))).set _ _ (.inl (by simp; omega))).set _ _ (.inl (by simp; omega))).set _ _ (.inl (by simp; omega))).set _ _ (.inl (by simp; omega))).set _ _ (.inl (by simp; omega))).set _ _ (.inl (by simp; omega))).set _ _ (.inl (by simp; omega))).set _ _ (.inl (by simp; omega))).set _ _ (.inl (by simp; omega))).set _ _ (.inl (by simp; omega)))
  have hFar1 : Far (w.heap.size + 1) w1.heap.size w3 W := by rw [hW]; exact ((((((((((((((Far.refl (w.heap.size + 1) w1.heap.size w3).set _ _ (.inr (by simp))).set _ _ (.inr (by simp))).set _ _ (.inr (by simp))).set _ _ (.inr (by simp))).set _ _ (.inl (by simp))).set _ _ (.inl (by simp))).set _ _ (.inl (by simp))).set _ _ (.inl (by simp))).set _ _ (.inl (by simp))).set _ _ (.inl (by simp))).set _ _ (.inl (by simp))).set _ _ (.inl (by simp))).set _ _ (.inl (by simp)))
  have hBel : Below w.heap.size w W := by rw [hW]; exact ((((((((((((((Below.trans (by (repeat (first | exact Below.refl _ _ | assumption | refine below_dr ?_ _ | refine Below.alloc ?_ (by first | omega | (simp; done) | (simp; omega)) _ | refine Below.setCell ?_ (by first | omega | (simp; done) | (simp; omega)) _ | refine Below.trans ?_ (Below.mono (by assumption) (by first | omega | (simp; done) | (simp; omega))))) : Below w.heap.size w ((w.alloc (.cells dskZ 32)).alloc (.cells #[.complex .f32 0 0, .complex .f32 1065353216 1065353216, .complex .f32 1073741824 0] 38))) ((HB1.out.trans (HB13.out.mono (by simp; omega))).mono (by simp; omega))).setCell (by simp; omega) _).setCell (by simp; omega) _).setCell (by simp; omega) _).setCell (by simp; omega) _).setCell (Nat.le_refl _) _).setCell (Nat.le_refl _) _).setCell (Nat.le_refl _) _).setCell (Nat.le_refl _) _).setCell (Nat.le_refl _) _).setCell (Nat.le_refl _) _).setCell (Nat.le_refl _) _).setCell (Nat.le_refl _) _).setCell (Nat.le_refl _) _)
  have hOwn : OwnC W w.heap.size #[(.slice (some ⟨b0, 0, none⟩) 3 c0), (.slice (some ⟨b1, 0, none⟩) 3 c1), (.int .i64 2), (.slice (some ⟨b2, 0, none⟩) 7 c2), (.slice (some ⟨b3, 0, none⟩) 4 c3), (.int .i64 2), (.int .i64 2), (.slice (some ⟨b4, 0, none⟩) 4 c4), (.slice (some ⟨w3.heap.size, 0, none⟩) 3 3)] 32 := by rw [hW]; exact (((((((((((((HR3.out.other _ _ (by simp; omega)).other _ _ (by simp; omega)).other _ _ (by simp; omega)).other _ _ (by simp; omega)).set 0 _).set 1 _).set 2 _).set 3 _).set 4 _).set 5 _).set 6 _).set 7 _).set 8 _).congr (by simp [dskZ])
  have zW : W.heap.size = w3.heap.size := by rw [hW]; simp
  rw [← hW]
  have hOwn' := hOwn.alloc (.cells #[.complex .f32 0 0, .complex .f32 1082130432 0, .complex .f32 1082130432 1082130432] 38)
  have q0 := hOwn'.cell 0
  have q1 := hOwn'.cell 1
  have q2 := hOwn'.cell 2
  have q3 := hOwn'.cell 3
  have q4 := hOwn'.cell 4
  have q5 := hOwn'.cell 5
  have q6 := hOwn'.cell 6
  have q7 := hOwn'.cell 7
  have q8 := hOwn'.cell 8
  simp at q0 q1 q2 q3 q4 q5 q6 q7 q8
  have hR := (Far.refl (w.heap.size + 1) W.heap.size W).alloc (.cells #[.complex .f32 0 0, .complex .f32 1082130432 0, .complex .f32 1082130432 1082130432] 38) (Nat.le_refl _)
  have hFb : ∀ (x : Nat), w.heap.size + 2 ≤ x → x < w1.heap.size → Far x (x + 1) w1 (W.alloc (.cells #[.complex .f32 0 0, .complex .f32 1082130432 0, .complex .f32 1082130432 1082130432] 38)) := fun x h1 h2 => ((Far.below HB13.out (show x + 1 ≤ w1.heap.size by omega)).trans (hFar1.mono (by omega) (by omega))).trans (hR.mono (by omega) (by omega))
  have hFc : ∀ (x : Nat), L.heap.size + 1 ≤ x → x < w2.heap.size → Far x (x + 1) w2 (W.alloc (.cells #[.complex .f32 0 0, .complex .f32 1082130432 0, .complex .f32 1082130432 1082130432] 38)) := fun x h1 h2 => (((HF2.out.mono (by omega) (by omega)).trans (Far.below HB3.out (by omega))).trans (hFar.mono (by omega) (by omega))).trans (hR.mono (by omega) (by omega))
  have hFd : ∀ (x : Nat), L2.heap.size ≤ x → x < w3.heap.size → Far x (x + 1) w3 (W.alloc (.cells #[.complex .f32 0 0, .complex .f32 1082130432 0, .complex .f32 1082130432 1082130432] 38)) := fun x h1 h2 => (hFar.mono (by omega) (by omega)).trans (hR.mono (by omega) (by omega))
  refine bodyPost_ret (v := dskV (nth [b0, b1, b2, b3, b4, w3.heap.size]) (nth [c0, c1, c2, c3, c4, 3])) (by simp [results, Try.results4, go_sem, q0, q1, q2, q3, q4, q5, q6, q7, q8]; rfl) rfl ⟨_, _, rfl, ⟨fun i hi => ?_, fun i j h1 h2 => ?_, ?_, ?_, ?_, ?_, ?_, ?_⟩, hBel.alloc (by omega) _⟩
  · have hc : i = 0 ∨ i = 1 ∨ i = 2 ∨ i = 3 ∨ i = 4 ∨ i = 5 := by omega
    rcases hc with rfl | rfl | rfl | rfl | rfl | rfl <;> simp [nth] <;> omega
  · have hc : j = 1 ∨ j = 2 ∨ j = 3 ∨ j = 4 ∨ j = 5 := by omega
    have hi : i = 0 ∨ i = 1 ∨ i = 2 ∨ i = 3 ∨ i = 4 := by omega
    rcases hc with rfl | rfl | rfl | rfl | rfl <;> rcases hi with rfl | rfl | rfl | rfl | rfl <;> (try omega) <;> simp [nth] <;> omega
  · exact O0.out.far (hFb b0 (by omega) t0) (Nat.le_refl _) (Nat.lt_succ_self _)
  · exact OwnF1.far (l := curW) O1.out (hFb b1 (by omega) t1) (Nat.le_refl _) (Nat.lt_succ_self _)
  · exact O2.out.far (hFc b2 (by omega) t2) (Nat.le_refl _) (Nat.lt_succ_self _)
  · exact O3.out.far (hFc b3 (by omega) t3) (Nat.le_refl _) (Nat.lt_succ_self _)
  · exact O4.out.far (hFd b4 (by omega) t4) (Nat.le_refl _) (Nat.lt_succ_self _)
  · exact OwnC1.new (by rfl) zW.symm
end Go.Proofs.Ytiinalckidghaaa
