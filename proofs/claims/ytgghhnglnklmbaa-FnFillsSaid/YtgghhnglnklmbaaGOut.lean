/- spec.B10Outline: an outline of quarters, as whole numbers. (Written by mkgdraw.py.) -/
import Derived.Test.YtgghhnglnklmbaaGSp
namespace Go.Fl
open Go.RowKit
theorem CodeAt.up {w : World} {P P' : Nat} {a : Option Addr} {n : Nat} (h : CodeAt w P a n) (hp : P ≤ P') : CodeAt w P' a n := fun h0 => by
  obtain ⟨b, off, e, hb, hc⟩ := h h0
  exact ⟨b, off, e, by omega, hc⟩
theorem ptD_q {z : Cx} (h : ptD z) : ∃ p : Zp, PtQ z p 5 ∧ lowZ p 256 := by
  obtain ⟨r, s, hr, hs, h1, h2⟩ := h
  have q1 := (dX_q hr).shift 3 (by decide)
  have q2 := (dX_q hs).shift 3 (by decide)
  rw [← show can .f32 z.1 = dX r from h1] at q1
  rw [← show can .f32 z.2 = dX s from h2] at q2
  refine ⟨(((r : Int) - 8) * 2 ^ 3, ((s : Int) - 8) * 2 ^ 3), ⟨q1, q2⟩, ?_, ?_⟩
  · show (((r : Int) - 8) * 8).natAbs ≤ 256
    omega
  · show (((s : Int) - 8) * 8).natAbs ≤ 256
    omega
open Classical in
noncomputable def kp (z : Cx) : Zp := if h : ∃ p : Zp, PtQ z p 5 ∧ lowZ p 256 then h.choose else (0, 0)
theorem kp_q {z : Cx} (h : ptD z) : PtQ z (kp z) 5 ∧ lowZ (kp z) 256 := by
  have h := ptD_q h
  unfold kp
  rw [dif_pos h]
  exact h.choose_spec
theorem outK {ls : List (List Cx)} (h : ∀ l, l ∈ ls → lpOk l) : ∃ kls : List (List Zp), kls.length = ls.length ∧ (∀ i, i < ls.length → PtsQ (lpAt ls i) (kAt kls i) 5) ∧ lowK kls := by
  have e1 : ∀ i, i < ls.length → kAt (ls.map (List.map kp)) i = (lpAt ls i).map kp := fun i hi => by simp [kAt, lpAt, hi]
  have e2 : ∀ (l : List Cx) j, j < l.length → zAt (l.map kp) j = kp (cAt l j) := fun l j hj => by simp [zAt, cAt, hj]
  have e3 : ∀ i, i < ls.length → lpOk (lpAt ls i) := fun i hi => by
    have : lpAt ls i = ls[i] := by simp [lpAt, hi]
    rw [this]; exact h _ (List.getElem_mem hi)
  have e4 : ∀ i, i < ls.length → ∀ j, j < (lpAt ls i).length → PtQ (cAt (lpAt ls i) j) (kp (cAt (lpAt ls i) j)) 5 ∧ lowZ (kp (cAt (lpAt ls i) j)) 256 := fun i hi j hj => by
    have : cAt (lpAt ls i) j = (lpAt ls i)[j] := by simp [cAt, hj]
    rw [this]
    exact kp_q ((e3 i hi).2.2 _ (List.getElem_mem hj)).2.2
  refine ⟨ls.map (List.map kp), List.length_map _, fun i hi => ⟨by rw [e1 i hi, List.length_map], fun j hj => ?_⟩, fun i hi => ?_⟩
  · rw [e1 i hi, e2 _ j hj]
    have := e4 i hi j hj
    exact ⟨this.1, by have := this.2.1; omega, by have := this.2.2; omega⟩
  · rw [List.length_map] at hi
    rw [e1 i hi, List.length_map]
    refine ⟨(e3 i hi).2.1, fun j hj => ?_⟩
    rw [e2 _ j hj]
    exact (e4 i hi j hj).2
end Go.Fl
namespace Go.Proofs.Ytgghhnglnklmbaa
open Go.RowKit Go.Fl

theorem l00From (a : Option Addr) (n c : Nat) (w : World) :
    Calls Try.prog 18 #[.slice a n c] w fun e w' => e = .returned (.pointer (some ⟨w.heap.size, 0, none⟩)) ∧ w' = w.alloc (.cells #[.slice a n c, .int .i64 0, .int .u64 0] 75) := by
  go_enter Try.func18, Try.ntmps18
  go_wp2_with fail
  go_ret
  exact ⟨rfl, rfl⟩

set_option maxHeartbeats 8000000 in
set_option maxRecDepth 100000 in
theorem b10Outline (a : Option Addr) (n c : Nat) (hn : n ≤ 1048576) (w : World) (h : CodeAt w w.heap.size a n) :
    Calls Try.prog 5 #[.slice a n c] w fun e w' => (∃ nm ls ao cap, e = .returned (.agg #[.string nm, .slice ao (List.length ls) cap]) ∧ ls.length ≤ 2 ∧ ∃ kls, OL w' w.heap.size w'.heap.size ao nm ls kls ∧ lowK kls) ∧ Below w.heap.size w w' := by
  obtain ⟨wA, hwA⟩ : ∃ x : World, x = w.alloc (.cells #[.string ⟨#[]⟩, .slice none 0 0] 26) := ⟨_, rfl⟩
  have hzA : wA.heap.size = w.heap.size + 1 := by rw [hwA]; simp
  have hBA : Below w.heap.size w wA := by rw [hwA]; exact Below.alloc (Below.refl _ _) (Nat.le_refl _) _
  have HBA := Lib.hid hBA
  have HRA := Lib.hid (show OwnC wA w.heap.size #[.string ⟨#[]⟩, .slice none 0 0] 26 by rw [hwA]; exact OwnC.new rfl)
  have HS0 := Lib.hid (show SrcAt (wA.alloc (.cells #[.slice a n c, .int .i64 0, .int .u64 0] 75)) 75 wA.heap.size a n c 0 from ⟨0, 0, OwnC.new rfl, Nat.le_refl _, ((h.far (Far.below hBA (Nat.le_refl _))).up (by omega)).far ((Far.refl _ _ _).alloc _ (Nat.le_refl _))⟩)
  have HD := Lib.hid (drawOk wA.heap.size a n c 0 hn (Nat.zero_le _) (wA.alloc (.cells #[.slice a n c, .int .i64 0, .int .u64 0] 75)) (by simp) HS0.out)
  have HZA := Lib.hid hzA
  clear h hBA hzA
  go_enter Try.func5, Try.ntmps5
  go_wp2_with fail
  rw [← hwA]
  clear hwA
  refine (l00From a n c wA).mono ?_
  rintro e w1 ⟨rfl, rfl⟩
  go_wp2_with fail
  refine HD.out.mono ?_
  rintro e w1 ⟨⟨nm, ls, ao, co, rfl, hg, hz, h2, hl⟩, hs1, hk1⟩
  have HG := Lib.hid hg
  have HZ := Lib.hid hz
  have HL := Lib.hid hl
  have hb1 : Below wA.heap.size wA w1 := (Below.alloc (Below.refl wA.heap.size wA) (Nat.le_refl _) _).trans (hk1.below (by first | omega | simp) (by first | omega | simp))
  have hzA := HZA.out
  have HB := Lib.hid (HBA.out.trans (hb1.mono (by omega)))
  have HR := Lib.hid (HRA.out.below hb1 (by omega))
  have hz1 := hb1.size
  clear hg hz hl hs1 hk1 hb1
  have r0 := HR.out.cell 0
  have r1 := HR.out.cell 1
  have f0 := HR.out.free 0
  have f1 := HR.out.free 1
  simp at r0 r1
  go_wp2_with fail
  have v2 := res_two HR.out (.string nm) (.slice ao ls.length co)
  have q0 := v2.1
  have q1 := v2.2
  obtain ⟨kls, k1, k2, k3⟩ := outK HZ.out
  refine bodyPost_ret (v := .agg #[.string nm, .slice ao ls.length co]) (by simp [results, Try.results5, go_sem, q0, q1]) rfl ⟨⟨nm, ls, ao, co, rfl, h2, kls, ?_, k3⟩, ?_⟩
  · have hO : OL w1 (w.heap.size + 2) w1.heap.size ao nm ls kls := ⟨HG.out.1, (HL.out.slL).mono (by simp; omega) (Nat.le_refl _), k1, k2, Nat.le_refl _⟩
    exact ((hO.far (((Far.refl (w.heap.size + 2) w1.heap.size w1).set ⟨w.heap.size, 0, none⟩ (.string nm) (.inl (by show w.heap.size < w.heap.size + 2; omega))).set ⟨w.heap.size, 1, none⟩ (.slice ao ls.length co) (.inl (by show w.heap.size < w.heap.size + 2; omega))) (by simp)).wide (by simp)).low (by omega)
  · exact (HB.out.setCell (Nat.le_refl _) _).setCell (Nat.le_refl _) _
end Go.Proofs.Ytgghhnglnklmbaa
