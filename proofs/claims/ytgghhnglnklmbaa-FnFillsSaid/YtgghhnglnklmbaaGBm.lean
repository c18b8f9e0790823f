/- BackLoops, MoveOutline, the program's. -/
import Derived.Test.YtgghhnglnklmbaaGTu
namespace Go.Fl
open Go.RowKit
theorem OL.low {w : World} {lo lo' hi : Nat} {ao : Option Addr} {nm : ByteArray} {ls : List (List Cx)} {kls : List (List Zp)} (h : OL w lo hi ao nm ls kls) (hh : lo' ≤ lo) : OL w lo' hi ao nm ls kls :=
  ⟨h.ok, h.sl.mono hh (Nat.le_refl _), h.len, h.q, h.top⟩
theorem zAt_reverse {l : List Zp} {i : Nat} (h : i < l.length) : zAt l.reverse i = zAt l (l.length - 1 - i) := by
  have h2 : l.length - 1 - i < l.length := by omega
  simp [zAt, h, h2, List.getElem?_reverse]
theorem PtsQ.reverse {pts : List Cx} {ks : List Zp} {e : Nat} (h : PtsQ pts ks e) : PtsQ pts.reverse ks.reverse e := by
  refine ⟨by rw [List.length_reverse, List.length_reverse]; exact h.len, fun i hi => ?_⟩
  rw [List.length_reverse] at hi
  rw [cAt_reverse hi, zAt_reverse (by rw [h.len]; exact hi), h.len]
  exact h.pt _ (by omega)
theorem okLoop_reverse {l : List Cx} (h : okLoop l = true) : okLoop l.reverse = true := by
  unfold okLoop at h ⊢
  rw [List.length_reverse, List.all_reverse]; exact h
theorem okLoop_len {l l' : List Cx} (h : okLoop l = true) (hl : l'.length = l.length) (hp : l'.all okPt = true) : okLoop l' = true := by
  unfold okLoop at h ⊢
  simp only [Bool.and_eq_true] at h ⊢
  rw [hl]
  exact ⟨h.1, hp⟩
theorem all_at_c {l : List Cx} {p : Cx → Bool} (h : ∀ i, i < l.length → p (cAt l i) = true) : l.all p = true := List.all_eq_true.2 fun x hx => by
  obtain ⟨i, hi, rfl⟩ := List.getElem_of_mem hx
  have := h i hi
  have e : cAt l i = l[i] := by simp [cAt, hi]
  rwa [e] at this
theorem moved_q {a r d : Nat} {p q : Int} {e : Nat} (h1 : Q .f32 (can .f32 a) p e) (h2 : Q .f32 (can .f32 d) q e) (hp : p.natAbs ≤ 256) (hq : q.natAbs ≤ 256) (h : F32 r (fadd (can .f32 a) (can .f32 d))) : Q .f32 (can .f32 r) (p + q) e := by
  rw [h]; exact h1.add h2 (lt24 (by omega))
theorem kAt_map {kls : List (List Zp)} {i : Nat} (h : i < kls.length) (f : List Zp → List Zp) : kAt (kls.map f) i = f (kAt kls i) := by simp [kAt, h]
end Go.Fl
namespace Go.Proofs.Ytgghhnglnklmbaa
open Go.RowKit Go.Fl

set_option maxHeartbeats 2000000 in
set_option maxRecDepth 100000 in
theorem backLoops (lo hi : Nat) (ao : Option Addr) (c : Nat) (nm : ByteArray) (ls : List (List Cx)) (kls : List (List Zp)) (w : World) (h : OL w lo hi ao nm ls kls) :
    Calls Try.prog 10 #[.agg #[.string nm, .slice ao ls.length c]] w fun e w' => (∃ ao' cap', e = .returned (.tuple #[.agg #[.string nm, .slice ao' ls.length cap'], .bool true]) ∧ ∃ ls', ls'.length = ls.length ∧ OL w' w.heap.size w'.heap.size ao' nm ls' (kls.map List.reverse)) ∧ Below w.heap.size w w' := by
  obtain ⟨wA, hwA⟩ : ∃ x : World, x = (w.alloc (.cells #[.string nm, .slice ao ls.length c] 26)).alloc (.cells #[.string ⟨#[]⟩, .slice none 0 0] 26) := ⟨_, rfl⟩
  have hBA : Below w.heap.size w wA := by rw [hwA]; exact (Below.alloc (Below.refl _ _) (Nat.le_refl _) _).alloc (by simp) _
  have zA : wA.heap.size = w.heap.size + 2 := by rw [hwA]; simp
  have hO := h.below hBA h.top
  have HB := Lib.hid hBA
  have HRC := Lib.hid (show OwnC wA (w.heap.size + 1) #[.string ⟨#[]⟩, .slice none 0 0] 26 by rw [hwA]; exact OwnC.new (by simp))
  have HT := Lib.hid (turnedBack lo hi ao c nm ls kls (kls.map List.reverse) wA hO (List.length_map _) (fun i hi' g cp W ho hg hb => by
    refine (backLoops1 g cp (lpAt ls i) (h.short.2.2.2 i hi') W ho).mono ?_
    rintro e W' ⟨rfl, h1, h2⟩
    refine ⟨rfl, ⟨(lpAt ls i).reverse, List.length_reverse, h1, ?_, okLoop_reverse (h.loop hi').1⟩, h2⟩
    rw [kAt_map (by rw [h.len]; exact hi')]
    exact (h.q i hi').reverse))
  clear h hO hBA
  go_enter Try.func10, Try.ntmps10
  go_wp2_with fail
  rw [← hwA]
  clear hwA
  refine HT.out.mono ?_
  rintro e w1 ⟨⟨ao', cap', rfl, ls', hl', hol⟩, hb1⟩
  have z1 := hb1.size
  have HOL := Lib.hid hol
  have HL := Lib.hid hl'
  have HB1 := Lib.hid (HB.out.trans (hb1.mono (by omega)))
  have HR1 := Lib.hid (HRC.out.below hb1 (by omega))
  have r0 := HR1.out.cell 0
  have r1 := HR1.out.cell 1
  have f0 := HR1.out.free 0
  have f1 := HR1.out.free 1
  simp at r0 r1
  clear hb1 hol hl'
  go_wp2_with fail
  have v2 := res_two HR1.out (.string nm) (.slice ao' ls.length cap')
  have q0 := v2.1
  have q1 := v2.2
  refine bodyPost_ret (v := .tuple #[.agg #[.string nm, .slice ao' ls.length cap'], .bool true]) (by simp [results, Try.results10, go_sem, q0, q1]) rfl ⟨⟨ao', cap', rfl, ls', HL.out, ?_⟩, ?_⟩
  · have h9 := ((HOL.out.far (((Far.refl (wA.heap.size + 2) w1.heap.size w1).set ⟨w.heap.size + 1, 0, none⟩ (.string nm) (.inl (by show w.heap.size + 1 < wA.heap.size + 2; omega))).set ⟨w.heap.size + 1, 1, none⟩ (.slice ao' ls.length cap') (.inl (by show w.heap.size + 1 < wA.heap.size + 2; omega))) (by simp)).wide (by simp)).low (show w.heap.size ≤ wA.heap.size + 2 by omega)
    exact h9
  · exact (HB1.out.setCell (by show w.heap.size ≤ w.heap.size + 1; omega) _).setCell (by show w.heap.size ≤ w.heap.size + 1; omega) _

set_option maxHeartbeats 2000000 in
set_option maxRecDepth 100000 in
theorem moveOutline (lo hi : Nat) (ao : Option Addr) (c : Nat) (nm : ByteArray) (ls : List (List Cx)) (kls : List (List Zp)) (d : Cx) (kd : Zp) (w : World) (h : OL w lo hi ao nm ls kls) (hlow : lowK kls) (hd : PtQ d kd 5) (hld : lowZ kd 256) :
    Calls Try.prog 17 #[.agg #[.string nm, .slice ao ls.length c], cV d] w fun e w' => (∃ ao' cap', e = .returned (.tuple #[.agg #[.string nm, .slice ao' ls.length cap'], .bool true]) ∧ ∃ ls', ls'.length = ls.length ∧ OL w' w.heap.size w'.heap.size ao' nm ls' (kls.map fun ks => ks.map (addZ · kd))) ∧ Below w.heap.size w w' := by
  obtain ⟨d1, d2⟩ := d
  obtain ⟨wA, hwA⟩ : ∃ x : World, x = ((w.alloc (.cells #[.string nm, .slice ao ls.length c] 26)).alloc (.cells #[.complex .f32 d1 d2] 44)).alloc (.cells #[.string ⟨#[]⟩, .slice none 0 0] 26) := ⟨_, rfl⟩
  have hBA : Below w.heap.size w wA := by rw [hwA]; exact ((Below.alloc (Below.refl _ _) (Nat.le_refl _) _).alloc (by simp) _).alloc (by simp; omega) _
  have zA : wA.heap.size = w.heap.size + 3 := by rw [hwA]; simp
  have hO := h.below hBA h.top
  have HB := Lib.hid hBA
  have hDC : OwnC wA (w.heap.size + 1) #[.complex .f32 d1 d2] 44 := by rw [hwA]; exact OwnC.alloc (by have := OwnC.new (w := w.alloc (.cells #[.string nm, .slice ao ls.length c] 26)) (cs := #[.complex .f32 d1 d2]) (T := 44) (b := w.heap.size + 1) (by simp); exact this) _
  have hOC : OwnC wA w.heap.size #[.string nm, .slice ao ls.length c] 26 := by rw [hwA]; exact ((OwnC.new rfl).alloc _).alloc _
  have HRC := Lib.hid (show OwnC wA (w.heap.size + 2) #[.string ⟨#[]⟩, .slice none 0 0] 26 by rw [hwA]; exact OwnC.new (by simp))
  have hBn : ∀ n : Nat, Below wA.heap.size wA ((wA.alloc (.cells #[.complex .f32 d1 d2] 44)).drewN n) := fun n => below_dr (Below.alloc (Below.refl _ _) (Nat.le_refl _) _) n
  have HBN := Lib.hid hBn
  have hcd : wA.cell? ⟨w.heap.size + 1, 0, none⟩ = some (.complex .f32 d1 d2) := by rw [hDC.cell]; rfl
  have hc0 : wA.cell? ⟨w.heap.size, 0, none⟩ = some (.string nm) := by rw [hOC.cell]; rfl
  have hc1 : wA.cell? ⟨w.heap.size, 1, none⟩ = some (.slice ao ls.length c) := by rw [hOC.cell]; rfl
  have HCD := Lib.hid hcd
  have HC0 := Lib.hid hc0
  have HC1 := Lib.hid hc1
  have HT := Lib.hid (fun n => turnedMove lo hi ao c nm ls kls (kls.map fun ks => ks.map (addZ · kd)) (w.heap.size + 1) ((wA.alloc (.cells #[.complex .f32 d1 d2] 44)).drewN n) (hO.below (hBn n) hO.top) (List.length_map _) (fun i hi' g cp W ho hg hb => by
    have hsz := (hBn n).size
    have hBg : w.heap.size + 1 ≠ g := by omega
    have hcW : W.cell? ⟨w.heap.size + 1, 0, none⟩ = some (cV (d1, d2)) := (hb.cell (p := ⟨w.heap.size + 1, 0, none⟩) (by show w.heap.size + 1 < _; omega)).trans (((hBn n).cell (p := ⟨w.heap.size + 1, 0, none⟩) (by show w.heap.size + 1 < _; omega)).trans hcd)
    refine (moveOutline1 g cp (w.heap.size + 1) (lpAt ls i) (d1, d2) (h.short.2.2.2 i hi') hBg W ho hcW).mono ?_
    rintro e W' ⟨rfl, ⟨ys, hy1, hy2, hy3⟩, h2⟩
    have hq := h.q i hi'
    have hkl : i < kls.length := by rw [h.len]; exact hi'
    have hP : PtsQ ys (kAt (kls.map fun ks => ks.map (addZ · kd)) i) 5 := by
      rw [kAt_map hkl]
      refine ⟨by rw [List.length_map, hq.len, hy1], fun j hj => ?_⟩
      rw [hy1] at hj
      have hjk : j < (kAt kls i).length := by rw [hq.len]; exact hj
      rw [zAt_map hjk]
      obtain ⟨q1, q2⟩ := (hq.pt j hj).1
      have ql := (hlow i hkl).2 j hjk
      obtain ⟨f1, f2⟩ := hy3 j hj
      have m1 := hld.1
      have m2 := hld.2
      have m3 := ql.1
      have m4 := ql.2
      refine ⟨⟨moved_q q1 hd.1 m3 m1 f1, moved_q q2 hd.2 m4 m2 f2⟩, ?_, ?_⟩
      · show ((zAt (kAt kls i) j).1 + kd.1).natAbs ≤ 1024; omega
      · show ((zAt (kAt kls i) j).2 + kd.2).natAbs ≤ 1024; omega
    exact ⟨rfl, ⟨ys, hy1, hy2, hP, okLoop_len (h.loop hi').1 hy1 (all_at_c fun j hj => okPt_q (hP.pt j hj).1)⟩, h2⟩))
  have HZ := Lib.hid (show [(d1, d2)].all okPt = true by simp [okPt_q hd])
  have HA := Lib.hid (arePoints wA.heap.size (wA.heap.size + 1) (some ⟨wA.heap.size, 0, none⟩) 1 [(d1, d2)] (by simp) (wA.alloc (.cells #[.complex .f32 d1 d2] 44)) (fun _ => ⟨wA.heap.size, rfl, Nat.le_refl _, Nat.lt_succ_self _, fun i hi => by
    have : i = 0 := by simpa using hi
    subst this
    exact news_new wA #[.complex .f32 d1 d2] _ 0 _ rfl⟩))
  clear h hO hBA hlow hd hld hDC hOC hBn hcd hc0 hc1
  unfold cV
  go_enter Try.func17, Try.ntmps17
  go_wp2_with fail
  rw [← hwA]
  rw [show w.heap.size + 1 + 1 + 1 = wA.heap.size by omega]
  clear hwA
  refine HA.out.mono ?_
  rintro e w1 ⟨rfl, n1, rfl⟩
  rw [HZ.out]
  have e0 := ((HBN.out n1).cell (p := ⟨w.heap.size, 0, none⟩) (by show w.heap.size < _; omega)).trans HC0.out
  have e1 := ((HBN.out n1).cell (p := ⟨w.heap.size, 1, none⟩) (by show w.heap.size < _; omega)).trans HC1.out
  go_wp2_with fail
  refine (HT.out n1).mono ?_
  rintro e w2 ⟨⟨ao', cap', rfl, ls', hl', hol⟩, hb2⟩
  have z2 := hb2.size
  have z3 : ((wA.alloc (.cells #[.complex .f32 d1 d2] 44)).drewN n1).heap.size = w.heap.size + 4 := by show (wA.alloc _).heap.size = _; simp; omega
  rw [z3] at z2 hol
  have HOL := Lib.hid hol
  have HL := Lib.hid hl'
  have HB2 := Lib.hid ((HB.out.trans ((HBN.out n1).mono (by omega))).trans (hb2.mono (by omega)))
  have HR2 := Lib.hid ((HRC.out.below (HBN.out n1) (by omega)).below hb2 (by omega))
  have r0 := HR2.out.cell 0
  have r1 := HR2.out.cell 1
  have f0 := HR2.out.free 0
  have f1 := HR2.out.free 1
  simp at r0 r1
  clear hb2 hol hl' e0 e1
  go_wp2_with fail
  have v2 := res_two HR2.out (.string nm) (.slice ao' ls.length cap')
  have q0 := v2.1
  have q1 := v2.2
  refine bodyPost_ret (v := .tuple #[.agg #[.string nm, .slice ao' ls.length cap'], .bool true]) (by simp [results, Try.results17, go_sem, q0, q1]) rfl ⟨⟨ao', cap', rfl, ls', HL.out, ?_⟩, ?_⟩
  · have h9 := ((HOL.out.far (((Far.refl (w.heap.size + 4 + 2) w2.heap.size w2).set ⟨w.heap.size + 2, 0, none⟩ (.string nm) (.inl (by show w.heap.size + 2 < w.heap.size + 4 + 2; omega))).set ⟨w.heap.size + 2, 1, none⟩ (.slice ao' ls.length cap') (.inl (by show w.heap.size + 2 < w.heap.size + 4 + 2; omega))) (by simp)).wide (by simp)).low (show w.heap.size ≤ w.heap.size + 4 + 2 by omega)
    exact h9
  · exact (HB2.out.setCell (by show w.heap.size ≤ w.heap.size + 2; omega) _).setCell (by show w.heap.size ≤ w.heap.size + 2; omega) _
end Go.Proofs.Ytgghhnglnklmbaa
