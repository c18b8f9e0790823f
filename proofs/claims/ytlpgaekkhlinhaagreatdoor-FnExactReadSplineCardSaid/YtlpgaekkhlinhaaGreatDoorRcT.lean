/- spec.l02Give, l08ReadCurve, ReadCurve. -/
import Derived.Test.YtlpgaekkhlinhaaGreatDoorRcS
namespace Go.Fl
open Go.RowKit
theorem two_list {α : Type} (L : List α) (h : L.length = 2) : L = [L[0], L[1]] := by
  match L, h with
  | [p, q], _ => rfl
theorem RdCurve.parts {s : List UInt8} {zs : List Cx} {xs : List Nat} {p q : List UInt8} (h : RdCurve s zs xs) (hc : cutL 59 s = [p, q]) : Reads hex2 Own2 p zs ∧ Reads hex1 Own1 q xs ∧ okCurve zs xs = true := by
  obtain ⟨p', q', h1, h2, h3, h4⟩ := h
  rw [hc] at h1
  simp only [List.cons.injEq, and_true] at h1
  obtain ⟨rfl, rfl⟩ := h1
  exact ⟨h2, h3, h4⟩
/-- the result of a curve's block in w -/
theorem OwnC.two {w : World} {b : Nat} {u v : Value} {T : TypeId} (h : OwnC w b #[u, v] T) : w.cell? ⟨b, 0, none⟩ = some u ∧ w.cell? ⟨b, 1, none⟩ = some v ∧ w.frozen? ⟨b, 0, none⟩ = false ∧ w.frozen? ⟨b, 1, none⟩ = false :=
  ⟨by rw [h.cell]; rfl, by rw [h.cell]; rfl, h.free 0, h.free 1⟩
end Go.Fl
namespace Go.Proofs.YtlpgaekkhlinhaaGreatDoor
open Go.RowKit Go.Fl

set_option maxHeartbeats 2000000 in
set_option maxRecDepth 100000 in
theorem l02Give (lo hi : Nat) (ao bo : Option Addr) (ca cb : Nat) (pts : List Cx) (ws : List Nat) (hn : pts.length ≤ 1048576) (hm : ws.length ≤ 1048576) (w : World) (hp : SlC w lo hi ao pts) (hh : hi ≤ w.heap.size) (hw : SlF w (.slice bo ws.length cb) ws) :
    Calls Tryz.prog 46 #[.agg #[.slice ao pts.length ca, .slice bo ws.length cb]] w fun e w' => (okCurve pts ws = true → e = .returned (.tuple #[.agg #[.slice ao pts.length ca, .slice bo ws.length cb], .bool true])) ∧ (okCurve pts ws = false → e = .returned (.tuple #[.agg #[.slice none 0 0, .slice none 0 0], .bool false])) ∧ Below w.heap.size w w' := by
  have hb0 : Below w.heap.size w ((w.alloc (.cells #[.slice ao pts.length ca, .slice bo ws.length cb] 25)).alloc (.cells #[.slice none 0 0, .slice none 0 0] 25)) := Below.alloc (Below.alloc (Below.refl _ w) (Nat.le_refl _) _) (by simp) _
  have HI := Lib.hid (l02Is lo hi w.heap.size ao bo ca cb pts ws hn hm ((w.alloc (.cells #[.slice ao pts.length ca, .slice bo ws.length cb] 25)).alloc (.cells #[.slice none 0 0, .slice none 0 0] 25))
    (by rw [Lib.cell_of_heap ((OwnC.new (cs := #[.slice ao pts.length ca, .slice bo ws.length cb]) rfl).alloc _)]; rfl) (by rw [Lib.cell_of_heap ((OwnC.new (cs := #[.slice ao pts.length ca, .slice bo ws.length cb]) rfl).alloc _)]; rfl) (hp.far (Far.below hb0 hh)) (hw.below hb0))
  cases hok : okCurve pts ws
  · rw [hok] at HI
    go_enter Tryz.func46, Tryz.ntmps46
    go_wp2_with (go_at_call 71; refine HI.out.mono ?_; rintro e w1 ⟨rfl, n, rfl⟩)
    refine bodyPost_ret (v := .tuple #[.agg #[.slice none 0 0, .slice none 0 0], .bool false]) (by simp [results, Tryz.results46, go_sem]) rfl (by simp; exact below_dr hb0 n)
  · rw [hok] at HI
    go_enter Tryz.func46, Tryz.ntmps46
    go_wp2_with (go_at_call 71; refine HI.out.mono ?_; rintro e w1 ⟨rfl, n, rfl⟩)
    refine bodyPost_ret (v := .tuple #[.agg #[.slice ao pts.length ca, .slice bo ws.length cb], .bool true]) (by simp [results, Tryz.results46, go_sem]) rfl (by simp; exact below_dr (Below.alloc (Below.alloc (Below.refl _ w) (Nat.le_refl _) _) (by simp) _) n)

set_option maxHeartbeats 2000000 in
set_option maxRecDepth 100000 in
theorem l08ReadCurve (s : ByteArray) (hs : s.size ≤ 1048576) (w : World) : Calls Tryz.prog 21 #[.string s] w (RetC s.data.toList w) := by
  go_enter Tryz.func21, Tryz.ntmps21
  have hb0 : Below w.heap.size w (w.alloc (.cells #[.slice none 0 0, .slice none 0 0] 25)) := Below.alloc (Below.refl _ w) (Nat.le_refl _) _
  have HB0 := Lib.hid hb0
  clear hb0
  by_cases h2 : (pieces s 59).length = 2
  rotate_left
  · have h2b : (((pieces s 59).length : Int) != 2) = true := by simp; omega
    have hno : ∀ zs xs, ¬ RdCurve s.data.toList zs xs := fun zs xs ⟨p, q, h, _⟩ => h2 (by rw [pieces_cut_len, h]; rfl)
    have HNO := Lib.hid hno
    clear h2 hno
    go_wp2_with fail
    refine (l01Cut s 59 59 rfl hs _).mono ?_
    rintro e w1 ⟨bp, cp, rfl, hr1, hb1, hbel1⟩
    have A1 : OwnC w1 w.heap.size #[.slice none 0 0, .slice none 0 0] 25 := (OwnC.new rfl).below hbel1 (by simp)
    have d0 := A1.cell 0
    have d1 := A1.cell 1
    have f0 := A1.free 0
    have f1 := A1.free 1
    simp at d0 d1
    have HB1 := Lib.hid (HB0.out.trans (hbel1.mono (by simp)))
    clear hr1 hb1 hbel1 A1
    go_wp2_with fail
    refine bodyPost_ret (v := .tuple #[.agg #[.slice none 0 0, .slice none 0 0], .bool false]) (by simp [results, Tryz.results21, go_sem, d0, d1]) rfl ⟨fun zs xs h => absurd h (HNO.out zs xs), fun _ => rfl, ?_⟩
    exact (HB1.out.setCell (Nat.le_refl _) _).setCell (Nat.le_refl _) _
  · have h2b : (((pieces s 59).length : Int) != 2) = false := by rw [h2]; rfl
    have hcut : cutL 59 s.data.toList = [(sAt (pieces s 59) 0).data.toList, (sAt (pieces s 59) 1).data.toList] := by
      rw [piece_data s 59 (by omega), piece_data s 59 (by omega)]
      have hl : (cutL 59 s.data.toList).length = 2 := by rw [← pieces_cut_len]; exact h2
      exact two_list _ hl
    have hsz0 : (sAt (pieces s 59) 0).size ≤ 1048576 ∧ (sAt (pieces s 59) 1).size ≤ 1048576 := by
      have h := join_cutL 59 s.data.toList
      rw [hcut, join_cons2, Lib.join_one] at h
      have := congrArg List.length h
      simp only [List.length_append, size_list] at this
      omega
    have HCUT := Lib.hid hcut
    have HP2 := Lib.hid h2
    clear hcut h2
    go_wp2_with fail
    refine (l01Cut s 59 59 rfl hs _).mono ?_
    rintro e w1 ⟨bp, cp, rfl, hr1, hb1, hbel1⟩
    have HA1 := Lib.hid (show OwnC w1 w.heap.size #[.slice none 0 0, .slice none 0 0] 25 from (OwnC.new rfl).below hbel1 (by simp))
    have HB1 := Lib.hid (HB0.out.trans (hbel1.mono (by simp)))
    have e0 := hr1.cell 0 (by have := HP2.out; omega)
    have e1 := hr1.cell 1 (by have := HP2.out; omega)
    have hq0 : (pieces s 59)[0]? = some (sAt (pieces s 59) 0) := by
      have := HP2.out
      rw [List.getElem?_eq_getElem (by omega)]; simp [sAt, show 0 < (pieces s 59).length by omega]
    have hq1 : (pieces s 59)[1]? = some (sAt (pieces s 59) 1) := by
      have := HP2.out
      rw [List.getElem?_eq_getElem (by omega)]; simp [sAt, show 1 < (pieces s 59).length by omega]
    rw [List.getElem?_map, hq0] at e0
    rw [List.getElem?_map, hq1] at e1
    replace e0 : w1.cell? ⟨bp, 0, none⟩ = some (.string (sAt (pieces s 59) 0)) := e0
    replace e1 : w1.cell? ⟨bp, 1, none⟩ = some (.string (sAt (pieces s 59) 1)) := e1
    obtain ⟨hsz0, hsz1⟩ := hsz0
    generalize sAt (pieces s 59) 0 = P at *
    generalize sAt (pieces s 59) 1 = Q at *
    have hbw : w.heap.size < w1.heap.size := by have := hbel1.size; simp at this; omega
    have g2 : ((pieces s 59).length : Int) = 2 := by have := HP2.out; omega
    clear hr1 hb1 hbel1 hq0 hq1
    go_wp2_with fail
    refine (l01CRead P hsz0 w1).mono ?_
    rintro e w2 ⟨hy2, hn2, hb2⟩
    have hz2 := hb2.size
    have HB2 := Lib.hid (HB1.out.trans (hb2.mono (by omega)))
    have HA2 := Lib.hid (HA1.out.below hb2 hbw)
    have e2 := keep_cell hb2 e1
    by_cases hA : ∃ zs, Reads hex2 Own2 P.data.toList zs
    rotate_left
    · have HNO : Hid (∀ zs xs, ¬ RdCurve s.data.toList zs xs) := Lib.hid fun zs xs h => hA ⟨zs, (h.parts HCUT.out).1⟩
      obtain rfl := hn2 fun zs h => hA ⟨zs, h⟩
      clear hy2 hn2 hA hb2
      go_wp2_with fail
      refine (l01NRead Q hsz1 w2).mono ?_
      rintro e w3 ⟨hy3, hn3, hb3⟩
      have HB3 := Lib.hid (HB2.out.trans (hb3.mono (by omega)))
      have HA3 := HA2.out.below hb3 (by omega)
      obtain ⟨v, bb, rfl, hv⟩ : ∃ v bb, e = .returned (.tuple #[v, .bool bb]) ∧ v.oneCell' = true := by
        by_cases hB : ∃ xs, Reads hex1 Own1 Q.data.toList xs
        · obtain ⟨xs, hx⟩ := hB
          obtain ⟨b, c, rfl, _⟩ := hy3 xs hx
          exact ⟨_, true, rfl, rfl⟩
        · exact ⟨_, false, hn3 fun xs h => hB ⟨xs, h⟩, rfl⟩
      clear hy3 hn3 hb3
      obtain ⟨d0, d1, f0, f1⟩ := HA3.two
      go_wp2_with fail
      refine bodyPost_ret (v := .tuple #[.agg #[.slice none 0 0, .slice none 0 0], .bool false]) (by simp [results, Tryz.results21, go_sem, d0, d1]) rfl ⟨fun zs xs h => absurd h (HNO.out zs xs), fun _ => rfl, ?_⟩
      exact (HB3.out.setCell (Nat.le_refl _) _).setCell (Nat.le_refl _) _
    obtain ⟨zs, hzs⟩ := hA
    obtain ⟨b1, cp1, rfl, hr2, hbz⟩ := hy2 zs hzs
    have HZS := Lib.hid hzs
    have HR2 := Lib.hid hr2
    have hlr := hr2.lt
    clear hy2 hn2 hzs hr2 hb2
    go_wp2_with fail
    refine (l01NRead Q hsz1 w2).mono ?_
    rintro e w3 ⟨hy3, hn3, hb3⟩
    have hz3 := hb3.size
    have HB3 := Lib.hid (HB2.out.trans (hb3.mono (by omega)))
    have HA3 := HA2.out.below hb3 (by omega)
    by_cases hB : ∃ xs, Reads hex1 Own1 Q.data.toList xs
    rotate_left
    · have HNO : Hid (∀ zs xs, ¬ RdCurve s.data.toList zs xs) := Lib.hid fun zs xs h => hB ⟨xs, (h.parts HCUT.out).2.1⟩
      obtain rfl := hn3 fun xs h => hB ⟨xs, h⟩
      clear hy3 hn3 hB hb3
      obtain ⟨d0, d1, f0, f1⟩ := HA3.two
      go_wp2_with fail
      refine bodyPost_ret (v := .tuple #[.agg #[.slice none 0 0, .slice none 0 0], .bool false]) (by simp [results, Tryz.results21, go_sem, d0, d1]) rfl ⟨fun zs xs h => absurd h (HNO.out zs xs), fun _ => rfl, ?_⟩
      exact (HB3.out.setCell (Nat.le_refl _) _).setCell (Nat.le_refl _) _
    obtain ⟨xs, hxs⟩ := hB
    obtain ⟨b2, cp2, rfl, hr3, hbx⟩ := hy3 xs hxs
    have HXS := Lib.hid hxs
    have HR3 := Lib.hid hr3
    have HR2 := Lib.hid (HR2.out.below hb3 hlr)
    have hlr3 := hr3.lt
    have hlz : zs.length ≤ 256 := HZS.out.1
    have hlx : xs.length ≤ 256 := HXS.out.1
    have HC1 := Lib.hid (OwnC1.row HR2.out rfl)
    have HF1 := Lib.hid (OwnF1.row HR3.out rfl)
    clear hy3 hn3 hxs hr3 hb3
    have HG := Lib.hid (l02Give b1 (b1 + 1) (some ⟨b1, 0, none⟩) (some ⟨b2, 0, none⟩) cp1 cp2 zs xs (by omega) (by omega) w3 (fun _ => ⟨b1, rfl, Nat.le_refl _, Nat.lt_succ_self _, HC1.out.2⟩) (by omega) (HF1.out.slF rfl (by omega)))
    go_wp2_with fail
    refine HG.out.mono ?_
    rintro e w4 ⟨hy4, hn4, hb4⟩
    have HB4 := Lib.hid (HB3.out.trans (hb4.mono (by omega)))
    have HA4 := HA3.below hb4 (by omega)
    have HC4 := Lib.hid (HC1.out.below hb4 (by omega))
    have HF4 := Lib.hid (HF1.out.below hb4 (by omega))
    cases hok : okCurve zs xs
    · have HNO : Hid (∀ zs xs, ¬ RdCurve s.data.toList zs xs) := Lib.hid fun zs' xs' h => by
        obtain ⟨h1, h2, h3⟩ := h.parts HCUT.out
        rw [h1.unique texts2 HZS.out, h2.unique texts1 HXS.out, hok] at h3
        cases h3
      obtain rfl := hn4 hok
      obtain ⟨d0, d1, f0, f1⟩ := HA4.two
      clear hy4 hn4 hb4 hok
      go_wp2_with fail
      refine bodyPost_ret (v := .tuple #[.agg #[.slice none 0 0, .slice none 0 0], .bool false]) (by simp [results, Tryz.results21, go_sem, d0, d1]) rfl ⟨fun zs xs h => absurd h (HNO.out zs xs), fun _ => rfl, ?_⟩
      exact (HB4.out.setCell (Nat.le_refl _) _).setCell (Nat.le_refl _) _
    · have HYES := Lib.hid (show RdCurve s.data.toList zs xs from ⟨_, _, HCUT.out, HZS.out, HXS.out, hok⟩)
      obtain rfl := hy4 hok
      obtain ⟨d0, d1, f0, f1⟩ := HA4.two
      clear hy4 hn4 hb4 hok
      go_wp2_with fail
      refine bodyPost_ret (v := .tuple #[.agg #[.slice (some ⟨b1, 0, none⟩) zs.length cp1, .slice (some ⟨b2, 0, none⟩) xs.length cp2], .bool true]) (by simp [results, Tryz.results21, go_sem, d0, d1]) rfl ⟨fun zs' xs' h => ?_, fun h => absurd HYES.out (h zs xs), ?_⟩
      · obtain ⟨rfl, rfl⟩ := h.unique HYES.out
        have hfar : Far (w.heap.size + 1) w4.heap.size w4 ((w4.setCell ⟨w.heap.size, 0, none⟩ (.slice (some ⟨b1, 0, none⟩) zs'.length cp1)).setCell ⟨w.heap.size, 1, none⟩ (.slice (some ⟨b2, 0, none⟩) xs'.length cp2)) := ((Far.refl _ _ w4).set _ _ (.inl (by show w.heap.size < w.heap.size + 1; omega))).set _ _ (.inl (by show w.heap.size < w.heap.size + 1; omega))
        have z4 := HB4.out.size
        exact ⟨b1, cp1, b2, cp2, rfl, HC4.out.far hfar (by omega) HC4.out.1.lt, HF4.out.far hfar (by omega) HF4.out.1.lt, by omega, by omega, by omega⟩
      · exact (HB4.out.setCell (Nat.le_refl _) _).setCell (Nat.le_refl _) _

theorem specReadCurve (s : ByteArray) (hs : s.size ≤ 1048576) (w : World) : Calls Tryz.prog 6 #[.string s] w (RetC s.data.toList w) := by
  go_enter Tryz.func6, Tryz.ntmps6
  go_wp2_with fail
  refine (l08ReadCurve s hs _).mono ?_
  rintro e w1 ⟨hy, hn, hb⟩
  have hz := hb.size
  simp at hz
  have A1 : OwnC w1 w.heap.size #[.slice none 0 0, .slice none 0 0] 25 := (OwnC.new rfl).below hb (by simp)
  have HB1 := Lib.hid (Below.trans (Below.alloc (Below.refl _ w) (Nat.le_refl _) (.cells #[.slice none 0 0, .slice none 0 0] 25)) (hb.mono (by simp)))
  obtain ⟨d0, d1, f0, f1⟩ := A1.two
  clear A1 hb
  by_cases hex : ∃ zs xs, RdCurve s.data.toList zs xs
  · obtain ⟨zs, xs, hr⟩ := hex
    have HYES := Lib.hid hr
    obtain ⟨b1, cp1, b2, cp2, rfl, hc, hf, q1, q2, q3⟩ := hy zs xs hr
    simp at q1 q2
    have HC := Lib.hid hc
    have HF := Lib.hid hf
    clear hr hy hn hc hf
    go_wp2_with fail
    refine bodyPost_ret (v := .tuple #[.agg #[.slice (some ⟨b1, 0, none⟩) zs.length cp1, .slice (some ⟨b2, 0, none⟩) xs.length cp2], .bool true]) (by simp [results, Tryz.results6, go_sem, d0, d1]) rfl ⟨fun zs' xs' h => ?_, fun h => absurd HYES.out (h zs xs), ?_⟩
    · obtain ⟨rfl, rfl⟩ := h.unique HYES.out
      have hfar : Far (w.heap.size + 1) w1.heap.size w1 ((w1.setCell ⟨w.heap.size, 0, none⟩ (.slice (some ⟨b1, 0, none⟩) zs'.length cp1)).setCell ⟨w.heap.size, 1, none⟩ (.slice (some ⟨b2, 0, none⟩) xs'.length cp2)) := ((Far.refl _ _ w1).set _ _ (.inl (by show w.heap.size < w.heap.size + 1; omega))).set _ _ (.inl (by show w.heap.size < w.heap.size + 1; omega))
      exact ⟨b1, cp1, b2, cp2, rfl, HC.out.far hfar (by omega) HC.out.1.lt, HF.out.far hfar (by omega) HF.out.1.lt, by omega, by omega, q3⟩
    · exact (HB1.out.setCell (Nat.le_refl _) _).setCell (Nat.le_refl _) _
  · have HNO : Hid (∀ zs xs, ¬ RdCurve s.data.toList zs xs) := Lib.hid fun zs xs h => hex ⟨zs, xs, h⟩
    obtain rfl := hn HNO.out
    clear hy hn hex
    go_wp2_with fail
    refine bodyPost_ret (v := .tuple #[.agg #[.slice none 0 0, .slice none 0 0], .bool false]) (by simp [results, Tryz.results6, go_sem, d0, d1]) rfl ⟨fun zs xs h => absurd h (HNO.out zs xs), fun _ => rfl, ?_⟩
    exact (HB1.out.setCell (Nat.le_refl _) _).setCell (Nat.le_refl _) _
end Go.Proofs.YtlpgaekkhlinhaaGreatDoor
