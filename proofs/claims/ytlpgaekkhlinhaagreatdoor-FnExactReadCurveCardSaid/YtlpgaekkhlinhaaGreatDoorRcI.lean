/- impl.ifCurve, ReadCurve. -/
import Derived.Test.YtlpgaekkhlinhaaGreatDoorRcT
import Derived.Test.YtlpgaekkhlinhaaGreatDoorRcB
import Derived.Test.YtlpgaekkhlinhaaGreatDoorCut2
namespace Go.Proofs.YtlpgaekkhlinhaaGreatDoor
open Go.RowKit Go.Fl

set_option maxHeartbeats 2000000 in
set_option maxRecDepth 100000 in
theorem ifCurve (lo hi : Nat) (ao bo : Option Addr) (ca cb : Nat) (pts : List Cx) (ws : List Nat) (hn : pts.length ≤ 1048576) (hm : ws.length ≤ 1048576) (w : World) (hp : SlC w lo hi ao pts) (hh : hi ≤ w.heap.size) (hw : SlF w (.slice bo ws.length cb) ws) :
    Calls Tryz.prog 25 #[.agg #[.slice ao pts.length ca, .slice bo ws.length cb]] w fun e w' => (okCurve pts ws = true → e = .returned (.tuple #[.agg #[.slice ao pts.length ca, .slice bo ws.length cb], .bool true])) ∧ (okCurve pts ws = false → e = .returned (.tuple #[.agg #[.slice none 0 0, .slice none 0 0], .bool false])) ∧ Below w.heap.size w w' := by
  have hb0 : Below w.heap.size w ((w.alloc (.cells #[.slice ao pts.length ca, .slice bo ws.length cb] 25)).alloc (.cells #[.slice none 0 0, .slice none 0 0] 25)) := Below.alloc (Below.alloc (Below.refl _ w) (Nat.le_refl _) _) (by simp) _
  have A0 : OwnC ((w.alloc (.cells #[.slice ao pts.length ca, .slice bo ws.length cb] 25)).alloc (.cells #[.slice none 0 0, .slice none 0 0] 25)) w.heap.size #[.slice ao pts.length ca, .slice bo ws.length cb] 25 := (OwnC.new rfl).alloc _
  have R0 : OwnC ((w.alloc (.cells #[.slice ao pts.length ca, .slice bo ws.length cb] 25)).alloc (.cells #[.slice none 0 0, .slice none 0 0] 25)) (w.heap.size + 1) #[.slice none 0 0, .slice none 0 0] 25 := OwnC.new (by simp)
  have HI := Lib.hid (validCurve lo hi ao bo ca cb pts ws hn hm ((w.alloc (.cells #[.slice ao pts.length ca, .slice bo ws.length cb] 25)).alloc (.cells #[.slice none 0 0, .slice none 0 0] 25)) (hp.far (Far.below hb0 hh)) (by simp; omega) (hw.below hb0))
  have HA0 := Lib.hid A0
  have HR0 := Lib.hid R0
  have HB0 := Lib.hid hb0
  clear hb0 A0 R0 hp hw
  go_enter Tryz.func25, Tryz.ntmps25
  go_wp2_with fail
  refine HI.out.mono ?_
  rintro e w1 ⟨rfl, hb1⟩
  obtain ⟨a0, a1, _, _⟩ := (HA0.out.below hb1 (by simp; omega)).two
  obtain ⟨d0, d1, f0, f1⟩ := (HR0.out.below hb1 (by simp)).two
  have HB1 := Lib.hid (HB0.out.trans (hb1.mono (by simp; omega)))
  clear hb1
  cases hok : okCurve pts ws
  · go_wp2_with fail
    refine bodyPost_ret (v := .tuple #[.agg #[.slice none 0 0, .slice none 0 0], .bool false]) (by simp [results, Tryz.results25, go_sem, d0, d1]) rfl ⟨fun h => absurd (h.symm.trans hok) (by decide), fun _ => rfl, (HB1.out.setCell (by show w.heap.size ≤ w.heap.size + 1; omega) _).setCell (by show w.heap.size ≤ w.heap.size + 1; omega) _⟩
  · go_wp2_with fail
    refine bodyPost_ret (v := .tuple #[.agg #[.slice ao pts.length ca, .slice bo ws.length cb], .bool true]) (by simp [results, Tryz.results25, go_sem, d0, d1]) rfl ⟨fun _ => rfl, fun h => absurd (h.symm.trans hok) (by decide), (HB1.out.setCell (by show w.heap.size ≤ w.heap.size + 1; omega) _).setCell (by show w.heap.size ≤ w.heap.size + 1; omega) _⟩

set_option maxHeartbeats 2000000 in
set_option maxRecDepth 100000 in
theorem implReadCurve (s : ByteArray) (hs : s.size ≤ 1048576) (w : World) (hm : Mx w) (he : Er w) (ht : Tz w) : Calls Tryz.prog 7 #[.string s] w (RetC s.data.toList w) := by
  have hb0 : Below w.heap.size w (w.alloc (.cells #[.slice none 0 0, .slice none 0 0] 25)) := Below.alloc (Below.refl _ w) (Nat.le_refl _) _
  have HB0 := Lib.hid hb0
  have HM := Lib.hid hm
  have HE := Lib.hid he
  have HT := Lib.hid ht
  obtain ⟨mx, hmx⟩ := hm.on hb0
  clear hb0 hm he ht
  -- the two texts
  obtain ⟨P, Q, cut, hcut, hP, hQ, hyes, hno⟩ : ∃ (P Q : ByteArray) (cut : Bool), Lib.cut s.data.toList [59] = (P.data.toList, Q.data.toList, cut) ∧ P.size ≤ 1048576 ∧ Q.size ≤ 1048576 ∧ (cut = true → ∀ xs, Reads hex1 Own1 Q.data.toList xs → cutL 59 s.data.toList = [P.data.toList, Q.data.toList]) ∧ (∀ zs xs, RdCurve s.data.toList zs xs → cut = true ∧ Reads hex2 Own2 P.data.toList zs ∧ Reads hex1 Own1 Q.data.toList xs) := by
    by_cases hc : (59 : UInt8) ∈ s.data.toList
    · obtain ⟨p, q, h1, h2⟩ := split_at hc
      have hl := congrArg List.length h1
      rw [size_list, List.length_append, List.length_cons] at hl
      refine ⟨⟨p.toArray⟩, ⟨q.toArray⟩, true, by rw [h1, cut_hit h2], by show p.length ≤ _; omega, by show q.length ≤ _; omega, fun _ xs hx => ?_, fun zs xs hr => ?_⟩
      · rw [h1, cutL_hit2 h2, cutL_none (semi_free semi1 hx)]
      · obtain ⟨p', q', r1, r2, r3, _⟩ := hr
        rw [h1, cutL_hit2 h2] at r1
        simp only [List.cons.injEq] at r1
        obtain ⟨rfl, r4⟩ := r1
        have hq : q = q' := by
          have := join_cutL 59 q
          rw [r4, Lib.join_one] at this
          exact this.symm
        subst hq
        exact ⟨rfl, r2, r3⟩
    · refine ⟨s, ⟨#[]⟩, false, by rw [cut_free hc], hs, by decide, fun h => absurd h (by decide), fun zs xs hr => ?_⟩
      obtain ⟨p', q', r1, _⟩ := hr
      rw [cutL_none hc] at r1
      simp at r1
  have HY := Lib.hid hyes
  have HN := Lib.hid hno
  have HC : Hid (∀ w0 : World, w0.cell? ⟨0, 0, none⟩ = some (.int .i64 mx) → Calls Tryz.prog 22 #[.string s, .string ⟨#[59]⟩] w0 fun e w' => e = .returned (.tuple #[.string P, .string Q, .bool cut]) ∧ ∃ n, w' = w0.drewN n) := Lib.hid fun w0 h0 => by
    have := Tryz.strings_Cut s ⟨#[59]⟩ mx w0 (by omega) h0
    rw [show (⟨#[59]⟩ : ByteArray).data.toList = [59] from rfl, hcut] at this
    exact this
  clear hyes hno hcut
  go_enter Tryz.func7, Tryz.ntmps7
  go_wp2_with fail
  refine (HC.out _ hmx).mono ?_
  rintro e w1 ⟨rfl, n1, hw1⟩
  have HB1 : Hid (Below w.heap.size w w1) := Lib.hid (by rw [hw1]; exact below_dr HB0.out n1)
  have HA1 : Hid (OwnC w1 w.heap.size #[.slice none 0 0, .slice none 0 0] 25) := Lib.hid (by rw [hw1]; exact (OwnC.new rfl).drewN n1)
  have hbw : w.heap.size < w1.heap.size := by rw [hw1]; show w.heap.size < (World.alloc _ _).heap.size; simp
  clear hw1 hmx
  go_wp2_with fail
  refine (readComplex P hP w1 (HM.out.on HB1.out) (HE.out.on HB1.out) (HT.out.on HB1.out)).mono ?_
  rintro e w2 ⟨hy2, hn2, hb2⟩
  have hz2 := hb2.size
  have HB2 := Lib.hid (HB1.out.trans (hb2.mono (by omega)))
  have HA2 := Lib.hid (HA1.out.below hb2 hbw)
  -- the second reading, whatever the first gave
  by_cases hA : ∃ zs, Reads hex2 Own2 P.data.toList zs
  rotate_left
  · have HNO : Hid (∀ zs xs, ¬ RdCurve s.data.toList zs xs) := Lib.hid fun zs xs h => hA ⟨zs, (HN.out zs xs h).2.1⟩
    obtain rfl := hn2 fun zs h => hA ⟨zs, h⟩
    clear hy2 hn2 hA hb2
    go_wp2_with fail
    refine (readNumbers Q hQ w2 (HM.out.on HB2.out) (HE.out.on HB2.out) (HT.out.on HB2.out)).mono ?_
    rintro e w3 ⟨hy3, hn3, hb3⟩
    have HB3 := Lib.hid (HB2.out.trans (hb3.mono (by omega)))
    have HA3 := HA2.out.below hb3 (by omega)
    obtain ⟨v, bb, rfl, hv⟩ : ∃ v bb, e = .returned (.tuple #[v, .bool bb]) ∧ v.oneCell' = true := by
      by_cases hB : ∃ xs, Reads hex1 Own1 Q.data.toList xs
      · obtain ⟨xs, hx⟩ := hB
        obtain ⟨b, c, rfl, _⟩ := hy3 xs hx
        exact ⟨_, true, rfl, rfl⟩
      · exact ⟨_, false, hn3 fun xs h => hB ⟨xs, h⟩, rfl⟩
    clear hy3 hn3 hb3
    cases cut
    all_goals
      obtain ⟨d0, d1, f0, f1⟩ := HA3.two
      go_wp2_with fail
      refine bodyPost_ret (v := .tuple #[.agg #[.slice none 0 0, .slice none 0 0], .bool false]) (by simp [results, Tryz.results7, go_sem, d0, d1]) rfl ⟨fun zs xs h => absurd h (HNO.out zs xs), fun _ => rfl, ?_⟩
      exact (HB3.out.setCell (Nat.le_refl _) _).setCell (Nat.le_refl _) _
  obtain ⟨zs, hzs⟩ := hA
  obtain ⟨b1, cp1, rfl, hr2, hbz⟩ := hy2 zs hzs
  have HZS := Lib.hid hzs
  have HR2 := Lib.hid hr2
  have hlr := hr2.lt
  clear hy2 hn2 hzs hr2 hb2
  go_wp2_with fail
  refine (readNumbers Q hQ w2 (HM.out.on HB2.out) (HE.out.on HB2.out) (HT.out.on HB2.out)).mono ?_
  rintro e w3 ⟨hy3, hn3, hb3⟩
  have hz3 := hb3.size
  have HB3 := Lib.hid (HB2.out.trans (hb3.mono (by omega)))
  have HA3 := HA2.out.below hb3 (by omega)
  by_cases hB : ∃ xs, Reads hex1 Own1 Q.data.toList xs
  rotate_left
  · have HNO : Hid (∀ zs xs, ¬ RdCurve s.data.toList zs xs) := Lib.hid fun zs xs h => hB ⟨xs, (HN.out zs xs h).2.2⟩
    obtain rfl := hn3 fun xs h => hB ⟨xs, h⟩
    clear hy3 hn3 hB hb3
    cases cut
    all_goals
      obtain ⟨d0, d1, f0, f1⟩ := HA3.two
      go_wp2_with fail
      refine bodyPost_ret (v := .tuple #[.agg #[.slice none 0 0, .slice none 0 0], .bool false]) (by simp [results, Tryz.results7, go_sem, d0, d1]) rfl ⟨fun zs xs h => absurd h (HNO.out zs xs), fun _ => rfl, ?_⟩
      exact (HB3.out.setCell (Nat.le_refl _) _).setCell (Nat.le_refl _) _
  obtain ⟨xs, hxs⟩ := hB
  obtain ⟨b2, cp2, rfl, hr3, hbx⟩ := hy3 xs hxs
  have HXS := Lib.hid hxs
  have HR3 := Lib.hid hr3
  have HR2 := Lib.hid (HR2.out.below hb3 hlr)
  have hlr3 := hr3.lt
  clear hy3 hn3 hxs hr3 hb3
  cases cut
  · have HNO : Hid (∀ zs xs, ¬ RdCurve s.data.toList zs xs) := Lib.hid fun zs xs h => by have := (HN.out zs xs h).1; cases this
    obtain ⟨d0, d1, f0, f1⟩ := HA3.two
    go_wp2_with fail
    refine bodyPost_ret (v := .tuple #[.agg #[.slice none 0 0, .slice none 0 0], .bool false]) (by simp [results, Tryz.results7, go_sem, d0, d1]) rfl ⟨fun zs xs h => absurd h (HNO.out zs xs), fun _ => rfl, ?_⟩
    exact (HB3.out.setCell (Nat.le_refl _) _).setCell (Nat.le_refl _) _
  have HCUT := Lib.hid (HY.out rfl xs HXS.out)
  have hlz : zs.length ≤ 256 := HZS.out.1
  have hlx : xs.length ≤ 256 := HXS.out.1
  have HC1 := Lib.hid (OwnC1.row HR2.out rfl)
  have HF1 := Lib.hid (OwnF1.row HR3.out rfl)
  have HG := Lib.hid (ifCurve b1 (b1 + 1) (some ⟨b1, 0, none⟩) (some ⟨b2, 0, none⟩) cp1 cp2 zs xs (by omega) (by omega) w3 (fun _ => ⟨b1, rfl, Nat.le_refl _, Nat.lt_succ_self _, HC1.out.2⟩) (by omega) (HF1.out.slF rfl (by omega)))
  go_wp2_with fail
  refine HG.out.mono ?_
  rintro e w4 ⟨hy4, hn4, hb4⟩
  have HB4 := Lib.hid (HB3.out.trans (hb4.mono (by omega)))
  have HA4 := HA3.below hb4 (by omega)
  have HC4 := Lib.hid (HC1.out.below hb4 (by omega))
  have HF4 := Lib.hid (HF1.out.below hb4 (by omega))
  cases hok : okCurve zs xs
  · have HNO : Hid (∀ zs xs, ¬ RdCurve s.data.toList zs xs) := Lib.hid fun zs' xs' h => by
      obtain ⟨h1, h2, h3⟩ := h.parts HCUT.out
      rw [h1.unique texts2 HZS.out, h2.unique texts1 HXS.out, hok] at h3
      cases h3
    obtain rfl := hn4 hok
    obtain ⟨d0, d1, f0, f1⟩ := HA4.two
    clear hy4 hn4 hb4 hok
    go_wp2_with fail
    refine bodyPost_ret (v := .tuple #[.agg #[.slice none 0 0, .slice none 0 0], .bool false]) (by simp [results, Tryz.results7, go_sem, d0, d1]) rfl ⟨fun zs xs h => absurd h (HNO.out zs xs), fun _ => rfl, ?_⟩
    exact (HB4.out.setCell (Nat.le_refl _) _).setCell (Nat.le_refl _) _
  · have HYES := Lib.hid (show RdCurve s.data.toList zs xs from ⟨_, _, HCUT.out, HZS.out, HXS.out, hok⟩)
    obtain rfl := hy4 hok
    obtain ⟨d0, d1, f0, f1⟩ := HA4.two
    clear hy4 hn4 hb4 hok
    go_wp2_with fail
    refine bodyPost_ret (v := .tuple #[.agg #[.slice (some ⟨b1, 0, none⟩) zs.length cp1, .slice (some ⟨b2, 0, none⟩) xs.length cp2], .bool true]) (by simp [results, Tryz.results7, go_sem, d0, d1]) rfl ⟨fun zs' xs' h => ?_, fun h => absurd HYES.out (h zs xs), ?_⟩
    · obtain ⟨rfl, rfl⟩ := h.unique HYES.out
      have hfar : Far (w.heap.size + 1) w4.heap.size w4 ((w4.setCell ⟨w.heap.size, 0, none⟩ (.slice (some ⟨b1, 0, none⟩) zs'.length cp1)).setCell ⟨w.heap.size, 1, none⟩ (.slice (some ⟨b2, 0, none⟩) xs'.length cp2)) := ((Far.refl _ _ w4).set _ _ (.inl (by show w.heap.size < w.heap.size + 1; omega))).set _ _ (.inl (by show w.heap.size < w.heap.size + 1; omega))
      have z4 := HB4.out.size
      exact ⟨b1, cp1, b2, cp2, rfl, HC4.out.far hfar (by omega) HC4.out.1.lt, HF4.out.far hfar (by omega) HF4.out.1.lt, by omega, by omega, by omega⟩
    · exact (HB4.out.setCell (Nat.le_refl _) _).setCell (Nat.le_refl _) _
end Go.Proofs.YtlpgaekkhlinhaaGreatDoor
