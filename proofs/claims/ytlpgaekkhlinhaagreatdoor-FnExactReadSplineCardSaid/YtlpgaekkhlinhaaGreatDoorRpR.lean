/- impl.ReadSpline. (Written by mkrpr.py.) -/
import Derived.Test.YtlpgaekkhlinhaaGreatDoorRpC
import Derived.Test.YtlpgaekkhlinhaaGreatDoorRcB
import Derived.Test.YtlpgaekkhlinhaaGreatDoorDecI
namespace Go.Proofs.YtlpgaekkhlinhaaGreatDoor
open Go.RowKit Go.Fl

theorem split59 (s : ByteArray) (hs : s.size ≤ 1048576) (w : World) (hm : Mx w) : Calls Tryz.prog 40 #[.string s, .string ⟨#[59]⟩] w fun e w' => ∃ bp cp, e = .returned (.slice (some ⟨bp, 0, none⟩) (pieces s 59).length cp) ∧ (∀ i, i < (pieces s 59).length → w'.cell? ⟨bp, i, none⟩ = some (.string (sAt (pieces s 59) i))) ∧ Below w.heap.size w w' := by
  obtain ⟨m, hm⟩ := hm
  refine (Tryz.strings_Split s ⟨#[59]⟩ m w (by omega) hm (by decide)).mono ?_
  rintro e w1 ⟨rfl, rfl⟩
  refine ⟨w.heap.size, (pieces s 59).length, by rw [pieces_len], fun i hi => ?_, Below.alloc (Below.refl _ w) (Nat.le_refl _) _⟩
  rw [Lib.cell_of_heap (heap_alloc_new w _), splitB_pieces]
  simp [sAt, hi]
set_option maxHeartbeats 4000000 in
set_option maxRecDepth 100000 in
theorem implReadSpline (s : ByteArray) (hs : s.size ≤ 1048576) (w : World) (hm : Mx w) (he : Er w) (hg : Eg w) (ht : Tz w) (htb : Tab w) : Calls Tryz.prog 17 #[.string s] w (RetP s.data.toList w) := by
  have HM := Lib.hid hm
  have HE := Lib.hid he
  have HG := Lib.hid hg
  have HT := Lib.hid ht
  have HTB := Lib.hid htb
  clear hm he hg ht htb
  go_enter Tryz.func17, Tryz.ntmps17
  have hb0 : Below w.heap.size w (w.alloc (.cells #[.int .i64 0, .slice none 0 0, .slice none 0 0] 39)) := Below.alloc (Below.refl _ w) (Nat.le_refl _) _
  have HB0 := Lib.hid hb0
  have HP3 := Lib.hid (show (pieces s 59).length = (cutL 59 s.data.toList).length from pieces_cut_len ..)
  clear hb0
  go_wp2_with fail
  refine (split59 s hs _ (HM.out.on HB0.out)).mono ?_
  rintro e w1 ⟨bp, cp, rfl, hcs, hbel1⟩
  have HA1 := Lib.hid (show OwnC w1 w.heap.size #[.int .i64 0, .slice none 0 0, .slice none 0 0] 39 from (OwnC.new rfl).below hbel1 (by simp))
  have HB1 := Lib.hid (HB0.out.trans (hbel1.mono (by simp)))
  have hbw : w.heap.size < w1.heap.size := by have := hbel1.size; simp at this; omega
  clear hbel1
  by_cases h3 : (pieces s 59).length = 3
  rotate_left
  · have h3b : (((pieces s 59).length : Int) != 3) = true := by simp; omega
    have HNO := Lib.hid (show ∀ d xs zs, ¬ RdSpline s.data.toList d xs zs from fun d xs zs ⟨o, p, q, h, _⟩ => h3 (by rw [HP3.out, h]; rfl))
    obtain ⟨⟨d0, d1, d2⟩, f0, f1, f2⟩ := HA1.out.three'
    clear h3 hcs
    go_wp2_with fail
    refine bodyPost_ret (v := .tuple #[.agg #[.int .i64 0, .slice none 0 0, .slice none 0 0], .bool false]) (by simp [results, Tryz.results17, go_sem, d0, d1, d2]) rfl ⟨fun d xs zs h => absurd h (HNO.out d xs zs), fun _ => rfl, ?_⟩
    exact ((HB1.out.setCell (Nat.le_refl _) _).setCell (Nat.le_refl _) _).setCell (Nat.le_refl _) _
  have h3b : (((pieces s 59).length : Int) != 3) = false := by rw [h3]; rfl
  have HCUT := Lib.hid (cut3 s h3)
  obtain ⟨z0, z1, z2⟩ := size3 s hs h3
  have e0 := hcs 0 (by omega)
  have e1 := hcs 1 (by omega)
  have e2 := hcs 2 (by omega)
  generalize sAt (pieces s 59) 0 = O at *
  generalize sAt (pieces s 59) 1 = P at *
  generalize sAt (pieces s 59) 2 = Q at *
  have g3 : ((pieces s 59).length : Int) = 3 := by omega
  clear hcs h3 HP3
  go_wp2_with fail
  refine (readDecimal O z0 w1 (HE.out.on HB1.out) (HG.out.on HB1.out) (HTB.out.on HB1.out)).mono ?_
  rintro e w2 hri
  obtain ⟨n, B1, rfl, hp1, hn1, hb2⟩ := hri.split
  have zz2 := hb2.size
  have HB2 := Lib.hid (HB1.out.trans (hb2.mono (by omega)))
  have HA2 := Lib.hid (HA1.out.below hb2 hbw)
  replace e1 := keep_cell hb2 e1
  replace e2 := keep_cell hb2 e2
  clear hb2 hri e0
  go_wp2_with fail
  refine (readNumbers P z1 w2 (HM.out.on HB2.out) (HE.out.on HB2.out) (HT.out.on HB2.out)).mono ?_
  rintro e w3 ⟨hy3, hn3, hb3⟩
  have zz3 := hb3.size
  have HB3 := Lib.hid (HB2.out.trans (hb3.mono (by omega)))
  have HA3 := Lib.hid (HA2.out.below hb3 (by omega))
  replace e2 := keep_cell hb3 e2
  obtain ⟨v2, B2, rfl, ho2, hp2, hm2⟩ := splitN hy3 hn3
  clear hb3 hy3 hn3 e1
  go_wp2_with fail
  refine (readComplex Q z2 w3 (HM.out.on HB3.out) (HE.out.on HB3.out) (HT.out.on HB3.out)).mono ?_
  rintro e w4 ⟨hy4, hn4, hb4⟩
  have zz4 := hb4.size
  have HB4 := Lib.hid (HB3.out.trans (hb4.mono (by omega)))
  have HA4 := HA3.out.below hb4 (by omega)
  obtain ⟨v3, B3, rfl, ho3, hp3, hm3⟩ := splitC hy4 hn4
  have HNO := Lib.hid (show (B1 = false ∨ B2 = false ∨ B3 = false) → ∀ d xs zs, ¬ RdSpline s.data.toList d xs zs from fun hh d xs zs h => by
    obtain ⟨k0, k1, k2, _⟩ := h.parts HCUT.out
    rcases hh with hh | hh | hh
    · exact hn1 hh d k0
    · exact hm2 hh xs k1
    · exact hm3 hh zs k2)
  by_cases hall : B1 = true ∧ B2 = true ∧ B3 = true
  rotate_left
  · have HNN := Lib.hid (HNO.out (by cases B1 <;> cases B2 <;> cases B3 <;> simp_all))
    obtain ⟨⟨d0, d1, d2⟩, f0, f1, f2⟩ := HA4.three'
    clear hp1 hn1 hp2 hm2 hp3 hm3 hy4 hn4 hb4
    cases B1 <;> cases B2 <;> cases B3
    case true.true.true => exact absurd ⟨rfl, rfl, rfl⟩ hall
    all_goals
      clear hall
      go_wp2_with fail
      refine bodyPost_ret (v := .tuple #[.agg #[.int .i64 0, .slice none 0 0, .slice none 0 0], .bool false]) (by simp [results, Tryz.results17, go_sem, d0, d1, d2]) rfl ⟨fun d xs zs h => absurd h (HNN.out d xs zs), fun _ => rfl, ?_⟩
      exact ((HB4.out.setCell (Nat.le_refl _) _).setCell (Nat.le_refl _) _).setCell (Nat.le_refl _) _
  obtain ⟨rfl, rfl, rfl⟩ := hall
  have HI1 := Lib.hid (hp1 rfl)
  obtain ⟨ks, b1, cp1, hks, rfl, hrow1, hbb1⟩ := hp2 rfl
  obtain ⟨ps, b2, cp2, hps, rfl, hrow2, hbb2⟩ := hp3 rfl
  have HKS := Lib.hid hks
  have HPS := Lib.hid hps
  have hlk : ks.length ≤ 256 := hks.1
  have hlp : ps.length ≤ 256 := hps.1
  have l1 := hrow1.lt
  have l2 := hrow2.lt
  have hcap := hrow1.cap
  have HF1 := Lib.hid ((OwnF1.row hrow1 rfl).below hb4 l1)
  have HC1 := Lib.hid (OwnC1.row hrow2 rfl)
  have HG1 := Lib.hid (ifSpline n b1 cp1 b2 cp2 ks ps hcap (by omega) (by omega) w4 HF1.out.2 HC1.out.2 (by omega) (by omega))
  have HAA := Lib.hid HA4
  clear hp1 hn1 hp2 hm2 hp3 hm3 hy4 hn4 hb4 hks hps hrow1 hrow2 hcap HNO ho2 ho3 HA4
  go_wp2_with fail
  refine HG1.out.mono ?_
  rintro e w5 ⟨hy5, hn5, hb5⟩
  have HB5 := Lib.hid (HB4.out.trans (hb5.mono (by omega)))
  have HA5 := HAA.out.below hb5 (by omega)
  have HF5 := Lib.hid (HF1.out.below hb5 (by omega))
  have HC5 := Lib.hid (HC1.out.below hb5 (by omega))
  obtain ⟨⟨d0, d1, d2⟩, f0, f1, f2⟩ := HA5.three'
  cases hok : okSpl n ks ps
  · have HNN : Hid (∀ d xs zs, ¬ RdSpline s.data.toList d xs zs) := Lib.hid fun d xs zs h => by
      obtain ⟨k0, k1, k2, k3⟩ := h.parts HCUT.out
      rw [k0.unique HI1.out, k1.unique texts1 HKS.out, k2.unique texts2 HPS.out] at k3
      rw [okSpl_true k3] at hok
      cases hok
    obtain rfl := hn5 hok
    clear hy5 hn5 hb5 hok
    go_wp2_with fail
    refine bodyPost_ret (v := .tuple #[.agg #[.int .i64 0, .slice none 0 0, .slice none 0 0], .bool false]) (by simp [results, Tryz.results17, go_sem, d0, d1, d2]) rfl ⟨fun d xs zs h => absurd h (HNN.out d xs zs), fun _ => rfl, ?_⟩
    exact ((HB5.out.setCell (Nat.le_refl _) _).setCell (Nat.le_refl _) _).setCell (Nat.le_refl _) _
  · have HYES := Lib.hid (show RdSpline s.data.toList n ks ps from ⟨_, _, _, HCUT.out, HI1.out, HKS.out, HPS.out, okSpl_iff.1 hok⟩)
    obtain rfl := hy5 hok
    clear hy5 hn5 hb5 hok
    go_wp2_with fail
    refine bodyPost_ret (v := .tuple #[.agg #[.int .i64 n, .slice (some ⟨b1, 0, none⟩) ks.length cp1, .slice (some ⟨b2, 0, none⟩) ps.length cp2], .bool true]) (by simp [results, Tryz.results17, go_sem, d0, d1, d2]) rfl ⟨fun d xs zs h => ?_, fun h => absurd HYES.out (h _ _ _), ?_⟩
    · obtain ⟨rfl, rfl, rfl⟩ := h.unique HYES.out
      have hfar : Far (w.heap.size + 1) w5.heap.size w5 (((w5.setCell ⟨w.heap.size, 0, none⟩ (.int .i64 d)).setCell ⟨w.heap.size, 1, none⟩ (.slice (some ⟨b1, 0, none⟩) xs.length cp1)).setCell ⟨w.heap.size, 2, none⟩ (.slice (some ⟨b2, 0, none⟩) zs.length cp2)) := (((Far.refl _ _ w5).set _ _ (.inl (by show w.heap.size < w.heap.size + 1; omega))).set _ _ (.inl (by show w.heap.size < w.heap.size + 1; omega))).set _ _ (.inl (by show w.heap.size < w.heap.size + 1; omega))
      have z5 := HB5.out.size
      exact ⟨b1, cp1, b2, cp2, rfl, HF5.out.far hfar (by omega) HF5.out.1.lt, HC5.out.far hfar (by omega) HC5.out.1.lt, by omega, by omega, by omega⟩
    · exact ((HB5.out.setCell (Nat.le_refl _) _).setCell (Nat.le_refl _) _).setCell (Nat.le_refl _) _
end Go.Proofs.YtlpgaekkhlinhaaGreatDoor
