/- spec.l08ReadSheet, ReadSheet. -/
import Derived.Test.YtlpgaekkhlinhaaGreatDoorRhC
namespace Go.Proofs.YtlpgaekkhlinhaaGreatDoor
open Go.RowKit Go.Fl

theorem infoSpR : (Tryz.prog.info? 63).map (fun i => (i.zero, i.size, i.bytes)) = some (some (.agg #[.float .f32 0, .float .f32 0, .float .f32 0]), 3, 12) := by kernel_rfl
theorem cut59 (s : ByteArray) (hs : s.size ≤ 1048576) (w : World) : Calls Tryz.prog 43 #[.string s, .int .u8 59] w fun e w' => ∃ bp cp, e = .returned (.slice (some ⟨bp, 0, none⟩) (pieces s 59).length cp) ∧ (∀ i, i < (pieces s 59).length → w'.cell? ⟨bp, i, none⟩ = some (.string (sAt (pieces s 59) i))) ∧ Below w.heap.size w w' := by
  refine (l01Cut s 59 59 rfl hs w).mono ?_
  rintro e w1 ⟨bp, cp, rfl, hr1, hb1, hbel1⟩
  refine ⟨bp, cp, rfl, fun i hi => ?_, hbel1⟩
  rw [hr1.cell i (by omega)]
  simp [sAt, hi]

set_option maxHeartbeats 4000000 in
set_option maxRecDepth 100000 in
theorem l08ReadSheet (s : ByteArray) (hs : s.size ≤ 1048576) (w : World) : Calls Tryz.prog 32 #[.string s] w (RetS s.data.toList w) := by
  go_enter Tryz.func32, Tryz.ntmps32
  have hb0 : Below w.heap.size w (w.alloc (.cells #[.int .i64 0, .int .i64 0, .slice none 0 0] 33)) := Below.alloc (Below.refl _ w) (Nat.le_refl _) _
  have HB0 := Lib.hid hb0
  have HP2 := Lib.hid (show (pieces s 59).length = (cutL 59 s.data.toList).length from pieces_cut_len ..)
  clear hb0
  go_wp2_with fail
  refine (cut59 s hs _).mono ?_
  rintro e w1 ⟨bp, cp, rfl, hcs, hbel1⟩
  have HA1 := Lib.hid (show OwnC w1 w.heap.size #[.int .i64 0, .int .i64 0, .slice none 0 0] 33 from (OwnC.new rfl).below hbel1 (by simp))
  have HB1 := Lib.hid (HB0.out.trans (hbel1.mono (by simp)))
  have hbw : w.heap.size < w1.heap.size := by have := hbel1.size; simp at this; omega
  clear hbel1
  by_cases h2 : (pieces s 59).length = 2
  rotate_left
  · have h2b : (((pieces s 59).length : Int) != 2) = true := by simp; omega
    have HNO := Lib.hid (show ∀ a l ps, ¬ RdSheet s.data.toList a l ps from fun a l ps ⟨p, q, xs, m, h, _⟩ => h2 (by rw [HP2.out, h]; rfl))
    obtain ⟨⟨d0, d1, d2⟩, f0, f1, f2⟩ := HA1.out.tri
    clear h2 hcs
    go_wp2_with fail
    refine bodyPost_ret (v := .tuple #[.agg #[.int .i64 0, .int .i64 0, .slice none 0 0], .bool false]) (by simp [results, Tryz.results32, go_sem, d0, d1, d2]) rfl ⟨fun a l ps h => absurd h (HNO.out a l ps), fun _ => rfl, ?_⟩
    exact ((HB1.out.setCell (Nat.le_refl _) _).setCell (Nat.le_refl _) _).setCell (Nat.le_refl _) _
  have h2b : (((pieces s 59).length : Int) != 2) = false := by rw [h2]; rfl
  have HCUT := Lib.hid (cut2 s h2)
  obtain ⟨z0, z1⟩ := size2 s hs h2
  have e0 := hcs 0 (by omega)
  have e1 := hcs 1 (by omega)
  generalize sAt (pieces s 59) 0 = P at *
  generalize sAt (pieces s 59) 1 = Q at *
  have g2 : ((pieces s 59).length : Int) = 2 := by omega
  clear hcs h2 HP2
  go_wp2_with fail
  refine (l01Numbers P z0 w1).mono ?_
  rintro e w2 hri
  obtain ⟨v1, B1, rfl, ho1, hp1, hn1, hb2⟩ := hri.split
  have zz2 := hb2.size
  have HB2 := Lib.hid (HB1.out.trans (hb2.mono (by omega)))
  have HA2 := Lib.hid (HA1.out.below hb2 hbw)
  replace e1 := keep_cell hb2 e1
  clear hb2 hri e0
  go_wp2_with fail
  refine (l01NRead Q z1 w2).mono ?_
  rintro e w3 ⟨hy3, hn3, hb3⟩
  have zz3 := hb3.size
  have HB3 := Lib.hid (HB2.out.trans (hb3.mono (by omega)))
  have HA3 := HA2.out.below hb3 (by omega)
  obtain ⟨v2, B2, rfl, ho2, hp2, hm2⟩ := splitN hy3 hn3
  have HBL3 := Lib.hid hb3
  clear hb3 hy3 hn3 e1
  by_cases hall : B1 = true ∧ B2 = true
  rotate_left
  · have HNN : Hid (∀ a l ps, ¬ RdSheet s.data.toList a l ps) := Lib.hid fun a l ps h => by
      obtain ⟨xs, m, k1, k2, _⟩ := h.parts HCUT.out
      rcases B1 with _ | _
      · exact hn1 rfl a l k1
      · rcases B2 with _ | _
        · exact hm2 rfl xs k2
        · exact hall ⟨rfl, rfl⟩
    have HP1 := Lib.hid hp1
    obtain ⟨⟨d0, d1, d2⟩, f0, f1, f2⟩ := HA3.tri
    clear hn1 hp2 hm2 HA3 hp1
    cases B1
    · clear hall
      go_wp2_with fail
      refine bodyPost_ret (v := .tuple #[.agg #[.int .i64 0, .int .i64 0, .slice none 0 0], .bool false]) (by simp [results, Tryz.results32, go_sem, d0, d1, d2]) rfl ⟨fun a l ps h => absurd h (HNN.out a l ps), fun _ => rfl, ?_⟩
      exact ((HB3.out.setCell (Nat.le_refl _) _).setCell (Nat.le_refl _) _).setCell (Nat.le_refl _) _
    · cases B2
      rotate_left
      · exact absurd ⟨rfl, rfl⟩ hall
      clear hall
      go_wp2_with fail
      refine bodyPost_ret (v := .tuple #[.agg #[.int .i64 0, .int .i64 0, .slice none 0 0], .bool false]) (by simp [results, Tryz.results32, go_sem, d0, d1, d2]) rfl ⟨fun a l ps h => absurd h (HNN.out a l ps), fun _ => rfl, ?_⟩
      exact ((HB3.out.setCell (Nat.le_refl _) _).setCell (Nat.le_refl _) _).setCell (Nat.le_refl _) _
  obtain ⟨rfl, rfl⟩ := hall
  obtain ⟨ns, b1, c1, hns, hl64, rfl, hrow1, hbb1⟩ := hp1 rfl
  obtain ⟨xs, b2, c2, hxs, rfl, hrow2, hbb2⟩ := hp2 rfl
  have HNS := Lib.hid hns
  have HXS := Lib.hid hxs
  have hlx : xs.length ≤ 256 := hxs.1
  have l1 := hrow1.lt
  have l2 := hrow2.lt
  have HR1 := Lib.hid (hrow1.below HBL3.out l1)
  have HR2 := Lib.hid hrow2
  clear hp1 hn1 hp2 hm2 hns hxs hrow1 hrow2 ho1 ho2
  obtain ⟨nl, hnl⟩ : ∃ n, n = ns.length := ⟨_, rfl⟩
  rw [← hnl] at hl64 HR1 ⊢
  obtain ⟨xl, hxl⟩ : ∃ n, n = xs.length := ⟨_, rfl⟩
  rw [← hxl] at hlx HR2 ⊢
  have HNL := Lib.hid hnl
  have HXL := Lib.hid hxl
  clear hnl hxl
  have htm : (xl : Int) % 3 = ((xl % 3 : Nat) : Int) := rfl
  have HTM := Lib.hid htm
  clear htm
  by_cases hgood : nl = 2 ∧ xl % 3 = 0
  rotate_left
  · have HNN : Hid (∀ a l ps, ¬ RdSheet s.data.toList a l ps) := Lib.hid fun a l ps h => by
      obtain ⟨us, m, k1, k2, k3, _⟩ := h.parts HCUT.out
      have e1 := HNS.out.unique k1
      have e2 := HXS.out.unique texts1 k2
      refine hgood ⟨by rw [HNL.out, e1]; rfl, by rw [HXL.out, e2, k3]; omega⟩
    obtain ⟨⟨d0, d1, d2⟩, f0, f1, f2⟩ := HA3.tri
    clear HA3
    by_cases hg1 : nl = 2
    · have g1 : ((nl : Int) != 2) = false := by rw [hg1]; rfl
      have g3 : ((xl : Int) % 3 != 0) = true := by
        have : ¬ xl % 3 = 0 := fun h => hgood ⟨hg1, h⟩
        rw [HTM.out, bne_iff_ne]; omega
      clear hgood hg1
      go_wp2_with fail
      refine bodyPost_ret (v := .tuple #[.agg #[.int .i64 0, .int .i64 0, .slice none 0 0], .bool false]) (by simp [results, Tryz.results32, go_sem, d0, d1, d2]) rfl ⟨fun a l ps h => absurd h (HNN.out a l ps), fun _ => rfl, ?_⟩
      exact ((HB3.out.setCell (Nat.le_refl _) _).setCell (Nat.le_refl _) _).setCell (Nat.le_refl _) _
    · have g1 : ((nl : Int) != 2) = true := by simp; omega
      clear hgood hg1
      go_wp2_with fail
      refine bodyPost_ret (v := .tuple #[.agg #[.int .i64 0, .int .i64 0, .slice none 0 0], .bool false]) (by simp [results, Tryz.results32, go_sem, d0, d1, d2]) rfl ⟨fun a l ps h => absurd h (HNN.out a l ps), fun _ => rfl, ?_⟩
      exact ((HB3.out.setCell (Nat.le_refl _) _).setCell (Nat.le_refl _) _).setCell (Nat.le_refl _) _
  obtain ⟨hg1, hg2⟩ := hgood
  have g1 : ((nl : Int) != 2) = false := by rw [hg1]; rfl
  have g3 : ((xl : Int) % 3 != 0) = false := by rw [HTM.out, hg2]; rfl
  obtain ⟨a, l, hal⟩ := int_pair (show ns.length = 2 by rw [← HNL.out]; exact hg1)
  obtain ⟨m, hm⟩ : ∃ m, xl = 3 * m := ⟨xl / 3, by omega⟩
  have HAL := Lib.hid hal
  have HM := Lib.hid hm
  have c10 : w3.cell? ⟨b1, 0, none⟩ = some (.int .i64 a) := by rw [HR1.out.cell 0 (by omega), hal]; rfl
  have c11 : w3.cell? ⟨b1, 1, none⟩ = some (.int .i64 l) := by rw [HR1.out.cell 1 (by omega), hal]; rfl
  have hb0' : Below w3.heap.size w3 (w3.alloc (.cells #[.int .i64 0, .int .i64 0, .slice none 0 0] 33)) := Below.alloc (Below.refl _ _) (Nat.le_refl _) _
  have c20 := keep_cell hb0' c10
  have c21 := keep_cell hb0' c11
  clear hb0'
  have hn2 : (nl : Int) = 2 := by omega
  have HA3 := Lib.hid HA3
  clear hg1 hg2 hal hm
  go_wp2_with fail
  go_cut [9] from 49 to 55 (fun u9 wx => u9 = .pointer (some ⟨w3.heap.size, 0, none⟩) ∧ Hid (wx = (w3.alloc (.cells #[.int .i64 a, .int .i64 l, .slice none 0 0] 33)).drew))
  case first =>
    go_region_law (fail)
    all_goals (try go_wp2_with fail)
    all_goals go_meet
    all_goals (refine ⟨rfl, Lib.hid ?_⟩)
    all_goals rfl
  case rest =>
    obtain ⟨rfl, HWC⟩ := hcut
    have hwc := HWC.out
    have zc : wc.heap.size = w3.heap.size + 1 := by rw [hwc]; simp
    have hbc : Below w3.heap.size w3 wc := by rw [hwc]; exact Below.drew (Below.alloc (Below.refl _ _) (Nat.le_refl _) _)
    have HBC : Hid (Below w.heap.size w wc) := Lib.hid (HB3.out.trans (hbc.mono (by omega)))
    have HAC := Lib.hid (HA3.out.below hbc (by omega))
    have HRC := Lib.hid (HR2.out.below hbc l2)
    have HP0 : Hid (PushI (fun c => c = w3.heap.size) wc wc w3.heap.size 33 #[.int .i64 a, .int .i64 l, .slice none 0 0] 63 3 (.slice none 0 0) 0 (spCs (spotsOf xs 0))) := by
      refine Lib.hid ⟨World.ownsRow_nil _ _ _ _, ?_, fun b e => ?_, Ch.refl _ _⟩
      · rw [hwc]; exact (show OwnC (w3.alloc (.cells #[.int .i64 a, .int .i64 l, .slice none 0 0] 33)) w3.heap.size _ _ from OwnC.new rfl)
      · simp [Value.ownBlock] at e
    have HLX : Hid (xs.length = xl) := Lib.hid HXL.out.symm
    clear hwc hbc HWC HA3 HR2 HR1 c10 c11 c20 c21 g1 g3 HTM hn2
    go_wp2_with fail
    go_loopw [10] (fun i wr => ∃ (k d : Nat) (v : Value), k ≤ m ∧ Hid (d = 3 * k) ∧ i = .int .i64 d ∧ Hid (PushI (fun c => c = w3.heap.size) wc wr w3.heap.size 33 #[.int .i64 a, .int .i64 l, v] 63 3 v k (spCs (spotsOf xs k)))) (fun i _ => 3 * m - (intOf i).toNat)
    case atStart => exact ⟨0, 0, _, by omega, Lib.hid rfl, rfl, HP0⟩
    case round =>
      obtain ⟨k, d, v, hk, HD, rfl, HP⟩ := hrel
      have hd := HD.out
      have hxm := HM.out
      have c0 := HP.out.own.cell 0
      have c1 := HP.out.own.cell 1
      have c2 := HP.out.own.cell 2
      have f2 := HP.out.own.free 2
      simp at c0 c1 c2
      have zr := HP.out.ch.size
      by_cases hlt : k < m
      · have key : ∀ j, j < xl → wr.cell? ⟨b2, j, none⟩ = some (.float .f32 (xs.getD j 0)) := fun j hj => by
          refine HP.out.ch.cell ?_ (by omega)
          have hj' : j < xs.length := by rw [HLX.out]; exact hj
          rw [HRC.out.cell j (by omega)]
          simp [hj']
        have KEY : Hid (∀ j, j < xl → wc.cell? ⟨b2, j, none⟩ = some (.float .f32 (xs.getD j 0))) := Lib.hid fun j hj => by
          have hj' : j < xs.length := by rw [HLX.out]; exact hj
          rw [HRC.out.cell j (by omega)]
          simp [hj']
        have e1 := key d (by omega)
        have e2 := key (d + 1) (by omega)
        have e3 := key (d + 2) (by omega)
        have HSU : Hid (spCs (spotsOf xs (k + 1)) = spCs (spotsOf xs k) ++ [.float .f32 (xs.getD d 0), .float .f32 (xs.getD (d + 1) 0), .float .f32 (xs.getD (d + 2) 0)]) := Lib.hid (by
          rw [spotsOf_succ, spCs_app, spCs_one, ← hd])
        have k0 : (0 : Int) ≤ (d : Int) := by omega
        have k1 : (d : Int) < (xl : Int) := by omega
        obtain ⟨d1, hd1⟩ : ∃ d1, d1 = d + 1 := ⟨_, rfl⟩
        obtain ⟨d2, hd2⟩ : ∃ d2, d2 = d + 2 := ⟨_, rfl⟩
        have k2 : (d1 : Int) < (xl : Int) := by omega
        have k3 : (d2 : Int) < (xl : Int) := by omega
        have k4 : (0 : Int) ≤ (d1 : Int) := by omega
        have k5 : (0 : Int) ≤ (d2 : Int) := by omega
        have wr1 : IntKind.i64.wrap ((d : Int) + 1) = (d1 : Int) := by rw [IntKind.wrap_i64]; omega
        have wr2 : IntKind.i64.wrap ((d : Int) + 2) = (d2 : Int) := by rw [IntKind.wrap_i64]; omega
        rw [← hd1] at e2 HSU
        rw [← hd2] at e3 HSU
        obtain ⟨x, hx⟩ : ∃ x, xs.getD d 0 = x := ⟨_, rfl⟩
        obtain ⟨y, hy⟩ : ∃ x, xs.getD d1 0 = x := ⟨_, rfl⟩
        obtain ⟨z, hz⟩ : ∃ x, xs.getD d2 0 = x := ⟨_, rfl⟩
        rw [hx] at e1 HSU
        rw [hy] at e2 HSU
        rw [hz] at e3 HSU
        have HX := Lib.hid hx
        have HY := Lib.hid hy
        have HZ := Lib.hid hz
        clear hx hy hz
        have HRV : Hid (ORow0 (wr.alloc (.cells #[.float .f32 x, .float .f32 y, .float .f32 z] 63)) 63 3 v k (spCs (spotsOf xs k))) := Lib.hid (World.ownsRow.alloc HP.out.row _)
        have hk9 : k ≤ 256 := by omega
        have c2A := keep_cell (Below.alloc (Below.refl wr.heap.size wr) (Nat.le_refl _) (.cells #[.float .f32 x, .float .f32 y, .float .f32 z] 63)) c2
        clear key hd hxm hd1 hd2
        have hb2c : b2 < wc.heap.size := by omega
        have hb2p : b2 ≠ w3.heap.size := by omega
        have hal := Below.alloc (Below.refl wr.heap.size wr) (Nat.le_refl _) (.cells #[.float .f32 x, .float .f32 y, .float .f32 z] 63)
        have hSA : (fun w' : World => w'.cell? ⟨b2, d, none⟩ = some (.float .f32 x) ∧ w'.cell? ⟨b2, d1, none⟩ = some (.float .f32 y) ∧ w'.cell? ⟨b2, d2, none⟩ = some (.float .f32 z)) (wr.alloc (.cells #[.float .f32 x, .float .f32 y, .float .f32 z] 63)).drew := ⟨(keep_cell hal e1 :), (keep_cell hal e2 :), (keep_cell hal e3 :)⟩
        have hS0 : (fun w' : World => w'.cell? ⟨b2, d, none⟩ = some (.float .f32 x) ∧ w'.cell? ⟨b2, d1, none⟩ = some (.float .f32 y) ∧ w'.cell? ⟨b2, d2, none⟩ = some (.float .f32 z)) wr.drew := ⟨e1, e2, e3⟩
        clear hal
        go_wp2_with fail
        refine wp_region_held_drew (S := (fun w' : World => w'.cell? ⟨b2, d, none⟩ = some (.float .f32 x) ∧ w'.cell? ⟨b2, d1, none⟩ = some (.float .f32 y) ∧ w'.cell? ⟨b2, d2, none⟩ = some (.float .f32 z))) (by kernel_rfl) hS0 (fun _ => ?_)
        refine wpAnyH_take (i := 0) (v := ?v0) rfl (by kernel_rfl) (by kernel_rfl) (by kernel_rfl) (fun _ _ _ h => h) (Or.inl ⟨by rfl, ?y0⟩) hS0 ?r0
        case y0 => (intro w hSw; obtain ⟨hSx, hSy, hSz⟩ := hSw; go_simp <;> with_reducible rfl)
        try simp only [Act.put, List.setIfInBounds_toArray, List.set_cons_zero, List.set_cons_succ]
        refine wpAnyH_take (i := 2) (v := ?v2) rfl (by kernel_rfl) (by kernel_rfl) (by kernel_rfl) (fun _ _ _ h => h) (Or.inl ⟨by rfl, ?y2⟩) hS0 ?r2
        case y2 => (intro w hSw; obtain ⟨hSx, hSy, hSz⟩ := hSw; go_simp <;> with_reducible rfl)
        try simp only [Act.put, List.setIfInBounds_toArray, List.set_cons_zero, List.set_cons_succ]
        refine wpAnyH_take (i := 3) (v := ?v3) rfl (by kernel_rfl) (by kernel_rfl) (by kernel_rfl) (fun _ _ _ h => h) (Or.inl ⟨by rfl, ?y3⟩) hS0 ?r3
        case y3 => (intro w hSw; obtain ⟨hSx, hSy, hSz⟩ := hSw; go_simp <;> with_reducible rfl)
        try simp only [Act.put, List.setIfInBounds_toArray, List.set_cons_zero, List.set_cons_succ]
        refine wpAnyH_take (i := 4) (v := ?v4) rfl (by kernel_rfl) (by kernel_rfl) (by kernel_rfl) (fun _ _ _ h => h) (Or.inl ⟨by rfl, ?y4⟩) hS0 ?r4
        case y4 => (intro w hSw; obtain ⟨hSx, hSy, hSz⟩ := hSw; go_simp <;> with_reducible rfl)
        try simp only [Act.put, List.setIfInBounds_toArray, List.set_cons_zero, List.set_cons_succ]
        refine wpAnyH_take (i := 5) (v := ?v5) rfl (by kernel_rfl) (by kernel_rfl) (by kernel_rfl) (fun _ _ _ h => h) (Or.inl ⟨by rfl, ?y5⟩) hS0 ?r5
        case y5 => (intro w hSw; obtain ⟨hSx, hSy, hSz⟩ := hSw; go_simp <;> with_reducible rfl)
        try simp only [Act.put, List.setIfInBounds_toArray, List.set_cons_zero, List.set_cons_succ]
        refine wpAnyH_take (i := 6) (v := ?v6) rfl (by kernel_rfl) (by kernel_rfl) (by kernel_rfl) (fun _ _ _ h => h) (Or.inl ⟨by rfl, ?y6⟩) hS0 ?r6
        case y6 => (intro w hSw; obtain ⟨hSx, hSy, hSz⟩ := hSw; go_simp <;> with_reducible rfl)
        try simp only [Act.put, List.setIfInBounds_toArray, List.set_cons_zero, List.set_cons_succ]
        refine wpAnyH_take (i := 7) (v := ?v7) rfl (by kernel_rfl) (by kernel_rfl) (by kernel_rfl) (fun _ _ _ h => h) (Or.inl ⟨by rfl, ?y7⟩) hS0 ?r7
        case y7 => (intro w hSw; obtain ⟨hSx, hSy, hSz⟩ := hSw; go_simp <;> with_reducible rfl)
        try simp only [Act.put, List.setIfInBounds_toArray, List.set_cons_zero, List.set_cons_succ]
        refine wpAnyH_take (i := 8) (v := ?v8) rfl (by kernel_rfl) (by kernel_rfl) (by kernel_rfl) (fun _ _ _ h => h) (Or.inl ⟨by rfl, ?y8⟩) hS0 ?r8
        case y8 => (intro w hSw; obtain ⟨hSx, hSy, hSz⟩ := hSw; go_simp <;> with_reducible rfl)
        try simp only [Act.put, List.setIfInBounds_toArray, List.set_cons_zero, List.set_cons_succ]
        refine wpAnyH_take (i := 9) (v := ?v9) rfl (by kernel_rfl) (by kernel_rfl) (by kernel_rfl) (fun _ _ _ h => h) (Or.inl ⟨by rfl, ?y9⟩) hS0 ?r9
        case y9 => (intro w hSw; obtain ⟨hSx, hSy, hSz⟩ := hSw; go_simp <;> with_reducible rfl)
        try simp only [Act.put, List.setIfInBounds_toArray, List.set_cons_zero, List.set_cons_succ]
        refine wpAnyH_take (i := 10) (v := ?v10) rfl (by kernel_rfl) (by kernel_rfl) (by kernel_rfl) (fun _ _ _ h => h) (Or.inl ⟨by rfl, ?y10⟩) hS0 ?r10
        case y10 => (intro w hSw; obtain ⟨hSx, hSy, hSz⟩ := hSw; go_simp <;> with_reducible rfl)
        try simp only [Act.put, List.setIfInBounds_toArray, List.set_cons_zero, List.set_cons_succ]
        refine wpAnyH_take (i := 11) (v := ?v11) rfl (by kernel_rfl) (by kernel_rfl) (by kernel_rfl) (fun _ _ _ h => h) (Or.inl ⟨by rfl, ?y11⟩) hS0 ?r11
        case y11 => (intro w hSw; obtain ⟨hSx, hSy, hSz⟩ := hSw; go_simp <;> with_reducible rfl)
        try simp only [Act.put, List.setIfInBounds_toArray, List.set_cons_zero, List.set_cons_succ]
        refine wpAnyH_take (i := 12) (v := ?v12) rfl (by kernel_rfl) (by kernel_rfl) (by kernel_rfl) (fun _ _ _ h => h) (Or.inl ⟨by rfl, ?y12⟩) hS0 ?r12
        case y12 => (intro w hSw; obtain ⟨hSx, hSy, hSz⟩ := hSw; go_simp <;> with_reducible rfl)
        try simp only [Act.put, List.setIfInBounds_toArray, List.set_cons_zero, List.set_cons_succ]
        refine wpAnyH_take (i := 13) (v := ?v13) rfl (by kernel_rfl) (by kernel_rfl) (by kernel_rfl) (fun _ _ _ h => h) (Or.inl ⟨by rfl, ?y13⟩) hS0 ?r13
        case y13 => (intro w hSw; obtain ⟨hSx, hSy, hSz⟩ := hSw; go_simp <;> with_reducible rfl)
        try simp only [Act.put, List.setIfInBounds_toArray, List.set_cons_zero, List.set_cons_succ]
        refine wpAnyH_take (i := 14) (v := ?v14) rfl (by kernel_rfl) (by kernel_rfl) (by kernel_rfl) (fun _ _ _ h => h) (Or.inl ⟨by rfl, ?y14⟩) hS0 ?r14
        case y14 => (intro w hSw; obtain ⟨hSx, hSy, hSz⟩ := hSw; go_simp <;> with_reducible rfl)
        try simp only [Act.put, List.setIfInBounds_toArray, List.set_cons_zero, List.set_cons_succ]
        refine wpAnyH_take (i := 15) (v := ?v15) rfl (by kernel_rfl) (by kernel_rfl) (by kernel_rfl) (fun _ _ _ h => h) (Or.inl ⟨by rfl, ?y15⟩) hS0 ?r15
        case y15 => (intro w hSw; obtain ⟨hSx, hSy, hSz⟩ := hSw; go_simp <;> with_reducible rfl)
        try simp only [Act.put, List.setIfInBounds_toArray, List.set_cons_zero, List.set_cons_succ]
        refine wpAnyH_take (i := 16) (v := ?v16) rfl (by kernel_rfl) (by kernel_rfl) (by kernel_rfl) (fun _ _ _ h => h) (Or.inl ⟨by rfl, ?y16⟩) hS0 ?r16
        case y16 => (intro w hSw; obtain ⟨hSx, hSy, hSz⟩ := hSw; go_simp <;> with_reducible rfl)
        try simp only [Act.put, List.setIfInBounds_toArray, List.set_cons_zero, List.set_cons_succ]
        refine wpAnyH_ready (rs := [1, 17]) (by kernel_rfl) (by simp) ?_
        refine AllReadyH.cons rfl (fun K hK => ?_) (AllReadyH.cons rfl (fun K hK => ?_) AllReadyH.nil)
        · go_simp
          refine hK.out _ _ hS0 (fun hS1 => ?_)
          clear hK K
          try simp only [Act.put, List.setIfInBounds_toArray, List.set_cons_zero, List.set_cons_succ]
          refine wpAnyH_ready (rs := [17]) (by kernel_rfl) (by simp) ?_
          refine AllReadyH.cons rfl (fun K hK => ?_) AllReadyH.nil
          go_simp
          refine hK.out _ _ hSA (fun hS2 => ?_)
          clear hK K
          try simp only [Act.put, List.setIfInBounds_toArray, List.set_cons_zero, List.set_cons_succ]
          refine wpAnyH_ready (rs := [18]) (by kernel_rfl) (by simp) ?_
          refine AllReadyH.cons rfl (fun K hK => ?_) AllReadyH.nil
          refine step_spread rfl _ _ _ rfl 63 (.agg #[.float .f32 0, .float .f32 0, .float .f32 0]) 3 12 Tryz.underlying31 infoSpR rfl (by decide) _ v k _ rfl HRV.out ⟨wr.heap.size, 0, none⟩ 1 1 [.float .f32 x, .float .f32 y, .float .f32 z] rfl rfl (World.news_of_block (heap_alloc_new wr _)) (by simp [Value.oneCell']) (by decide) (by omega) (by decide) ?_
          intro b7 c7 w7 hr7 hb7 hlt7 hg7'
          have hg7 : (wr.alloc (.cells #[.float .f32 x, .float .f32 y, .float .f32 z] 63)).grownBy w7 v.ownBlock := ⟨hg7'.os, hg7'.tape, hg7'.output, hg7'.size, hg7'.block⟩
          have hp7 := HP.out.keep hg7
          have e7 := hp7.cell 2
          have g7 := hp7.free 2
          simp at e7
          have hST := HP.out.step (j := 2) (by omega) rfl hg7 hr7 (hb7.imp id (fun h => by simpa using h))
          have hS7 : (fun w' : World => w'.cell? ⟨b2, d, none⟩ = some (.float .f32 x) ∧ w'.cell? ⟨b2, d1, none⟩ = some (.float .f32 y) ∧ w'.cell? ⟨b2, d2, none⟩ = some (.float .f32 z)) w7 := by
            have kc : ∀ j, j < xl → w7.cell? ⟨b2, j, none⟩ = some (.float .f32 (xs.getD j 0)) := fun j hj => (World.cell?_setCell_other _ _ _ _ (by simp [hb2p])).symm.trans ((World.cell?_of_block (w := wc) (a := ⟨b2, j, none⟩) (hST.ch.block b2 hb2c (fun e => hb2p e))).trans (KEY.out j hj))
            exact ⟨(kc _ (by omega)).trans (by rw [HX.out]), (kc _ (by omega)).trans (by rw [HY.out]), (kc _ (by omega)).trans (by rw [HZ.out])⟩
          refine hK.out _ _ hS7 (fun hS8 => ?_)
          clear hK K
          try simp only [Act.put, List.setIfInBounds_toArray, List.set_cons_zero, List.set_cons_succ]
          refine wpAnyH_take (i := 19) (v := ?v19) rfl (by kernel_rfl) (by kernel_rfl) (by kernel_rfl) (fun _ _ _ h => h) (Or.inl ⟨by rfl, ?y19⟩) hS7 ?r19
          case y19 => (intro w hSw; obtain ⟨hSx, hSy, hSz⟩ := hSw; go_simp <;> with_reducible rfl)
          try simp only [Act.put, List.setIfInBounds_toArray, List.set_cons_zero, List.set_cons_succ]
          refine wpAnyH_ready (rs := [20]) (by kernel_rfl) (by simp) ?_
          refine AllReadyH.cons rfl (fun K hK => ?_) AllReadyH.nil
          go_simp
          refine hK.out _ _ ⟨?_, ?_, ?_⟩ (fun hS9 => ?_)
          · exact (World.cell?_setCell_other _ _ _ _ (by simp [hb2p])).trans hS7.1
          · exact (World.cell?_setCell_other _ _ _ _ (by simp [hb2p])).trans hS7.2.1
          · exact (World.cell?_setCell_other _ _ _ _ (by simp [hb2p])).trans hS7.2.2
          clear hK K
          try simp only [Act.put, List.setIfInBounds_toArray, List.set_cons_zero, List.set_cons_succ]
          refine wpAnyH_done (by kernel_rfl) ?_ _
          have HST := Lib.hid hST
          clear hST hS7 hS8 hS9 hp7 hg7 hg7' hr7 hb7
          go_wp2_with fail
          go_roundw
          case rel => exact ⟨k + 1, d + 3, _, by omega, Lib.hid (by have := HD.out; omega), by go_num, by rw [HSU.out]; exact HST⟩
          case measure => have := HD.out; simp [intOf]; omega
        · go_simp
          refine hK.out _ _ hSA (fun hS1 => ?_)
          clear hK K
          try simp only [Act.put, List.setIfInBounds_toArray, List.set_cons_zero, List.set_cons_succ]
          refine wpAnyH_ready (rs := [1]) (by kernel_rfl) (by simp) ?_
          refine AllReadyH.cons rfl (fun K hK => ?_) AllReadyH.nil
          go_simp
          refine hK.out _ _ hSA (fun hS2 => ?_)
          clear hK K
          try simp only [Act.put, List.setIfInBounds_toArray, List.set_cons_zero, List.set_cons_succ]
          refine wpAnyH_ready (rs := [18]) (by kernel_rfl) (by simp) ?_
          refine AllReadyH.cons rfl (fun K hK => ?_) AllReadyH.nil
          refine step_spread rfl _ _ _ rfl 63 (.agg #[.float .f32 0, .float .f32 0, .float .f32 0]) 3 12 Tryz.underlying31 infoSpR rfl (by decide) _ v k _ rfl HRV.out ⟨wr.heap.size, 0, none⟩ 1 1 [.float .f32 x, .float .f32 y, .float .f32 z] rfl rfl (World.news_of_block (heap_alloc_new wr _)) (by simp [Value.oneCell']) (by decide) (by omega) (by decide) ?_
          intro b7 c7 w7 hr7 hb7 hlt7 hg7'
          have hg7 : (wr.alloc (.cells #[.float .f32 x, .float .f32 y, .float .f32 z] 63)).grownBy w7 v.ownBlock := ⟨hg7'.os, hg7'.tape, hg7'.output, hg7'.size, hg7'.block⟩
          have hp7 := HP.out.keep hg7
          have e7 := hp7.cell 2
          have g7 := hp7.free 2
          simp at e7
          have hST := HP.out.step (j := 2) (by omega) rfl hg7 hr7 (hb7.imp id (fun h => by simpa using h))
          have hS7 : (fun w' : World => w'.cell? ⟨b2, d, none⟩ = some (.float .f32 x) ∧ w'.cell? ⟨b2, d1, none⟩ = some (.float .f32 y) ∧ w'.cell? ⟨b2, d2, none⟩ = some (.float .f32 z)) w7 := by
            have kc : ∀ j, j < xl → w7.cell? ⟨b2, j, none⟩ = some (.float .f32 (xs.getD j 0)) := fun j hj => (World.cell?_setCell_other _ _ _ _ (by simp [hb2p])).symm.trans ((World.cell?_of_block (w := wc) (a := ⟨b2, j, none⟩) (hST.ch.block b2 hb2c (fun e => hb2p e))).trans (KEY.out j hj))
            exact ⟨(kc _ (by omega)).trans (by rw [HX.out]), (kc _ (by omega)).trans (by rw [HY.out]), (kc _ (by omega)).trans (by rw [HZ.out])⟩
          refine hK.out _ _ hS7 (fun hS8 => ?_)
          clear hK K
          try simp only [Act.put, List.setIfInBounds_toArray, List.set_cons_zero, List.set_cons_succ]
          refine wpAnyH_take (i := 19) (v := ?v29) rfl (by kernel_rfl) (by kernel_rfl) (by kernel_rfl) (fun _ _ _ h => h) (Or.inl ⟨by rfl, ?y29⟩) hS7 ?r29
          case y29 => (intro w hSw; obtain ⟨hSx, hSy, hSz⟩ := hSw; go_simp <;> with_reducible rfl)
          try simp only [Act.put, List.setIfInBounds_toArray, List.set_cons_zero, List.set_cons_succ]
          refine wpAnyH_ready (rs := [20]) (by kernel_rfl) (by simp) ?_
          refine AllReadyH.cons rfl (fun K hK => ?_) AllReadyH.nil
          go_simp
          refine hK.out _ _ ⟨?_, ?_, ?_⟩ (fun hS9 => ?_)
          · exact (World.cell?_setCell_other _ _ _ _ (by simp [hb2p])).trans hS7.1
          · exact (World.cell?_setCell_other _ _ _ _ (by simp [hb2p])).trans hS7.2.1
          · exact (World.cell?_setCell_other _ _ _ _ (by simp [hb2p])).trans hS7.2.2
          clear hK K
          try simp only [Act.put, List.setIfInBounds_toArray, List.set_cons_zero, List.set_cons_succ]
          refine wpAnyH_done (by kernel_rfl) ?_ _
          have HST := Lib.hid hST
          clear hST hS7 hS8 hS9 hp7 hg7 hg7' hr7 hb7
          go_wp2_with fail
          go_roundw
          case rel => exact ⟨k + 1, d + 3, _, by omega, Lib.hid (by have := HD.out; omega), by go_num, by rw [HSU.out]; exact HST⟩
          case measure => have := HD.out; simp [intOf]; omega
      · have hkk : k = m := by omega
        subst hkk
        have hOWN : ∀ x ∈ xs, Own1 x := HXS.out.2.1
        have hSO := spotsOf_own hOWN (show xs.length = 3 * k by rw [HLX.out]; exact hxm)
        have hlen : k = (spotsOf xs k).length := (spotsOf_len ..).symm
        obtain ⟨ao, cc, rfl, hsp, hpos⟩ := ORow0.spots0 HP.out.row hlen hSO
        have k1 : ¬ (d : Int) < (xl : Int) := by omega
        have HAR := Lib.hid (HP.out.ch.own HAC.out (by omega))
        have HBR := Lib.hid (HBC.out.trans (HP.out.ch.toBelow (by omega) (fun b hb => by omega)))
        have HPOS : Hid (0 < (spotsOf xs k).length → ∃ b, ao = some ⟨b, 0, none⟩ ∧ OwnP1 wr b (spotsOf xs k) ∧ w.heap.size < b) := Lib.hid fun h => by
          obtain ⟨b, e1, e2, e3⟩ := hpos h
          refine ⟨b, e1, e3, ?_⟩
          have := (HP.out.vb b e2).1
          have := HBC.out.size
          omega
        have HGIV := Lib.hid (l04Give 0 wr.heap.size a l ao cc (spotsOf xs k) (by rw [spotsOf_len]; omega) wr hsp (Nat.le_refl _))
        have HRD : Hid (okSh a l (spotsOf xs k) = true → RdSheet s.data.toList a l (spotsOf xs k)) := Lib.hid fun h => ⟨P, Q, xs, k, HCUT.out, by have := HNS.out; rw [HAL.out] at this; exact this, HXS.out, by rw [HLX.out]; exact hxm, rfl, h⟩
        have HNR : Hid (okSh a l (spotsOf xs k) = false → ∀ a' l' ps', ¬ RdSheet s.data.toList a' l' ps') := Lib.hid fun h a' l' ps' hr => by
          obtain ⟨us, mm, q1, q2, q3, q4, q5⟩ := hr.parts HCUT.out
          have r1 := HNS.out.unique q1
          rw [HAL.out] at r1
          simp only [List.cons.injEq, and_true] at r1
          obtain ⟨rfl, rfl⟩ := r1
          obtain rfl := HXS.out.unique texts1 q2
          obtain rfl : k = mm := by have := HLX.out; omega
          rw [q4] at q5
          rw [q5] at h
          cases h
        obtain ⟨ps, hps⟩ : ∃ ps, ps = spotsOf xs k := ⟨_, rfl⟩
        rw [← hps] at HGIV HPOS HRD HNR c2
        clear hd hxm hSO hlen hsp hpos hps HP HRC HAC HP0 HBC hlt zr hOWN f2
        go_wp2_with fail
        refine HGIV.out.mono ?_
        rintro e w5 ⟨hy5, hn5, hb5⟩
        have z5 := hb5.size
        have hb9 := HBR.out.size
        have HB5 := Lib.hid (HBR.out.trans (hb5.mono hb9))
        have HA5 := HAR.out.below hb5 HAR.out.lt
        have HBL5 := Lib.hid hb5
        obtain ⟨⟨d0, d1, d2⟩, f0, f1, f2⟩ := HA5.tri
        cases hok : okSh a l ps
        · have HNN := Lib.hid (HNR.out hok)
          obtain rfl := hn5 hok
          clear hy5 hn5 hb5 hok
          go_wp2_with fail
          refine bodyPost_ret (v := .tuple #[.agg #[.int .i64 0, .int .i64 0, .slice none 0 0], .bool false]) (by simp [results, Tryz.results32, go_sem, d0, d1, d2]) rfl ⟨fun a l ps h => absurd h (HNN.out a l ps), fun _ => rfl, ?_⟩
          exact ((HB5.out.setCell (Nat.le_refl _) _).setCell (Nat.le_refl _) _).setCell (Nat.le_refl _) _
        · have HYES := Lib.hid (HRD.out hok)
          obtain ⟨b, rfl, ho, hbb⟩ := HPOS.out (okSh_some hok)
          have HO := Lib.hid (ho.below HBL5.out ho.1.lt)
          obtain rfl := hy5 hok
          clear hy5 hn5 hb5 hok ho
          go_wp2_with fail
          refine bodyPost_ret (v := .tuple #[.agg #[.int .i64 a, .int .i64 l, .slice (some ⟨b, 0, none⟩) ps.length cc], .bool true]) (by simp [results, Tryz.results32, go_sem, d0, d1, d2]) rfl ⟨fun a' l' ps' h => ?_, fun h => absurd HYES.out (h _ _ _), ?_⟩
          · obtain ⟨rfl, rfl, rfl⟩ := h.unique HYES.out
            exact ⟨b, cc, rfl, HO.out.far ((((Far.refl (w.heap.size + 1) w5.heap.size w5).set _ _ (.inl (by show w.heap.size < w.heap.size + 1; omega))).set _ _ (.inl (by show w.heap.size < w.heap.size + 1; omega))).set _ _ (.inl (by show w.heap.size < w.heap.size + 1; omega))) (by omega) HO.out.1.lt, by omega⟩
          · exact ((HB5.out.setCell (Nat.le_refl _) _).setCell (Nat.le_refl _) _).setCell (Nat.le_refl _) _

set_option maxHeartbeats 2000000 in
set_option maxRecDepth 100000 in
theorem specReadSheet (s : ByteArray) (hs : s.size ≤ 1048576) (w : World) : Calls Tryz.prog 11 #[.string s] w (RetS s.data.toList w) := by
  go_enter Tryz.func11, Tryz.ntmps11
  go_wp2_with fail
  refine (l08ReadSheet s hs _).mono ?_
  rintro e w1 ⟨hy, hn, hb⟩
  have hz := hb.size
  simp at hz
  have A1 : OwnC w1 w.heap.size #[.int .i64 0, .int .i64 0, .slice none 0 0] 33 := (OwnC.new rfl).below hb (by simp)
  have HB1 := Lib.hid (Below.trans (Below.alloc (Below.refl _ w) (Nat.le_refl _) (.cells #[.int .i64 0, .int .i64 0, .slice none 0 0] 33)) (hb.mono (by simp)))
  obtain ⟨⟨d0, d1, d2⟩, f0, f1, f2⟩ := A1.tri
  clear A1 hb
  by_cases hex : ∃ a l ps, RdSheet s.data.toList a l ps
  · obtain ⟨a, l, ps, hr⟩ := hex
    have HYES := Lib.hid hr
    obtain ⟨b, c, rfl, ho, hbb⟩ := hy a l ps hr
    simp at hbb
    have HO := Lib.hid ho
    clear hr hy hn ho
    go_wp2_with fail
    refine bodyPost_ret (v := .tuple #[.agg #[.int .i64 a, .int .i64 l, .slice (some ⟨b, 0, none⟩) ps.length c], .bool true]) (by simp [results, Tryz.results11, go_sem, d0, d1, d2]) rfl ⟨fun a' l' ps' h => ?_, fun h => absurd HYES.out (h _ _ _), ?_⟩
    · obtain ⟨rfl, rfl, rfl⟩ := h.unique HYES.out
      exact ⟨b, c, rfl, HO.out.far ((((Far.refl (w.heap.size + 1) w1.heap.size w1).set _ _ (.inl (by show w.heap.size < w.heap.size + 1; omega))).set _ _ (.inl (by show w.heap.size < w.heap.size + 1; omega))).set _ _ (.inl (by show w.heap.size < w.heap.size + 1; omega))) (by omega) HO.out.1.lt, by omega⟩
    · exact ((HB1.out.setCell (Nat.le_refl _) _).setCell (Nat.le_refl _) _).setCell (Nat.le_refl _) _
  · have HNO := Lib.hid (show ∀ a l ps, ¬ RdSheet s.data.toList a l ps from fun a l ps h => hex ⟨a, l, ps, h⟩)
    obtain rfl := hn HNO.out
    clear hy hn hex
    go_wp2_with fail
    refine bodyPost_ret (v := .tuple #[.agg #[.int .i64 0, .int .i64 0, .slice none 0 0], .bool false]) (by simp [results, Tryz.results11, go_sem, d0, d1, d2]) rfl ⟨fun a l ps h => absurd h (HNO.out a l ps), fun _ => rfl, ?_⟩
    exact ((HB1.out.setCell (Nat.le_refl _) _).setCell (Nat.le_refl _) _).setCell (Nat.le_refl _) _
end Go.Proofs.YtlpgaekkhlinhaaGreatDoor
