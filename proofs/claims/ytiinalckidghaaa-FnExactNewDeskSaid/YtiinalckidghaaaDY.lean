/- The program's flat sheet of the beginning. -/
import Derived.Test.YtiinalckidghaaaDX
namespace Go.Proofs.Ytiinalckidghaaa
open Go.RowKit Go.Fl
theorem isAcross (x : Int) (w : World) : Calls Try.prog 32 #[.int .i64 x] w fun e w' => e = .returned (.bool (inB x 2 6)) ∧ w' = w := by
  go_enter Try.func32, Try.ntmps32
  go_wp2_with (go_at_call 30; refine (within _ _ _ _).mono ?_; rintro e w' ⟨rfl, rfl⟩)
  go_ret
  exact ⟨rfl, rfl⟩
theorem spCan : ∀ p, p ∈ spF → can .f32 p.1 = p.1 ∧ can .f32 p.2.1 = p.2.1 ∧ can .f32 p.2.2 = p.2.2 := by decide +kernel
theorem spFin : spF.all finSp = true := by decide +kernel
theorem wlFin : ([1082130432, 1073741824].all fun x => fin (can .f32 x)) = true := by decide +kernel
set_option maxHeartbeats 2000000 in
set_option maxRecDepth 100000 in
theorem validSh (b c : Nat) (w : World) (h : OwnP1 w b spF) : Calls Try.prog 48 #[.agg #[.int .i64 2, .int .i64 2, .slice (some ⟨b, 0, none⟩) 4 c]] w fun e w' => e = .returned (.bool true) ∧ Below w.heap.size w w' := by
  have hb : Below w.heap.size w (w.alloc (.cells #[.int .i64 2, .int .i64 2, .slice (some ⟨b, 0, none⟩) 4 c] 30)) := Below.alloc (Below.refl _ _) (Nat.le_refl _) _
  have HS := Lib.hid (areSpots 0 w.heap.size (some ⟨b, 0, none⟩) c spF (by decide) _ (SlP.mono ((h.below hb h.1.lt).slP spCan) (Nat.zero_le _) (by have := h.1.lt; omega)) (by simp))
  have hw : inB 2 2 6 = true := by decide
  have hs := spFin
  go_enter Try.func48, Try.ntmps48
  go_wp2_with (first | (go_at_call 32; refine (isAcross _ _).mono ?_; rintro e w3 ⟨rfl, rfl⟩; rw [hw]) | (go_at_call 58; refine HS.out.mono ?_; rintro e w4 ⟨rfl, hb4⟩; rw [hs]))
  go_ret
  exact ⟨rfl, hb.trans (hb4.mono (by simp))⟩
set_option maxHeartbeats 2000000 in
set_option maxRecDepth 100000 in
theorem ifSh (b c : Nat) (w : World) (h : OwnP1 w b spF) : Calls Try.prog 34 #[.agg #[.int .i64 2, .int .i64 2, .slice (some ⟨b, 0, none⟩) 4 c]] w fun e w' => e = .returned (.tuple #[shtV 2 2 b c 4, .bool true]) ∧ Below w.heap.size w w' := by
  have hb : Below w.heap.size w ((w.alloc (.cells #[.int .i64 2, .int .i64 2, .slice (some ⟨b, 0, none⟩) 4 c] 30)).alloc (.cells #[.int .i64 0, .int .i64 0, .slice none 0 0] 30)) := by
    show Below _ _ _
    (repeat (first | exact Below.refl _ _ | assumption | refine below_dr ?_ _ | refine Below.alloc ?_ (by first | omega | (simp; done) | (simp; omega)) _ | refine Below.setCell ?_ (by first | omega | (simp; done) | (simp; omega)) _ | refine Below.trans ?_ (Below.mono (by assumption) (by first | omega | (simp; done) | (simp; omega)))))
  have HS := Lib.hid (validSh b c _ (h.below hb h.1.lt))
  have HB := Lib.hid hb
  have hP : OwnC ((w.alloc (.cells #[.int .i64 2, .int .i64 2, .slice (some ⟨b, 0, none⟩) 4 c] 30)).alloc (.cells #[.int .i64 0, .int .i64 0, .slice none 0 0] 30)) w.heap.size #[.int .i64 2, .int .i64 2, .slice (some ⟨b, 0, none⟩) 4 c] 30 := (OwnC.new rfl).alloc _
  have hR : OwnC ((w.alloc (.cells #[.int .i64 2, .int .i64 2, .slice (some ⟨b, 0, none⟩) 4 c] 30)).alloc (.cells #[.int .i64 0, .int .i64 0, .slice none 0 0] 30)) (w.heap.size + 1) #[.int .i64 0, .int .i64 0, .slice none 0 0] 30 := OwnC.new (by simp)
  have HP := Lib.hid hP
  have HR := Lib.hid hR
  clear hP hR hb
  go_enter Try.func34, Try.ntmps34
  go_wp2_with (go_at_call 48; refine HS.out.mono ?_; rintro e w4 ⟨rfl, hb4⟩; have hP4 := HP.out.below hb4 (by simp; omega); have hR4 := HR.out.below hb4 (by simp); have p0 := hP4.cell 0; have p1 := hP4.cell 1; have p2 := hP4.cell 2; have r0 := hR4.cell 0; have r1 := hR4.cell 1; have r2 := hR4.cell 2; have f0 := hR4.free 0; have f1 := hR4.free 1; have f2 := hR4.free 2; simp at p0 p1 p2 r0 r1 r2; have HR4 := Lib.hid hR4; have HB4 := Lib.hid hb4; clear hP4 hR4 hb4)
  have v2 := HR4.out.set3 (.int .i64 2) (.int .i64 2) (.slice (some ⟨b, 0, none⟩) 4 c)
  have q0 := v2.cell 0
  have q1 := v2.cell 1
  have q2 := v2.cell 2
  simp at q0 q1 q2
  refine bodyPost_ret (v := .tuple #[shtV 2 2 b c 4, .bool true]) (by simp [results, Try.results34, go_sem, q0, q1, q2, shtV]) rfl ⟨rfl, ?_⟩
  have hB : Below w.heap.size w w4 := HB.out.trans (HB4.out.mono (by simp; omega))
  exact ((hB.setCell (by simp) _).setCell (by simp) _).setCell (by simp) _
set_option maxHeartbeats 2000000 in
set_option maxRecDepth 100000 in
theorem flatSheet (w : World) :
    Calls Try.prog 14 #[.int .i64 2, .int .i64 2, .float .f32 1082130432, .float .f32 1073741824] w fun e w' => (∃ b1 c1 v, e = .returned (.tuple #[.agg #[.int .i64 2, .int .i64 2, .slice (some ⟨b1, 0, none⟩) 4 c1], v]) ∧ w.heap.size ≤ b1 ∧ b1 < w'.heap.size ∧ OwnP1 w' b1 spF) ∧ Below w.heap.size w w' := by
  obtain ⟨m1, d1⟩ := mop_of fl1
  obtain ⟨m2, d2⟩ := mop_of fl2
  obtain ⟨m3, d3⟩ := mop_of fl3
  obtain ⟨m4, d4⟩ := mop_of fl4
  obtain ⟨m5, d5⟩ := mop_of fl5
  obtain ⟨m6, d6⟩ := mop_of fl6
  have i0 := fi0
  have i1 := fi1
  have dz : ∀ w : World, w.drewN 0 = w := World.drewN_zero
  have hw : inB 2 2 6 = true := by decide
  have hs := wlFin
  have HF := Lib.hid (areFinite [1082130432, 1073741824] (.slice (some ⟨w.heap.size + 1, 0, none⟩) 2 2) _ (slF_new (w.alloc (.cells #[.int .i64 0, .int .i64 0, .slice none 0 0] 30)) [1082130432, 1073741824] 41 (w.heap.size + 1) 2 (by simp) (by simp) _ rfl rfl))
  go_enter Try.func14, Try.ntmps14
  go_wp2_with (first | (go_at_call 32; refine (isAcross _ _).mono ?_; rintro e w3 ⟨rfl, rfl⟩; rw [hw]) | (go_at_call 33; refine HF.out.mono ?_; rintro e w4 ⟨rfl, q4, rfl⟩; rw [hs]))
  obtain ⟨wb, hwb⟩ : ∃ x : World, x = ((((w.alloc (.cells #[.int .i64 0, .int .i64 0, .slice none 0 0] 30)).alloc (.cells #[.float .f32 1082130432, .float .f32 1073741824] 41)).alloc (.cells #[.int .i64 2, .int .i64 2, .slice none 0 0] 30)).drewN q4) := ⟨_, rfl⟩
  have hP0 : PushI (fun c => c = w.heap.size + 1 + 1) wb wb (w.heap.size + 1 + 1) 30 #[.int .i64 2, .int .i64 2, (.slice none 0 0)] 57 3 (.slice none 0 0) 0 (spCs (spF.take 0)) := by
    refine ⟨World.ownsRow_nil _ _ _ _, ?_, fun b e => ?_, Ch.refl _ _⟩
    · rw [hwb]; exact OwnC.drewN (OwnC.new (by simp)) q4
    · simp [Value.ownBlock] at e
  have hBb : Below w.heap.size w wb := by rw [hwb]; exact below_dr (((Below.alloc (Below.refl _ _) (Nat.le_refl _) _).alloc (by simp) _).alloc (by simp; omega) _) _
  have hRb : OwnC wb w.heap.size #[.int .i64 0, .int .i64 0, .slice none 0 0] 30 := by rw [hwb]; exact OwnC.drewN (((OwnC.new rfl).alloc _).alloc _) q4
  have zb : wb.heap.size = w.heap.size + 3 := by rw [hwb]; simp
  have HBB := Lib.hid hBb
  have HRR := Lib.hid hRb
  rw [← hwb]
  have HP0 := Lib.hid hP0
  clear hwb hP0 hBb hRb
  go_loopw [11, 12, 33, 37] (fun _ _ j _ wr => ∃ (k : Nat) (v : Value), k ≤ 2 ∧ j = .int .i64 k ∧ Hid (PushI (fun c => c = w.heap.size + 1 + 1) wb wr (w.heap.size + 1 + 1) 30 #[.int .i64 2, .int .i64 2, v] 57 3 v (2 * k) (spCs (spF.take (2 * k))))) (fun _ _ j _ _ => 2 - (intOf j).toNat)
  case atStart => exact ⟨0, _, by omega, rfl, HP0⟩
  case round =>
    obtain ⟨k, v, hk, rfl, HP⟩ := hrel
    by_cases hlt : k < 2
    · have hcase : k = 0 ∨ k = 1 := by omega
      rcases hcase with rfl | rfl
      · go_wp2_with fail
        go_loopw [12, 37] (fun _ i wr2 => ∃ (k : Nat) (v : Value), k ≤ 2 ∧ i = .int .i64 k ∧ Hid (PushI (fun c => c = w.heap.size + 1 + 1) wb wr2 (w.heap.size + 1 + 1) 30 #[.int .i64 2, .int .i64 2, v] 57 3 v (0 + k) (spCs (spF.take (0 + k))))) (fun _ i _ => 2 - (intOf i).toNat)
        case atStart => exact ⟨0, _, by omega, rfl, HP⟩
        case round =>
          obtain ⟨k2, v2, hk2, rfl, HP2⟩ := hrel
          have c0 := HP2.out.own.cell 0
          have c1 := HP2.out.own.cell 1
          have c2 := HP2.out.own.cell 2
          have f2 := HP2.out.own.free 2
          simp at c0 c1 c2
          have hcase2 : k2 = 0 ∨ k2 = 1 ∨ k2 = 2 := by omega
          rcases hcase2 with rfl | rfl | rfl
          · go_wp2_with (at_builtin; refine wpList_app0 rfl _ _ _ rfl 57 (.agg #[.float .f32 0, .float .f32 0, .float .f32 0]) 3 12 Try.underlying28 infoSp rfl (by decide) _ v2 _ _ rfl (World.ownsRow.alloc HP2.out.row _) ⟨wr.heap.size, 0, none⟩ 1 1 [.float .f32 0, .float .f32 0, .float .f32 0] rfl rfl (World.news_of_block (heap_alloc_new wr _)) (by simp [Value.oneCell']) (by decide) (by omega) (by decide) ?_; intro b7 c7 w7 hr7 hb7 hlt7 hg7; have hp7 := HP2.out.keep hg7; have e2 := hp7.cell 2; have g2 := hp7.free 2; simp at e2)
            have hST := HP2.out.step (j := 2) (by omega) rfl hg7 hr7 (hb7.imp id (fun h => by simpa using h))
            go_roundw
            case rel => exact ⟨_, _, _, _, _, _, _, _, _, _, _, _, _, _, _, _, _, _, _, _, _, _, _, _, _, _, _, ⟨1, .slice (some ⟨b7, 0, none⟩) 1 c7, by omega, rfl, Lib.hid hST⟩, rfl⟩
            case measure =>
              show 2 - (intOf (.int .i64 1)).toNat < 2 - (intOf (.int .i64 0)).toNat
              decide
          · go_wp2_with (at_builtin; refine wpList_app0 rfl _ _ _ rfl 57 (.agg #[.float .f32 0, .float .f32 0, .float .f32 0]) 3 12 Try.underlying28 infoSp rfl (by decide) _ v2 _ _ rfl (World.ownsRow.alloc HP2.out.row _) ⟨wr.heap.size, 0, none⟩ 1 1 [.float .f32 1082130432, .float .f32 0, .float .f32 0] rfl rfl (World.news_of_block (heap_alloc_new wr _)) (by simp [Value.oneCell']) (by decide) (by omega) (by decide) ?_; intro b7 c7 w7 hr7 hb7 hlt7 hg7; have hp7 := HP2.out.keep hg7; have e2 := hp7.cell 2; have g2 := hp7.free 2; simp at e2)
            have hST := HP2.out.step (j := 2) (by omega) rfl hg7 hr7 (hb7.imp id (fun h => by simpa using h))
            go_roundw
            case rel => exact ⟨_, _, _, _, _, _, _, _, _, _, _, _, _, _, _, _, _, _, _, _, _, _, _, _, _, _, _, ⟨2, .slice (some ⟨b7, 0, none⟩) 2 c7, by omega, rfl, Lib.hid hST⟩, rfl⟩
            case measure =>
              show 2 - (intOf (.int .i64 2)).toNat < 2 - (intOf (.int .i64 1)).toNat
              decide
          · go_wp2_with fail
            exact ⟨⟨1, v2, by omega, by go_num, HP2⟩, by simp [intOf]⟩
      · go_wp2_with fail
        go_loopw [12, 37] (fun _ i wr2 => ∃ (k : Nat) (v : Value), k ≤ 2 ∧ i = .int .i64 k ∧ Hid (PushI (fun c => c = w.heap.size + 1 + 1) wb wr2 (w.heap.size + 1 + 1) 30 #[.int .i64 2, .int .i64 2, v] 57 3 v (2 + k) (spCs (spF.take (2 + k))))) (fun _ i _ => 2 - (intOf i).toNat)
        case atStart => exact ⟨0, _, by omega, rfl, HP⟩
        case round =>
          obtain ⟨k2, v2, hk2, rfl, HP2⟩ := hrel
          have c0 := HP2.out.own.cell 0
          have c1 := HP2.out.own.cell 1
          have c2 := HP2.out.own.cell 2
          have f2 := HP2.out.own.free 2
          simp at c0 c1 c2
          have hcase2 : k2 = 0 ∨ k2 = 1 ∨ k2 = 2 := by omega
          rcases hcase2 with rfl | rfl | rfl
          · go_wp2_with (at_builtin; refine wpList_app0 rfl _ _ _ rfl 57 (.agg #[.float .f32 0, .float .f32 0, .float .f32 0]) 3 12 Try.underlying28 infoSp rfl (by decide) _ v2 _ _ rfl (World.ownsRow.alloc HP2.out.row _) ⟨wr.heap.size, 0, none⟩ 1 1 [.float .f32 0, .float .f32 1073741824, .float .f32 0] rfl rfl (World.news_of_block (heap_alloc_new wr _)) (by simp [Value.oneCell']) (by decide) (by omega) (by decide) ?_; intro b7 c7 w7 hr7 hb7 hlt7 hg7; have hp7 := HP2.out.keep hg7; have e2 := hp7.cell 2; have g2 := hp7.free 2; simp at e2)
            have hST := HP2.out.step (j := 2) (by omega) rfl hg7 hr7 (hb7.imp id (fun h => by simpa using h))
            go_roundw
            case rel => exact ⟨_, _, _, _, _, _, _, _, _, _, _, _, _, _, _, _, _, _, _, _, _, _, _, _, _, _, _, ⟨1, .slice (some ⟨b7, 0, none⟩) 3 c7, by omega, rfl, Lib.hid hST⟩, rfl⟩
            case measure =>
              show 2 - (intOf (.int .i64 1)).toNat < 2 - (intOf (.int .i64 0)).toNat
              decide
          · go_wp2_with (at_builtin; refine wpList_app0 rfl _ _ _ rfl 57 (.agg #[.float .f32 0, .float .f32 0, .float .f32 0]) 3 12 Try.underlying28 infoSp rfl (by decide) _ v2 _ _ rfl (World.ownsRow.alloc HP2.out.row _) ⟨wr.heap.size, 0, none⟩ 1 1 [.float .f32 1082130432, .float .f32 1073741824, .float .f32 0] rfl rfl (World.news_of_block (heap_alloc_new wr _)) (by simp [Value.oneCell']) (by decide) (by omega) (by decide) ?_; intro b7 c7 w7 hr7 hb7 hlt7 hg7; have hp7 := HP2.out.keep hg7; have e2 := hp7.cell 2; have g2 := hp7.free 2; simp at e2)
            have hST := HP2.out.step (j := 2) (by omega) rfl hg7 hr7 (hb7.imp id (fun h => by simpa using h))
            go_roundw
            case rel => exact ⟨_, _, _, _, _, _, _, _, _, _, _, _, _, _, _, _, _, _, _, _, _, _, _, _, _, _, _, ⟨2, .slice (some ⟨b7, 0, none⟩) 4 c7, by omega, rfl, Lib.hid hST⟩, rfl⟩
            case measure =>
              show 2 - (intOf (.int .i64 2)).toNat < 2 - (intOf (.int .i64 1)).toNat
              decide
          · go_wp2_with fail
            exact ⟨⟨2, v2, by omega, by go_num, HP2⟩, by simp [intOf]⟩
    · have hkk : k = 2 := by omega
      subst hkk
      have hRb : OwnC wr w.heap.size #[.int .i64 0, .int .i64 0, .slice none 0 0] 30 := HP.out.ch.own HRR.out (by omega)
      have p0 := HP.out.own.cell 0
      have p1 := HP.out.own.cell 1
      have p2 := HP.out.own.cell 2
      simp at p0 p1 p2
      obtain ⟨b2, e2, rfl, hr2⟩ := ORow0.form HP.out.row (by decide)
      have hvb := HP.out.vb b2 rfl
      have hB : Below w.heap.size w wr := HBB.out.trans (HP.out.ch.toBelow (by omega) (fun b hb => by omega))
      have zr := HP.out.ch.size
      have hO2 : OwnP1 wr b2 spF := OwnP1.row (l := spF) hr2 rfl
      have hl2 := hr2.lt
      have HI := Lib.hid (ifSh b2 e2 wr hO2)
      have HO2 := Lib.hid hO2
      have HBR := Lib.hid hB
      have HRb := Lib.hid hRb
      clear hRb hr2 HP hB hO2
      go_wp2_with (go_at_call 34; refine HI.out.mono ?_; rintro e w6 ⟨rfl, hb6⟩; unfold shtV; have hR6 := HRb.out.below hb6 (by omega); have r0 := hR6.cell 0; have r1 := hR6.cell 1; have r2 := hR6.cell 2; have g0 := hR6.free 0; have g1 := hR6.free 1; have g2 := hR6.free 2; simp at r0 r1 r2; have HR6 := Lib.hid hR6; have HB6 := Lib.hid hb6; clear hR6 hb6)
      have v2 := HR6.out.set3 (.int .i64 2) (.int .i64 2) (.slice (some ⟨b2, 0, none⟩) 4 e2)
      have q0 := v2.cell 0
      have q1 := v2.cell 1
      have q2 := v2.cell 2
      simp at q0 q1 q2
      have z6 := HB6.out.size
      have hF : Far (w.heap.size + 1) w6.heap.size w6 (((w6.setCell ⟨w.heap.size, 0, none⟩ (.int .i64 2)).setCell ⟨w.heap.size, 1, none⟩ (.int .i64 2)).setCell ⟨w.heap.size, 2, none⟩ (.slice (some ⟨b2, 0, none⟩) 4 e2)) := (((Far.refl _ _ _).set _ _ (.inl (by simp))).set _ _ (.inl (by simp))).set _ _ (.inl (by simp))
      have hB6 : Below w.heap.size w w6 := HBR.out.trans (HB6.out.mono (by omega))
      refine bodyPost_ret (v := .tuple #[.agg #[.int .i64 2, .int .i64 2, .slice (some ⟨b2, 0, none⟩) 4 e2], .bool true]) (by simp [results, Try.results14, go_sem, q0, q1, q2]) rfl ⟨⟨b2, e2, _, rfl, by omega, by simp; omega, OwnP1.far (HO2.out.below HB6.out hl2) hF (by omega) (by omega)⟩, ((hB6.setCell (Nat.le_refl _) _).setCell (Nat.le_refl _) _).setCell (Nat.le_refl _) _⟩
end Go.Proofs.Ytiinalckidghaaa
