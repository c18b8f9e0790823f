/- The program's plain curve, even spline and flat sheet of the beginning. -/
import Derived.Test.YtiinalckidghaaaDW
namespace Go.Proofs.Ytiinalckidghaaa
open Go.RowKit Go.Fl
theorem OwnF1.rep {w : World} {b x n : Nat} {T : TypeId} (h : OwnC w b (repCs x n n).toArray T) : OwnF1 w b (List.replicate n x) := by
  refine ⟨⟨_, T, h, by simp [repCs]⟩, fun i hi => ?_⟩
  simp only [List.length_replicate] at hi
  rw [h.cell]
  rw [List.getElem?_toArray, repCs_at x hi]
  simp [hi]
set_option maxHeartbeats 1000000 in
set_option maxRecDepth 100000 in
theorem onesI (n : Nat) (h1 : 1 ≤ n) (hn : n ≤ 1000) (w : World) : Calls Try.prog 29 #[.int .i64 (n : Nat)] w fun e w' => (∃ b, e = .returned (.slice (some ⟨b, 0, none⟩) n n) ∧ w.heap.size ≤ b ∧ b < w'.heap.size ∧ OwnF1 w' b (List.replicate n 1065353216)) ∧ Below w.heap.size w w' := by
  have HR := Lib.hid (repF w.heap.size 1 1065353216 n h1 hn (w.alloc (.cells #[.float .f32 1065353216] 41)) (by rw [Lib.cell_of_heap (heap_alloc_new _ _)]; rfl))
  go_enter Try.func29, Try.ntmps29
  go_wp2_with (go_at_call 43; refine HR.out.mono ?_; rintro e w1 ⟨⟨b, rfl, hb, hl, ho⟩, hb1⟩; have HBE := Lib.hid hb; clear hb)
  go_ret
  refine ⟨⟨b, rfl, by rw [HBE.out]; simp, hl, OwnF1.rep ho⟩, ?_⟩
  exact Below.trans (by (repeat (first | exact Below.refl _ _ | assumption | refine below_dr ?_ _ | refine Below.alloc ?_ (by first | omega | (simp; done) | (simp; omega)) _ | refine Below.setCell ?_ (by first | omega | (simp; done) | (simp; omega)) _ | refine Below.trans ?_ (Below.mono (by assumption) (by first | omega | (simp; done) | (simp; omega))))) : Below w.heap.size w (w.alloc (.cells #[.float .f32 1065353216] 41))) (hb1.mono (by simp))
set_option maxHeartbeats 1000000 in
set_option maxRecDepth 100000 in
theorem ifCurveYes (lo hi : Nat) (a b : Option Addr) (ca cb : Nat) (pts : List Cx) (ws : List Nat) (hn : pts.length ≤ 1048576) (hm : ws.length ≤ 1048576) (hok : okCurve pts ws = true) (w : World) (hp : SlC w lo hi a pts) (hh : hi ≤ w.heap.size) (hw : SlF w (.slice b ws.length cb) ws) :
    Calls Try.prog 27 #[.agg #[.slice a pts.length ca, .slice b ws.length cb]] w fun e w' => e = .returned (.tuple #[.agg #[.slice a pts.length ca, .slice b ws.length cb], .bool true]) ∧ Below w.heap.size w w' := by
  have hb : Below w.heap.size w ((w.alloc (.cells #[.slice a pts.length ca, .slice b ws.length cb] 25)).alloc (.cells #[.slice none 0 0, .slice none 0 0] 25)) := by
    show Below _ _ _
    (repeat (first | exact Below.refl _ _ | assumption | refine below_dr ?_ _ | refine Below.alloc ?_ (by first | omega | (simp; done) | (simp; omega)) _ | refine Below.setCell ?_ (by first | omega | (simp; done) | (simp; omega)) _ | refine Below.trans ?_ (Below.mono (by assumption) (by first | omega | (simp; done) | (simp; omega)))))
  have hV := validCurve lo hi a b ca cb pts ws hn hm _ (hp.far (Far.below hb hh)) (by simp; omega) (hw.below hb)
  rw [hok] at hV
  have HV := Lib.hid hV
  have HB := Lib.hid hb
  have HP := Lib.hid (show OwnC ((w.alloc (.cells #[.slice a pts.length ca, .slice b ws.length cb] 25)).alloc (.cells #[.slice none 0 0, .slice none 0 0] 25)) w.heap.size #[.slice a pts.length ca, .slice b ws.length cb] 25 from (OwnC.new rfl).alloc _)
  have HR := Lib.hid (show OwnC ((w.alloc (.cells #[.slice a pts.length ca, .slice b ws.length cb] 25)).alloc (.cells #[.slice none 0 0, .slice none 0 0] 25)) (w.heap.size + 1) #[.slice none 0 0, .slice none 0 0] 25 from OwnC.new (by simp))
  clear hV hb hp hw
  go_enter Try.func27, Try.ntmps27
  go_wp2_with (go_at_call 42; refine HV.out.mono ?_; rintro e w4 ⟨rfl, hb4⟩; have hP4 := HP.out.below hb4 (by simp; omega); have hR4 := HR.out.below hb4 (by simp); have p0 := hP4.cell 0; have p1 := hP4.cell 1; have r0 := hR4.cell 0; have r1 := hR4.cell 1; have f0 := hR4.free 0; have f1 := hR4.free 1; simp at p0 p1 r0 r1; have HR4 := Lib.hid hR4; have HB4 := Lib.hid hb4; clear hP4 hR4 hb4)
  have v2 := HR4.out.set2 (.slice a pts.length ca) (.slice b ws.length cb)
  have q0 := v2.cell 0
  have q1 := v2.cell 1
  simp at q0 q1
  refine bodyPost_ret (v := .tuple #[.agg #[.slice a pts.length ca, .slice b ws.length cb], .bool true]) (by simp [results, Try.results27, go_sem, q0, q1]) rfl ⟨rfl, ?_⟩
  have hB : Below w.heap.size w w4 := HB.out.trans (HB4.out.mono (by simp; omega))
  exact (hB.setCell (by simp) _).setCell (by simp) _
theorem curOk : okCurve curP curW = true := by decide +kernel
set_option maxHeartbeats 1000000 in
set_option maxRecDepth 100000 in
theorem plainCurve (lo hi b0 c : Nat) (w : World) (hs : SlC w lo hi (some ⟨b0, 0, none⟩) curP) (hh : hi ≤ w.heap.size) :
    Calls Try.prog 12 #[.slice (some ⟨b0, 0, none⟩) 3 c] w fun e w' => (∃ b1 c1 b2 c2 v, e = .returned (.tuple #[.agg #[.slice (some ⟨b1, 0, none⟩) 3 c1, .slice (some ⟨b2, 0, none⟩) 3 c2], v]) ∧ w.heap.size ≤ b1 ∧ w.heap.size ≤ b2 ∧ b1 ≠ b2 ∧ b1 < w'.heap.size ∧ b2 < w'.heap.size ∧ OwnC1 w' b1 curP ∧ OwnF1 w' b2 curW) ∧ Below w.heap.size w w' := by
  have hb0 : Below w.heap.size w (w.alloc (.cells #[.slice none 0 0, .slice none 0 0] 25)) := by
    show Below _ _ _
    (repeat (first | exact Below.refl _ _ | assumption | refine below_dr ?_ _ | refine Below.alloc ?_ (by first | omega | (simp; done) | (simp; omega)) _ | refine Below.setCell ?_ (by first | omega | (simp; done) | (simp; omega)) _ | refine Below.trans ?_ (Below.mono (by assumption) (by first | omega | (simp; done) | (simp; omega)))))
  have HC := Lib.hid (cloneC lo hi b0 c curP (by decide) (by decide) _ (hs.far (Far.below hb0 hh)))
  have HR := Lib.hid (show OwnC (w.alloc (.cells #[.slice none 0 0, .slice none 0 0] 25)) w.heap.size #[.slice none 0 0, .slice none 0 0] 25 from OwnC.new rfl)
  have HB0 := Lib.hid hb0
  clear hs hb0
  go_enter Try.func12, Try.ntmps12
  go_wp2_with (first
    | (go_at_call 28; refine HC.out.mono ?_; rintro e w1 ⟨⟨b1, c1, rfl, l1, t1, o1⟩, hb1⟩; have O1 := Lib.hid o1; have HB1 := Lib.hid hb1; have z1 := hb1.size; clear o1 hb1)
    | (go_at_call 29; refine (onesI 3 (by decide) (by decide) _).mono ?_; rintro e w2 ⟨⟨b2, rfl, l2, t2, o2⟩, hb2⟩; have O2 := Lib.hid o2; have HB2 := Lib.hid hb2; have z2 := hb2.size; clear o2 hb2)
    | (go_at_call 27; refine (ifCurveYes 0 w2.heap.size (some ⟨b1, 0, none⟩) (some ⟨b2, 0, none⟩) c1 3 curP curW (by decide) (by decide) curOk _ (fun _ => ⟨b1, rfl, Nat.zero_le _, by omega, (O1.out.below HB2.out t1).2⟩) (Nat.le_refl _) (OwnF1.slF (xs := curW) O2.out rfl (by decide))).mono ?_; rintro e w3 ⟨rfl, hb3⟩; simp only [show curP.length = 3 from rfl, show curW.length = 3 from rfl]; have HB3 := Lib.hid hb3; have z3 := hb3.size; clear hb3; have hR3 := HR.out.below (HB1.out.trans ((HB2.out.mono z1).trans (HB3.out.mono (by omega)))) (by simp); have r0 := hR3.cell 0; have r1 := hR3.cell 1; have f0 := hR3.free 0; have f1 := hR3.free 1; simp at r0 r1; have HR3 := Lib.hid hR3; clear hR3))
  have v2 := HR3.out.set2 (.slice (some ⟨b1, 0, none⟩) 3 c1) (.slice (some ⟨b2, 0, none⟩) 3 3)
  have q0 := v2.cell 0
  have q1 := v2.cell 1
  simp at q0 q1 l1
  have hF : Far (w.heap.size + 1) w3.heap.size w3 ((w3.setCell ⟨w.heap.size, 0, none⟩ (.slice (some ⟨b1, 0, none⟩) 3 c1)).setCell ⟨w.heap.size, 1, none⟩ (.slice (some ⟨b2, 0, none⟩) 3 3)) := ((Far.refl _ _ _).set _ _ (.inl (by simp))).set _ _ (.inl (by simp))
  have hB : Below w.heap.size w w3 := HB0.out.trans ((HB1.out.trans ((HB2.out.mono z1).trans (HB3.out.mono (by omega)))).mono (by simp))
  have zz : w.heap.size + 1 ≤ w1.heap.size := by simpa using z1
  refine bodyPost_ret (v := .tuple #[.agg #[.slice (some ⟨b1, 0, none⟩) 3 c1, .slice (some ⟨b2, 0, none⟩) 3 3], .bool true]) (by simp [results, Try.results12, go_sem, q0, q1]) rfl ⟨⟨b1, c1, b2, 3, _, rfl, by omega, by omega, by omega, by simp; omega, by simp; omega, ?_, ?_⟩, (hB.setCell (Nat.le_refl _) _).setCell (Nat.le_refl _) _⟩
  · exact ((O1.out.below HB2.out t1).below HB3.out (by omega)).far hF (by omega) (by omega)
  · exact OwnF1.far (l := curW) (O2.out.below HB3.out t2) hF (by omega) (by omega)
set_option maxHeartbeats 2000000 in
set_option maxRecDepth 100000 in
theorem evenSpline (lo hi b0 c : Nat) (w : World) (hs : SlC w lo hi (some ⟨b0, 0, none⟩) splP) (hh : hi ≤ w.heap.size) :
    Calls Try.prog 13 #[.slice (some ⟨b0, 0, none⟩) 4 c, .int .i64 2] w fun e w' => (∃ b1 c1 b2 c2 v, e = .returned (.tuple #[.agg #[.int .i64 2, .slice (some ⟨b1, 0, none⟩) 7 c1, .slice (some ⟨b2, 0, none⟩) 4 c2], v]) ∧ w.heap.size ≤ b1 ∧ w.heap.size ≤ b2 ∧ b1 ≠ b2 ∧ b1 < w'.heap.size ∧ b2 < w'.heap.size ∧ OwnF1 w' b1 knF ∧ OwnC1 w' b2 splP) ∧ Below w.heap.size w w' := by
  have hb0 : Below w.heap.size w (w.alloc (.cells #[.int .i64 0, .slice none 0 0, .slice none 0 0] 27)) := by
    show Below _ _ _
    (repeat (first | exact Below.refl _ _ | assumption | refine below_dr ?_ _ | refine Below.alloc ?_ (by first | omega | (simp; done) | (simp; omega)) _ | refine Below.setCell ?_ (by first | omega | (simp; done) | (simp; omega)) _ | refine Below.trans ?_ (Below.mono (by assumption) (by first | omega | (simp; done) | (simp; omega)))))
  have HC := Lib.hid (cloneC lo hi b0 c splP (by decide) (by decide) _ (hs.far (Far.below hb0 hh)))
  have HR := Lib.hid (show OwnC (w.alloc (.cells #[.int .i64 0, .slice none 0 0, .slice none 0 0] 27)) w.heap.size #[.int .i64 0, .slice none 0 0, .slice none 0 0] 27 from OwnC.new rfl)
  have HB0 := Lib.hid hb0
  have hw1 : inB 2 1 5 = true := by decide
  have hw2 : inB 4 3 24 = true := by decide
  clear hs hb0
  go_enter Try.func13, Try.ntmps13
  go_wp2_with (first
    | (go_at_call 30; refine (within _ _ _ _).mono ?_; rintro e w5 ⟨rfl, rfl⟩; first | rw [hw1] | rw [hw2])
    | (go_at_call 28; refine HC.out.mono ?_; rintro e w1 ⟨⟨b1, cap1, rfl, l1, t1, o1⟩, hb1⟩; simp only [show splP.length = 4 from rfl]; have O1 := Lib.hid o1; have HB1 := Lib.hid hb1; have z1 := hb1.size; clear o1 hb1))
  obtain ⟨wb, hwb⟩ : ∃ x : World, x = w1.alloc (.cells #[.int .i64 2, .slice none 0 0, .slice (some ⟨b1, 0, none⟩) 4 cap1] 27) := ⟨_, rfl⟩
  have hP0 : PushI (fun c => c = w1.heap.size) wb wb w1.heap.size 27 #[.int .i64 2, .slice none 0 0, .slice (some ⟨b1, 0, none⟩) 4 cap1] 41 1 (.slice none 0 0) 0 ((knF.take 0).map (Value.float .f32)) := by
    refine ⟨World.ownsRow_nil _ _ _ _, ?_, fun b e => ?_, Ch.refl _ _⟩
    · rw [hwb]; exact OwnC.new rfl
    · simp [Value.ownBlock] at e
  have hBb : Below w1.heap.size w1 wb := by rw [hwb]; exact Below.alloc (Below.refl _ _) (Nat.le_refl _) _
  have zb : wb.heap.size = w1.heap.size + 1 := by rw [hwb]; simp
  have HBB := Lib.hid hBb
  rw [← hwb]
  have HP0 := Lib.hid hP0
  simp only [World.size_alloc] at l1 z1
  clear hwb hP0 hBb
  go_loopw [8, 30] (fun _ i wr => ∃ (k : Nat) (v : Value), k ≤ 7 ∧ i = .int .i64 k ∧ Hid (PushI (fun c => c = w1.heap.size) wb wr w1.heap.size 27 #[.int .i64 2, v, .slice (some ⟨b1, 0, none⟩) 4 cap1] 41 1 v k ((knF.take k).map (Value.float .f32)))) (fun _ i _ => 7 - (intOf i).toNat)
  case atStart => exact ⟨0, _, by omega, rfl, HP0⟩
  case round =>
    obtain ⟨k, v, hk, rfl, HP⟩ := hrel
    have c0 := HP.out.own.cell 0
    have c1 := HP.out.own.cell 1
    have c2 := HP.out.own.cell 2
    have f1 := HP.out.own.free 1
    simp at c0 c1 c2
    by_cases hlt : k < 7
    · have hcase : k = 0 ∨ k = 1 ∨ k = 2 ∨ k = 3 ∨ k = 4 ∨ k = 5 ∨ k = 6 := by omega
      rcases hcase with rfl | rfl | rfl | rfl | rfl | rfl | rfl
      · go_wp2_with (at_builtin; refine wpList_app0 rfl _ _ _ rfl 41 (.float .f32 0) 1 4 Try.underlying23 infoF rfl (by decide) _ v _ _ rfl (World.ownsRow.alloc HP.out.row _) ⟨wr.heap.size, 0, none⟩ 1 1 [.float .f32 _] rfl rfl (World.news_of_block (heap_alloc_new wr _)) (by simp [Value.oneCell']) (by decide) (by omega) (by decide) ?_; intro b7 c7 w7 hr7 hb7 hlt7 hg7; have hp7 := HP.out.keep hg7; have d1 := hp7.cell 1; have g1 := hp7.free 1; simp at d1)
        have hST := HP.out.step (j := 1) (by omega) rfl hg7 hr7 (hb7.imp id (fun h => by simpa using h))
        go_roundw
        case rel => exact ⟨1, .slice (some ⟨b7, 0, none⟩) 1 c7, by omega, by go_num, Lib.hid hST⟩
        case measure => simp [intOf]
      · go_wp2_with (at_builtin; refine wpList_app0 rfl _ _ _ rfl 41 (.float .f32 0) 1 4 Try.underlying23 infoF rfl (by decide) _ v _ _ rfl (World.ownsRow.alloc HP.out.row _) ⟨wr.heap.size, 0, none⟩ 1 1 [.float .f32 _] rfl rfl (World.news_of_block (heap_alloc_new wr _)) (by simp [Value.oneCell']) (by decide) (by omega) (by decide) ?_; intro b7 c7 w7 hr7 hb7 hlt7 hg7; have hp7 := HP.out.keep hg7; have d1 := hp7.cell 1; have g1 := hp7.free 1; simp at d1)
        have hST := HP.out.step (j := 1) (by omega) rfl hg7 hr7 (hb7.imp id (fun h => by simpa using h))
        go_roundw
        case rel => exact ⟨2, .slice (some ⟨b7, 0, none⟩) 2 c7, by omega, by go_num, Lib.hid hST⟩
        case measure => simp [intOf]
      · go_wp2_with (at_builtin; refine wpList_app0 rfl _ _ _ rfl 41 (.float .f32 0) 1 4 Try.underlying23 infoF rfl (by decide) _ v _ _ rfl (World.ownsRow.alloc HP.out.row _) ⟨wr.heap.size, 0, none⟩ 1 1 [.float .f32 _] rfl rfl (World.news_of_block (heap_alloc_new wr _)) (by simp [Value.oneCell']) (by decide) (by omega) (by decide) ?_; intro b7 c7 w7 hr7 hb7 hlt7 hg7; have hp7 := HP.out.keep hg7; have d1 := hp7.cell 1; have g1 := hp7.free 1; simp at d1)
        have hST := HP.out.step (j := 1) (by omega) rfl hg7 hr7 (hb7.imp id (fun h => by simpa using h))
        go_roundw
        case rel => exact ⟨3, .slice (some ⟨b7, 0, none⟩) 3 c7, by omega, by go_num, Lib.hid hST⟩
        case measure => simp [intOf]
      · go_wp2_with (at_builtin; refine wpList_app0 rfl _ _ _ rfl 41 (.float .f32 0) 1 4 Try.underlying23 infoF rfl (by decide) _ v _ _ rfl (World.ownsRow.alloc HP.out.row _) ⟨wr.heap.size, 0, none⟩ 1 1 [.float .f32 _] rfl rfl (World.news_of_block (heap_alloc_new wr _)) (by simp [Value.oneCell']) (by decide) (by omega) (by decide) ?_; intro b7 c7 w7 hr7 hb7 hlt7 hg7; have hp7 := HP.out.keep hg7; have d1 := hp7.cell 1; have g1 := hp7.free 1; simp at d1)
        have hST := HP.out.step (j := 1) (by omega) rfl hg7 hr7 (hb7.imp id (fun h => by simpa using h))
        go_roundw
        case rel => exact ⟨4, .slice (some ⟨b7, 0, none⟩) 4 c7, by omega, by go_num, Lib.hid hST⟩
        case measure => simp [intOf]
      · go_wp2_with (at_builtin; refine wpList_app0 rfl _ _ _ rfl 41 (.float .f32 0) 1 4 Try.underlying23 infoF rfl (by decide) _ v _ _ rfl (World.ownsRow.alloc HP.out.row _) ⟨wr.heap.size, 0, none⟩ 1 1 [.float .f32 _] rfl rfl (World.news_of_block (heap_alloc_new wr _)) (by simp [Value.oneCell']) (by decide) (by omega) (by decide) ?_; intro b7 c7 w7 hr7 hb7 hlt7 hg7; have hp7 := HP.out.keep hg7; have d1 := hp7.cell 1; have g1 := hp7.free 1; simp at d1)
        have hST := HP.out.step (j := 1) (by omega) rfl hg7 hr7 (hb7.imp id (fun h => by simpa using h))
        go_roundw
        case rel => exact ⟨5, .slice (some ⟨b7, 0, none⟩) 5 c7, by omega, by go_num, Lib.hid hST⟩
        case measure => simp [intOf]
      · go_wp2_with (at_builtin; refine wpList_app0 rfl _ _ _ rfl 41 (.float .f32 0) 1 4 Try.underlying23 infoF rfl (by decide) _ v _ _ rfl (World.ownsRow.alloc HP.out.row _) ⟨wr.heap.size, 0, none⟩ 1 1 [.float .f32 _] rfl rfl (World.news_of_block (heap_alloc_new wr _)) (by simp [Value.oneCell']) (by decide) (by omega) (by decide) ?_; intro b7 c7 w7 hr7 hb7 hlt7 hg7; have hp7 := HP.out.keep hg7; have d1 := hp7.cell 1; have g1 := hp7.free 1; simp at d1)
        have hST := HP.out.step (j := 1) (by omega) rfl hg7 hr7 (hb7.imp id (fun h => by simpa using h))
        go_roundw
        case rel => exact ⟨6, .slice (some ⟨b7, 0, none⟩) 6 c7, by omega, by go_num, Lib.hid hST⟩
        case measure => simp [intOf]
      · go_wp2_with (at_builtin; refine wpList_app0 rfl _ _ _ rfl 41 (.float .f32 0) 1 4 Try.underlying23 infoF rfl (by decide) _ v _ _ rfl (World.ownsRow.alloc HP.out.row _) ⟨wr.heap.size, 0, none⟩ 1 1 [.float .f32 _] rfl rfl (World.news_of_block (heap_alloc_new wr _)) (by simp [Value.oneCell']) (by decide) (by omega) (by decide) ?_; intro b7 c7 w7 hr7 hb7 hlt7 hg7; have hp7 := HP.out.keep hg7; have d1 := hp7.cell 1; have g1 := hp7.free 1; simp at d1)
        have hST := HP.out.step (j := 1) (by omega) rfl hg7 hr7 (hb7.imp id (fun h => by simpa using h))
        go_roundw
        case rel => exact ⟨7, .slice (some ⟨b7, 0, none⟩) 7 c7, by omega, by go_num, Lib.hid hST⟩
        case measure => simp [intOf]
    · have hkk : k = 7 := by omega
      subst hkk
      have hRb : OwnC wr w.heap.size #[.int .i64 0, .slice none 0 0, .slice none 0 0] 27 := HP.out.ch.own ((HR.out.below HB1.out (by simp)).below HBB.out (by omega)) (by omega)
      obtain ⟨b2, e2, rfl, hr2⟩ := ORow0.form HP.out.row (by decide)
      have hvb := HP.out.vb b2 rfl
      have hcap : 7 ≤ e2 := by
        obtain ⟨_, hr⟩ := hr2
        rcases hr with ⟨hn, _⟩ | ⟨g, c, cur, hv, hb, hg, h1, _⟩
        · cases hn
        · have : e2 = c := (Value.slice.inj hv).2.2
          omega
      have hB : Below w.heap.size w wr := (HB0.out.trans ((HB1.out.mono (by simp)).trans (HBB.out.mono (by omega)))).trans (HP.out.ch.toBelow (by omega) (fun b hb => by omega))
      have zr := HP.out.ch.size
      have hO1 : OwnC1 wr b1 splP := (O1.out.below HBB.out t1).far (lo := b1) (hi := b1 + 1) (fun c h1 h2 => HP.out.ch.block c (by omega) (by omega)) (Nat.le_refl _) (by omega)
      have hO2 : OwnF1 wr b2 knF := OwnF1.row (l := knF) hr2 rfl
      have hl2 := hr2.lt
      have HI := Lib.hid (ifKn b2 e2 b1 cap1 hcap wr hO2 hO1)
      have HO1 := Lib.hid hO1
      have HO2 := Lib.hid hO2
      have HBR := Lib.hid hB
      have HRb := Lib.hid hRb
      clear hRb hr2 HP hB hO1 hO2
      go_wp2_with (go_at_call 31; refine HI.out.mono ?_; rintro e w6 ⟨rfl, hb6⟩; unfold spnV; have hR6 := HRb.out.below hb6 (by omega); have r0 := hR6.cell 0; have r1 := hR6.cell 1; have r2 := hR6.cell 2; have g0 := hR6.free 0; have g1 := hR6.free 1; have g2 := hR6.free 2; simp at r0 r1 r2; have HR6 := Lib.hid hR6; have HB6 := Lib.hid hb6; clear hR6 hb6)
      have v2 := HR6.out.set3 (.int .i64 2) (.slice (some ⟨b2, 0, none⟩) 7 e2) (.slice (some ⟨b1, 0, none⟩) 4 cap1)
      have q0 := v2.cell 0
      have q1 := v2.cell 1
      have q2 := v2.cell 2
      simp at q0 q1 q2
      have z6 := HB6.out.size
      have hF : Far (w.heap.size + 1) w6.heap.size w6 (((w6.setCell ⟨w.heap.size, 0, none⟩ (.int .i64 2)).setCell ⟨w.heap.size, 1, none⟩ (.slice (some ⟨b2, 0, none⟩) 7 e2)).setCell ⟨w.heap.size, 2, none⟩ (.slice (some ⟨b1, 0, none⟩) 4 cap1)) := (((Far.refl _ _ _).set _ _ (.inl (by simp))).set _ _ (.inl (by simp))).set _ _ (.inl (by simp))
      have hB6 : Below w.heap.size w w6 := HBR.out.trans (HB6.out.mono (by omega))
      refine bodyPost_ret (v := .tuple #[.agg #[.int .i64 2, .slice (some ⟨b2, 0, none⟩) 7 e2, .slice (some ⟨b1, 0, none⟩) 4 cap1], .bool true]) (by simp [results, Try.results13, go_sem, q0, q1, q2]) rfl ⟨⟨b2, e2, b1, cap1, _, rfl, by omega, by omega, by omega, by simp; omega, by simp; omega, OwnF1.far (HO2.out.below HB6.out hl2) hF (by omega) (by omega), (HO1.out.below HB6.out (by omega)).far hF (by omega) (by omega)⟩, ((hB6.setCell (Nat.le_refl _) _).setCell (Nat.le_refl _) _).setCell (Nat.le_refl _) _⟩
end Go.Proofs.Ytiinalckidghaaa
