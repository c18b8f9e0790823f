/- The reference's plain curve, even spline and flat sheet. -/
import Derived.Test.YtiinalckidghaaaDR
namespace Go.Fl
open Go.RowKit
theorem SlC.news {w : World} {lo hi b : Nat} {l : List Cx} (h : SlC w lo hi (some ⟨b, 0, none⟩) l) : ∀ j u, (l.map cV)[j]? = some u → w.cell? ((⟨b, 0, none⟩ : Addr).add j) = some u := fun j u hu => by
  have hj : j < l.length := by
    have := (List.getElem?_eq_some_iff.1 hu).1
    simpa using this
  obtain ⟨b', e, _, _, hc⟩ := h (by omega)
  cases e
  have hadd : (⟨b, 0, none⟩ : Addr).add j = ⟨b, j, none⟩ := by unfold Addr.add; split <;> simp_all
  rw [hadd, hc j hj, ← hu]
  simp [cAt, hj]
theorem cV_one {l : List Cx} : ∀ u ∈ l.map cV, u.oneCell' = true := fun u hu => by
  obtain ⟨x, _, rfl⟩ := List.mem_map.1 hu
  rfl
/-- the knots of the even spline of 4 points of degree 2 -/
def knF : List Nat := [0, 0, 0, 1065353216, 1073741824, 1073741824, 1073741824]
/-- the spots of the flat sheet of 2 by 2 spots, 4 wide and 2 long -/
def spF : List Sp := [(0, 0, 0), (1082130432, 0, 0), (0, 1073741824, 0), (1082130432, 1073741824, 0)]
end Go.Fl
namespace Go.Proofs.Ytiinalckidghaaa
open Go.RowKit Go.Fl
theorem infoCx : (Try.prog.info? 38).map (fun i => (i.zero, i.size, i.bytes)) = some (some (.complex .f32 0 0), 1, 8) := by kernel_rfl
theorem infoF : (Try.prog.info? 41).map (fun i => (i.zero, i.size, i.bytes)) = some (some (.float .f32 0), 1, 4) := by kernel_rfl
theorem infoSp : (Try.prog.info? 57).map (fun i => (i.zero, i.size, i.bytes)) = some (some (.agg #[.float .f32 0, .float .f32 0, .float .f32 0]), 3, 12) := by kernel_rfl
/-- the value of a curve, of a spline, of a sheet -/
def curV (b1 c1 n1 b2 c2 n2 : Nat) : Value := .agg #[.slice (some ⟨b1, 0, none⟩) n1 c1, .slice (some ⟨b2, 0, none⟩) n2 c2]
set_option maxHeartbeats 1000000 in
set_option maxRecDepth 100000 in
theorem l02Plain (lo hi b0 c : Nat) (l : List Cx) (h0 : 0 < l.length) (hn : l.length ≤ 64) (w : World) (hs : SlC w lo hi (some ⟨b0, 0, none⟩) l) (hh : hi ≤ w.heap.size) :
    Calls Try.prog 9 #[.slice (some ⟨b0, 0, none⟩) l.length c] w fun e w' => (∃ b1 c1 b2 c2, e = .returned (curV b1 c1 l.length b2 c2 l.length) ∧ w.heap.size ≤ b1 ∧ w.heap.size ≤ b2 ∧ b1 ≠ b2 ∧ b1 < w'.heap.size ∧ b2 < w'.heap.size ∧ OwnC1 w' b1 l ∧ OwnF1 w' b2 (List.replicate l.length one32)) ∧ Below w.heap.size w w' := by
  have hsA : SlC ((w.alloc (.cells #[.slice none 0 0, .slice none 0 0] 25)).alloc (.cells #[] 38)) lo hi (some ⟨b0, 0, none⟩) l := hs.far (((Far.refl _ _ _).alloc _ hh).alloc _ (by simp; omega))
  have HN := Lib.hid hsA.news
  have HH0 := Lib.hid h0
  have HR0 := Lib.hid (show ORow ((w.alloc (.cells #[.slice none 0 0, .slice none 0 0] 25)).alloc (.cells #[] 38)) 38 1 (w.heap.size + 1) 0 0 [] by simpa using ORow.new (w.alloc (.cells #[.slice none 0 0, .slice none 0 0] 25)) 38 1)
  clear hs hsA h0
  go_enter Try.func9, Try.ntmps9
  go_wp2_with (at_builtin; refine wpList_spread rfl _ _ _ rfl 38 (.complex .f32 0 0) 1 8 Try.underlying22 infoCx rfl (by decide) _ (w.heap.size + 1) 0 0 [] rfl HR0.out _ l.length _ (l.map cV) rfl (by simp) HN.out cV_one HH0.out (by omega) (by decide) ?_; intro b1 cap1 w1 hr1 hb1 hl1 hg1)
  have z1 : w.heap.size + 2 ≤ w1.heap.size := by have := hg1.size; simpa using this
  have hb1' : w.heap.size + 1 ≤ b1 ∧ b1 < w1.heap.size := ⟨by (rcases hb1 with h | h) <;> (try simp at h) <;> omega, hl1⟩
  simp only [Nat.zero_add, List.nil_append] at hr1
  have hB1 : Below w.heap.size w w1 := Below.trans (by (repeat (first | exact Below.refl _ _ | assumption | refine below_dr ?_ _ | refine Below.alloc ?_ (by first | omega | (simp; done) | (simp; omega)) _ | refine Below.setCell ?_ (by first | omega | (simp; done) | (simp; omega)) _ | refine Below.trans ?_ (Below.mono (by assumption) (by first | omega | (simp; done) | (simp; omega)))))) (hg1.below (B := w.heap.size) (by omega) (by simp; omega))
  have hR1 : OwnC w1 w.heap.size #[.slice none 0 0, .slice none 0 0] 25 := (hg1.block _ (by simp; omega) (by omega)).trans ((OwnC.new rfl).alloc _)
  have HR1 := Lib.hid hr1
  obtain ⟨wb, hwb⟩ : ∃ x : World, x = (w1.alloc (.cells #[] 41)).alloc (.cells #[.slice (some ⟨b1, 0, none⟩) l.length cap1, .slice (some ⟨w1.heap.size, 0, none⟩) 0 0] 25) := ⟨_, rfl⟩
  have hP0 : PushI (fun c => c = w1.heap.size + 1 ∨ c = w1.heap.size) wb wb (w1.heap.size + 1) 25 #[.slice (some ⟨b1, 0, none⟩) l.length cap1, .slice (some ⟨w1.heap.size, 0, none⟩) 0 0] 41 1 (.slice (some ⟨w1.heap.size, 0, none⟩) 0 0) 0 (List.replicate 0 (.float .f32 one32)) := by
    refine ⟨?_, ?_, fun b e => ?_, Ch.refl _ _⟩
    · rw [hwb]; exact World.ownsRow.alloc (ORow.row0 (ORow.new w1 _ _)) _
    · rw [hwb]; exact OwnC.new (by simp)
    · have : w1.heap.size = b := by simpa [Value.ownBlock] using e
      exact ⟨.inl (.inr this.symm), by omega⟩
  have hBb : Below w1.heap.size w1 wb := by rw [hwb]; exact (Below.alloc (Below.refl _ _) (Nat.le_refl _) _).alloc (by simp) _
  have zb : wb.heap.size = w1.heap.size + 2 := by rw [hwb]; simp
  have HBB := Lib.hid hBb
  have HB1 := Lib.hid hB1
  have HRR := Lib.hid hR1
  rw [← hwb]
  have HP0 := Lib.hid hP0
  clear hwb hP0 hBb hB1 hR1 hr1 hb1 hl1 hg1 HN HR0
  go_loopw [4] (fun i wr => ∃ (k : Nat) (v : Value), k ≤ l.length ∧ i = .int .i64 k ∧ Hid (PushI (fun c => c = w1.heap.size + 1 ∨ c = w1.heap.size) wb wr (w1.heap.size + 1) 25 #[.slice (some ⟨b1, 0, none⟩) l.length cap1, v] 41 1 v k (List.replicate k (.float .f32 one32)))) (fun i _ => l.length - (intOf i).toNat)
  case atStart => exact ⟨0, _, by omega, rfl, HP0⟩
  case round =>
    obtain ⟨k, v, hk, rfl, HP⟩ := hrel
    have c0 := HP.out.own.cell 0
    have c1 := HP.out.own.cell 1
    have f1 := HP.out.own.free 1
    simp at c0 c1
    by_cases hlt : k < l.length
    · have k0 : (0 : Int) ≤ (k : Int) := by omega
      have k1 : (k : Int) < (l.length : Int) := by omega
      have HRV := Lib.hid (World.ownsRow.alloc HP.out.row (.cells #[.float .f32 1065353216] 41))
      go_wp2_with (at_builtin; refine wpList_app0 rfl _ _ _ rfl 41 (.float .f32 0) 1 4 Try.underlying23 infoF rfl (by decide) _ v k _ rfl HRV.out ⟨wr.heap.size, 0, none⟩ 1 1 [.float .f32 one32] rfl rfl (World.news_of_block (heap_alloc_new wr _)) (by simp [Value.oneCell']) (by decide) (by omega) (by decide) ?_; intro b7 c7 w7 hr7 hb7 hlt7 hg7; have hp7 := HP.out.keep hg7; have d1 := hp7.cell 1; have g1 := hp7.free 1; simp at d1)
      have hST := HP.out.step (j := 1) (by omega) (.inl rfl) hg7 hr7 (hb7.imp id (fun h => by simpa using h))
      go_roundw
      case rel =>
        refine ⟨k + 1, .slice (some ⟨b7, 0, none⟩) (k + 1) c7, by omega, by go_num, Lib.hid ?_⟩
        have e : (List.replicate k (Value.float .f32 one32)) ++ [Value.float .f32 one32] = List.replicate (k + 1) (.float .f32 one32) := by rw [List.replicate_succ']
        rw [e] at hST
        simpa using hST
      case measure => simp [intOf]; omega
    · have hkk : k = l.length := by omega
      subst hkk
      have hRb : OwnC wr w.heap.size #[.slice none 0 0, .slice none 0 0] 25 := HP.out.ch.own (HRR.out.below HBB.out (by omega)) (by omega)
      have r0 := hRb.cell 0
      have r1 := hRb.cell 1
      have g0 := hRb.free 0
      have g1 := hRb.free 1
      simp at r0 r1
      have HRb := Lib.hid hRb
      obtain ⟨b2, c2, rfl, hr2⟩ := ORow0.form HP.out.row HH0.out
      have hvb := HP.out.vb b2 rfl
      have HR2 := Lib.hid hr2
      have HCH := Lib.hid HP.out.ch
      have hB : Below w.heap.size w wr := (HB1.out.trans (HBB.out.mono (by omega))).trans (HP.out.ch.toBelow (by omega) (fun b hb => by omega))
      have zr := HP.out.ch.size
      have HBR := Lib.hid hB
      have hO1 : OwnC1 wr b1 l := OwnC1.row (((HR1.out.below HBB.out hb1'.2).far (lo := b1) (hi := b1 + 1) (fun c h1 h2 => HP.out.ch.block c (by omega) (by omega)) (Nat.le_refl _) (by omega))) rfl
      have HO1 := Lib.hid hO1
      clear hRb hr2 HP hB hO1
      go_wp2_with fail
      have v2 := HRb.out.set2 (.slice (some ⟨b1, 0, none⟩) l.length cap1) (.slice (some ⟨b2, 0, none⟩) l.length c2)
      have q0 := v2.cell 0
      have q1 := v2.cell 1
      simp at q0 q1
      have hF : Far (w.heap.size + 1) wr.heap.size wr ((wr.setCell ⟨w.heap.size, 0, none⟩ (.slice (some ⟨b1, 0, none⟩) l.length cap1)).setCell ⟨w.heap.size, 1, none⟩ (.slice (some ⟨b2, 0, none⟩) l.length c2)) := ((Far.refl _ _ _).set _ _ (.inl (by simp))).set _ _ (.inl (by simp))
      refine bodyPost_ret (v := curV b1 cap1 l.length b2 c2 l.length) (by simp [results, Try.results9, go_sem, q0, q1, curV]) rfl ⟨⟨b1, cap1, b2, c2, rfl, by omega, by omega, by omega, by simp; omega, by simp; have := HR2.out.lt; omega, HO1.out.far hF (by omega) (by omega), OwnF1.far (OwnF1.row (by simpa using HR2.out) (by simp)) hF (by omega) (by have := HR2.out.lt; omega)⟩, (HBR.out.setCell (Nat.le_refl _) _).setCell (Nat.le_refl _) _⟩
def spnV (d : Int) (b1 c1 n1 b2 c2 n2 : Nat) : Value := .agg #[.int .i64 d, .slice (some ⟨b1, 0, none⟩) n1 c1, .slice (some ⟨b2, 0, none⟩) n2 c2]
theorem near0 : FloatKind.f32.nearest 0 = 0 := by decide +kernel
theorem near1 : FloatKind.f32.nearest 1 = 1065353216 := by decide +kernel
theorem near2 : FloatKind.f32.nearest 2 = 1073741824 := by decide +kernel
set_option maxHeartbeats 1000000 in
set_option maxRecDepth 100000 in
theorem l02Even (lo hi b0 c : Nat) (l : List Cx) (hl : l.length = 4) (w : World) (hs : SlC w lo hi (some ⟨b0, 0, none⟩) l) (hh : hi ≤ w.heap.size) :
    Calls Try.prog 10 #[.slice (some ⟨b0, 0, none⟩) 4 c, .int .i64 2] w fun e w' => (∃ b1 c1 b2 c2, e = .returned (spnV 2 b1 c1 7 b2 c2 4) ∧ w.heap.size ≤ b1 ∧ w.heap.size ≤ b2 ∧ b1 ≠ b2 ∧ b1 < w'.heap.size ∧ b2 < w'.heap.size ∧ OwnF1 w' b1 knF ∧ OwnC1 w' b2 l) ∧ Below w.heap.size w w' := by
  have hsA : SlC ((w.alloc (.cells #[.int .i64 0, .slice none 0 0, .slice none 0 0] 27)).alloc (.cells #[] 38)) lo hi (some ⟨b0, 0, none⟩) l := hs.far (((Far.refl _ _ _).alloc _ hh).alloc _ (by simp; omega))
  have HN := Lib.hid hsA.news
  have HL := Lib.hid hl
  have HR0 := Lib.hid (show ORow ((w.alloc (.cells #[.int .i64 0, .slice none 0 0, .slice none 0 0] 27)).alloc (.cells #[] 38)) 38 1 (w.heap.size + 1) 0 0 [] by simpa using ORow.new (w.alloc (.cells #[.int .i64 0, .slice none 0 0, .slice none 0 0] 27)) 38 1)
  obtain ⟨F, hF⟩ : ∃ F : Nat, F = 4 := ⟨_, rfl⟩
  have F0 : 0 < F := by omega
  have HFF := Lib.hid hF
  have hFI : (F : Int) = 4 := by omega
  rw [← hF]
  clear hs hsA hl hF
  go_enter Try.func10, Try.ntmps10
  go_wp2_with (at_builtin; refine wpList_spread rfl _ _ _ rfl 38 (.complex .f32 0 0) 1 8 Try.underlying22 infoCx rfl (by decide) _ (w.heap.size + 1) 0 0 [] rfl HR0.out _ F _ (l.map cV) rfl (by simp [HL.out, HFF.out]) HN.out cV_one F0 (by omega) (by decide) ?_; intro b1 cap1 w1 hr1 hb1 hl1 hg1)
  have z1 : w.heap.size + 2 ≤ w1.heap.size := by have := hg1.size; simpa using this
  have hb1' : w.heap.size + 1 ≤ b1 ∧ b1 < w1.heap.size := ⟨by (rcases hb1 with h | h) <;> (try simp at h) <;> omega, hl1⟩
  simp only [Nat.zero_add, List.nil_append] at hr1
  have hB1 : Below w.heap.size w w1 := Below.trans (by (repeat (first | exact Below.refl _ _ | assumption | refine below_dr ?_ _ | refine Below.alloc ?_ (by first | omega | (simp; done) | (simp; omega)) _ | refine Below.setCell ?_ (by first | omega | (simp; done) | (simp; omega)) _ | refine Below.trans ?_ (Below.mono (by assumption) (by first | omega | (simp; done) | (simp; omega)))))) (hg1.below (B := w.heap.size) (by omega) (by simp; omega))
  have hR1 : OwnC w1 w.heap.size #[.int .i64 0, .slice none 0 0, .slice none 0 0] 27 := (hg1.block _ (by simp; omega) (by omega)).trans ((OwnC.new rfl).alloc _)
  have HR1 := Lib.hid hr1
  obtain ⟨wb, hwb⟩ : ∃ x : World, x = w1.alloc (.cells #[.int .i64 2, .slice none 0 0, .slice (some ⟨b1, 0, none⟩) F cap1] 27) := ⟨_, rfl⟩
  have hP0 : PushI (fun c => c = w1.heap.size) wb wb w1.heap.size 27 #[.int .i64 2, .slice none 0 0, .slice (some ⟨b1, 0, none⟩) F cap1] 41 1 (.slice none 0 0) 0 ((knF.take 0).map (Value.float .f32)) := by
    refine ⟨World.ownsRow_nil _ _ _ _, ?_, fun b e => ?_, Ch.refl _ _⟩
    · rw [hwb]; exact OwnC.new rfl
    · simp [Value.ownBlock] at e
  have hBb : Below w1.heap.size w1 wb := by rw [hwb]; exact Below.alloc (Below.refl _ _) (Nat.le_refl _) _
  have zb : wb.heap.size = w1.heap.size + 1 := by rw [hwb]; simp
  have HBB := Lib.hid hBb
  have HB1 := Lib.hid hB1
  have HRR := Lib.hid hR1
  rw [← hwb]
  have HP0 := Lib.hid hP0
  clear hwb hP0 hBb hB1 hR1 hr1 hb1 hl1 hg1 HN HR0
  go_loopw [7] (fun i wr => ∃ (k : Nat) (v : Value), k ≤ 7 ∧ i = .int .i64 k ∧ Hid (PushI (fun c => c = w1.heap.size) wb wr w1.heap.size 27 #[.int .i64 2, v, .slice (some ⟨b1, 0, none⟩) F cap1] 41 1 v k ((knF.take k).map (Value.float .f32)))) (fun i _ => 7 - (intOf i).toNat)
  case atStart => exact ⟨0, _, by omega, rfl, HP0⟩
  case round =>
    obtain ⟨k, v, hk, rfl, HP⟩ := hrel
    have c0 := HP.out.own.cell 0
    have c1 := HP.out.own.cell 1
    have c2 := HP.out.own.cell 2
    have f1 := HP.out.own.free 1
    simp at c0 c1 c2
    by_cases hlt : k < 7
    · have hcase : k = 0 ∨ k = 1 ∨ k = 2 ∨ k = 3 ∨ k = 4 ∨ k = 5 ∨ k = 6 := by omega
      rcases hcase with rfl | rfl | rfl | rfl | rfl | rfl | rfl
      · go_wp2_with (at_builtin; refine wpList_app0 rfl _ _ _ rfl 41 (.float .f32 0) 1 4 Try.underlying23 infoF rfl (by decide) _ v _ _ rfl (World.ownsRow.alloc HP.out.row _) ⟨wr.heap.size, 0, none⟩ 1 1 [.float .f32 _] rfl rfl (World.news_of_block (heap_alloc_new wr _)) (by simp [Value.oneCell']) (by decide) (by omega) (by decide) ?_; intro b7 c7 w7 hr7 hb7 hlt7 hg7; have hp7 := HP.out.keep hg7; have d1 := hp7.cell 1; have g1 := hp7.free 1; simp at d1)
        have hST := HP.out.step (j := 1) (by omega) rfl hg7 hr7 (hb7.imp id (fun h => by simpa using h))
        go_roundw
        case rel =>
          refine ⟨1, .slice (some ⟨b7, 0, none⟩) 1 c7, by omega, by go_num, Lib.hid ?_⟩
          exact hST
        case measure => simp [intOf]
      · go_wp2_with (at_builtin; refine wpList_app0 rfl _ _ _ rfl 41 (.float .f32 0) 1 4 Try.underlying23 infoF rfl (by decide) _ v _ _ rfl (World.ownsRow.alloc HP.out.row _) ⟨wr.heap.size, 0, none⟩ 1 1 [.float .f32 _] rfl rfl (World.news_of_block (heap_alloc_new wr _)) (by simp [Value.oneCell']) (by decide) (by omega) (by decide) ?_; intro b7 c7 w7 hr7 hb7 hlt7 hg7; have hp7 := HP.out.keep hg7; have d1 := hp7.cell 1; have g1 := hp7.free 1; simp at d1)
        have hST := HP.out.step (j := 1) (by omega) rfl hg7 hr7 (hb7.imp id (fun h => by simpa using h))
        go_roundw
        case rel =>
          refine ⟨2, .slice (some ⟨b7, 0, none⟩) 2 c7, by omega, by go_num, Lib.hid ?_⟩
          exact hST
        case measure => simp [intOf]
      · go_wp2_with (at_builtin; refine wpList_app0 rfl _ _ _ rfl 41 (.float .f32 0) 1 4 Try.underlying23 infoF rfl (by decide) _ v _ _ rfl (World.ownsRow.alloc HP.out.row _) ⟨wr.heap.size, 0, none⟩ 1 1 [.float .f32 _] rfl rfl (World.news_of_block (heap_alloc_new wr _)) (by simp [Value.oneCell']) (by decide) (by omega) (by decide) ?_; intro b7 c7 w7 hr7 hb7 hlt7 hg7; have hp7 := HP.out.keep hg7; have d1 := hp7.cell 1; have g1 := hp7.free 1; simp at d1)
        have hST := HP.out.step (j := 1) (by omega) rfl hg7 hr7 (hb7.imp id (fun h => by simpa using h))
        go_roundw
        case rel =>
          refine ⟨3, .slice (some ⟨b7, 0, none⟩) 3 c7, by omega, by go_num, Lib.hid ?_⟩
          exact hST
        case measure => simp [intOf]
      · go_wp2_with (at_builtin; refine wpList_app0 rfl _ _ _ rfl 41 (.float .f32 0) 1 4 Try.underlying23 infoF rfl (by decide) _ v _ _ rfl (World.ownsRow.alloc HP.out.row _) ⟨wr.heap.size, 0, none⟩ 1 1 [.float .f32 _] rfl rfl (World.news_of_block (heap_alloc_new wr _)) (by simp [Value.oneCell']) (by decide) (by omega) (by decide) ?_; intro b7 c7 w7 hr7 hb7 hlt7 hg7; have hp7 := HP.out.keep hg7; have d1 := hp7.cell 1; have g1 := hp7.free 1; simp at d1)
        have hST := HP.out.step (j := 1) (by omega) rfl hg7 hr7 (hb7.imp id (fun h => by simpa using h))
        go_roundw
        case rel =>
          refine ⟨4, .slice (some ⟨b7, 0, none⟩) 4 c7, by omega, by go_num, Lib.hid ?_⟩
          exact hST
        case measure => simp [intOf]
      · go_wp2_with (at_builtin; refine wpList_app0 rfl _ _ _ rfl 41 (.float .f32 0) 1 4 Try.underlying23 infoF rfl (by decide) _ v _ _ rfl (World.ownsRow.alloc HP.out.row _) ⟨wr.heap.size, 0, none⟩ 1 1 [.float .f32 _] rfl rfl (World.news_of_block (heap_alloc_new wr _)) (by simp [Value.oneCell']) (by decide) (by omega) (by decide) ?_; intro b7 c7 w7 hr7 hb7 hlt7 hg7; have hp7 := HP.out.keep hg7; have d1 := hp7.cell 1; have g1 := hp7.free 1; simp at d1)
        have hST := HP.out.step (j := 1) (by omega) rfl hg7 hr7 (hb7.imp id (fun h => by simpa using h))
        go_roundw
        case rel =>
          refine ⟨5, .slice (some ⟨b7, 0, none⟩) 5 c7, by omega, by go_num, Lib.hid ?_⟩
          exact hST
        case measure => simp [intOf]
      · go_wp2_with (at_builtin; refine wpList_app0 rfl _ _ _ rfl 41 (.float .f32 0) 1 4 Try.underlying23 infoF rfl (by decide) _ v _ _ rfl (World.ownsRow.alloc HP.out.row _) ⟨wr.heap.size, 0, none⟩ 1 1 [.float .f32 _] rfl rfl (World.news_of_block (heap_alloc_new wr _)) (by simp [Value.oneCell']) (by decide) (by omega) (by decide) ?_; intro b7 c7 w7 hr7 hb7 hlt7 hg7; have hp7 := HP.out.keep hg7; have d1 := hp7.cell 1; have g1 := hp7.free 1; simp at d1)
        have hST := HP.out.step (j := 1) (by omega) rfl hg7 hr7 (hb7.imp id (fun h => by simpa using h))
        go_roundw
        case rel =>
          refine ⟨6, .slice (some ⟨b7, 0, none⟩) 6 c7, by omega, by go_num, Lib.hid ?_⟩
          exact hST
        case measure => simp [intOf]
      · go_wp2_with (at_builtin; refine wpList_app0 rfl _ _ _ rfl 41 (.float .f32 0) 1 4 Try.underlying23 infoF rfl (by decide) _ v _ _ rfl (World.ownsRow.alloc HP.out.row _) ⟨wr.heap.size, 0, none⟩ 1 1 [.float .f32 _] rfl rfl (World.news_of_block (heap_alloc_new wr _)) (by simp [Value.oneCell']) (by decide) (by omega) (by decide) ?_; intro b7 c7 w7 hr7 hb7 hlt7 hg7; have hp7 := HP.out.keep hg7; have d1 := hp7.cell 1; have g1 := hp7.free 1; simp at d1)
        have hST := HP.out.step (j := 1) (by omega) rfl hg7 hr7 (hb7.imp id (fun h => by simpa using h))
        go_roundw
        case rel =>
          refine ⟨7, .slice (some ⟨b7, 0, none⟩) 7 c7, by omega, by go_num, Lib.hid ?_⟩
          exact hST
        case measure => simp [intOf]
    · have hkk : k = 7 := by omega
      subst hkk
      have hRb : OwnC wr w.heap.size #[.int .i64 0, .slice none 0 0, .slice none 0 0] 27 := HP.out.ch.own (HRR.out.below HBB.out (by omega)) (by omega)
      have r0 := hRb.cell 0
      have r1 := hRb.cell 1
      have r2 := hRb.cell 2
      have g0 := hRb.free 0
      have g1 := hRb.free 1
      have g2 := hRb.free 2
      simp at r0 r1 r2
      have HRb := Lib.hid hRb
      obtain ⟨b2, e2, rfl, hr2⟩ := ORow0.form HP.out.row (by decide)
      have hvb := HP.out.vb b2 rfl
      have HR2 := Lib.hid hr2
      have hB : Below w.heap.size w wr := (HB1.out.trans (HBB.out.mono (by omega))).trans (HP.out.ch.toBelow (by omega) (fun b hb => by omega))
      have zr := HP.out.ch.size
      have HBR := Lib.hid hB
      have hO1 : OwnC1 wr b1 l := OwnC1.row (((HR1.out.below HBB.out hb1'.2).far (lo := b1) (hi := b1 + 1) (fun c h1 h2 => HP.out.ch.block c (by omega) (by omega)) (Nat.le_refl _) (by omega))) (by rw [HFF.out, HL.out])
      have HO1 := Lib.hid hO1
      clear hRb hr2 HP hB hO1
      go_wp2_with fail
      have v2 := HRb.out.set3 (.int .i64 2) (.slice (some ⟨b2, 0, none⟩) 7 e2) (.slice (some ⟨b1, 0, none⟩) F cap1)
      have q0 := v2.cell 0
      have q1 := v2.cell 1
      have q2 := v2.cell 2
      simp at q0 q1 q2
      have hF : Far (w.heap.size + 1) wr.heap.size wr (((wr.setCell ⟨w.heap.size, 0, none⟩ (.int .i64 2)).setCell ⟨w.heap.size, 1, none⟩ (.slice (some ⟨b2, 0, none⟩) 7 e2)).setCell ⟨w.heap.size, 2, none⟩ (.slice (some ⟨b1, 0, none⟩) F cap1)) := (((Far.refl _ _ _).set _ _ (.inl (by simp))).set _ _ (.inl (by simp))).set _ _ (.inl (by simp))
      have hl2 := HR2.out.lt
      refine bodyPost_ret (v := spnV 2 b2 e2 7 b1 cap1 F) (by simp [results, Try.results10, go_sem, q0, q1, q2, spnV]) rfl ⟨⟨b2, e2, b1, cap1, by rw [HFF.out], by omega, by omega, by omega, by simp; omega, by simp; omega, OwnF1.far (OwnF1.row (l := knF) HR2.out rfl) hF (by omega) (by omega), HO1.out.far hF (by omega) (by omega)⟩, ((HBR.out.setCell (Nat.le_refl _) _).setCell (Nat.le_refl _) _).setCell (Nat.le_refl _) _⟩
theorem fi0 : floatOfInt .f32 0 = 0 := by decide +kernel
theorem fi1 : floatOfInt .f32 1 = 1065353216 := by decide +kernel
theorem mop_of {op : BinOp} {x y r : Nat} (h : floatBits op .f32 x y = some r) : (∀ w, mop op .f32 x y w = r) ∧ mdr op .f32 x y = 0 := ⟨fun w => by simp [mop, h], by simp [mdr, h]⟩
theorem fl1 : floatBits .quo .f32 0 1065353216 = some 0 := by decide +kernel
theorem fl2 : floatBits .quo .f32 1065353216 1065353216 = some 1065353216 := by decide +kernel
theorem fl3 : floatBits .mul .f32 1082130432 0 = some 0 := by decide +kernel
theorem fl4 : floatBits .mul .f32 1082130432 1065353216 = some 1082130432 := by decide +kernel
theorem fl5 : floatBits .mul .f32 1073741824 0 = some 0 := by decide +kernel
theorem fl6 : floatBits .mul .f32 1073741824 1065353216 = some 1073741824 := by decide +kernel
def shtV (a b : Int) (b1 c1 n1 : Nat) : Value := .agg #[.int .i64 a, .int .i64 b, .slice (some ⟨b1, 0, none⟩) n1 c1]
set_option maxHeartbeats 1000000 in
set_option maxRecDepth 100000 in
theorem l04Flat (w : World) :
    Calls Try.prog 11 #[.int .i64 2, .int .i64 2, .float .f32 1082130432, .float .f32 1073741824] w fun e w' => (∃ b1 c1, e = .returned (shtV 2 2 b1 c1 4) ∧ w.heap.size ≤ b1 ∧ b1 < w'.heap.size ∧ OwnP1 w' b1 spF) ∧ Below w.heap.size w w' := by
  obtain ⟨m1, d1⟩ := mop_of fl1
  obtain ⟨m2, d2⟩ := mop_of fl2
  obtain ⟨m3, d3⟩ := mop_of fl3
  obtain ⟨m4, d4⟩ := mop_of fl4
  obtain ⟨m5, d5⟩ := mop_of fl5
  obtain ⟨m6, d6⟩ := mop_of fl6
  have i0 := fi0
  have i1 := fi1
  have dz : ∀ w : World, w.drewN 0 = w := World.drewN_zero
  go_enter Try.func11, Try.ntmps11
  go_wp2_with fail
  obtain ⟨wb, hwb⟩ : ∃ x : World, x = (w.alloc (.cells #[.int .i64 0, .int .i64 0, .slice none 0 0] 30)).alloc (.cells #[.int .i64 2, .int .i64 2, .slice none 0 0] 30) := ⟨_, rfl⟩
  have hP0 : PushI (fun c => c = w.heap.size + 1) wb wb (w.heap.size + 1) 30 #[.int .i64 2, .int .i64 2, .slice none 0 0] 57 3 (.slice none 0 0) 0 (spCs (spF.take 0)) := by
    refine ⟨World.ownsRow_nil _ _ _ _, ?_, fun b e => ?_, Ch.refl _ _⟩
    · rw [hwb]; exact OwnC.new (by simp)
    · simp [Value.ownBlock] at e
  have hBb : Below w.heap.size w wb := by rw [hwb]; exact (Below.alloc (Below.refl _ _) (Nat.le_refl _) _).alloc (by simp) _
  have hRb : OwnC wb w.heap.size #[.int .i64 0, .int .i64 0, .slice none 0 0] 30 := by rw [hwb]; exact (OwnC.new rfl).alloc _
  have zb : wb.heap.size = w.heap.size + 2 := by rw [hwb]; simp
  have HBB := Lib.hid hBb
  have HRR := Lib.hid hRb
  rw [← hwb]
  have HP0 := Lib.hid hP0
  clear hwb hP0 hBb hRb
  go_loopw [10, 11, 12] (fun i _ _ wr => ∃ (k : Nat) (v : Value), k ≤ 4 ∧ i = .int .i64 k ∧ Hid (PushI (fun c => c = w.heap.size + 1) wb wr (w.heap.size + 1) 30 #[.int .i64 2, .int .i64 2, v] 57 3 v k (spCs (spF.take k)))) (fun i _ _ _ => 4 - (intOf i).toNat)
  case atStart => exact ⟨0, _, by omega, rfl, HP0⟩
  case round =>
    obtain ⟨k, v, hk, rfl, HP⟩ := hrel
    have c0 := HP.out.own.cell 0
    have c1 := HP.out.own.cell 1
    have c2 := HP.out.own.cell 2
    have f2 := HP.out.own.free 2
    simp at c0 c1 c2
    by_cases hlt : k < 4
    · have hcase : k = 0 ∨ k = 1 ∨ k = 2 ∨ k = 3 := by omega
      rcases hcase with rfl | rfl | rfl | rfl
      · go_wp2_with (at_builtin; refine wpList_app0 rfl _ _ _ rfl 57 (.agg #[.float .f32 0, .float .f32 0, .float .f32 0]) 3 12 Try.underlying28 infoSp rfl (by decide) _ v _ _ rfl (World.ownsRow.alloc HP.out.row _) ⟨wr.heap.size, 0, none⟩ 1 1 [.float .f32 0, .float .f32 0, .float .f32 0] rfl rfl (World.news_of_block (heap_alloc_new wr _)) (by simp [Value.oneCell']) (by decide) (by omega) (by decide) ?_; intro b7 c7 w7 hr7 hb7 hlt7 hg7; have hp7 := HP.out.keep hg7; have e2 := hp7.cell 2; have g2 := hp7.free 2; simp at e2)
        have hST := HP.out.step (j := 2) (by omega) rfl hg7 hr7 (hb7.imp id (fun h => by simpa using h))
        go_roundw
        case rel => exact ⟨1, .slice (some ⟨b7, 0, none⟩) 1 c7, by omega, by go_num, Lib.hid hST⟩
        case measure => simp [intOf]
      · go_wp2_with (at_builtin; refine wpList_app0 rfl _ _ _ rfl 57 (.agg #[.float .f32 0, .float .f32 0, .float .f32 0]) 3 12 Try.underlying28 infoSp rfl (by decide) _ v _ _ rfl (World.ownsRow.alloc HP.out.row _) ⟨wr.heap.size, 0, none⟩ 1 1 [.float .f32 1082130432, .float .f32 0, .float .f32 0] rfl rfl (World.news_of_block (heap_alloc_new wr _)) (by simp [Value.oneCell']) (by decide) (by omega) (by decide) ?_; intro b7 c7 w7 hr7 hb7 hlt7 hg7; have hp7 := HP.out.keep hg7; have e2 := hp7.cell 2; have g2 := hp7.free 2; simp at e2)
        have hST := HP.out.step (j := 2) (by omega) rfl hg7 hr7 (hb7.imp id (fun h => by simpa using h))
        go_roundw
        case rel => exact ⟨2, .slice (some ⟨b7, 0, none⟩) 2 c7, by omega, by go_num, Lib.hid hST⟩
        case measure => simp [intOf]
      · go_wp2_with (at_builtin; refine wpList_app0 rfl _ _ _ rfl 57 (.agg #[.float .f32 0, .float .f32 0, .float .f32 0]) 3 12 Try.underlying28 infoSp rfl (by decide) _ v _ _ rfl (World.ownsRow.alloc HP.out.row _) ⟨wr.heap.size, 0, none⟩ 1 1 [.float .f32 0, .float .f32 1073741824, .float .f32 0] rfl rfl (World.news_of_block (heap_alloc_new wr _)) (by simp [Value.oneCell']) (by decide) (by omega) (by decide) ?_; intro b7 c7 w7 hr7 hb7 hlt7 hg7; have hp7 := HP.out.keep hg7; have e2 := hp7.cell 2; have g2 := hp7.free 2; simp at e2)
        have hST := HP.out.step (j := 2) (by omega) rfl hg7 hr7 (hb7.imp id (fun h => by simpa using h))
        go_roundw
        case rel => exact ⟨3, .slice (some ⟨b7, 0, none⟩) 3 c7, by omega, by go_num, Lib.hid hST⟩
        case measure => simp [intOf]
      · go_wp2_with (at_builtin; refine wpList_app0 rfl _ _ _ rfl 57 (.agg #[.float .f32 0, .float .f32 0, .float .f32 0]) 3 12 Try.underlying28 infoSp rfl (by decide) _ v _ _ rfl (World.ownsRow.alloc HP.out.row _) ⟨wr.heap.size, 0, none⟩ 1 1 [.float .f32 1082130432, .float .f32 1073741824, .float .f32 0] rfl rfl (World.news_of_block (heap_alloc_new wr _)) (by simp [Value.oneCell']) (by decide) (by omega) (by decide) ?_; intro b7 c7 w7 hr7 hb7 hlt7 hg7; have hp7 := HP.out.keep hg7; have e2 := hp7.cell 2; have g2 := hp7.free 2; simp at e2)
        have hST := HP.out.step (j := 2) (by omega) rfl hg7 hr7 (hb7.imp id (fun h => by simpa using h))
        go_roundw
        case rel => exact ⟨4, .slice (some ⟨b7, 0, none⟩) 4 c7, by omega, by go_num, Lib.hid hST⟩
        case measure => simp [intOf]
    · have hkk : k = 4 := by omega
      subst hkk
      have hRb : OwnC wr w.heap.size #[.int .i64 0, .int .i64 0, .slice none 0 0] 30 := HP.out.ch.own HRR.out (by omega)
      have r0 := hRb.cell 0
      have r1 := hRb.cell 1
      have r2 := hRb.cell 2
      have g0 := hRb.free 0
      have g1 := hRb.free 1
      have g2 := hRb.free 2
      simp at r0 r1 r2
      have HRb := Lib.hid hRb
      obtain ⟨b2, e2, rfl, hr2⟩ := ORow0.form HP.out.row (by decide)
      have hvb := HP.out.vb b2 rfl
      have HR2 := Lib.hid hr2
      have hB : Below w.heap.size w wr := HBB.out.trans (HP.out.ch.toBelow (by omega) (fun b hb => by omega))
      have zr := HP.out.ch.size
      have HBR := Lib.hid hB
      clear hRb hr2 HP hB
      go_wp2_with fail
      have v2 := HRb.out.set3 (.int .i64 2) (.int .i64 2) (.slice (some ⟨b2, 0, none⟩) 4 e2)
      have q0 := v2.cell 0
      have q1 := v2.cell 1
      have q2 := v2.cell 2
      simp at q0 q1 q2
      have hF : Far (w.heap.size + 1) wr.heap.size wr (((wr.setCell ⟨w.heap.size, 0, none⟩ (.int .i64 2)).setCell ⟨w.heap.size, 1, none⟩ (.int .i64 2)).setCell ⟨w.heap.size, 2, none⟩ (.slice (some ⟨b2, 0, none⟩) 4 e2)) := (((Far.refl _ _ _).set _ _ (.inl (by simp))).set _ _ (.inl (by simp))).set _ _ (.inl (by simp))
      have hl2 := HR2.out.lt
      refine bodyPost_ret (v := shtV 2 2 b2 e2 4) (by simp [results, Try.results11, go_sem, q0, q1, q2, shtV]) rfl ⟨⟨b2, e2, rfl, by omega, by simp; omega, OwnP1.far (OwnP1.row (l := spF) HR2.out rfl) hF (by omega) (by omega)⟩, ((HBR.out.setCell (Nat.le_refl _) _).setCell (Nat.le_refl _) _).setCell (Nat.le_refl _) _⟩
end Go.Proofs.Ytiinalckidghaaa
