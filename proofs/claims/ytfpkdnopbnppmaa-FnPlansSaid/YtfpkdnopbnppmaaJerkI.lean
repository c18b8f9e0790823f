/- Contracts of JerkPlan: the program's. -/
import Derived.Test.YtfpkdnopbnppmaaJerk
import Derived.Test.YtfpkdnopbnppmaaHalf
import Derived.Test.YtfpkdnopbnppmaaPlanWayI
namespace Go.Proofs.Ytfpkdnopbnppmaa
open Go.RowKit Go.Fl

theorem prod3 (a b c : Nat) : prodTo [a, b, c] 2 = fmul (fmul (can .f32 a) (can .f32 b)) (can .f32 c) := by simp [prodTo]
theorem cells3 (w : World) (nb q : Nat) (T : TypeId) (hb : nb = w.heap.size) (a b c : Nat) : ∀ i, i < [a, b, c].length → ((w.alloc (.cells #[.float .f32 a, .float .f32 b, .float .f32 c] T)).drewN q).cell? ⟨nb, i, none⟩ = some (.float .f32 ([a, b, c].getD i 0)) := by
  intro i hi
  rw [World.cell?_drewN, World.cell?_alloc_at _ _ _ _ hb]
  simp only [List.length_cons, List.length_nil] at hi
  have : i = 0 ∨ i = 1 ∨ i = 2 := by omega
  rcases this with rfl | rfl | rfl <;> rfl

/-- the closure that tells a way -/
theorem way1 (r h b j : Nat) (w : World) (hc : w.cell? ⟨b, 0, none⟩ = some (.float .f32 j)) :
    Calls Try.prog 18 #[.float .f32 r, .float .f32 h, .pointer (some ⟨b, 0, none⟩)] w fun e w' => (∃ x, e = .returned (.float .f32 x) ∧ F32 x (jkWay (can .f32 j) (can .f32 r) (can .f32 h))) ∧ Below w.heap.size w w' := by
  go_enter Try.func18, Try.ntmps18
  go_wp2_with (refine wpList_f rfl rfl rfl rfl (by decide) ?_; intro _ _ _; simp only [Act.put, List.setIfInBounds_toArray, List.set_cons_succ, List.set_cons_zero])
  have f1 := ‹F32 _ (fop .add .f32 (can .f32 r) (can .f32 h))›
  have f2 := ‹F32 _ (fop .mul .f32 (can .f32 1073741824) (can .f32 r))›
  have f3 := ‹F32 _ (fop .add .f32 (can .f32 _) (can .f32 h))›
  refine (productOf [_, _, _, _] _ _ ?_ ?_ (cells4 _ _ _ _ (by simp) _ _ _ _)).mono ?_
  · simp
  · simp
  rintro e w' ⟨⟨y, rfl, hy⟩, n, rfl⟩
  simp only [List.length_cons, List.length_nil, Nat.reduceAdd, Nat.reduceSub, prod4] at hy
  go_wp2_with fail
  go_ret
  refine ⟨⟨_, rfl, hy.trans ?_⟩, by (repeat (first | exact Below.refl _ _ | assumption | refine below_dr ?_ _ | refine Below.alloc ?_ (by first | omega | (simp; done) | (simp; omega)) _ | refine Below.setCell ?_ (by first | omega | (simp; done) | (simp; omega)) _ | refine Below.trans ?_ (Below.mono (by assumption) (by first | omega | (simp; done) | (simp; omega)))))⟩
  simp only [F32] at *
  simp only [*, can_l2]
  rfl

set_option maxHeartbeats 1000000 in
theorem jerkI_no (long m r j : Nat) (w : World) (h : jkArgs (can .f32 long) (can .f32 m) (can .f32 r) (can .f32 j) = false) :
    Calls Try.prog 8 #[.float .f32 long, .float .f32 m, .float .f32 r, .float .f32 j] w fun e w' => JkRet (can .f32 long) (can .f32 m) (can .f32 r) (can .f32 j) e ∧ Below w.heap.size w w' := by
  have HR := Lib.hid (jkRet_no _ _ _ _ (jkArgs_no _ _ _ _ h))
  have h1 : ([long, m, r, j].all fun x => above (can .f32 x)) = false := by simpa [jkArgs, Bool.and_assoc] using h
  clear h
  go_enter Try.func8, Try.ntmps8
  go_wp2_with fail
  refine (areMore [long, m, r, j] _ _ ?_).mono ?_
  · exact slF_new _ [long, m, r, j] _ _ _ (by simp) (by simp) _ rfl rfl
  rintro e w' ⟨rfl, n, rfl⟩
  rw [h1]
  go_wp2_with fail
  refine bodyPost_ret (v := .tuple #[agg4 0 0 0 0, .bool false]) (by simp [results, Try.results8, go_sem, agg4]) rfl ⟨HR.out, ?_⟩
  (repeat (first | exact Below.refl _ _ | assumption | refine below_dr ?_ _ | refine Below.alloc ?_ (by first | omega | (simp; done) | (simp; omega)) _ | refine Below.setCell ?_ (by first | omega | (simp; done) | (simp; omega)) _ | refine Below.trans ?_ (Below.mono (by assumption) (by first | omega | (simp; done) | (simp; omega)))))

/-- what the plan's own block and the result's hold -/
def Jk (w : World) (wx : World) (a b c j : Nat) : Prop :=
  OwnC wx (w.heap.size + 1) #[.float .f32 0, .float .f32 0, .float .f32 0, .float .f32 0] 32 ∧
  OwnC wx (w.heap.size + 1 + 1 + 1) #[.float .f32 j, .float .f32 a, .float .f32 b, .float .f32 c] 32 ∧
  OwnC wx w.heap.size #[.float .f32 j] 26 ∧ Below w.heap.size w wx

theorem Jk.alloc {w wx : World} {a b c j : Nat} (h : Jk w wx a b c j) (o : Obj) : Jk w (wx.alloc o) a b c j :=
  ⟨h.1.alloc o, h.2.1.alloc o, h.2.2.1.alloc o, h.2.2.2.alloc h.2.2.2.size o⟩
theorem Jk.drewN {w wx : World} {a b c j : Nat} (h : Jk w wx a b c j) (n : Nat) : Jk w (wx.drewN n) a b c j := ⟨h.1, h.2.1, h.2.2.1, below_dr h.2.2.2 n⟩
theorem Jk.below {w wx wy : World} {a b c j : Nat} (h : Jk w wx a b c j) (hb : Below wx.heap.size wx wy) : Jk w wy a b c j :=
  ⟨h.1.below hb h.1.lt, h.2.1.below hb h.2.1.lt, h.2.2.1.below hb h.2.2.1.lt, h.2.2.2.trans (hb.mono h.2.2.2.size)⟩
theorem Jk.set1 {w wx : World} {a b c j : Nat} (h : Jk w wx a b c j) (v : Nat) : Jk w (wx.setCell ⟨w.heap.size + 1 + 1 + 1, 1, none⟩ (.float .f32 v)) v b c j :=
  ⟨h.1.other _ _ (by first | omega | (simp; done) | (simp; omega)), h.2.1.set 1 _, h.2.2.1.other _ _ (by first | omega | (simp; done) | (simp; omega)), h.2.2.2.setCell (by first | omega | (simp; done) | (simp; omega)) _⟩
theorem Jk.set2 {w wx : World} {a b c j : Nat} (h : Jk w wx a b c j) (v : Nat) : Jk w (wx.setCell ⟨w.heap.size + 1 + 1 + 1, 2, none⟩ (.float .f32 v)) a v c j :=
  ⟨h.1.other _ _ (by first | omega | (simp; done) | (simp; omega)), h.2.1.set 2 _, h.2.2.1.other _ _ (by first | omega | (simp; done) | (simp; omega)), h.2.2.2.setCell (by first | omega | (simp; done) | (simp; omega)) _⟩
theorem Jk.set3 {w wx : World} {a b c j : Nat} (h : Jk w wx a b c j) (v : Nat) : Jk w (wx.setCell ⟨w.heap.size + 1 + 1 + 1, 3, none⟩ (.float .f32 v)) a b v j :=
  ⟨h.1.other _ _ (by first | omega | (simp; done) | (simp; omega)), h.2.1.set 3 _, h.2.2.1.other _ _ (by first | omega | (simp; done) | (simp; omega)), h.2.2.2.setCell (by first | omega | (simp; done) | (simp; omega)) _⟩
theorem Jk.facts {w wx : World} {a b c j : Nat} (h : Jk w wx a b c j) :
    wx.cell? ⟨w.heap.size, 0, none⟩ = some (.float .f32 j) ∧ wx.cell? ⟨w.heap.size + 1 + 1 + 1, 0, none⟩ = some (.float .f32 j) ∧ wx.cell? ⟨w.heap.size + 1 + 1 + 1, 1, none⟩ = some (.float .f32 a) ∧
    wx.cell? ⟨w.heap.size + 1 + 1 + 1, 2, none⟩ = some (.float .f32 b) ∧ wx.cell? ⟨w.heap.size + 1 + 1 + 1, 3, none⟩ = some (.float .f32 c) ∧
    wx.frozen? ⟨w.heap.size + 1 + 1 + 1, 1, none⟩ = false ∧ wx.frozen? ⟨w.heap.size + 1 + 1 + 1, 2, none⟩ = false ∧ wx.frozen? ⟨w.heap.size + 1 + 1 + 1, 3, none⟩ = false ∧
    w.heap.size + 1 + 1 + 1 < wx.heap.size :=
  ⟨by simpa using h.2.2.1.cell 0, by simpa using h.2.1.cell 0, by simpa using h.2.1.cell 1, by simpa using h.2.1.cell 2, by simpa using h.2.1.cell 3, h.2.1.free 1, h.2.1.free 2, h.2.1.free 3, h.2.1.lt⟩

set_option maxHeartbeats 4000000 in
set_option maxRecDepth 100000 in
theorem jerkI_yes (long m r j : Nat) (w : World) (h : jkArgs (can .f32 long) (can .f32 m) (can .f32 r) (can .f32 j) = true) :
    Calls Try.prog 8 #[.float .f32 long, .float .f32 m, .float .f32 r, .float .f32 j] w fun e w' => JkRet (can .f32 long) (can .f32 m) (can .f32 r) (can .f32 j) e ∧ Below w.heap.size w w' := by
  have h1 : ([long, m, r, j].all fun x => above (can .f32 x)) = true := by simpa [jkArgs, Bool.and_assoc] using h
  have HJ := Lib.hid h
  clear h
  go_enter Try.func8, Try.ntmps8
  go_wp2_with fail
  refine (areMore [long, m, r, j] _ _ ?_).mono ?_
  · exact slF_new _ [long, m, r, j] _ _ _ (by simp) (by simp) _ rfl rfl
  rintro e w' ⟨rfl, n, rfl⟩
  rw [h1]
  clear h1
  go_upto_if 34 with (refine wpList_f rfl rfl rfl rfl (by decide) ?_; intro _ _ _; simp only [Act.put, List.setIfInBounds_toArray, List.set_cons_succ, List.set_cons_zero])
  go_cut [] (fun wx => ∃ a b q : Nat, wx = ((((w.alloc (.cells #[.float .f32 j] 26)).alloc (.cells #[.float .f32 0, .float .f32 0, .float .f32 0, .float .f32 0] 32)).alloc (.cells #[.float .f32 long, .float .f32 m, .float .f32 r, .float .f32 j] 26)).alloc (.cells #[.float .f32 j, .float .f32 a, .float .f32 b, .float .f32 0] 32)).drewN q ∧ F32 a (jkRise (can .f32 m) (can .f32 r) (can .f32 j)) ∧ F32 b (jkHold (can .f32 m) (can .f32 r) (can .f32 j)))
  case first =>
    have f1 := ‹F32 _ (fop .mul .f32 (can .f32 r) (can .f32 r))›
    have f2 := ‹F32 _ (fop .quo .f32 _ (can .f32 j))›
    have hA : F32 _ (jkA (can .f32 r) (can .f32 j)) := f2.trans (by rw [show can .f32 _ = _ from f1]; rfl)
    have ht := F32.gt hA (F32.mk m)
    have HT := Lib.hid ht
    clear ht hA f1 f2
    go_wp2_with (first | (go_at_call 14; refine (rootNumber _ _).mono ?_; rintro e w' ⟨⟨x, rfl, hx⟩, n, rfl⟩) | (refine wpList_f rfl rfl rfl rfl (by decide) ?_; intro _ _ _; simp only [Act.put, List.setIfInBounds_toArray, List.set_cons_succ, List.set_cons_zero]))
    · go_meet
      have hg := HT.out.symm.trans ‹_›
      have hd := ‹F32 _ (fop .quo .f32 (can .f32 m) (can .f32 j))›
      refine ⟨_, 0, _, rfl, ?_, ?_⟩
      · unfold jkRise; rw [if_pos hg]; exact hx.trans (by rw [show can .f32 _ = _ from hd]; rfl)
      · unfold jkHold; rw [if_pos hg]; exact F32.zero
    · go_meet
      have hg := HT.out.symm.trans ‹_›
      have hd := ‹F32 _ (fop .quo .f32 (can .f32 r) (can .f32 j))›
      have hk := ‹F32 _ (fop .quo .f32 (can .f32 m) (can .f32 r))›
      have hs := ‹F32 _ (fop .sub .f32 _ _)›
      refine ⟨_, _, _, rfl, ?_, ?_⟩
      · unfold jkRise; rw [if_neg (by rw [hg]; decide)]; exact hd
      · unfold jkHold; rw [if_neg (by rw [hg]; decide)]; exact hs.trans (by rw [show can .f32 _ = _ from hd, show can .f32 _ = _ from hk]; rfl)
  case rest =>
    obtain ⟨a, b, q, rfl, hR, hH⟩ := hcut
    go_upto_if 60 with (go_at_call 18; refine (way1 a b _ j _ (by exact ((((((OwnC.new rfl).alloc _).alloc _).alloc _).drewN _).cell 0).trans rfl)).mono ?_; rintro e w1 ⟨⟨x, rfl, hx⟩, hb1⟩)
    have hJk : Jk w w1 a b 0 j := by
      refine ⟨?_, ?_, ?_, ?_⟩
      · exact ((((OwnC.new (by simp)).alloc _).alloc _).drewN _).below hb1 (by first | omega | (simp; done) | (simp; omega))
      · exact ((OwnC.new (by simp)).drewN _).below hb1 (by simp)
      · exact (((((OwnC.new (by simp)).alloc _).alloc _).alloc _).drewN _).below hb1 (by first | omega | (simp; done) | (simp; omega))
      · have := hb1.size
        simp only [World.heap_drewN, World.size_alloc] at this
        (repeat (first | exact Below.refl _ _ | assumption | refine below_dr ?_ _ | refine Below.alloc ?_ (by first | omega | (simp; done) | (simp; omega)) _ | refine Below.setCell ?_ (by first | omega | (simp; done) | (simp; omega)) _ | refine Below.trans ?_ (Below.mono (by assumption) (by first | omega | (simp; done) | (simp; omega)))))
    clear hb1
    have eR : can .f32 a = _ := hR
    have eH : can .f32 b = _ := hH
    rw [eR, eH] at hx
    have ht := F32.le hx (F32.mk long)
    have HT := Lib.hid ht
    have HER := Lib.hid eR
    have HEH := Lib.hid eH
    clear ht eR eH
    go_cut [] (fun wx => ∃ a b c : Nat, Jk w wx a b c j ∧ F32 a (jkPlan (can .f32 long) (can .f32 m) (can .f32 r) (can .f32 j)).1 ∧ F32 b (jkPlan (can .f32 long) (can .f32 m) (can .f32 r) (can .f32 j)).2.1 ∧ F32 c (jkPlan (can .f32 long) (can .f32 m) (can .f32 r) (can .f32 j)).2.2)
    case first =>
      obtain ⟨c1, c2, c3, c4, c5, g1, g2, g3, hsz⟩ := hJk.facts
      cases hcmp : (FloatKind.f32.format.order x long == some .lt || FloatKind.f32.format.order x long == some .eq)
      rotate_left
      · have hg := HT.out.symm.trans hcmp
        have HG := Lib.hid hg
        clear hg
        go_wp2_with (refine wpList_f rfl rfl rfl rfl (by decide) ?_; intro _ _ _; simp only [Act.put, List.setIfInBounds_toArray, List.set_cons_succ, List.set_cons_zero])
        have hs := ‹F32 _ (fop .add .f32 (can .f32 a) (can .f32 b))›
        refine (productOf [_, _, _] _ _ ?_ ?_ (cells3 _ _ _ _ (by simp) _ _ _)).mono ?_
        · simp
        · simp
        rintro e w' ⟨⟨y, rfl, hy⟩, n, rfl⟩
        simp only [List.length_cons, List.length_nil, Nat.reduceAdd, Nat.reduceSub, prod3] at hy
        go_wp2_with (refine wpList_f rfl rfl rfl rfl (by decide) ?_; intro _ _ _; simp only [Act.put, List.setIfInBounds_toArray, List.set_cons_succ, List.set_cons_zero])
        go_meet
        have hg := HG.out
        have hd := ‹F32 _ (fop .sub .f32 (can .f32 long) (can .f32 x))›
        have hq := ‹F32 _ (fop .quo .f32 _ (can .f32 y))›
        refine ⟨a, b, _, ((hJk.set3 _).alloc _).drewN _, ?_, ?_, ?_⟩
        · unfold jkPlan; rw [if_pos hg]; exact hR
        · unfold jkPlan; rw [if_pos hg]; exact hH
        · unfold jkPlan; rw [if_pos hg]
          rw [show can .f32 _ = _ from hs, HER.out, HEH.out] at hy
          exact hq.trans (by rw [show can .f32 _ = _ from hd, show can .f32 _ = _ from hy, show can .f32 _ = _ from hx]; rfl)
      · have hg := HT.out.symm.trans hcmp
        have HG := Lib.hid hg
        clear hg
        go_wp2_with fail
        have HJk := Lib.hid hJk
        clear c1 c2 c3 c4 c5 g1 g2 g3 hsz hJk
        go_loopw [14, 15, 76] (fun lo hi i wr => ∃ k lb hb : Nat, k ≤ 30 ∧ i = .int .i64 k ∧ lo = .float .f32 lb ∧ hi = .float .f32 hb ∧ Jk w wr a b 0 j ∧
          F32 lb (jkTo (can .f32 j) (jkRise (can .f32 m) (can .f32 r) (can .f32 j)) (jkHold (can .f32 m) (can .f32 r) (can .f32 j)) (can .f32 long) k).1 ∧ F32 hb (jkTo (can .f32 j) (jkRise (can .f32 m) (can .f32 r) (can .f32 j)) (jkHold (can .f32 m) (can .f32 r) (can .f32 j)) (can .f32 long) k).2) (fun _ _ i _ => 30 - (intOf i).toNat)
        case atStart => exact ⟨0, 0, 1065353216, by omega, rfl, rfl, rfl, HJk.out, F32.zero, can_l6⟩
        case round =>
          obtain ⟨k, lb, hb, hk, rfl, rfl, rfl, hJk, hl, hh⟩ := hrel
          obtain ⟨c1, c2, c3, c4, c5, g1, g2, g3, hsz⟩ := hJk.facts
          by_cases hlt : k < 30
          · go_wp2_with (first | (go_at_call 18; refine (way1 _ _ _ j _ (by simp [*])).mono ?_; rintro e w2 ⟨⟨y, rfl, hy⟩, hb2⟩) | (refine wpList_f rfl rfl rfl rfl (by decide) ?_; intro _ _ _; simp only [Act.put, List.setIfInBounds_toArray, List.set_cons_succ, List.set_cons_zero]))
            · have f1 := ‹F32 _ (fop .add .f32 (can .f32 lb) (can .f32 hb))›
              have f2 := ‹F32 _ (fop .quo .f32 _ (can .f32 1073741824))›
              have f3 := ‹F32 _ (fop .mul .f32 _ (can .f32 a))›
              have f4 := ‹F32 _ (fop .mul .f32 _ (can .f32 b))›
              rw [show can .f32 _ = _ from f1, show can .f32 lb = _ from hl, show can .f32 hb = _ from hh, can_l2] at f2
              have f2 := f2.trans (half_eq _)
              rw [show can .f32 _ = _ from f2, HER.out] at f3
              rw [show can .f32 _ = _ from f2, HEH.out] at f4
              rw [show can .f32 _ = _ from f3, show can .f32 _ = _ from f4] at hy
              have hc := F32.le hy (F32.mk long)
              have h1 : (FloatKind.f32.format.order y long == some .lt || FloatKind.f32.format.order y long == some .eq) = true := by rw [Bool.or_eq_true]; first | assumption | (simp only [beq_iff_eq]; assumption)
              rw [h1] at hc
              have hs : jkTo (can .f32 j) (jkRise (can .f32 m) (can .f32 r) (can .f32 j)) (jkHold (can .f32 m) (can .f32 r) (can .f32 j)) (can .f32 long) (k + 1) = (_, _) := if_pos hc.symm
              go_roundw
              case rel => exact ⟨k + 1, _, _, by omega, by go_num, rfl, rfl, (hJk.drewN _).below hb2, by rw [hs]; exact f2, by rw [hs]; exact hh⟩
              case measure => simp [intOf]; omega
            · have f1 := ‹F32 _ (fop .add .f32 (can .f32 lb) (can .f32 hb))›
              have f2 := ‹F32 _ (fop .quo .f32 _ (can .f32 1073741824))›
              have f3 := ‹F32 _ (fop .mul .f32 _ (can .f32 a))›
              have f4 := ‹F32 _ (fop .mul .f32 _ (can .f32 b))›
              rw [show can .f32 _ = _ from f1, show can .f32 lb = _ from hl, show can .f32 hb = _ from hh, can_l2] at f2
              have f2 := f2.trans (half_eq _)
              rw [show can .f32 _ = _ from f2, HER.out] at f3
              rw [show can .f32 _ = _ from f2, HEH.out] at f4
              rw [show can .f32 _ = _ from f3, show can .f32 _ = _ from f4] at hy
              have hc := F32.le hy (F32.mk long)
              have h1 : (FloatKind.f32.format.order y long == some .lt || FloatKind.f32.format.order y long == some .eq) = false := by rw [Bool.or_eq_false_iff]; assumption
              rw [h1] at hc
              have hs : jkTo (can .f32 j) (jkRise (can .f32 m) (can .f32 r) (can .f32 j)) (jkHold (can .f32 m) (can .f32 r) (can .f32 j)) (can .f32 long) (k + 1) = (_, _) := if_neg (fun q => Bool.false_ne_true (hc.trans q))
              go_roundw
              case rel => exact ⟨k + 1, _, _, by omega, by go_num, rfl, rfl, (hJk.drewN _).below hb2, by rw [hs]; exact hl, by rw [hs]; exact f2⟩
              case measure => simp [intOf]; omega
          · have e30 : k = 30 := by omega
            subst e30
            go_wp2_with (refine wpList_f rfl rfl rfl rfl (by decide) ?_; intro _ _ _; simp only [Act.put, List.setIfInBounds_toArray, List.set_cons_succ, List.set_cons_zero])
            go_meet
            have g1 := ‹F32 _ (fop .mul .f32 (can .f32 lb) (can .f32 a))›
            have g2 := ‹F32 _ (fop .mul .f32 (can .f32 lb) (can .f32 b))›
            refine ⟨_, _, 0, ((hJk.set1 _).set2 _).drewN _, ?_, ?_, ?_⟩
            · unfold jkPlan; rw [if_neg (by rw [HG.out]; decide)]; exact g1.trans (by rw [HER.out, show can .f32 _ = _ from hl]; rfl)
            · unfold jkPlan; rw [if_neg (by rw [HG.out]; decide)]; exact g2.trans (by rw [HEH.out, show can .f32 _ = _ from hl]; rfl)
            · unfold jkPlan; rw [if_neg (by rw [HG.out]; decide)]; exact F32.zero
    case rest =>
      obtain ⟨a, b, c, hJk2, hR, hH, hC⟩ := hcut
      clear hx HT HER HEH hJk
      have hok : jkOk (can .f32 long) (can .f32 m) (can .f32 r) (can .f32 j) = planOk (can .f32 j) (can .f32 a) (can .f32 b) (can .f32 c) := by
        unfold jkOk
        rw [HJ.out, show can .f32 a = _ from hR, show can .f32 b = _ from hH, show can .f32 c = _ from hC]
        rfl
      have HOK := Lib.hid hok
      clear hok
      obtain ⟨c1, c2, c3, c4, c5, g1, g2, g3, hsz⟩ := hJk2.facts
      go_wp2_with fail
      refine (isPlan j a b c _).mono ?_
      rintro e w4 ⟨rfl, hb4⟩
      have hJk4 := hJk2.below hb4
      clear c1 c2 c3 c4 c5 g1 g2 g3 hsz
      obtain ⟨c1, c2, c3, c4, c5, g1, g2, g3, hsz⟩ := hJk4.facts
      have d0 : w4.cell? ⟨w.heap.size + 1, 0, none⟩ = some (.float .f32 0) := by simpa using hJk4.1.cell 0
      have d1 : w4.cell? ⟨w.heap.size + 1, 1, none⟩ = some (.float .f32 0) := by simpa using hJk4.1.cell 1
      have d2 : w4.cell? ⟨w.heap.size + 1, 2, none⟩ = some (.float .f32 0) := by simpa using hJk4.1.cell 2
      have d3 : w4.cell? ⟨w.heap.size + 1, 3, none⟩ = some (.float .f32 0) := by simpa using hJk4.1.cell 3
      have e0 := hJk4.1.free 0
      have e1 := hJk4.1.free 1
      have e2 := hJk4.1.free 2
      have e3 := hJk4.1.free 3
      cases hp : planOk (can .f32 j) (can .f32 a) (can .f32 b) (can .f32 c)
      · go_wp2_with fail
        refine bodyPost_ret (v := .tuple #[agg4 0 0 0 0, .bool false]) (by simp [results, Try.results8, go_sem, agg4, d0, d1, d2, d3]) rfl ⟨jkRet_no _ _ _ _ (HOK.out.trans hp), ?_⟩
        exact (((hJk4.2.2.2.setCell (by first | omega | (simp; done) | (simp; omega)) _).setCell (by first | omega | (simp; done) | (simp; omega)) _).setCell (by first | omega | (simp; done) | (simp; omega)) _).setCell (by first | omega | (simp; done) | (simp; omega)) _
      · go_wp2_with fail
        refine bodyPost_ret (v := .tuple #[agg4 j a b c, .bool true]) (by simp [results, Try.results8, go_sem, agg4, d0, d1, d2, d3]) rfl ⟨jkRet_yes (HOK.out.trans hp) hR hH hC, ?_⟩
        exact (((hJk4.2.2.2.setCell (by first | omega | (simp; done) | (simp; omega)) _).setCell (by first | omega | (simp; done) | (simp; omega)) _).setCell (by first | omega | (simp; done) | (simp; omega)) _).setCell (by first | omega | (simp; done) | (simp; omega)) _
end Go.Proofs.Ytfpkdnopbnppmaa
