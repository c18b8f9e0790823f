/- Contracts of JerkPlan: the reference's. -/
import Derived.Test.YtjcofdengndhgaaPlan
import Derived.Test.YtjcofdengndhgaaSqrt
import Derived.Deep.DeepCutAuto
namespace Go.Proofs.Ytjcofdengndhgaa
open Go.RowKit Go.Fl

def jkA (r j : Nat) : Nat := fdiv (fmul r r) j
def jkRise (m r j : Nat) : Nat := if fgt (jkA r j) m then fsqrt (fdiv m j) else fdiv r j
def jkHold (m r j : Nat) : Nat := if fgt (jkA r j) m then 0 else fsub (fdiv m r) (fdiv r j)
def jkPeak (j r h : Nat) : Nat := fmul (fmul j r) (fadd r h)
def jkWay (j r h : Nat) : Nat := fmul (jkPeak j r h) (fadd (fmul 1073741824 r) h)
def jkStep (j R H long : Nat) (st : Nat × Nat) : Nat × Nat :=
  if fle (jkWay j (fmul (fmul 1056964608 (fadd st.1 st.2)) R) (fmul (fmul 1056964608 (fadd st.1 st.2)) H)) long then (fmul 1056964608 (fadd st.1 st.2), st.2) else (st.1, fmul 1056964608 (fadd st.1 st.2))
def jkTo (j R H long : Nat) : Nat → Nat × Nat
  | 0 => (0, 1065353216)
  | k + 1 => jkStep j R H long (jkTo j R H long k)
/-- the plan before it is looked at: rise, hold, cruise -/
def jkPlan (long m r j : Nat) : Nat × Nat × Nat :=
  if fle (jkWay j (jkRise m r j) (jkHold m r j)) long then (jkRise m r j, jkHold m r j, fdiv (fsub long (jkWay j (jkRise m r j) (jkHold m r j))) (jkPeak j (jkRise m r j) (jkHold m r j)))
  else (fmul (jkTo j (jkRise m r j) (jkHold m r j) long 30).1 (jkRise m r j), fmul (jkTo j (jkRise m r j) (jkHold m r j) long 30).1 (jkHold m r j), 0)
def jkArgs (long m r j : Nat) : Bool := above long && above m && above r && above j
def jkOk (long m r j : Nat) : Bool := jkArgs long m r j && planOk j (jkPlan long m r j).1 (jkPlan long m r j).2.1 (jkPlan long m r j).2.2

/-- what both functions return -/
def JkRet (long m r j : Nat) (e : Ending) : Prop :=
  ∃ a b c d, e = .returned (.tuple #[agg4 a b c d, .bool (jkOk long m r j)]) ∧
    F32 a (if jkOk long m r j then j else 0) ∧ F32 b (if jkOk long m r j then (jkPlan long m r j).1 else 0) ∧
    F32 c (if jkOk long m r j then (jkPlan long m r j).2.1 else 0) ∧ F32 d (if jkOk long m r j then (jkPlan long m r j).2.2 else 0)

theorem l07Peak (j r h : Nat) (w : World) : Calls Try.prog 32 #[.float .f32 j, .float .f32 r, .float .f32 h] w fun e w' => (∃ x, e = .returned (.float .f32 x) ∧ F32 x (jkPeak (can .f32 j) (can .f32 r) (can .f32 h))) ∧ ∃ n, w' = w.drewN n := by
  go_enter Try.func32, Try.ntmps32
  go_wp2_with (refine wpList_f rfl rfl rfl rfl (by decide) ?_; intro _ _ _; simp only [Act.put, List.setIfInBounds_toArray, List.set_cons_succ, List.set_cons_zero])
  go_ret
  refine ⟨⟨_, rfl, ?_⟩, (by (try simp only [World.drewN_drewN]); exact ⟨_, rfl⟩)⟩
  simp only [F32] at *
  simp [*, jkPeak, fmul, fadd]
theorem l07Way (j r h : Nat) (w : World) : Calls Try.prog 31 #[.float .f32 j, .float .f32 r, .float .f32 h] w fun e w' => (∃ x, e = .returned (.float .f32 x) ∧ F32 x (jkWay (can .f32 j) (can .f32 r) (can .f32 h))) ∧ ∃ n, w' = w.drewN n := by
  go_enter Try.func31, Try.ntmps31
  go_wp2_with fail
  refine (l07Peak _ _ _ _).mono ?_
  rintro e w' ⟨⟨x, rfl, hx⟩, n, rfl⟩
  go_wp2_with (refine wpList_f rfl rfl rfl rfl (by decide) ?_; intro _ _ _; simp only [Act.put, List.setIfInBounds_toArray, List.set_cons_succ, List.set_cons_zero])
  go_ret
  refine ⟨⟨_, rfl, ?_⟩, (by (try simp only [World.drewN_drewN]); exact ⟨_, rfl⟩)⟩
  simp only [F32] at *
  simp [*, jkWay, fmul, fadd, can_l2]

theorem jkArgs_no (long m r j : Nat) (h : jkArgs long m r j = false) : jkOk long m r j = false := by simp [jkOk, h]
theorem jkRet_no (long m r j : Nat) (h : jkOk long m r j = false) : JkRet long m r j (.returned (.tuple #[agg4 0 0 0 0, .bool false])) :=
  ⟨0, 0, 0, 0, by rw [h], by simp [h]; exact F32.zero, by simp [h]; exact F32.zero, by simp [h]; exact F32.zero, by simp [h]; exact F32.zero⟩

theorem jkRet_yes {long m r j a b c : Nat} (h : jkOk long m r (can .f32 j) = true) (hR : F32 a (jkPlan long m r (can .f32 j)).1) (hH : F32 b (jkPlan long m r (can .f32 j)).2.1) (hC : F32 c (jkPlan long m r (can .f32 j)).2.2) :
    JkRet long m r (can .f32 j) (.returned (.tuple #[agg4 j a b c, .bool true])) :=
  ⟨j, a, b, c, by rw [h], by rw [if_pos h]; exact F32.mk j, by rw [if_pos h]; exact hR, by rw [if_pos h]; exact hH, by rw [if_pos h]; exact hC⟩

set_option maxHeartbeats 1000000 in
theorem jerkS_no (long m r j : Nat) (w : World) (h : jkArgs (can .f32 long) (can .f32 m) (can .f32 r) (can .f32 j) = false) :
    Calls Try.prog 13 #[.float .f32 long, .float .f32 m, .float .f32 r, .float .f32 j] w fun e w' => JkRet (can .f32 long) (can .f32 m) (can .f32 r) (can .f32 j) e ∧ Below w.heap.size w w' := by
  have HR := Lib.hid (jkRet_no _ _ _ _ (jkArgs_no _ _ _ _ h))
  cases e1 : above (can .f32 long)
  · clear h
    go_enter Try.func13, Try.ntmps13
    go_wp2_with (go_at_call 29; refine (l02Above _ _).mono ?_; rintro e w' ⟨rfl, n, rfl⟩)
    refine bodyPost_ret (v := .tuple #[agg4 0 0 0 0, .bool false]) (by simp [results, Try.results13, go_sem, agg4]) rfl ⟨HR.out, ?_⟩
    (repeat (first | exact Below.refl _ _ | assumption | refine below_dr ?_ _ | refine Below.alloc ?_ (by first | omega | (simp; done) | (simp; omega)) _ | refine Below.setCell ?_ (by first | omega | (simp; done) | (simp; omega)) _ | refine Below.trans ?_ (Below.mono (by assumption) (by first | omega | (simp; done) | (simp; omega)))))
  cases e2 : above (can .f32 m)
  · clear h
    go_enter Try.func13, Try.ntmps13
    go_wp2_with (go_at_call 29; refine (l02Above _ _).mono ?_; rintro e w' ⟨rfl, n, rfl⟩)
    refine bodyPost_ret (v := .tuple #[agg4 0 0 0 0, .bool false]) (by simp [results, Try.results13, go_sem, agg4]) rfl ⟨HR.out, ?_⟩
    (repeat (first | exact Below.refl _ _ | assumption | refine below_dr ?_ _ | refine Below.alloc ?_ (by first | omega | (simp; done) | (simp; omega)) _ | refine Below.setCell ?_ (by first | omega | (simp; done) | (simp; omega)) _ | refine Below.trans ?_ (Below.mono (by assumption) (by first | omega | (simp; done) | (simp; omega)))))
  cases e3 : above (can .f32 r)
  · clear h
    go_enter Try.func13, Try.ntmps13
    go_wp2_with (go_at_call 29; refine (l02Above _ _).mono ?_; rintro e w' ⟨rfl, n, rfl⟩)
    refine bodyPost_ret (v := .tuple #[agg4 0 0 0 0, .bool false]) (by simp [results, Try.results13, go_sem, agg4]) rfl ⟨HR.out, ?_⟩
    (repeat (first | exact Below.refl _ _ | assumption | refine below_dr ?_ _ | refine Below.alloc ?_ (by first | omega | (simp; done) | (simp; omega)) _ | refine Below.setCell ?_ (by first | omega | (simp; done) | (simp; omega)) _ | refine Below.trans ?_ (Below.mono (by assumption) (by first | omega | (simp; done) | (simp; omega)))))
  cases e4 : above (can .f32 j)
  · clear h
    go_enter Try.func13, Try.ntmps13
    go_wp2_with (go_at_call 29; refine (l02Above _ _).mono ?_; rintro e w' ⟨rfl, n, rfl⟩)
    refine bodyPost_ret (v := .tuple #[agg4 0 0 0 0, .bool false]) (by simp [results, Try.results13, go_sem, agg4]) rfl ⟨HR.out, ?_⟩
    (repeat (first | exact Below.refl _ _ | assumption | refine below_dr ?_ _ | refine Below.alloc ?_ (by first | omega | (simp; done) | (simp; omega)) _ | refine Below.setCell ?_ (by first | omega | (simp; done) | (simp; omega)) _ | refine Below.trans ?_ (Below.mono (by assumption) (by first | omega | (simp; done) | (simp; omega)))))
  · simp [jkArgs, e1, e2, e3, e4] at h

set_option maxHeartbeats 4000000 in
set_option maxRecDepth 100000 in
theorem jerkS_yes (long m r j : Nat) (w : World) (h : jkArgs (can .f32 long) (can .f32 m) (can .f32 r) (can .f32 j) = true) :
    Calls Try.prog 13 #[.float .f32 long, .float .f32 m, .float .f32 r, .float .f32 j] w fun e w' => JkRet (can .f32 long) (can .f32 m) (can .f32 r) (can .f32 j) e ∧ Below w.heap.size w w' := by
  simp only [jkArgs, Bool.and_eq_true] at h
  obtain ⟨⟨⟨e1, e2⟩, e3⟩, e4⟩ := h
  go_enter Try.func13, Try.ntmps13
  go_upto_if 43 with (first | (go_at_call 29; refine (l02Above _ _).mono ?_; rintro e w' ⟨rfl, n, rfl⟩) | (refine wpList_f rfl rfl rfl rfl (by decide) ?_; intro _ _ _; simp only [Act.put, List.setIfInBounds_toArray, List.set_cons_succ, List.set_cons_zero]))
  go_cut [] (fun wx => ∃ a b q : Nat, wx = ((w.alloc (.cells #[.float .f32 0, .float .f32 0, .float .f32 0, .float .f32 0] 27)).alloc (.cells #[.float .f32 j, .float .f32 a, .float .f32 b, .float .f32 0] 27)).drewN q ∧
    F32 a (jkRise (can .f32 m) (can .f32 r) (can .f32 j)) ∧ F32 b (jkHold (can .f32 m) (can .f32 r) (can .f32 j)))
  case first =>
    have f1 := ‹F32 _ (fop .mul .f32 (can .f32 r) (can .f32 r))›
    have f2 := ‹F32 _ (fop .quo .f32 _ (can .f32 j))›
    have hA : F32 _ (jkA (can .f32 r) (can .f32 j)) := f2.trans (by rw [show can .f32 _ = _ from f1]; rfl)
    have ht := F32.gt hA (F32.mk m)
    have HT := Lib.hid ht
    clear ht hA f1 f2
    go_wp2_with (first | (go_at_call 30; refine (l01Sqrt _ _).mono ?_; rintro e w' ⟨⟨x, rfl, hx⟩, n, rfl⟩) | (refine wpList_f rfl rfl rfl rfl (by decide) ?_; intro _ _ _; simp only [Act.put, List.setIfInBounds_toArray, List.set_cons_succ, List.set_cons_zero]))
    · go_meet
      have hg := HT.out.symm.trans ‹_›
      have hd := ‹F32 _ (fop .quo .f32 (can .f32 m) (can .f32 j))›
      refine ⟨_, 0, _, rfl, ?_, ?_⟩
      · unfold jkRise; rw [if_pos hg]; exact hx.trans (by rw [show can .f32 _ = _ from hd]; rfl)
      · unfold jkHold; rw [if_pos hg]; exact F32.zero
    · go_meet
      have hg := HT.out.symm.trans ‹_›
      have hd := ‹F32 _ (fop .quo .f32 (can .f32 r) (can .f32 j))›
      have hk := ‹F32 _ (fop .quo .f32 (can .f32 m) (can .f32 r))›
      have hs := ‹F32 _ (fop .sub .f32 _ _)›
      refine ⟨_, _, _, rfl, ?_, ?_⟩
      · unfold jkRise; rw [if_neg (by rw [hg]; decide)]; exact hd
      · unfold jkHold; rw [if_neg (by rw [hg]; decide)]; exact hs.trans (by rw [show can .f32 _ = _ from hd, show can .f32 _ = _ from hk]; rfl)
  case rest =>
    obtain ⟨a, b, q, rfl, hR, hH⟩ := hcut
    go_upto_if 68 with (go_at_call 31; refine (l07Way _ _ _ _).mono ?_; rintro e w' ⟨⟨x, rfl, hx⟩, n, rfl⟩)
    have eR : can .f32 a = _ := hR
    have eH : can .f32 b = _ := hH
    rw [eR, eH] at hx
    have ht := F32.le hx (F32.mk long)
    have HT := Lib.hid ht
    have HER := Lib.hid eR
    have HEH := Lib.hid eH
    clear ht eR eH
    go_cut [] (fun wx => ∃ a b c q : Nat, wx = ((w.alloc (.cells #[.float .f32 0, .float .f32 0, .float .f32 0, .float .f32 0] 27)).alloc (.cells #[.float .f32 j, .float .f32 a, .float .f32 b, .float .f32 c] 27)).drewN q ∧
      F32 a (jkPlan (can .f32 long) (can .f32 m) (can .f32 r) (can .f32 j)).1 ∧ F32 b (jkPlan (can .f32 long) (can .f32 m) (can .f32 r) (can .f32 j)).2.1 ∧ F32 c (jkPlan (can .f32 long) (can .f32 m) (can .f32 r) (can .f32 j)).2.2)
    case first =>
      cases hcmp : (FloatKind.f32.format.order x long == some .lt || FloatKind.f32.format.order x long == some .eq)
      rotate_left
      · have hg := HT.out.symm.trans hcmp
        have HG := Lib.hid hg
        clear hg
        go_wp2_with (first | (go_at_call 31; refine (l07Way _ _ _ _).mono ?_; rintro e w' ⟨⟨y, rfl, hy⟩, n, rfl⟩) | (go_at_call 32; refine (l07Peak _ _ _ _).mono ?_; rintro e w' ⟨⟨y, rfl, hy⟩, n, rfl⟩) | (refine wpList_f rfl rfl rfl rfl (by decide) ?_; intro _ _ _; simp only [Act.put, List.setIfInBounds_toArray, List.set_cons_succ, List.set_cons_zero]))
        go_meet
        have hg := HG.out
        have hd := ‹F32 _ (fop .sub .f32 (can .f32 long) (can .f32 x))›
        have hq := ‹F32 _ (fop .quo .f32 _ (can .f32 y))›
        refine ⟨a, b, _, _, rfl, ?_, ?_, ?_⟩
        · unfold jkPlan; rw [if_pos hg]; exact hR
        · unfold jkPlan; rw [if_pos hg]; exact hH
        · unfold jkPlan; rw [if_pos hg]
          rw [HER.out, HEH.out] at hy
          exact hq.trans (by rw [show can .f32 _ = _ from hd, show can .f32 _ = _ from hy, show can .f32 _ = _ from hx]; rfl)
      · have hg := HT.out.symm.trans hcmp
        have HG := Lib.hid hg
        clear hg
        go_wp2_with (first | (go_at_call 31; refine (l07Way _ _ _ _).mono ?_; rintro e w' ⟨⟨y, rfl, hy⟩, n, rfl⟩) | (go_at_call 32; refine (l07Peak _ _ _ _).mono ?_; rintro e w' ⟨⟨y, rfl, hy⟩, n, rfl⟩) | (refine wpList_f rfl rfl rfl rfl (by decide) ?_; intro _ _ _; simp only [Act.put, List.setIfInBounds_toArray, List.set_cons_succ, List.set_cons_zero]))
        go_loopw [12, 13, 14] (fun lo hi i wr => ∃ k lb hb p : Nat, k ≤ 30 ∧ i = .int .i64 k ∧ lo = .float .f32 lb ∧ hi = .float .f32 hb ∧ wr = ((w.alloc (.cells #[.float .f32 0, .float .f32 0, .float .f32 0, .float .f32 0] 27)).alloc (.cells #[.float .f32 j, .float .f32 a, .float .f32 b, .float .f32 0] 27)).drewN p ∧
          F32 lb (jkTo (can .f32 j) (jkRise (can .f32 m) (can .f32 r) (can .f32 j)) (jkHold (can .f32 m) (can .f32 r) (can .f32 j)) (can .f32 long) k).1 ∧ F32 hb (jkTo (can .f32 j) (jkRise (can .f32 m) (can .f32 r) (can .f32 j)) (jkHold (can .f32 m) (can .f32 r) (can .f32 j)) (can .f32 long) k).2) (fun _ _ i _ => 30 - (intOf i).toNat)
        case atStart => exact ⟨0, 0, 1065353216, _, by omega, rfl, rfl, rfl, rfl, F32.zero, can_l6⟩
        case round =>
          obtain ⟨k, lb, hb, p, hk, rfl, rfl, rfl, rfl, hl, hh⟩ := hrel
          by_cases hlt : k < 30
          · go_wp2_with (first | (go_at_call 31; refine (l07Way _ _ _ _).mono ?_; rintro e w' ⟨⟨y, rfl, hy⟩, n, rfl⟩) | (go_at_call 32; refine (l07Peak _ _ _ _).mono ?_; rintro e w' ⟨⟨y, rfl, hy⟩, n, rfl⟩) | (refine wpList_f rfl rfl rfl rfl (by decide) ?_; intro _ _ _; simp only [Act.put, List.setIfInBounds_toArray, List.set_cons_succ, List.set_cons_zero]))
            · have f1 := ‹F32 _ (fop .add .f32 (can .f32 lb) (can .f32 hb))›
              have f2 := ‹F32 _ (fop .mul .f32 (can .f32 1056964608) _)›
              have f3 := ‹F32 _ (fop .mul .f32 _ (can .f32 a))›
              have f4 := ‹F32 _ (fop .mul .f32 _ (can .f32 b))›
              rw [show can .f32 _ = _ from f1, show can .f32 lb = _ from hl, show can .f32 hb = _ from hh, can_l3] at f2
              rw [show can .f32 _ = _ from f2, HER.out] at f3
              rw [show can .f32 _ = _ from f2, HEH.out] at f4
              rw [show can .f32 _ = _ from f3, show can .f32 _ = _ from f4] at hy
              have hc := F32.le hy (F32.mk long)
              have h1 : (FloatKind.f32.format.order y long == some .lt || FloatKind.f32.format.order y long == some .eq) = true := by rw [Bool.or_eq_true]; first | assumption | (simp only [beq_iff_eq]; assumption)
              rw [h1] at hc
              have hs : jkTo (can .f32 j) (jkRise (can .f32 m) (can .f32 r) (can .f32 j)) (jkHold (can .f32 m) (can .f32 r) (can .f32 j)) (can .f32 long) (k + 1) = (_, _) := if_pos hc.symm
              go_roundw
              case rel => exact ⟨k + 1, _, _, _, by omega, by go_num, rfl, rfl, rfl, by rw [hs]; exact f2, by rw [hs]; exact hh⟩
              case measure => simp [intOf]; omega
            · have f1 := ‹F32 _ (fop .add .f32 (can .f32 lb) (can .f32 hb))›
              have f2 := ‹F32 _ (fop .mul .f32 (can .f32 1056964608) _)›
              have f3 := ‹F32 _ (fop .mul .f32 _ (can .f32 a))›
              have f4 := ‹F32 _ (fop .mul .f32 _ (can .f32 b))›
              rw [show can .f32 _ = _ from f1, show can .f32 lb = _ from hl, show can .f32 hb = _ from hh, can_l3] at f2
              rw [show can .f32 _ = _ from f2, HER.out] at f3
              rw [show can .f32 _ = _ from f2, HEH.out] at f4
              rw [show can .f32 _ = _ from f3, show can .f32 _ = _ from f4] at hy
              have hc := F32.le hy (F32.mk long)
              have h1 : (FloatKind.f32.format.order y long == some .lt || FloatKind.f32.format.order y long == some .eq) = false := by rw [Bool.or_eq_false_iff]; assumption
              rw [h1] at hc
              have hs : jkTo (can .f32 j) (jkRise (can .f32 m) (can .f32 r) (can .f32 j)) (jkHold (can .f32 m) (can .f32 r) (can .f32 j)) (can .f32 long) (k + 1) = (_, _) := if_neg (fun q => Bool.false_ne_true (hc.trans q))
              go_roundw
              case rel => exact ⟨k + 1, _, _, _, by omega, by go_num, rfl, rfl, rfl, by rw [hs]; exact hl, by rw [hs]; exact f2⟩
              case measure => simp [intOf]; omega
          · have e30 : k = 30 := by omega
            subst e30
            go_wp2_with (first | (go_at_call 31; refine (l07Way _ _ _ _).mono ?_; rintro e w' ⟨⟨y, rfl, hy⟩, n, rfl⟩) | (go_at_call 32; refine (l07Peak _ _ _ _).mono ?_; rintro e w' ⟨⟨y, rfl, hy⟩, n, rfl⟩) | (refine wpList_f rfl rfl rfl rfl (by decide) ?_; intro _ _ _; simp only [Act.put, List.setIfInBounds_toArray, List.set_cons_succ, List.set_cons_zero]))
            go_meet
            have g1 := ‹F32 _ (fop .mul .f32 (can .f32 lb) (can .f32 a))›
            have g2 := ‹F32 _ (fop .mul .f32 (can .f32 lb) (can .f32 b))›
            refine ⟨_, _, 0, _, rfl, ?_, ?_, ?_⟩
            · unfold jkPlan; rw [if_neg (by rw [HG.out]; decide)]; exact g1.trans (by rw [HER.out, show can .f32 _ = _ from hl]; rfl)
            · unfold jkPlan; rw [if_neg (by rw [HG.out]; decide)]; exact g2.trans (by rw [HEH.out, show can .f32 _ = _ from hl]; rfl)
            · unfold jkPlan; rw [if_neg (by rw [HG.out]; decide)]; exact F32.zero
    case rest =>
      obtain ⟨a, b, c, q, rfl, hR, hH, hC⟩ := hcut
      clear hx HT HER HEH
      have hok : jkOk (can .f32 long) (can .f32 m) (can .f32 r) (can .f32 j) = planOk (can .f32 j) (can .f32 a) (can .f32 b) (can .f32 c) := by
        unfold jkOk jkArgs
        rw [e1, e2, e3, e4, show can .f32 a = _ from hR, show can .f32 b = _ from hH, show can .f32 c = _ from hC]
        rfl
      have HOK := Lib.hid hok
      clear hok
      cases hp : planOk (can .f32 j) (can .f32 a) (can .f32 b) (can .f32 c)
      · go_wp2_with fail
        refine (l07Plan j a b c _ _ (by simp) (by simp) (by simp) (by simp)).mono ?_
        rintro e w' ⟨rfl, n, rfl⟩
        go_wp2_with fail
        refine bodyPost_ret (v := .tuple #[agg4 0 0 0 0, .bool false]) (by simp [results, Try.results13, go_sem, agg4]) rfl ⟨jkRet_no _ _ _ _ (HOK.out.trans hp), ?_⟩
        (repeat (first | exact Below.refl _ _ | assumption | refine below_dr ?_ _ | refine Below.alloc ?_ (by first | omega | (simp; done) | (simp; omega)) _ | refine Below.setCell ?_ (by first | omega | (simp; done) | (simp; omega)) _ | refine Below.trans ?_ (Below.mono (by assumption) (by first | omega | (simp; done) | (simp; omega)))))
      · go_wp2_with fail
        refine (l07Plan j a b c _ _ (by simp) (by simp) (by simp) (by simp)).mono ?_
        rintro e w' ⟨rfl, n, rfl⟩
        go_wp2_with fail
        refine bodyPost_ret (v := .tuple #[agg4 j a b c, .bool true]) (by simp [results, Try.results13, go_sem, agg4]) rfl ⟨jkRet_yes (HOK.out.trans hp) hR hH hC, ?_⟩
        (repeat (first | exact Below.refl _ _ | assumption | refine below_dr ?_ _ | refine Below.alloc ?_ (by first | omega | (simp; done) | (simp; omega)) _ | refine Below.setCell ?_ (by first | omega | (simp; done) | (simp; omega)) _ | refine Below.trans ?_ (Below.mono (by assumption) (by first | omega | (simp; done) | (simp; omega)))))
end Go.Proofs.Ytjcofdengndhgaa
