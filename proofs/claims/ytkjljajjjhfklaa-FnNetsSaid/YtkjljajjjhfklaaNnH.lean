/- Nets, the law: BoxNet walked. -/
import Derived.Test.YtkjljajjjhfklaaNnE
import Derived.Test.YtkjljajjjhfklaaNnP
namespace Go.Proofs.Ytkjljajjjhfklaa
open Go.RowKit Go.Fl
/-- the i-th spot of a box -/
def boxS (x y z i : Nat) : Sp := (can .f32 (if i % 2 = 1 then x else 0), can .f32 (if i / 2 % 2 = 1 then y else 0), can .f32 (if i / 4 % 2 = 1 then z else 0))
def boxP (x y z k : Nat) : List Sp := (List.range k).map (boxS x y z)
theorem boxP_succ (x y z k : Nat) : boxP x y z (k + 1) = boxP x y z k ++ [boxS x y z k] := by simp [boxP, List.range_succ]
theorem boxP_len (x y z k : Nat) : (boxP x y z k).length = k := by simp [boxP]
set_option maxRecDepth 100000 in
theorem areFinite1N (x : Nat) (w : World) : Calls Try.prog 78 #[.float .f32 x] w fun e w' => e = .returned (.bool (!fin (can .f32 x))) ∧ ∃ n, w' = w.drewN n := by
  go_enter Try.func78, Try.ntmps78
  go_wp2_with (go_at_call 74; refine (implIsFinite _ _).mono ?_; rintro e w' ⟨rfl, n, rfl⟩)
  all_goals
    go_ret
    exact ⟨ret_bool (by simp [*]), _, rfl⟩
theorem any_notN (p : Nat → Bool) (xs : List Nat) : (!xs.any fun x => !p x) = xs.all p := by
  induction xs with
  | nil => rfl
  | cons x xs ih => simp only [List.any_cons, List.all_cons, ← ih]; cases p x <;> simp
set_option maxRecDepth 100000 in
theorem areFiniteN (xs : List Nat) (v : Value) (w : World) (hs : SlF w v xs) :
    Calls Try.prog 62 #[v] w fun e w' => e = .returned (.bool (xs.all fun x => fin (can .f32 x))) ∧ ∃ n, w' = w.drewN n := by
  have HS := Lib.hid hs
  clear hs
  go_enter Try.func62, Try.ntmps62
  go_wp2_with fail
  refine (containsFunc _ _ (fun _ _ => rfl) (fun x w => areFinite1N x w) xs v _ HS.out).mono ?_
  rintro e w' ⟨rfl, n, rfl⟩
  go_wp2_with fail
  go_ret
  exact ⟨ret_bool (any_notN _ _), _, rfl⟩
/-- a fresh array of four numbers, as a slice -/
theorem arrI (w : World) (a b c d : Int) (t : TypeId) : SlI (w.alloc (.cells #[.int .i64 a, .int .i64 b, .int .i64 c, .int .i64 d] t)).drew w.heap.size (w.heap.size + 1) (some ⟨w.heap.size, 0, none⟩) [a, b, c, d] := fun _ => by
  refine ⟨w.heap.size, 0, rfl, Nat.le_refl _, Nat.lt_succ_self _, fun i hi => ?_⟩
  have hO : OwnC (w.alloc (.cells #[.int .i64 a, .int .i64 b, .int .i64 c, .int .i64 d] t)) w.heap.size #[.int .i64 a, .int .i64 b, .int .i64 c, .int .i64 d] t := OwnC.new rfl
  have hc := hO.cell i
  simp at hi
  rw [Nat.zero_add]
  rcases (by omega : i = 0 ∨ i = 1 ∨ i = 2 ∨ i = 3) with rfl | rfl | rfl | rfl <;> exact hc
set_option maxHeartbeats 8000000 in
set_option maxRecDepth 100000 in
theorem boxNetN (x y z : Nat) (hx : fin (can .f32 x) = true) (hy : fin (can .f32 y) = true) (hz : fin (can .f32 z) = true) (w : World) :
    Calls Try.prog 21 #[.float .f32 x, .float .f32 y, .float .f32 z] w (RetN (boxP x y z 8) boxF true w) := by
  have HX := Lib.hid hx
  have HY := Lib.hid hy
  have HZ := Lib.hid hz
  have hR0 : OwnC (w.alloc (.cells #[.slice none 0 0, .slice none 0 0] 27)) w.heap.size #[.slice none 0 0, .slice none 0 0] 27 := OwnC.new rfl
  obtain ⟨wb, hwb⟩ : ∃ wb, wb = ((w.alloc (.cells #[.slice none 0 0, .slice none 0 0] 27)).alloc (.cells #[.slice none 0 0, .slice none 0 0] 27)) := ⟨_, rfl⟩
  have hO : OwnC wb (w.heap.size + 1) #[.slice none 0 0, .slice none 0 0] 27 := by rw [hwb]; exact OwnC.new (by simp)
  have HR : Hid (OwnC wb w.heap.size #[.slice none 0 0, .slice none 0 0] 27) := Lib.hid (by rw [hwb]; exact hR0.alloc _)
  have HB : Hid (Below w.heap.size w wb) := Lib.hid (by rw [hwb]; exact ((Below.refl _ _).alloc (Nat.le_refl _) _).alloc (by simp) _)
  have hzb : wb.heap.size = w.heap.size + 1 + 1 := by rw [hwb]; simp
  have HO := Lib.hid hO
  clear hR0 hO hx hy hz
  go_enter Try.func21, Try.ntmps21
  go_wp2_with fail
  rw [← hwb]
  clear hwb
  go_loopw [14] (fun iv wr => ∃ (j : Nat) (v : Value) (cs : List Value), j ≤ 8 ∧ iv = .int .i64 j ∧ Hid (SpI wb wr (w.heap.size + 1) (.slice none 0 0) v j (boxP x y z j) cs)) (fun iv _ => 8 - (intOf iv).toNat)
  case atStart => exact ⟨0, _, _, by omega, rfl, Lib.hid (SpI.start HO.out)⟩
  case round =>
    obtain ⟨j, v, cs, hj, rfl, HI⟩ := hrel
    have hzr := HI.out.ch.size
    have o0 := HI.out.own.cell 0
    have of := HI.out.own.free 0
    simp at o0
    by_cases hlt : j < 8
    · have HROW : Hid (∀ o1 o2, ORow0 ((wr.alloc o1).alloc o2) 46 3 v j cs) := Lib.hid fun a b => ORow0.below HI.out.row (((Below.refl _ _).alloc (Nat.le_refl _) _).alloc (by simp) _)
      have HBe : Hid (∀ o1 o2, Below wr.heap.size wr ((wr.alloc o1).alloc o2)) := Lib.hid fun a b => ((Below.refl _ _).alloc (Nat.le_refl _) _).alloc (by simp) _
      have hol : w.heap.size + 1 < wr.heap.size := by omega
      have o0a : (wr.alloc (.cells #[.float .f32 0, .float .f32 0, .float .f32 0] 46)).cell? ⟨w.heap.size + 1, 0, none⟩ = some v := keep_alloc _ o0
      --[[
      rcases (by omega : j = 0 ∨ j = 1 ∨ j = 2 ∨ j = 3 ∨ j = 4 ∨ j = 5 ∨ j = 6 ∨ j = 7) with rfl | rfl | rfl | rfl | rfl | rfl | rfl | rfl
      · go_wp2_with (at_builtin; refine wpList_app0 rfl _ _ _ rfl 46 (.agg #[.float .f32 0, .float .f32 0, .float .f32 0]) 3 12 Try.underlying24 infoSpot' rfl (by decide) _ v 0 cs rfl (HROW.out _ _) ⟨wr.heap.size + 1, 0, none⟩ 1 1 [.float .f32 0, .float .f32 0, .float .f32 0] rfl rfl (World.news_of_block (by have := heap_alloc_new (wr.alloc (.cells #[.float .f32 0, .float .f32 0, .float .f32 0] 46)) (.cells #[.float .f32 0, .float .f32 0, .float .f32 0] 46); rw [World.size_alloc] at this; exact this)) (by simp [Value.oneCell']) (by decide) (by omega) (by decide) ?_; intro b7 c7 w7 hr7 hb7 hl7 hg7; have HST := Lib.hid (HI.out.step (rs := [boxS x y z 0]) (by omega) (HBe.out _ _) rfl hg7 hr7 hb7 (HI.out.sp.snoc HI.out.clen rfl)); have o17 := HST.out.own7.cell 0; have o17f := HST.out.own7.free 0; simp at o17; clear hr7 hb7 hg7)
        go_roundw
        all_goals first
          | exact ⟨1, _, _, by omega, by go_num, Lib.hid (by rw [boxP_succ]; exact HST.out.i)⟩
          | (simp [intOf])
      · go_wp2_with (at_builtin; refine wpList_app0 rfl _ _ _ rfl 46 (.agg #[.float .f32 0, .float .f32 0, .float .f32 0]) 3 12 Try.underlying24 infoSpot' rfl (by decide) _ v 1 cs rfl (HROW.out _ _) ⟨wr.heap.size + 1, 0, none⟩ 1 1 [.float .f32 x, .float .f32 0, .float .f32 0] rfl rfl (World.news_of_block (by have := heap_alloc_new (wr.alloc (.cells #[.float .f32 x, .float .f32 0, .float .f32 0] 46)) (.cells #[.float .f32 x, .float .f32 0, .float .f32 0] 46); rw [World.size_alloc] at this; exact this)) (by simp [Value.oneCell']) (by decide) (by omega) (by decide) ?_; intro b7 c7 w7 hr7 hb7 hl7 hg7; have HST := Lib.hid (HI.out.step (rs := [boxS x y z 1]) (by omega) (HBe.out _ _) rfl hg7 hr7 hb7 (HI.out.sp.snoc HI.out.clen rfl)); have o17 := HST.out.own7.cell 0; have o17f := HST.out.own7.free 0; simp at o17; clear hr7 hb7 hg7)
        go_roundw
        all_goals first
          | exact ⟨2, _, _, by omega, by go_num, Lib.hid (by rw [boxP_succ]; exact HST.out.i)⟩
          | (simp [intOf])
      · go_wp2_with (at_builtin; refine wpList_app0 rfl _ _ _ rfl 46 (.agg #[.float .f32 0, .float .f32 0, .float .f32 0]) 3 12 Try.underlying24 infoSpot' rfl (by decide) _ v 2 cs rfl (HROW.out _ _) ⟨wr.heap.size + 1, 0, none⟩ 1 1 [.float .f32 0, .float .f32 y, .float .f32 0] rfl rfl (World.news_of_block (by have := heap_alloc_new (wr.alloc (.cells #[.float .f32 0, .float .f32 y, .float .f32 0] 46)) (.cells #[.float .f32 0, .float .f32 y, .float .f32 0] 46); rw [World.size_alloc] at this; exact this)) (by simp [Value.oneCell']) (by decide) (by omega) (by decide) ?_; intro b7 c7 w7 hr7 hb7 hl7 hg7; have HST := Lib.hid (HI.out.step (rs := [boxS x y z 2]) (by omega) (HBe.out _ _) rfl hg7 hr7 hb7 (HI.out.sp.snoc HI.out.clen rfl)); have o17 := HST.out.own7.cell 0; have o17f := HST.out.own7.free 0; simp at o17; clear hr7 hb7 hg7)
        go_roundw
        all_goals first
          | exact ⟨3, _, _, by omega, by go_num, Lib.hid (by rw [boxP_succ]; exact HST.out.i)⟩
          | (simp [intOf])
      · go_wp2_with (at_builtin; refine wpList_app0 rfl _ _ _ rfl 46 (.agg #[.float .f32 0, .float .f32 0, .float .f32 0]) 3 12 Try.underlying24 infoSpot' rfl (by decide) _ v 3 cs rfl (HROW.out _ _) ⟨wr.heap.size + 1, 0, none⟩ 1 1 [.float .f32 x, .float .f32 y, .float .f32 0] rfl rfl (World.news_of_block (by have := heap_alloc_new (wr.alloc (.cells #[.float .f32 x, .float .f32 y, .float .f32 0] 46)) (.cells #[.float .f32 x, .float .f32 y, .float .f32 0] 46); rw [World.size_alloc] at this; exact this)) (by simp [Value.oneCell']) (by decide) (by omega) (by decide) ?_; intro b7 c7 w7 hr7 hb7 hl7 hg7; have HST := Lib.hid (HI.out.step (rs := [boxS x y z 3]) (by omega) (HBe.out _ _) rfl hg7 hr7 hb7 (HI.out.sp.snoc HI.out.clen rfl)); have o17 := HST.out.own7.cell 0; have o17f := HST.out.own7.free 0; simp at o17; clear hr7 hb7 hg7)
        go_roundw
        all_goals first
          | exact ⟨4, _, _, by omega, by go_num, Lib.hid (by rw [boxP_succ]; exact HST.out.i)⟩
          | (simp [intOf])
      · go_wp2_with (at_builtin; refine wpList_app0 rfl _ _ _ rfl 46 (.agg #[.float .f32 0, .float .f32 0, .float .f32 0]) 3 12 Try.underlying24 infoSpot' rfl (by decide) _ v 4 cs rfl (HROW.out _ _) ⟨wr.heap.size + 1, 0, none⟩ 1 1 [.float .f32 0, .float .f32 0, .float .f32 z] rfl rfl (World.news_of_block (by have := heap_alloc_new (wr.alloc (.cells #[.float .f32 0, .float .f32 0, .float .f32 z] 46)) (.cells #[.float .f32 0, .float .f32 0, .float .f32 z] 46); rw [World.size_alloc] at this; exact this)) (by simp [Value.oneCell']) (by decide) (by omega) (by decide) ?_; intro b7 c7 w7 hr7 hb7 hl7 hg7; have HST := Lib.hid (HI.out.step (rs := [boxS x y z 4]) (by omega) (HBe.out _ _) rfl hg7 hr7 hb7 (HI.out.sp.snoc HI.out.clen rfl)); have o17 := HST.out.own7.cell 0; have o17f := HST.out.own7.free 0; simp at o17; clear hr7 hb7 hg7)
        go_roundw
        all_goals first
          | exact ⟨5, _, _, by omega, by go_num, Lib.hid (by rw [boxP_succ]; exact HST.out.i)⟩
          | (simp [intOf])
      · go_wp2_with (at_builtin; refine wpList_app0 rfl _ _ _ rfl 46 (.agg #[.float .f32 0, .float .f32 0, .float .f32 0]) 3 12 Try.underlying24 infoSpot' rfl (by decide) _ v 5 cs rfl (HROW.out _ _) ⟨wr.heap.size + 1, 0, none⟩ 1 1 [.float .f32 x, .float .f32 0, .float .f32 z] rfl rfl (World.news_of_block (by have := heap_alloc_new (wr.alloc (.cells #[.float .f32 x, .float .f32 0, .float .f32 z] 46)) (.cells #[.float .f32 x, .float .f32 0, .float .f32 z] 46); rw [World.size_alloc] at this; exact this)) (by simp [Value.oneCell']) (by decide) (by omega) (by decide) ?_; intro b7 c7 w7 hr7 hb7 hl7 hg7; have HST := Lib.hid (HI.out.step (rs := [boxS x y z 5]) (by omega) (HBe.out _ _) rfl hg7 hr7 hb7 (HI.out.sp.snoc HI.out.clen rfl)); have o17 := HST.out.own7.cell 0; have o17f := HST.out.own7.free 0; simp at o17; clear hr7 hb7 hg7)
        go_roundw
        all_goals first
          | exact ⟨6, _, _, by omega, by go_num, Lib.hid (by rw [boxP_succ]; exact HST.out.i)⟩
          | (simp [intOf])
      · go_wp2_with (at_builtin; refine wpList_app0 rfl _ _ _ rfl 46 (.agg #[.float .f32 0, .float .f32 0, .float .f32 0]) 3 12 Try.underlying24 infoSpot' rfl (by decide) _ v 6 cs rfl (HROW.out _ _) ⟨wr.heap.size + 1, 0, none⟩ 1 1 [.float .f32 0, .float .f32 y, .float .f32 z] rfl rfl (World.news_of_block (by have := heap_alloc_new (wr.alloc (.cells #[.float .f32 0, .float .f32 y, .float .f32 z] 46)) (.cells #[.float .f32 0, .float .f32 y, .float .f32 z] 46); rw [World.size_alloc] at this; exact this)) (by simp [Value.oneCell']) (by decide) (by omega) (by decide) ?_; intro b7 c7 w7 hr7 hb7 hl7 hg7; have HST := Lib.hid (HI.out.step (rs := [boxS x y z 6]) (by omega) (HBe.out _ _) rfl hg7 hr7 hb7 (HI.out.sp.snoc HI.out.clen rfl)); have o17 := HST.out.own7.cell 0; have o17f := HST.out.own7.free 0; simp at o17; clear hr7 hb7 hg7)
        go_roundw
        all_goals first
          | exact ⟨7, _, _, by omega, by go_num, Lib.hid (by rw [boxP_succ]; exact HST.out.i)⟩
          | (simp [intOf])
      · go_wp2_with (at_builtin; refine wpList_app0 rfl _ _ _ rfl 46 (.agg #[.float .f32 0, .float .f32 0, .float .f32 0]) 3 12 Try.underlying24 infoSpot' rfl (by decide) _ v 7 cs rfl (HROW.out _ _) ⟨wr.heap.size + 1, 0, none⟩ 1 1 [.float .f32 x, .float .f32 y, .float .f32 z] rfl rfl (World.news_of_block (by have := heap_alloc_new (wr.alloc (.cells #[.float .f32 x, .float .f32 y, .float .f32 z] 46)) (.cells #[.float .f32 x, .float .f32 y, .float .f32 z] 46); rw [World.size_alloc] at this; exact this)) (by simp [Value.oneCell']) (by decide) (by omega) (by decide) ?_; intro b7 c7 w7 hr7 hb7 hl7 hg7; have HST := Lib.hid (HI.out.step (rs := [boxS x y z 7]) (by omega) (HBe.out _ _) rfl hg7 hr7 hb7 (HI.out.sp.snoc HI.out.clen rfl)); have o17 := HST.out.own7.cell 0; have o17f := HST.out.own7.free 0; simp at o17; clear hr7 hb7 hg7)
        go_roundw
        all_goals first
          | exact ⟨8, _, _, by omega, by go_num, Lib.hid (by rw [boxP_succ]; exact HST.out.i)⟩
          | (simp [intOf])
      --]]
    · obtain rfl : j = 8 := by omega
      have HI0 := Lib.hid HI.out
      obtain ⟨bv, cv, rfl, hrow⟩ := ORow0.form HI.out.row (by omega)
      have hnew := HI.out.new bv rfl
      obtain ⟨wd, hwd⟩ : ∃ x : World, x = wr := ⟨_, rfl⟩
      rw [← hwd] at HI hzr hrow o0 of ⊢
      have HCP : Hid (CpX wd wd (w.heap.size + 1) (.slice (some ⟨bv, 0, none⟩) 8 cv) boxF 0 (.slice none 0 0) (fun _ => 0) []) := Lib.hid (CpX.start HI.out.own)
      have hwr : wr.heap.size = wd.heap.size := by rw [hwd]
      clear HI0 o0 of hwd hlt hwr
      go_wp2_with fail
      go_loopw [49] (fun iv wr => ∃ (k : Nat) (v : Value) (g : Nat → Nat) (cs2 : List Value), k ≤ 6 ∧ iv = .int .i64 k ∧ Hid (CpX wd wr (w.heap.size + 1) (.slice (some ⟨bv, 0, none⟩) 8 cv) boxF k v g cs2)) (fun iv _ => 6 - (intOf iv).toNat)
      case atStart => exact ⟨0, _, _, _, by omega, rfl, HCP⟩
      case round =>
        clear HCP
        obtain ⟨k, v, g, cs2, hk, rfl, HC⟩ := hrel
        have hzr2 := HC.out.ch.size
        have o1 := HC.out.own.cell 1
        have of := HC.out.own.free 1
        simp at o1
        by_cases hlt : k < 6
        · have hol : w.heap.size + 1 < wr.heap.size := by omega
          have HAL : Hid (∀ o, Below wr.heap.size wr (wr.alloc o).drew) := Lib.hid fun o => below_dr ((Below.refl _ _).alloc (Nat.le_refl _) _) 1
          --[[
          rcases (by omega : k = 0 ∨ k = 1 ∨ k = 2 ∨ k = 3 ∨ k = 4 ∨ k = 5) with rfl | rfl | rfl | rfl | rfl | rfl
          · have hix : ∀ W : World, Sem.run Try.prog (Instr.index 98 (.agg #[.int .i64 0, .int .i64 2, .int .i64 3, .int .i64 1, .int .i64 4, .int .i64 5, .int .i64 7, .int .i64 6, .int .i64 0, .int .i64 1, .int .i64 5, .int .i64 4, .int .i64 2, .int .i64 6, .int .i64 7, .int .i64 3, .int .i64 0, .int .i64 4, .int .i64 6, .int .i64 2, .int .i64 1, .int .i64 3, .int .i64 7, .int .i64 5]) (.int .i64 0)) W = .ok (.agg #[.int .i64 0, .int .i64 2, .int .i64 3, .int .i64 1]) W := fun _ => by kernel_rfl
            have HSA : Hid (SlI (wr.alloc (.cells #[.int .i64 0, .int .i64 2, .int .i64 3, .int .i64 1] 97)).drew wr.heap.size (wr.heap.size + 1) (some ⟨wr.heap.size, 0, none⟩) [0, 2, 3, 1]) := Lib.hid (arrI wr _ _ _ _ _)
            have o1a := keep_alloc (.cells #[.int .i64 0, .int .i64 2, .int .i64 3, .int .i64 1] 97) o1
            go_upto_region 17 with fail
            go_region_law (first
              | (go_simp; go_at_call 61; (refine (cloneI wr.heap.size (wr.heap.size + 1) (some ⟨wr.heap.size, 0, none⟩) 4 [0, 2, 3, 1] (by decide) (by decide) _ HSA.out (by simp)).mono ?_); rintro e w6 ⟨⟨nb, ncap, rfl, hn1, hn2, hr6⟩, hb6⟩; have B6 : Below wr.heap.size wr w6 := (HAL.out _).trans (hb6.mono (by simp)); have HB6 := Lib.hid B6; have HR6 := Lib.hid hr6; have hnw : wr.heap.size ≤ nb := (by simp at hn1; omega); have o16 := keep_cell B6 o1; have o16a := keep_alloc (.cells #[.slice (some ⟨nb, 0, none⟩) 4 ncap] 38) o16; have HRV : Hid (ORow0 (w6.alloc (.cells #[.slice (some ⟨nb, 0, none⟩) 4 ncap] 38)) 38 1 v 0 cs2) := Lib.hid (ORow0.below HC.out.row (B6.alloc B6.size _)); clear hr6 hb6 B6)
              | (refine step_app0 rfl _ _ _ rfl 38 (.agg #[.slice none 0 0]) 1 24 Try.underlying25 infoFacet rfl (by decide) v 0 cs2 rfl HRV.out ⟨w6.heap.size, 0, none⟩ 1 1 [.slice (some ⟨nb, 0, none⟩) 4 ncap] rfl rfl (World.news_of_block (heap_alloc_new w6 _)) (by simp [Value.oneCell']) (by decide) (by omega) (by decide) ?_; intro b7 c7 w7 hr7 hb7 hl7 hg7; have HST := Lib.hid (HC.out.step (w6 := w6) (b6 := nb) (c6 := ncap) (by omega) HB6.out HR6.out hnw hg7 hr7 (by simpa using hb7)); have o17 := HST.out.own7.cell 1; have o17f := HST.out.own7.free 1; simp at o17; clear hr7 hb7 hg7))
            all_goals (try go_wp2_with fail)
            all_goals
              refine ⟨?_, ?_⟩
              · repeat apply Exists.intro
                refine ⟨?_, rfl⟩
                exact ⟨1, _, _, _, by omega, rfl, Lib.hid HST.out.i⟩
              · simp [intOf]
          · have hix : ∀ W : World, Sem.run Try.prog (Instr.index 98 (.agg #[.int .i64 0, .int .i64 2, .int .i64 3, .int .i64 1, .int .i64 4, .int .i64 5, .int .i64 7, .int .i64 6, .int .i64 0, .int .i64 1, .int .i64 5, .int .i64 4, .int .i64 2, .int .i64 6, .int .i64 7, .int .i64 3, .int .i64 0, .int .i64 4, .int .i64 6, .int .i64 2, .int .i64 1, .int .i64 3, .int .i64 7, .int .i64 5]) (.int .i64 1)) W = .ok (.agg #[.int .i64 4, .int .i64 5, .int .i64 7, .int .i64 6]) W := fun _ => by kernel_rfl
            have HSA : Hid (SlI (wr.alloc (.cells #[.int .i64 4, .int .i64 5, .int .i64 7, .int .i64 6] 97)).drew wr.heap.size (wr.heap.size + 1) (some ⟨wr.heap.size, 0, none⟩) [4, 5, 7, 6]) := Lib.hid (arrI wr _ _ _ _ _)
            have o1a := keep_alloc (.cells #[.int .i64 4, .int .i64 5, .int .i64 7, .int .i64 6] 97) o1
            go_upto_region 17 with fail
            go_region_law (first
              | (go_simp; go_at_call 61; (refine (cloneI wr.heap.size (wr.heap.size + 1) (some ⟨wr.heap.size, 0, none⟩) 4 [4, 5, 7, 6] (by decide) (by decide) _ HSA.out (by simp)).mono ?_); rintro e w6 ⟨⟨nb, ncap, rfl, hn1, hn2, hr6⟩, hb6⟩; have B6 : Below wr.heap.size wr w6 := (HAL.out _).trans (hb6.mono (by simp)); have HB6 := Lib.hid B6; have HR6 := Lib.hid hr6; have hnw : wr.heap.size ≤ nb := (by simp at hn1; omega); have o16 := keep_cell B6 o1; have o16a := keep_alloc (.cells #[.slice (some ⟨nb, 0, none⟩) 4 ncap] 38) o16; have HRV : Hid (ORow0 (w6.alloc (.cells #[.slice (some ⟨nb, 0, none⟩) 4 ncap] 38)) 38 1 v 1 cs2) := Lib.hid (ORow0.below HC.out.row (B6.alloc B6.size _)); clear hr6 hb6 B6)
              | (refine step_app0 rfl _ _ _ rfl 38 (.agg #[.slice none 0 0]) 1 24 Try.underlying25 infoFacet rfl (by decide) v 1 cs2 rfl HRV.out ⟨w6.heap.size, 0, none⟩ 1 1 [.slice (some ⟨nb, 0, none⟩) 4 ncap] rfl rfl (World.news_of_block (heap_alloc_new w6 _)) (by simp [Value.oneCell']) (by decide) (by omega) (by decide) ?_; intro b7 c7 w7 hr7 hb7 hl7 hg7; have HST := Lib.hid (HC.out.step (w6 := w6) (b6 := nb) (c6 := ncap) (by omega) HB6.out HR6.out hnw hg7 hr7 (by simpa using hb7)); have o17 := HST.out.own7.cell 1; have o17f := HST.out.own7.free 1; simp at o17; clear hr7 hb7 hg7))
            all_goals (try go_wp2_with fail)
            all_goals
              refine ⟨?_, ?_⟩
              · repeat apply Exists.intro
                refine ⟨?_, rfl⟩
                exact ⟨2, _, _, _, by omega, rfl, Lib.hid HST.out.i⟩
              · simp [intOf]
          · have hix : ∀ W : World, Sem.run Try.prog (Instr.index 98 (.agg #[.int .i64 0, .int .i64 2, .int .i64 3, .int .i64 1, .int .i64 4, .int .i64 5, .int .i64 7, .int .i64 6, .int .i64 0, .int .i64 1, .int .i64 5, .int .i64 4, .int .i64 2, .int .i64 6, .int .i64 7, .int .i64 3, .int .i64 0, .int .i64 4, .int .i64 6, .int .i64 2, .int .i64 1, .int .i64 3, .int .i64 7, .int .i64 5]) (.int .i64 2)) W = .ok (.agg #[.int .i64 0, .int .i64 1, .int .i64 5, .int .i64 4]) W := fun _ => by kernel_rfl
            have HSA : Hid (SlI (wr.alloc (.cells #[.int .i64 0, .int .i64 1, .int .i64 5, .int .i64 4] 97)).drew wr.heap.size (wr.heap.size + 1) (some ⟨wr.heap.size, 0, none⟩) [0, 1, 5, 4]) := Lib.hid (arrI wr _ _ _ _ _)
            have o1a := keep_alloc (.cells #[.int .i64 0, .int .i64 1, .int .i64 5, .int .i64 4] 97) o1
            go_upto_region 17 with fail
            go_region_law (first
              | (go_simp; go_at_call 61; (refine (cloneI wr.heap.size (wr.heap.size + 1) (some ⟨wr.heap.size, 0, none⟩) 4 [0, 1, 5, 4] (by decide) (by decide) _ HSA.out (by simp)).mono ?_); rintro e w6 ⟨⟨nb, ncap, rfl, hn1, hn2, hr6⟩, hb6⟩; have B6 : Below wr.heap.size wr w6 := (HAL.out _).trans (hb6.mono (by simp)); have HB6 := Lib.hid B6; have HR6 := Lib.hid hr6; have hnw : wr.heap.size ≤ nb := (by simp at hn1; omega); have o16 := keep_cell B6 o1; have o16a := keep_alloc (.cells #[.slice (some ⟨nb, 0, none⟩) 4 ncap] 38) o16; have HRV : Hid (ORow0 (w6.alloc (.cells #[.slice (some ⟨nb, 0, none⟩) 4 ncap] 38)) 38 1 v 2 cs2) := Lib.hid (ORow0.below HC.out.row (B6.alloc B6.size _)); clear hr6 hb6 B6)
              | (refine step_app0 rfl _ _ _ rfl 38 (.agg #[.slice none 0 0]) 1 24 Try.underlying25 infoFacet rfl (by decide) v 2 cs2 rfl HRV.out ⟨w6.heap.size, 0, none⟩ 1 1 [.slice (some ⟨nb, 0, none⟩) 4 ncap] rfl rfl (World.news_of_block (heap_alloc_new w6 _)) (by simp [Value.oneCell']) (by decide) (by omega) (by decide) ?_; intro b7 c7 w7 hr7 hb7 hl7 hg7; have HST := Lib.hid (HC.out.step (w6 := w6) (b6 := nb) (c6 := ncap) (by omega) HB6.out HR6.out hnw hg7 hr7 (by simpa using hb7)); have o17 := HST.out.own7.cell 1; have o17f := HST.out.own7.free 1; simp at o17; clear hr7 hb7 hg7))
            all_goals (try go_wp2_with fail)
            all_goals
              refine ⟨?_, ?_⟩
              · repeat apply Exists.intro
                refine ⟨?_, rfl⟩
                exact ⟨3, _, _, _, by omega, rfl, Lib.hid HST.out.i⟩
              · simp [intOf]
          · have hix : ∀ W : World, Sem.run Try.prog (Instr.index 98 (.agg #[.int .i64 0, .int .i64 2, .int .i64 3, .int .i64 1, .int .i64 4, .int .i64 5, .int .i64 7, .int .i64 6, .int .i64 0, .int .i64 1, .int .i64 5, .int .i64 4, .int .i64 2, .int .i64 6, .int .i64 7, .int .i64 3, .int .i64 0, .int .i64 4, .int .i64 6, .int .i64 2, .int .i64 1, .int .i64 3, .int .i64 7, .int .i64 5]) (.int .i64 3)) W = .ok (.agg #[.int .i64 2, .int .i64 6, .int .i64 7, .int .i64 3]) W := fun _ => by kernel_rfl
            have HSA : Hid (SlI (wr.alloc (.cells #[.int .i64 2, .int .i64 6, .int .i64 7, .int .i64 3] 97)).drew wr.heap.size (wr.heap.size + 1) (some ⟨wr.heap.size, 0, none⟩) [2, 6, 7, 3]) := Lib.hid (arrI wr _ _ _ _ _)
            have o1a := keep_alloc (.cells #[.int .i64 2, .int .i64 6, .int .i64 7, .int .i64 3] 97) o1
            go_upto_region 17 with fail
            go_region_law (first
              | (go_simp; go_at_call 61; (refine (cloneI wr.heap.size (wr.heap.size + 1) (some ⟨wr.heap.size, 0, none⟩) 4 [2, 6, 7, 3] (by decide) (by decide) _ HSA.out (by simp)).mono ?_); rintro e w6 ⟨⟨nb, ncap, rfl, hn1, hn2, hr6⟩, hb6⟩; have B6 : Below wr.heap.size wr w6 := (HAL.out _).trans (hb6.mono (by simp)); have HB6 := Lib.hid B6; have HR6 := Lib.hid hr6; have hnw : wr.heap.size ≤ nb := (by simp at hn1; omega); have o16 := keep_cell B6 o1; have o16a := keep_alloc (.cells #[.slice (some ⟨nb, 0, none⟩) 4 ncap] 38) o16; have HRV : Hid (ORow0 (w6.alloc (.cells #[.slice (some ⟨nb, 0, none⟩) 4 ncap] 38)) 38 1 v 3 cs2) := Lib.hid (ORow0.below HC.out.row (B6.alloc B6.size _)); clear hr6 hb6 B6)
              | (refine step_app0 rfl _ _ _ rfl 38 (.agg #[.slice none 0 0]) 1 24 Try.underlying25 infoFacet rfl (by decide) v 3 cs2 rfl HRV.out ⟨w6.heap.size, 0, none⟩ 1 1 [.slice (some ⟨nb, 0, none⟩) 4 ncap] rfl rfl (World.news_of_block (heap_alloc_new w6 _)) (by simp [Value.oneCell']) (by decide) (by omega) (by decide) ?_; intro b7 c7 w7 hr7 hb7 hl7 hg7; have HST := Lib.hid (HC.out.step (w6 := w6) (b6 := nb) (c6 := ncap) (by omega) HB6.out HR6.out hnw hg7 hr7 (by simpa using hb7)); have o17 := HST.out.own7.cell 1; have o17f := HST.out.own7.free 1; simp at o17; clear hr7 hb7 hg7))
            all_goals (try go_wp2_with fail)
            all_goals
              refine ⟨?_, ?_⟩
              · repeat apply Exists.intro
                refine ⟨?_, rfl⟩
                exact ⟨4, _, _, _, by omega, rfl, Lib.hid HST.out.i⟩
              · simp [intOf]
          · have hix : ∀ W : World, Sem.run Try.prog (Instr.index 98 (.agg #[.int .i64 0, .int .i64 2, .int .i64 3, .int .i64 1, .int .i64 4, .int .i64 5, .int .i64 7, .int .i64 6, .int .i64 0, .int .i64 1, .int .i64 5, .int .i64 4, .int .i64 2, .int .i64 6, .int .i64 7, .int .i64 3, .int .i64 0, .int .i64 4, .int .i64 6, .int .i64 2, .int .i64 1, .int .i64 3, .int .i64 7, .int .i64 5]) (.int .i64 4)) W = .ok (.agg #[.int .i64 0, .int .i64 4, .int .i64 6, .int .i64 2]) W := fun _ => by kernel_rfl
            have HSA : Hid (SlI (wr.alloc (.cells #[.int .i64 0, .int .i64 4, .int .i64 6, .int .i64 2] 97)).drew wr.heap.size (wr.heap.size + 1) (some ⟨wr.heap.size, 0, none⟩) [0, 4, 6, 2]) := Lib.hid (arrI wr _ _ _ _ _)
            have o1a := keep_alloc (.cells #[.int .i64 0, .int .i64 4, .int .i64 6, .int .i64 2] 97) o1
            go_upto_region 17 with fail
            go_region_law (first
              | (go_simp; go_at_call 61; (refine (cloneI wr.heap.size (wr.heap.size + 1) (some ⟨wr.heap.size, 0, none⟩) 4 [0, 4, 6, 2] (by decide) (by decide) _ HSA.out (by simp)).mono ?_); rintro e w6 ⟨⟨nb, ncap, rfl, hn1, hn2, hr6⟩, hb6⟩; have B6 : Below wr.heap.size wr w6 := (HAL.out _).trans (hb6.mono (by simp)); have HB6 := Lib.hid B6; have HR6 := Lib.hid hr6; have hnw : wr.heap.size ≤ nb := (by simp at hn1; omega); have o16 := keep_cell B6 o1; have o16a := keep_alloc (.cells #[.slice (some ⟨nb, 0, none⟩) 4 ncap] 38) o16; have HRV : Hid (ORow0 (w6.alloc (.cells #[.slice (some ⟨nb, 0, none⟩) 4 ncap] 38)) 38 1 v 4 cs2) := Lib.hid (ORow0.below HC.out.row (B6.alloc B6.size _)); clear hr6 hb6 B6)
              | (refine step_app0 rfl _ _ _ rfl 38 (.agg #[.slice none 0 0]) 1 24 Try.underlying25 infoFacet rfl (by decide) v 4 cs2 rfl HRV.out ⟨w6.heap.size, 0, none⟩ 1 1 [.slice (some ⟨nb, 0, none⟩) 4 ncap] rfl rfl (World.news_of_block (heap_alloc_new w6 _)) (by simp [Value.oneCell']) (by decide) (by omega) (by decide) ?_; intro b7 c7 w7 hr7 hb7 hl7 hg7; have HST := Lib.hid (HC.out.step (w6 := w6) (b6 := nb) (c6 := ncap) (by omega) HB6.out HR6.out hnw hg7 hr7 (by simpa using hb7)); have o17 := HST.out.own7.cell 1; have o17f := HST.out.own7.free 1; simp at o17; clear hr7 hb7 hg7))
            all_goals (try go_wp2_with fail)
            all_goals
              refine ⟨?_, ?_⟩
              · repeat apply Exists.intro
                refine ⟨?_, rfl⟩
                exact ⟨5, _, _, _, by omega, rfl, Lib.hid HST.out.i⟩
              · simp [intOf]
          · have hix : ∀ W : World, Sem.run Try.prog (Instr.index 98 (.agg #[.int .i64 0, .int .i64 2, .int .i64 3, .int .i64 1, .int .i64 4, .int .i64 5, .int .i64 7, .int .i64 6, .int .i64 0, .int .i64 1, .int .i64 5, .int .i64 4, .int .i64 2, .int .i64 6, .int .i64 7, .int .i64 3, .int .i64 0, .int .i64 4, .int .i64 6, .int .i64 2, .int .i64 1, .int .i64 3, .int .i64 7, .int .i64 5]) (.int .i64 5)) W = .ok (.agg #[.int .i64 1, .int .i64 3, .int .i64 7, .int .i64 5]) W := fun _ => by kernel_rfl
            have HSA : Hid (SlI (wr.alloc (.cells #[.int .i64 1, .int .i64 3, .int .i64 7, .int .i64 5] 97)).drew wr.heap.size (wr.heap.size + 1) (some ⟨wr.heap.size, 0, none⟩) [1, 3, 7, 5]) := Lib.hid (arrI wr _ _ _ _ _)
            have o1a := keep_alloc (.cells #[.int .i64 1, .int .i64 3, .int .i64 7, .int .i64 5] 97) o1
            go_upto_region 17 with fail
            go_region_law (first
              | (go_simp; go_at_call 61; (refine (cloneI wr.heap.size (wr.heap.size + 1) (some ⟨wr.heap.size, 0, none⟩) 4 [1, 3, 7, 5] (by decide) (by decide) _ HSA.out (by simp)).mono ?_); rintro e w6 ⟨⟨nb, ncap, rfl, hn1, hn2, hr6⟩, hb6⟩; have B6 : Below wr.heap.size wr w6 := (HAL.out _).trans (hb6.mono (by simp)); have HB6 := Lib.hid B6; have HR6 := Lib.hid hr6; have hnw : wr.heap.size ≤ nb := (by simp at hn1; omega); have o16 := keep_cell B6 o1; have o16a := keep_alloc (.cells #[.slice (some ⟨nb, 0, none⟩) 4 ncap] 38) o16; have HRV : Hid (ORow0 (w6.alloc (.cells #[.slice (some ⟨nb, 0, none⟩) 4 ncap] 38)) 38 1 v 5 cs2) := Lib.hid (ORow0.below HC.out.row (B6.alloc B6.size _)); clear hr6 hb6 B6)
              | (refine step_app0 rfl _ _ _ rfl 38 (.agg #[.slice none 0 0]) 1 24 Try.underlying25 infoFacet rfl (by decide) v 5 cs2 rfl HRV.out ⟨w6.heap.size, 0, none⟩ 1 1 [.slice (some ⟨nb, 0, none⟩) 4 ncap] rfl rfl (World.news_of_block (heap_alloc_new w6 _)) (by simp [Value.oneCell']) (by decide) (by omega) (by decide) ?_; intro b7 c7 w7 hr7 hb7 hl7 hg7; have HST := Lib.hid (HC.out.step (w6 := w6) (b6 := nb) (c6 := ncap) (by omega) HB6.out HR6.out hnw hg7 hr7 (by simpa using hb7)); have o17 := HST.out.own7.cell 1; have o17f := HST.out.own7.free 1; simp at o17; clear hr7 hb7 hg7))
            all_goals (try go_wp2_with fail)
            all_goals
              refine ⟨?_, ?_⟩
              · repeat apply Exists.intro
                refine ⟨?_, rfl⟩
                exact ⟨6, _, _, _, by omega, rfl, Lib.hid HST.out.i⟩
              · simp [intOf]
          --]]
        · obtain rfl : k = 6 := by omega
          have hI := HI.out
          obtain ⟨bf, cf, rfl, hrowF⟩ := ORow0.form HC.out.row (by omega)
          have hbf := HC.out.new bf rfl
          have hbv2 : bv < wd.heap.size := hrow.lt
          have hrS : ORow wr 46 3 bv cv 8 cs := hrow.far (lo := bv) (hi := bv + 1) (HC.out.ch.far (by omega) (fun c h1 h2 e => by omega)) (Nat.le_refl _) (Nat.lt_succ_self _)
          have hrS' : ORow wr 46 3 bv cv (boxP x y z 8).length cs := by rw [boxP_len]; exact hrS
          have hsp : SpL cs (boxP x y z 8) := hI.sp
          have hFN : OwnF wr wd.heap.size wr.heap.size bf g boxF := HC.out.fr.own hrowF hbf
          have hbl := hFN.row
          have hfin : (boxP x y z 8).all finSp = true := by
            have f0 : fin (can .f32 0) = true := by decide +kernel
            have h1 := HX.out
            have h2 := HY.out
            have h3 := HZ.out
            simp [boxP, boxS, List.range_succ, finSp, f0, h1, h2, h3]
          have hvz : okN (boxP x y z 8) boxF = true := okB_okN (by rw [boxP_len]; exact box_ok) hfin
          have hNW : ONet wr wb.heap.size wr.heap.size (some ⟨bv, 0, none⟩) (some ⟨bf, 0, none⟩) (boxP x y z 8) boxF :=
            ⟨⟨.inr ⟨bv, rfl, by omega, hrS.lt, hrS'.room, hrS'.spots hsp⟩⟩, .inr ⟨bf, g, rfl, hFN.wide (by omega) (Nat.le_refl _), fun b e => by cases e; exact ⟨by omega, fun i hi => by have := hFN.blk i hi; omega⟩⟩⟩
          have hCA : SlC wr wb.heap.size wr.heap.size (some ⟨bf, 0, none⟩) boxF := fun b off e => by
            cases e
            exact ⟨by omega, by omega, fun i hi ai n ci hc => hFN.cap i hi ai n ci (by rw [Nat.zero_add] at hc; exact hc)⟩
          have HG : Hid (∀ W, Below wr.heap.size wr W → Calls Try.prog 33 #[.agg #[.slice (some ⟨bv, 0, none⟩) 8 cv, .slice (some ⟨bf, 0, none⟩) 6 cf]] W fun e w' => e = .returned (.tuple #[.agg #[.slice (some ⟨bv, 0, none⟩) 8 cv, .slice (some ⟨bf, 0, none⟩) 6 cf], .bool true]) ∧ Below W.heap.size W w') := Lib.hid fun W hW => by
            have hf : Far wb.heap.size wr.heap.size wr W := Far.below hW (Nat.le_refl _)
            have hG := giveB wb.heap.size wr.heap.size (some ⟨bv, 0, none⟩) (some ⟨bf, 0, none⟩) cv cf (boxP x y z 8) boxF (by rw [boxP_len]; decide) (by decide) (by decide) W (hNW.far hf).net (hCA.far hf) hW.size
            rw [boxP_len, hvz] at hG
            exact hG
          have HNW := Lib.hid hNW
          have hch := HC.out.ch
          have HBW : Hid (Below w.heap.size w wr) := Lib.hid (((HB.out.trans (hI.ch.toBelow (by omega) (fun c hc => by omega)))).trans (hch.toBelow (by omega) (fun c hc => by omega)))
          have hRN : OwnC wr w.heap.size #[.slice none 0 0, .slice none 0 0] 27 := hch.own (hI.ch.own HR.out (by omega)) (by omega)
          have o0 := HC.out.own.cell 0
          simp at o0
          have H3 : Hid (Calls Try.prog 62 #[.slice (some ⟨wr.heap.size, 0, none⟩) 3 3] (wr.alloc (.cells #[.float .f32 x, .float .f32 y, .float .f32 z] 39)) fun e w' => e = .returned (.bool true) ∧ Below wr.heap.size wr w') := Lib.hid (by
            refine (areFiniteN [x, y, z] _ _ (slF_new wr [x, y, z] 39 wr.heap.size 3 rfl (by simp) _ rfl rfl)).mono ?_
            rintro e w' ⟨rfl, n, rfl⟩
            refine ⟨?_, below_dr ((Below.refl _ _).alloc (Nat.le_refl _) _) n⟩
            have h1 := HX.out
            have h2 := HY.out
            have h3 := HZ.out
            simp [h1, h2, h3])
          have HRN := Lib.hid hRN
          have hrl := hRN.lt
          clear hRN hNW hCA hFN hrowF hrow hrS hrS' hsp hvz hfin hch HC HI hI HO HR HB
          go_wp2_with (first
            | (go_at_call 62; refine H3.out.mono ?_; rintro e w8 ⟨rfl, hb8⟩; have B8 := hb8; have o08 := keep_cell B8 o0; have o18 := keep_cell B8 o1; clear hb8)
            | (go_at_call 33; refine (HG.out _ B8).mono ?_; rintro e w9 ⟨rfl, hb9⟩; have B9 : Below wr.heap.size wr w9 := B8.trans (hb9.mono B8.size); have R9 := HRN.out.below B9 hrl; have r0 := R9.cell 0; have r1 := R9.cell 1; have i0 := R9.free 0; have i1 := R9.free 1; simp at r0 r1; have HB9 := Lib.hid B9; clear hb9 B9))
          have R := (R9.set 0 (.slice (some ⟨bv, 0, none⟩) 8 cv)).set 1 (.slice (some ⟨bf, 0, none⟩) 6 cf)
          have q0 := R.cell 0
          have q1 := R.cell 1
          simp at q0 q1
          refine bodyPost_ret (v := .tuple #[.agg #[.slice (some ⟨bv, 0, none⟩) 8 cv, .slice (some ⟨bf, 0, none⟩) 6 cf], .bool true]) (by simp [results, Try.results21, go_sem, *]) rfl ?_
          have hfin : Far wb.heap.size wr.heap.size wr ((w9.setCell ⟨w.heap.size, 0, none⟩ (.slice (some ⟨bv, 0, none⟩) 8 cv)).setCell ⟨w.heap.size, 1, none⟩ (.slice (some ⟨bf, 0, none⟩) 6 cf)) := ((Far.below HB9.out (Nat.le_refl _)).set _ _ (by simp; omega)).set _ _ (by simp; omega)
          refine ⟨⟨some ⟨bv, 0, none⟩, some ⟨bf, 0, none⟩, cv, cf, by rw [boxP_len]; rfl, ?_⟩, ((HBW.out.trans (HB9.out.mono HBW.out.size)).setCell (by simp) _).setCell (by simp) _⟩
          have h8 := HB9.out.size
          have := HNW.out.far hfin
          simp only [World.size_setCell]
          exact this.wide (by omega) (by omega)
end Go.Proofs.Ytkjljajjjhfklaa
