/- Nets, the law: GridNet walked. -/
import Derived.Test.YtkjljajjjhfklaaNj22
namespace Go.Proofs.Ytkjljajjjhfklaa
open Go.RowKit Go.Fl
set_option maxRecDepth 100000 in
theorem withinN (x lo hi : Int) (w : World) : Calls Try.prog 52 #[.int .i64 x, .int .i64 lo, .int .i64 hi] w fun e w' => e = .returned (.bool (inB x lo hi)) ∧ w' = w := by
  by_cases h1 : lo ≤ x
  all_goals by_cases h2 : x ≤ hi
  all_goals
    go_enter Try.func52, Try.ntmps52
    go_wp2_with fail
    go_ret
    exact ⟨ret_bool (by simp [inB, h1, h2]), rfl⟩
/-- how many facets lie there before the spot (i, j) -/
def gridC (m n j i : Nat) : Nat := if j < n then j * m + min i m else n * m
theorem gridC_zero (m n j : Nat) : gridC m n j 0 = min j n * m := by
  unfold gridC
  by_cases h : j < n
  · rw [if_pos h, Nat.min_eq_left (Nat.le_of_lt h)]; omega
  · rw [if_neg h, Nat.min_eq_right (by omega)]
theorem gridC_in (m n j i : Nat) (hi : i < m) (hj : j < n) : gridC m n j i = j * m + i ∧ gridC m n j (i + 1) = j * m + i + 1 := by
  unfold gridC
  rw [if_pos hj, if_pos hj]
  omega
theorem gridC_out (m n j i : Nat) (h : ¬ (i < m ∧ j < n)) : gridC m n j (i + 1) = gridC m n j i := by
  unfold gridC
  split <;> omega
theorem gridC_end (m n j : Nat) : gridC m n j (m + 1) = min (j + 1) n * m := by
  unfold gridC
  by_cases h : j < n
  · rw [if_pos h, Nat.min_eq_left (show j + 1 ≤ n by omega), Nat.add_mul, Nat.min_eq_right (by omega), Nat.one_mul]
  · rw [if_neg h, Nat.min_eq_right (by omega)]
theorem grid_okB (m n : Nat) (hm0 : 1 ≤ m) (hm : m ≤ 4) (hn0 : 1 ≤ n) (hn : n ≤ 4) : okB ((n + 1) * (m + 1)) (gridF m n) = true := by
  have h1 := List.all_eq_true.1 grid_ok (m - 1) (List.mem_range.2 (by omega))
  have h2 := List.all_eq_true.1 h1 (n - 1) (List.mem_range.2 (by omega))
  rw [show m - 1 + 2 = m + 1 by omega, show n - 1 + 2 = n + 1 by omega, show m - 1 + 1 = m by omega, show n - 1 + 1 = n by omega, Nat.mul_comm] at h2
  exact h2
theorem GrI.as {wb wr : World} {ob : Nat} {v1 : Value} {n n' : Nat} {qs qs' : List Sp} {cs : List Value} {v2 : Value} {c c' : Nat} {FS : List (List Int)} {g : Nat → Nat} {cs2 : List Value} (h : GrI wb wr ob v1 n qs cs v2 c FS g cs2) (hn : n = n') (hq : qs = qs') (hc : c = c') : GrI wb wr ob v1 n' qs' cs v2 c' FS g cs2 := by
  subst hn; subst hq; subst hc; exact h
theorem GrI.clen {wb wr : World} {ob : Nat} {v1 : Value} {n : Nat} {qs : List Sp} {cs : List Value} {v2 : Value} {c : Nat} {FS : List (List Int)} {g : Nat → Nat} {cs2 : List Value} (h : GrI wb wr ob v1 n qs cs v2 c FS g cs2) : cs.length = qs.length * 3 := by
  rw [h.len]; exact h.row.1
theorem GrI.own7s {wb wr w6 w7 : World} {ob n c : Nat} {v1 v2 : Value} {qs : List Sp} {cs cs2 : List Value} {FS : List (List Int)} {g : Nat → Nat} (h : GrI wb wr ob v1 n qs cs v2 c FS g cs2) (hob : ob < wb.heap.size) (h6 : Below wr.heap.size wr w6) (hg7 : w6.grownBy w7 v1.ownBlock) : OwnC w7 ob #[v1, v2] 27 := by
  have z5 := h.ch.size
  have z6 := h6.size
  have hvo : v1.ownBlock ≠ some ob := fun e => by have := (h.new _ e).1; omega
  exact (hg7.block ob (by omega) (fun e => hvo e.symm)).trans (h.own.below h6 (by omega))
theorem GrI.own7f {wb wr w6 w7 : World} {ob n c : Nat} {v1 v2 : Value} {qs : List Sp} {cs cs2 : List Value} {FS : List (List Int)} {g : Nat → Nat} (h : GrI wb wr ob v1 n qs cs v2 c FS g cs2) (hob : ob < wb.heap.size) (h6 : Below wr.heap.size wr w6) (hg7 : w6.grownBy w7 v2.ownBlock) : OwnC w7 ob #[v1, v2] 27 := by
  have z5 := h.ch.size
  have z6 := h6.size
  have hvo : v2.ownBlock ≠ some ob := fun e => by have := h.new2 _ e; omega
  exact (hg7.block ob (by omega) (fun e => hvo e.symm)).trans (h.own.below h6 (by omega))
set_option maxHeartbeats 8000000 in
set_option maxRecDepth 100000 in
theorem gridNetN (m n : Nat) (hm0 : 1 ≤ m) (hm : m ≤ 4) (hn0 : 1 ≤ n) (hn : n ≤ 4) (w : World) :
    Calls Try.prog 22 #[.int .i64 m, .int .i64 n] w (RetN (gridP m ((n + 1) * (m + 1))) (gridF m n) true w) := by
  have im : inB (m : Int) 1 8 = true := by simp [inB]; omega
  have inn : inB (n : Int) 1 8 = true := by simp [inB]; omega
  have HW1 : Hid (∀ W, Calls Try.prog 52 #[.int .i64 m, .int .i64 1, .int .i64 8] W fun e w' => e = .returned (.bool true) ∧ w' = W) := Lib.hid fun W => by have := withinN (m : Int) 1 8 W; rw [im] at this; exact this
  have HW2 : Hid (∀ W, Calls Try.prog 52 #[.int .i64 n, .int .i64 1, .int .i64 8] W fun e w' => e = .returned (.bool true) ∧ w' = W) := Lib.hid fun W => by have := withinN (n : Int) 1 8 W; rw [inn] at this; exact this
  clear im inn
  have hR0 : OwnC (w.alloc (.cells #[.slice none 0 0, .slice none 0 0] 27)) w.heap.size #[.slice none 0 0, .slice none 0 0] 27 := OwnC.new rfl
  obtain ⟨wb, hwb⟩ : ∃ wb, wb = ((w.alloc (.cells #[.slice none 0 0, .slice none 0 0] 27)).alloc (.cells #[.slice none 0 0, .slice none 0 0] 27)) := ⟨_, rfl⟩
  have hO : OwnC wb (w.heap.size + 1) #[.slice none 0 0, .slice none 0 0] 27 := by rw [hwb]; exact OwnC.new (by simp)
  have HR : Hid (OwnC wb w.heap.size #[.slice none 0 0, .slice none 0 0] 27) := Lib.hid (by rw [hwb]; exact hR0.alloc _)
  have HB : Hid (Below w.heap.size w wb) := Lib.hid (by rw [hwb]; exact ((Below.refl _ _).alloc (Nat.le_refl _) _).alloc (by simp) _)
  have hzb : wb.heap.size = w.heap.size + 1 + 1 := by rw [hwb]; simp
  have HO := Lib.hid hO
  clear hR0 hO
  go_enter Try.func22, Try.ntmps22
  go_wp2_with (go_at_call 52; first | ((with_reducible refine (HW1.out _).mono ?_); rintro e w' ⟨rfl, rfl⟩) | ((with_reducible refine (HW2.out _).mono ?_); rintro e w' ⟨rfl, rfl⟩))
  rw [← hwb]
  clear hwb
  go_loopw [22] (fun iv wr => ∃ (j : Nat) (v1 v2 : Value) (g : Nat → Nat) (cs cs2 : List Value), j ≤ n + 1 ∧ iv = .int .i64 j ∧ Hid (GrI wb wr (w.heap.size + 1) v1 (j * (m + 1)) (gridP m (j * (m + 1))) cs v2 (min j n * m) (gridF m n) g cs2)) (fun iv _ => n + 1 - (intOf iv).toNat)
  case atStart => exact ⟨0, _, _, _, _, _, by omega, rfl, Lib.hid (by simp only [Nat.zero_mul, Nat.zero_min]; exact GrI.start HO.out)⟩
  case round =>
    obtain ⟨j, v1, v2, g, cs, cs2, hj, rfl, HI⟩ := hrel
    by_cases hlt : j < n + 1
    · have hp0 : 0 ≤ (j : Int) * ((m : Int) + 1) := Int.mul_nonneg (by omega) (by omega)
      have hp1 : (j : Int) * ((m : Int) + 1) ≤ 25 := by
        have h1 : (j : Int) * ((m : Int) + 1) ≤ 5 * ((m : Int) + 1) := Int.mul_le_mul_of_nonneg_right (by omega) (by omega)
        omega
      go_wp2_with fail
      have h23 : decide ((j : Int) < (n : Int) + 1) = true := by simp; omega
      simp only [h23]
      clear h23
      obtain ⟨wd, hwd⟩ : ∃ x : World, x = wr := ⟨_, rfl⟩
      have HI0 : Hid (GrI wb wr (w.heap.size + 1) v1 (j * (m + 1) + 0) (gridP m (j * (m + 1) + 0)) cs v2 (gridC m n j 0) (gridF m n) g cs2) := Lib.hid (by rw [gridC_zero]; exact HI.out)
      clear HI
      go_loopw [27] (fun iv wr => ∃ (i : Nat) (v1 v2 : Value) (g : Nat → Nat) (cs cs2 : List Value), i ≤ m + 1 ∧ iv = .int .i64 i ∧ Hid (GrI wb wr (w.heap.size + 1) v1 (j * (m + 1) + i) (gridP m (j * (m + 1) + i)) cs v2 (gridC m n j i) (gridF m n) g cs2)) (fun iv _ => m + 1 - (intOf iv).toNat)
      case atStart => exact ⟨0, _, _, _, _, _, by omega, rfl, HI0⟩
      case round =>
        clear HI0 hwd
        obtain ⟨i, v1, v2, g, cs, cs2, hi, rfl, HI⟩ := hrel
        by_cases hlti : i < m + 1
        · have hob : w.heap.size + 1 < wr.heap.size := by have := HI.out.ch.size; omega
          have o0 := HI.out.own.cell 0
          have o1 := HI.out.own.cell 1
          have of := HI.out.own.free 0
          simp at o0 o1
          have HROW : Hid (∀ o, ORow0 (wr.alloc o) 46 3 v1 (j * (m + 1) + i) cs) := Lib.hid fun a => ORow0.below HI.out.row ((Below.refl _ _).alloc (Nat.le_refl _) _)
          have HBe : Hid (∀ o, Below wr.heap.size wr (wr.alloc o)) := Lib.hid fun a => (Below.refl _ _).alloc (Nat.le_refl _) _
          have hsm : j * (m + 1) + i < 30 := by
            have h1 : j * (m + 1) ≤ 5 * (m + 1) := Nat.mul_le_mul_right _ (by omega)
            omega
          obtain ⟨A, hA⟩ : ∃ A, A = j * (m + 1) + i := ⟨_, rfl⟩
          have HA := Lib.hid hA
          rw [← hA] at HI HROW hsm
          clear hA
          by_cases hin : i < m
          · by_cases hjn : j < n
            · have hgc := gridC_in m n j i hin hjn
              have hga : fAt (gridF m n) (gridC m n j i) = [(j : Int) * ((m : Int) + 1) + i, (j : Int) * ((m : Int) + 1) + i + 1, (j : Int) * ((m : Int) + 1) + i + m + 2, (j : Int) * ((m : Int) + 1) + i + m + 1] := by
                rw [hgc.1, gridF_at m n j i hin hjn]
                simp only [List.cons.injEq, and_true]
                push_cast
                refine ⟨?_, ?_, ?_, ?_⟩ <;> omega
              have hgl : gridC m n j i < 20 := by
                rw [hgc.1]
                have h1 : j * m ≤ 4 * m := Nat.mul_le_mul_right _ (by omega)
                omega
              have hgr := hgc.2.trans (show j * m + i + 1 = gridC m n j i + 1 by omega)
              clear hgc
              obtain ⟨C, hC⟩ : ∃ C, C = gridC m n j i := ⟨_, rfl⟩
              rw [← hC] at HI hga hgl hgr
              clear hC
              have HGA := Lib.hid hga
              have HGR := Lib.hid hgr
              clear hga hgr
              have hal : ∀ W : World, ∀ o1 o2, Below W.heap.size W ((W.alloc o1).alloc o2) := fun W o1 o2 => ((Below.refl _ _).alloc (Nat.le_refl _) _).alloc (by simp) _
              have hal1 : ∀ W : World, ∀ o1, Below W.heap.size W (W.alloc o1) := fun W o1 => (Below.refl _ _).alloc (Nat.le_refl _) _
              have HAL := Lib.hid hal
              have HAL1 := Lib.hid hal1
              clear hal hal1
              go_wp2_with (first
                | (at_builtin; refine wpList_app0 rfl _ _ _ rfl 46 (.agg #[.float .f32 0, .float .f32 0, .float .f32 0]) 3 12 Try.underlying24 infoSpot' rfl (by decide) _ v1 A cs rfl (HROW.out _) ⟨wr.heap.size, 0, none⟩ 1 1 [.float .f32 (fI i), .float .f32 (fI j), .float .f32 0] rfl rfl (World.news_of_block (heap_alloc_new wr _)) (by simp [Value.oneCell']) (by decide) (by omega) (by decide) ?_; intro b7 c7 w7 hr7 hb7 hl7 hg7; have HST := Lib.hid (HI.out.spot (rs := [(can .f32 (fI i), can .f32 (fI j), can .f32 0)]) (by omega) (HBe.out _) rfl hg7 hr7 hb7 (HI.out.sp.snoc HI.out.clen rfl)); have O7 := HI.out.own7s (by omega) (HBe.out _) hg7; have o17 := O7.cell 0; have o17f := O7.free 0; simp at o17; have o17b := O7.cell 1; have o17c := O7.free 1; simp at o17b; clear hr7 hb7 hg7)
                | (at_builtin; (refine wpList_app0 rfl _ _ _ rfl 38 (.agg #[.slice none 0 0]) 1 24 Try.underlying25 infoFacet rfl (by decide) _ v2 C cs2 rfl (ORow0.below HST.out.row2 (HAL.out _ _ _)) ⟨w7.heap.size + 1, 0, none⟩ 1 1 [.slice (some ⟨w7.heap.size, 0, none⟩) 4 4] rfl rfl (World.news_of_block (by have := heap_alloc_new ((w7.setCell ⟨w.heap.size + 1, 0, none⟩ (.slice (some ⟨b7, 0, none⟩) (A + 1) c7)).alloc (.cells #[.int .i64 ((j : Int) * ((m : Int) + 1) + i), .int .i64 ((j : Int) * ((m : Int) + 1) + i + 1), .int .i64 ((j : Int) * ((m : Int) + 1) + i + m + 2), .int .i64 ((j : Int) * ((m : Int) + 1) + i + m + 1)] 2)) (.cells #[.slice (some ⟨w7.heap.size, 0, none⟩) 4 4] 38); simpa using this)) (by simp [Value.oneCell']) (by decide) (by omega) (by decide) ?_); intro b8 c8 w8 hr8 hb8 hl8 hg8; (have O8 := HST.out.own7f (by omega) (HAL.out _ _ _) hg8); have o18 := O8.cell 1; have o18f := O8.free 1; simp at o18; have HR8 := Lib.hid hr8; have HB8 := Lib.hid hb8; have HG8 := Lib.hid hg8; clear hr8 hb8 hg8))
              have e : A = j * (m + 1) + i := HA.out
              have hg8 := HG8.out
              have hr8 := HR8.out
              have HB6 := HAL1.out (w7.setCell ⟨w.heap.size + 1, 0, none⟩ (.slice (some ⟨b7, 0, none⟩) (A + 1) c7)) (.cells #[.int .i64 ((j : Int) * ((m : Int) + 1) + i), .int .i64 ((j : Int) * ((m : Int) + 1) + i + 1), .int .i64 ((j : Int) * ((m : Int) + 1) + i + m + 2), .int .i64 ((j : Int) * ((m : Int) + 1) + i + m + 1)] 2)
              have HS2 := HST.out.facet (w6 := ((w7.setCell ⟨w.heap.size + 1, 0, none⟩ (.slice (some ⟨b7, 0, none⟩) (A + 1) c7)).alloc (.cells #[.int .i64 ((j : Int) * ((m : Int) + 1) + i), .int .i64 ((j : Int) * ((m : Int) + 1) + i + 1), .int .i64 ((j : Int) * ((m : Int) + 1) + i + m + 2), .int .i64 ((j : Int) * ((m : Int) + 1) + i + m + 1)] 2))) (b6 := w7.heap.size) (c6 := 4) (w7 := w8) (b7 := b8) (c7 := c8) (by omega) HB6 (by rw [HGA.out]; have := ORow.full (w7.setCell ⟨w.heap.size + 1, 0, none⟩ (.slice (some ⟨b7, 0, none⟩) (A + 1) c7)) 2 #[.int .i64 ((j : Int) * ((m : Int) + 1) + i), .int .i64 ((j : Int) * ((m : Int) + 1) + i + 1), .int .i64 ((j : Int) * ((m : Int) + 1) + i + m + 2), .int .i64 ((j : Int) * ((m : Int) + 1) + i + m + 1)] (by simp); simpa using this) (by simp) (by rw [HGA.out]; exact hg8) (by rw [HGA.out]; exact hr8) (by simpa using HB8.out)
              have h := HS2.as (n' := j * (m + 1) + (i + 1)) (qs' := gridP m (j * (m + 1) + (i + 1))) (by rw [e]; rfl) (by rw [e]; exact (gridP_succ m j i (by omega)).symm) HGR.out.symm
              rw [HGA.out] at h
              go_roundw
              · exact ⟨i + 1, _, _, _, _, _, by omega, by go_num, Lib.hid h⟩
              · simp [intOf]; omega
            · go_wp2_with (at_builtin; refine wpList_app0 rfl _ _ _ rfl 46 (.agg #[.float .f32 0, .float .f32 0, .float .f32 0]) 3 12 Try.underlying24 infoSpot' rfl (by decide) _ v1 A cs rfl (HROW.out _) ⟨wr.heap.size, 0, none⟩ 1 1 [.float .f32 (fI i), .float .f32 (fI j), .float .f32 0] rfl rfl (World.news_of_block (heap_alloc_new wr _)) (by simp [Value.oneCell']) (by decide) (by omega) (by decide) ?_; intro b7 c7 w7 hr7 hb7 hl7 hg7; have HST := Lib.hid (HI.out.spot (rs := [(can .f32 (fI i), can .f32 (fI j), can .f32 0)]) (by omega) (HBe.out _) rfl hg7 hr7 hb7 (HI.out.sp.snoc HI.out.clen rfl)); have O7 := HI.out.own7s (by omega) (HBe.out _) hg7; have o17 := O7.cell 0; have o17f := O7.free 0; simp at o17; have o17b := O7.cell 1; have o17c := O7.free 1; simp at o17b; clear hr7 hb7 hg7)
              have e : A = j * (m + 1) + i := HA.out
              have h := HST.out.as (n' := j * (m + 1) + (i + 1)) (qs' := gridP m (j * (m + 1) + (i + 1))) (by rw [e]; rfl) (by rw [e]; exact (gridP_succ m j i (by omega)).symm) (gridC_out m n j i (by omega)).symm
              go_roundw
              · exact ⟨i + 1, _, _, _, _, _, by omega, by go_num, Lib.hid h⟩
              · simp [intOf]; omega
          · by_cases hjn : j < n
            all_goals
              go_wp2_with (at_builtin; refine wpList_app0 rfl _ _ _ rfl 46 (.agg #[.float .f32 0, .float .f32 0, .float .f32 0]) 3 12 Try.underlying24 infoSpot' rfl (by decide) _ v1 A cs rfl (HROW.out _) ⟨wr.heap.size, 0, none⟩ 1 1 [.float .f32 (fI i), .float .f32 (fI j), .float .f32 0] rfl rfl (World.news_of_block (heap_alloc_new wr _)) (by simp [Value.oneCell']) (by decide) (by omega) (by decide) ?_; intro b7 c7 w7 hr7 hb7 hl7 hg7; have HST := Lib.hid (HI.out.spot (rs := [(can .f32 (fI i), can .f32 (fI j), can .f32 0)]) (by omega) (HBe.out _) rfl hg7 hr7 hb7 (HI.out.sp.snoc HI.out.clen rfl)); have O7 := HI.out.own7s (by omega) (HBe.out _) hg7; have o17 := O7.cell 0; have o17f := O7.free 0; simp at o17; have o17b := O7.cell 1; have o17c := O7.free 1; simp at o17b; clear hr7 hb7 hg7)
              have e : A = j * (m + 1) + i := HA.out
              have h := HST.out.as (n' := j * (m + 1) + (i + 1)) (qs' := gridP m (j * (m + 1) + (i + 1))) (by rw [e]; rfl) (by rw [e]; exact (gridP_succ m j i (by omega)).symm) (gridC_out m n j i (by omega)).symm
              go_roundw
              · exact ⟨i + 1, _, _, _, _, _, by omega, by go_num, Lib.hid h⟩
              · simp [intOf]; omega
        · obtain rfl : i = m + 1 := by omega
          go_wp2_with fail
          refine ⟨⟨j + 1, v1, v2, g, cs, cs2, by omega, by go_num, ?_⟩, ?_⟩
          · rw [← gridC_end, Nat.add_mul, Nat.one_mul]; exact HI
          · simp [intOf]; omega
    · obtain rfl : j = n + 1 := by omega
      have hI := HI.out
      have hlen : (gridP m ((n + 1) * (m + 1))).length = (n + 1) * (m + 1) := gridP_len _ _
      have hk5 : (n + 1) * (m + 1) ≤ 5 * (m + 1) := Nat.mul_le_mul_right _ (by omega)
      have hsz : 4 ≤ (n + 1) * (m + 1) ∧ (n + 1) * (m + 1) ≤ 25 := by
        have h1 : (n + 1) * (m + 1) ≤ 5 * (m + 1) := Nat.mul_le_mul_right _ (by omega)
        have h2 : 2 * (m + 1) ≤ (n + 1) * (m + 1) := Nat.mul_le_mul_right _ (by omega)
        omega
      have hmn : min (n + 1) n * m = m * n := by rw [Nat.min_eq_right (by omega), Nat.mul_comm]
      have hfz : 1 ≤ m * n ∧ m * n ≤ 16 := by
        have h1 : m * n ≤ 4 * n := Nat.mul_le_mul_right _ (by omega)
        have h2 : 1 * n ≤ m * n := Nat.mul_le_mul_right _ (by omega)
        omega
      rw [hmn] at hI
      obtain ⟨bv, cv, rfl, hrow⟩ := ORow0.form hI.row (by omega)
      obtain ⟨bf, cf, rfl, hrowF⟩ := ORow0.form hI.row2 (by omega)
      have hnb := (hI.new bv rfl).1
      have hbf := hI.new2 bf rfl
      have o0 := hI.own.cell 0
      have o1 := hI.own.cell 1
      simp at o0 o1
      have hbv2 : bv < wr.heap.size := hrow.lt
      obtain ⟨K, hK⟩ : ∃ K, K = (n + 1) * (m + 1) := ⟨_, rfl⟩
      obtain ⟨M, hM⟩ : ∃ M, M = m * n := ⟨_, rfl⟩
      obtain ⟨PS, hPS⟩ : ∃ PS, PS = gridP m K := ⟨_, rfl⟩
      obtain ⟨FS, hFS⟩ : ∃ FS, FS = gridF m n := ⟨_, rfl⟩
      have hPf : PS.all finSp = true := by rw [hPS]; exact gridP_fin m K hm (by rw [hK]; exact hk5)
      have hok : okB K (gridF m n) = true := by rw [hK]; exact grid_okB m n hm0 hm hn0 hn
      have hFl : (gridF m n).length = M := by rw [hM]; exact gridF_len m n
      have HEP : Hid (gridP m ((n + 1) * (m + 1)) = PS) := Lib.hid (by rw [hPS, hK])
      have HEF : Hid (gridF m n = FS) := Lib.hid hFS.symm
      rw [← hK] at hI hlen hsz hrow o0 ⊢
      rw [← hM] at hI hfz hrowF o1
      rw [← hPS] at hI hlen ⊢
      rw [← hFS] at hI hok hFl ⊢
      clear hPS hFS hK hM hmn HW1 HW2 HO hlt hj hm0 hm hn0 hn HI
      have hrS : ORow wr 46 3 bv cv PS.length cs := by rw [hlen]; exact hrow
      have hsp : SpL cs PS := hI.sp
      have hFN : OwnF wr wb.heap.size wr.heap.size bf g FS := (show FR wr wb.heap.size (.slice (some ⟨bf, 0, none⟩) FS.length cf) g FS FS.length cs2 by rw [hFl]; exact hI.fr).own (by rw [hFl]; exact hrowF) hbf
      have hbl := hFN.row
      have hvz : okN PS FS = true := okB_okN (by rw [hlen]; exact hok) hPf
      have hNW : ONet wr wb.heap.size wr.heap.size (some ⟨bv, 0, none⟩) (some ⟨bf, 0, none⟩) PS FS :=
        ⟨⟨.inr ⟨bv, rfl, by omega, hrS.lt, hrS.room, hrS.spots hsp⟩⟩, .inr ⟨bf, g, rfl, hFN.wide (by omega) (Nat.le_refl _), fun b e => by cases e; exact ⟨fun e => (hI.new bv rfl).2.1 (by rw [e]; rfl), fun i hi => (hI.new bv rfl).2.2 i (by omega)⟩⟩⟩
      have hCA : SlC wr wb.heap.size wr.heap.size (some ⟨bf, 0, none⟩) FS := fun b off e => by
        cases e
        exact ⟨by omega, by omega, fun i hi ai n ci hc => hFN.cap i hi ai n ci (by rw [Nat.zero_add] at hc; exact hc)⟩
      have hG : Calls Try.prog 33 #[.agg #[.slice (some ⟨bv, 0, none⟩) K cv, .slice (some ⟨bf, 0, none⟩) M cf]] wr fun e w' => e = .returned (.tuple #[.agg #[.slice (some ⟨bv, 0, none⟩) K cv, .slice (some ⟨bf, 0, none⟩) M cf], .bool true]) ∧ Below wr.heap.size wr w' := by
        have hG := giveB wb.heap.size wr.heap.size (some ⟨bv, 0, none⟩) (some ⟨bf, 0, none⟩) cv cf PS FS (by rw [hlen]; omega) (by rw [hFl]; omega) (fun i hi => Nat.le_trans ((okB_net (ps := PS) (by rw [hlen]; exact hok) hPf).facets i hi).2.1 (by decide)) wr hNW.net hCA (Nat.le_refl _)
        rw [hlen, hFl, hvz] at hG
        exact hG
      have HG := Lib.hid hG
      have HNW := Lib.hid hNW
      have hch := hI.ch
      have HBW : Hid (Below w.heap.size w wr) := Lib.hid (HB.out.trans (hch.toBelow (by omega) (fun c hc => by omega)))
      have hRN : OwnC wr w.heap.size #[.slice none 0 0, .slice none 0 0] 27 := hch.own HR.out (by omega)
      have HRN := Lib.hid hRN
      have hrl := hRN.lt
      clear hRN hNW hCA hFN hrowF hrow hrS hsp hvz hch hI HR HB hG hPf hok
      go_wp2_with (go_at_call 33; refine HG.out.mono ?_; rintro e w9 ⟨rfl, B9⟩; have R9 := HRN.out.below B9 hrl; have r0 := R9.cell 0; have r1 := R9.cell 1; have i0 := R9.free 0; have i1 := R9.free 1; simp at r0 r1; have HB9 := Lib.hid B9; clear B9)
      have R := (R9.set 0 (.slice (some ⟨bv, 0, none⟩) K cv)).set 1 (.slice (some ⟨bf, 0, none⟩) M cf)
      have q0 := R.cell 0
      have q1 := R.cell 1
      simp at q0 q1
      refine bodyPost_ret (v := .tuple #[.agg #[.slice (some ⟨bv, 0, none⟩) K cv, .slice (some ⟨bf, 0, none⟩) M cf], .bool true]) (by simp [results, Try.results22, go_sem, *]) rfl ?_
      have hfin : Far wb.heap.size wr.heap.size wr ((w9.setCell ⟨w.heap.size, 0, none⟩ (.slice (some ⟨bv, 0, none⟩) K cv)).setCell ⟨w.heap.size, 1, none⟩ (.slice (some ⟨bf, 0, none⟩) M cf)) := ((Far.below HB9.out (Nat.le_refl _)).set _ _ (by simp; omega)).set _ _ (by simp; omega)
      rw [HEP.out, HEF.out]
      refine ⟨⟨some ⟨bv, 0, none⟩, some ⟨bf, 0, none⟩, cv, cf, by rw [hlen, hFl]; rfl, ?_⟩, ((HBW.out.trans (HB9.out.mono HBW.out.size)).setCell (by simp) _).setCell (by simp) _⟩
      have h8 := HB9.out.size
      have := HNW.out.far hfin
      simp only [World.size_setCell]
      exact this.wide (by omega) (by omega)
end Go.Proofs.Ytkjljajjjhfklaa
