/- Nets, the law: the reference's box, walked. -/
import Derived.Test.YtkjljajjjhfklaaNnS
import Derived.Test.YtkjljajjjhfklaaNnH
namespace Go.Proofs.Ytkjljajjjhfklaa
open Go.RowKit Go.Fl
/-- a net in blocks of its own, its rows -/
structure NetR (w : World) (lo bv cv bf cf : Nat) (g : Nat → Nat) (cs csf : List Value) (ps : List Sp) (fs : List (List Int)) : Prop where
  row : ORow w 46 3 bv cv ps.length cs
  sp : SpL cs ps
  rowF : ORow w 38 1 bf cf fs.length csf
  fa : OwnF w lo w.heap.size bf g fs
  lb : lo ≤ bv
  ne : bv ≠ bf
  nes : ∀ i, i < fs.length → g i ≠ bv
/-- the call from w answers with a net of its own -/
def RetR (ps : List Sp) (fs : List (List Int)) (w : World) (e : Ending) (w' : World) : Prop :=
  (∃ bv cv bf cf g cs csf, e = .returned (.agg #[.slice (some ⟨bv, 0, none⟩) ps.length cv, .slice (some ⟨bf, 0, none⟩) fs.length cf]) ∧ NetR w' w.heap.size bv cv bf cf g cs csf ps fs) ∧ Below w.heap.size w w'
theorem slI_full (w : World) (xs : List Int) (T : TypeId) (cells : Array Value) (hc : cells = (xs.map (Value.int .i64)).toArray) : SlI (w.alloc (.cells cells T)) w.heap.size (w.heap.size + 1) (some ⟨w.heap.size, 0, none⟩) xs := fun _ => by
  refine ⟨w.heap.size, 0, rfl, Nat.le_refl _, Nat.lt_succ_self _, fun i hi => ?_⟩
  have hO : OwnC (w.alloc (.cells cells T)) w.heap.size cells T := OwnC.new rfl
  rw [Nat.zero_add, hO.cell i, hc]
  simp [iAt, hi]
/-- the corners of a box -/
def boxL : List Int := [0, 2, 3, 1, 4, 5, 7, 6, 0, 1, 5, 4, 2, 6, 7, 3, 0, 4, 6, 2, 1, 3, 7, 5]
theorem boxL_four : fours boxL 6 = boxF := by decide
set_option maxHeartbeats 8000000 in
set_option maxRecDepth 100000 in
theorem l06BoxN (x y z : Nat) (w : World) :
    Calls Try.prog 63 #[.float .f32 x, .float .f32 y, .float .f32 z] w (RetR (boxP x y z 8) boxF w) := by
  have hR0 : OwnC (w.alloc (.cells #[.slice none 0 0, .slice none 0 0] 27)) w.heap.size #[.slice none 0 0, .slice none 0 0] 27 := OwnC.new rfl
  obtain ⟨wb, hwb⟩ : ∃ wb, wb = ((w.alloc (.cells #[.slice none 0 0, .slice none 0 0] 27)).alloc (.cells #[.slice none 0 0, .slice none 0 0] 27)) := ⟨_, rfl⟩
  have hO : OwnC wb (w.heap.size + 1) #[.slice none 0 0, .slice none 0 0] 27 := by rw [hwb]; exact OwnC.new (by simp)
  have HR : Hid (OwnC wb w.heap.size #[.slice none 0 0, .slice none 0 0] 27) := Lib.hid (by rw [hwb]; exact hR0.alloc _)
  have HB : Hid (Below w.heap.size w wb) := Lib.hid (by rw [hwb]; exact ((Below.refl _ _).alloc (Nat.le_refl _) _).alloc (by simp) _)
  have hzb : wb.heap.size = w.heap.size + 1 + 1 := by rw [hwb]; simp
  have HO := Lib.hid hO
  clear hR0 hO
  go_enter Try.func63, Try.ntmps63
  go_wp2_with fail
  rw [← hwb]
  clear hwb
  go_loopw [8] (fun iv wr => ∃ (j : Nat) (v : Value) (cs : List Value), j ≤ 8 ∧ iv = .int .i64 j ∧ Hid (SpI wb wr (w.heap.size + 1) (.slice none 0 0) v j (boxP x y z j) cs)) (fun iv _ => 8 - (intOf iv).toNat)
  case atStart => exact ⟨0, _, _, by omega, rfl, Lib.hid (SpI.start HO.out)⟩
  case round =>
    obtain ⟨j, v, cs, hj, rfl, HI⟩ := hrel
    have hzr := HI.out.ch.size
    have o0 := HI.out.own.cell 0
    have of := HI.out.own.free 0
    simp at o0
    by_cases hlt : j < 8
    · have HROW : Hid (∀ o1 o2, ORow0 ((wr.alloc o1).alloc o2) 46 3 v j cs) := Lib.hid fun a b => ORow0.below HI.out.row (((Below.refl _ _).alloc (Nat.le_refl _) _).alloc (by simp) _)
      have HBe : Hid (∀ o1 o2, Below wr.heap.size wr ((wr.alloc o1).alloc o2)) := Lib.hid fun a b => ((Below.refl _ _).alloc (Nat.le_refl _) _).alloc (by simp) _
      have hol : w.heap.size + 1 < wr.heap.size := by omega
      have o0a : (wr.alloc (.cells #[.float .f32 0, .float .f32 0, .float .f32 0] 46)).cell? ⟨w.heap.size + 1, 0, none⟩ = some v := keep_alloc _ o0
      --[[
      rcases (by omega : j = 0 ∨ j = 1 ∨ j = 2 ∨ j = 3 ∨ j = 4 ∨ j = 5 ∨ j = 6 ∨ j = 7) with rfl | rfl | rfl | rfl | rfl | rfl | rfl | rfl
      · go_wp2_with (at_builtin; refine wpList_app0 rfl _ _ _ rfl 46 (.agg #[.float .f32 0, .float .f32 0, .float .f32 0]) 3 12 Try.underlying24 infoSpot' rfl (by decide) _ v 0 cs rfl (HROW.out _ _) ⟨wr.heap.size + 1, 0, none⟩ 1 1 [.float .f32 0, .float .f32 0, .float .f32 0] rfl rfl (World.news_of_block (by have := heap_alloc_new (wr.alloc (.cells #[.float .f32 0, .float .f32 0, .float .f32 0] 46)) (.cells #[.float .f32 0, .float .f32 0, .float .f32 0] 46); rw [World.size_alloc] at this; exact this)) (by simp [Value.oneCell']) (by decide) (by omega) (by decide) ?_; intro b7 c7 w7 hr7 hb7 hl7 hg7; have HST := Lib.hid (HI.out.step (rs := [boxS x y z 0]) (by omega) (HBe.out _ _) rfl hg7 hr7 hb7 (HI.out.sp.snoc HI.out.clen rfl)); have o17 := HST.out.own7.cell 0; have o17f := HST.out.own7.free 0; simp at o17; clear hr7 hb7 hg7)
        go_roundw
        all_goals first
          | exact ⟨1, _, _, by omega, by go_num, Lib.hid (by rw [boxP_succ]; exact HST.out.i)⟩
          | (simp [intOf])
      · go_wp2_with (at_builtin; refine wpList_app0 rfl _ _ _ rfl 46 (.agg #[.float .f32 0, .float .f32 0, .float .f32 0]) 3 12 Try.underlying24 infoSpot' rfl (by decide) _ v 1 cs rfl (HROW.out _ _) ⟨wr.heap.size + 1, 0, none⟩ 1 1 [.float .f32 x, .float .f32 0, .float .f32 0] rfl rfl (World.news_of_block (by have := heap_alloc_new (wr.alloc (.cells #[.float .f32 x, .float .f32 0, .float .f32 0] 46)) (.cells #[.float .f32 x, .float .f32 0, .float .f32 0] 46); rw [World.size_alloc] at this; exact this)) (by simp [Value.oneCell']) (by decide) (by omega) (by decide) ?_; intro b7 c7 w7 hr7 hb7 hl7 hg7; have HST := Lib.hid (HI.out.step (rs := [boxS x y z 1]) (by omega) (HBe.out _ _) rfl hg7 hr7 hb7 (HI.out.sp.snoc HI.out.clen rfl)); have o17 := HST.out.own7.cell 0; have o17f := HST.out.own7.free 0; simp at o17; clear hr7 hb7 hg7)
        go_roundw
        all_goals first
          | exact ⟨2, _, _, by omega, by go_num, Lib.hid (by rw [boxP_succ]; exact HST.out.i)⟩
          | (simp [intOf])
      · go_wp2_with (at_builtin; refine wpList_app0 rfl _ _ _ rfl 46 (.agg #[.float .f32 0, .float .f32 0, .float .f32 0]) 3 12 Try.underlying24 infoSpot' rfl (by decide) _ v 2 cs rfl (HROW.out _ _) ⟨wr.heap.size + 1, 0, none⟩ 1 1 [.float .f32 0, .float .f32 y, .float .f32 0] rfl rfl (World.news_of_block (by have := heap_alloc_new (wr.alloc (.cells #[.float .f32 0, .float .f32 y, .float .f32 0] 46)) (.cells #[.float .f32 0, .float .f32 y, .float .f32 0] 46); rw [World.size_alloc] at this; exact this)) (by simp [Value.oneCell']) (by decide) (by omega) (by decide) ?_; intro b7 c7 w7 hr7 hb7 hl7 hg7; have HST := Lib.hid (HI.out.step (rs := [boxS x y z 2]) (by omega) (HBe.out _ _) rfl hg7 hr7 hb7 (HI.out.sp.snoc HI.out.clen rfl)); have o17 := HST.out.own7.cell 0; have o17f := HST.out.own7.free 0; simp at o17; clear hr7 hb7 hg7)
        go_roundw
        all_goals first
          | exact ⟨3, _, _, by omega, by go_num, Lib.hid (by rw [boxP_succ]; exact HST.out.i)⟩
          | (simp [intOf])
      · go_wp2_with (at_builtin; refine wpList_app0 rfl _ _ _ rfl 46 (.agg #[.float .f32 0, .float .f32 0, .float .f32 0]) 3 12 Try.underlying24 infoSpot' rfl (by decide) _ v 3 cs rfl (HROW.out _ _) ⟨wr.heap.size + 1, 0, none⟩ 1 1 [.float .f32 x, .float .f32 y, .float .f32 0] rfl rfl (World.news_of_block (by have := heap_alloc_new (wr.alloc (.cells #[.float .f32 x, .float .f32 y, .float .f32 0] 46)) (.cells #[.float .f32 x, .float .f32 y, .float .f32 0] 46); rw [World.size_alloc] at this; exact this)) (by simp [Value.oneCell']) (by decide) (by omega) (by decide) ?_; intro b7 c7 w7 hr7 hb7 hl7 hg7; have HST := Lib.hid (HI.out.step (rs := [boxS x y z 3]) (by omega) (HBe.out _ _) rfl hg7 hr7 hb7 (HI.out.sp.snoc HI.out.clen rfl)); have o17 := HST.out.own7.cell 0; have o17f := HST.out.own7.free 0; simp at o17; clear hr7 hb7 hg7)
        go_roundw
        all_goals first
          | exact ⟨4, _, _, by omega, by go_num, Lib.hid (by rw [boxP_succ]; exact HST.out.i)⟩
          | (simp [intOf])
      · go_wp2_with (at_builtin; refine wpList_app0 rfl _ _ _ rfl 46 (.agg #[.float .f32 0, .float .f32 0, .float .f32 0]) 3 12 Try.underlying24 infoSpot' rfl (by decide) _ v 4 cs rfl (HROW.out _ _) ⟨wr.heap.size + 1, 0, none⟩ 1 1 [.float .f32 0, .float .f32 0, .float .f32 z] rfl rfl (World.news_of_block (by have := heap_alloc_new (wr.alloc (.cells #[.float .f32 0, .float .f32 0, .float .f32 z] 46)) (.cells #[.float .f32 0, .float .f32 0, .float .f32 z] 46); rw [World.size_alloc] at this; exact this)) (by simp [Value.oneCell']) (by decide) (by omega) (by decide) ?_; intro b7 c7 w7 hr7 hb7 hl7 hg7; have HST := Lib.hid (HI.out.step (rs := [boxS x y z 4]) (by omega) (HBe.out _ _) rfl hg7 hr7 hb7 (HI.out.sp.snoc HI.out.clen rfl)); have o17 := HST.out.own7.cell 0; have o17f := HST.out.own7.free 0; simp at o17; clear hr7 hb7 hg7)
        go_roundw
        all_goals first
          | exact ⟨5, _, _, by omega, by go_num, Lib.hid (by rw [boxP_succ]; exact HST.out.i)⟩
          | (simp [intOf])
      · go_wp2_with (at_builtin; refine wpList_app0 rfl _ _ _ rfl 46 (.agg #[.float .f32 0, .float .f32 0, .float .f32 0]) 3 12 Try.underlying24 infoSpot' rfl (by decide) _ v 5 cs rfl (HROW.out _ _) ⟨wr.heap.size + 1, 0, none⟩ 1 1 [.float .f32 x, .float .f32 0, .float .f32 z] rfl rfl (World.news_of_block (by have := heap_alloc_new (wr.alloc (.cells #[.float .f32 x, .float .f32 0, .float .f32 z] 46)) (.cells #[.float .f32 x, .float .f32 0, .float .f32 z] 46); rw [World.size_alloc] at this; exact this)) (by simp [Value.oneCell']) (by decide) (by omega) (by decide) ?_; intro b7 c7 w7 hr7 hb7 hl7 hg7; have HST := Lib.hid (HI.out.step (rs := [boxS x y z 5]) (by omega) (HBe.out _ _) rfl hg7 hr7 hb7 (HI.out.sp.snoc HI.out.clen rfl)); have o17 := HST.out.own7.cell 0; have o17f := HST.out.own7.free 0; simp at o17; clear hr7 hb7 hg7)
        go_roundw
        all_goals first
          | exact ⟨6, _, _, by omega, by go_num, Lib.hid (by rw [boxP_succ]; exact HST.out.i)⟩
          | (simp [intOf])
      · go_wp2_with (at_builtin; refine wpList_app0 rfl _ _ _ rfl 46 (.agg #[.float .f32 0, .float .f32 0, .float .f32 0]) 3 12 Try.underlying24 infoSpot' rfl (by decide) _ v 6 cs rfl (HROW.out _ _) ⟨wr.heap.size + 1, 0, none⟩ 1 1 [.float .f32 0, .float .f32 y, .float .f32 z] rfl rfl (World.news_of_block (by have := heap_alloc_new (wr.alloc (.cells #[.float .f32 0, .float .f32 y, .float .f32 z] 46)) (.cells #[.float .f32 0, .float .f32 y, .float .f32 z] 46); rw [World.size_alloc] at this; exact this)) (by simp [Value.oneCell']) (by decide) (by omega) (by decide) ?_; intro b7 c7 w7 hr7 hb7 hl7 hg7; have HST := Lib.hid (HI.out.step (rs := [boxS x y z 6]) (by omega) (HBe.out _ _) rfl hg7 hr7 hb7 (HI.out.sp.snoc HI.out.clen rfl)); have o17 := HST.out.own7.cell 0; have o17f := HST.out.own7.free 0; simp at o17; clear hr7 hb7 hg7)
        go_roundw
        all_goals first
          | exact ⟨7, _, _, by omega, by go_num, Lib.hid (by rw [boxP_succ]; exact HST.out.i)⟩
          | (simp [intOf])
      · go_wp2_with (at_builtin; refine wpList_app0 rfl _ _ _ rfl 46 (.agg #[.float .f32 0, .float .f32 0, .float .f32 0]) 3 12 Try.underlying24 infoSpot' rfl (by decide) _ v 7 cs rfl (HROW.out _ _) ⟨wr.heap.size + 1, 0, none⟩ 1 1 [.float .f32 x, .float .f32 y, .float .f32 z] rfl rfl (World.news_of_block (by have := heap_alloc_new (wr.alloc (.cells #[.float .f32 x, .float .f32 y, .float .f32 z] 46)) (.cells #[.float .f32 x, .float .f32 y, .float .f32 z] 46); rw [World.size_alloc] at this; exact this)) (by simp [Value.oneCell']) (by decide) (by omega) (by decide) ?_; intro b7 c7 w7 hr7 hb7 hl7 hg7; have HST := Lib.hid (HI.out.step (rs := [boxS x y z 7]) (by omega) (HBe.out _ _) rfl hg7 hr7 hb7 (HI.out.sp.snoc HI.out.clen rfl)); have o17 := HST.out.own7.cell 0; have o17f := HST.out.own7.free 0; simp at o17; clear hr7 hb7 hg7)
        go_roundw
        all_goals first
          | exact ⟨8, _, _, by omega, by go_num, Lib.hid (by rw [boxP_succ]; exact HST.out.i)⟩
          | (simp [intOf])
      --]]
    · obtain rfl : j = 8 := by omega
      have hI := HI.out
      obtain ⟨bv, cv, rfl, hrow⟩ := ORow0.form hI.row (by omega)
      have hnew := hI.new bv rfl
      have hbl := hrow.lt
      have HFA : Hid (∀ W : World, Below wr.heap.size wr W → Calls Try.prog 79 #[.slice (some ⟨W.heap.size, 0, none⟩) 24 24] (W.alloc (.cells #[.int .i64 0, .int .i64 2, .int .i64 3, .int .i64 1, .int .i64 4, .int .i64 5, .int .i64 7, .int .i64 6, .int .i64 0, .int .i64 1, .int .i64 5, .int .i64 4, .int .i64 2, .int .i64 6, .int .i64 7, .int .i64 3, .int .i64 0, .int .i64 4, .int .i64 6, .int .i64 2, .int .i64 1, .int .i64 3, .int .i64 7, .int .i64 5] 2)) fun e w' => (∃ b cap g cs, e = .returned (.slice (some ⟨b, 0, none⟩) 6 cap) ∧ OwnF w' wr.heap.size w'.heap.size b g boxF ∧ ORow w' 38 1 b cap 6 cs) ∧ Below wr.heap.size wr w') := Lib.hid fun W hW => by
        have hs := slI_full W boxL 2 #[.int .i64 0, .int .i64 2, .int .i64 3, .int .i64 1, .int .i64 4, .int .i64 5, .int .i64 7, .int .i64 6, .int .i64 0, .int .i64 1, .int .i64 5, .int .i64 4, .int .i64 2, .int .i64 6, .int .i64 7, .int .i64 3, .int .i64 0, .int .i64 4, .int .i64 6, .int .i64 2, .int .i64 1, .int .i64 3, .int .i64 7, .int .i64 5] rfl
        refine (l06FacetsN W.heap.size (W.heap.size + 1) _ 24 6 boxL rfl (by decide) (by decide) _ hs (by simp)).mono ?_
        rintro e w' ⟨⟨b, cap, g, cs, he, h1, h2⟩, h3⟩
        have hz := hW.size
        rw [boxL_four] at h1
        exact ⟨⟨b, cap, g, cs, he, h1.lower (by simp; omega), h2⟩, (hW.alloc (by omega) _).trans (h3.mono (by simp; omega))⟩
      have hRR : OwnC wr w.heap.size #[.slice none 0 0, .slice none 0 0] 27 := hI.ch.own HR.out (by omega)
      have HRR := Lib.hid hRR
      have HOW := Lib.hid hI.own
      have HBW : Hid (Below w.heap.size w wr) := Lib.hid (HB.out.trans (hI.ch.toBelow (by omega) (fun c hc => by omega)))
      have HRW := Lib.hid hrow
      have HSP := Lib.hid hI.sp
      have hl1 : w.heap.size + 1 < wr.heap.size := by omega
      have hne1 : ¬ w.heap.size = w.heap.size + 1 := by omega
      clear hI HI hrow hRR HR HB HO
      go_wp2_with (go_at_call 79; refine (HFA.out _ (Below.refl _ _)).mono ?_; rintro e w8 ⟨⟨bf, cf, g, csf, rfl, hF, hRF⟩, b8⟩; have HF := Lib.hid hF; have HRF := Lib.hid hRF; have HB8 := Lib.hid b8; have O8 := HOW.out.below b8 hl1; have R8 := HRR.out.below b8 (by omega); have p0 := O8.cell 0; have p1 := O8.free 1; have r0 := R8.free 0; have r1 := R8.free 1; have p2 := O8.cell 1; have r2 := R8.cell 0; have r3 := R8.cell 1; simp at p0 p2 r2 r3; clear hF hRF b8)
      have R := ((OwnC.other R8 ⟨w.heap.size + 1, 1, none⟩ (.slice (some ⟨bf, 0, none⟩) 6 cf) (by simp)).set 0 (.slice (some ⟨bv, 0, none⟩) 8 cv)).set 1 (.slice (some ⟨bf, 0, none⟩) 6 cf)
      have q0 := R.cell 0
      have q1 := R.cell 1
      simp at q0 q1
      refine bodyPost_ret (v := .agg #[.slice (some ⟨bv, 0, none⟩) 8 cv, .slice (some ⟨bf, 0, none⟩) 6 cf]) (by simp [results, Try.results63, go_sem, *]) rfl ?_
      have z8 := HB8.out.size
      have hfar : Far wb.heap.size w8.heap.size w8 (((w8.setCell ⟨w.heap.size + 1, 1, none⟩ (.slice (some ⟨bf, 0, none⟩) 6 cf)).setCell ⟨w.heap.size, 0, none⟩ (.slice (some ⟨bv, 0, none⟩) 8 cv)).setCell ⟨w.heap.size, 1, none⟩ (.slice (some ⟨bf, 0, none⟩) 6 cf)) := (((Far.refl _ _ _).set _ _ (by simp; omega)).set _ _ (by simp; omega)).set _ _ (by simp; omega)
      have hF := (HF.out.lower (lo' := wb.heap.size) (by omega)).far hfar
      have hRF := HRF.out.far hfar (by have := HF.out.row; omega) HRF.out.lt
      have hRW := (HRW.out.below HB8.out hbl).far hfar hnew (by omega)
      refine ⟨⟨bv, cv, bf, cf, g, cs, csf, by rw [boxP_len]; rfl, by rw [boxP_len]; exact hRW, HSP.out, hRF, by simp only [World.size_setCell]; exact hF.lower (by omega), by omega, by have := HF.out.row; omega, fun i hi => by have := HF.out.blk i hi; omega⟩, (((HBW.out.trans (HB8.out.mono HBW.out.size)).setCell (by simp) _).setCell (by simp) _).setCell (by simp) _⟩
end Go.Proofs.Ytkjljajjjhfklaa
