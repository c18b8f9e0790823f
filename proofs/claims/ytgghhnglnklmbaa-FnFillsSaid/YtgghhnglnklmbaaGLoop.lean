/- spec.l07DrawLoop: a loop of quarters. (Written by mkgdraw.py.) -/
import Derived.Test.YtgghhnglnklmbaaGSrc
import Derived.Test.YtgghhnglnklmbaaGPl
namespace Go.Fl
open Go.RowKit
/-- the numbers that are drawn -/
def dX (r : Nat) : Nat := fdiv (can .f32 (floatOfInt .f32 ((r : Int) - 8))) 1082130432
def dOk (r : Nat) : Bool := fin (dX r) && decide (dX r < 4294967296)
theorem dOk_all : (List.range 33).all dOk = true := by decide +kernel
theorem dOk_at {r : Nat} (h : r < 33) : fin (dX r) = true ∧ dX r < 4294967296 := by
  have := List.all_eq_true.1 dOk_all r (List.mem_range.2 h)
  unfold dOk at this
  simpa [Bool.and_eq_true] using this
/-- a number that is drawn is good -/
theorem draw_ok {b r : Nat} (h : F32 b (dX r)) (hr : r < 33) : fin (can .f32 b) = true ∧ b < 4294967296 := by
  obtain ⟨h1, h2⟩ := dOk_at hr
  unfold F32 at h
  rw [h]
  refine ⟨h1, ?_⟩
  rw [← h] at h1 h2
  rwa [can_of_not (fin_nan h1)] at h2
/-- both parts are drawn quarters -/
def ptD (z : Cx) : Prop := ∃ r s : Nat, r < 33 ∧ s < 33 ∧ F32 z.1 (dX r) ∧ F32 z.2 (dX s)
def ptOk (z : Cx) : Prop := okPt z = true ∧ (z.1 < 4294967296 ∧ z.2 < 4294967296) ∧ ptD z
theorem dX_q {r : Nat} (h : r < 33) : Q .f32 (dX r) ((r : Int) - 8) 2 := by
  have hq : Q .f32 (floatOfInt .f32 ((r : Int) - 8)) ((r : Int) - 8) 0 := Q.ofInt .f32 _ (lt24 (by omega))
  have hc : can .f32 (floatOfInt .f32 ((r : Int) - 8)) = floatOfInt .f32 ((r : Int) - 8) := can_of_not (by
    obtain ⟨s, m, i, e, _⟩ := isN_read hq.num
    unfold nanB; rw [e]; rfl)
  unfold dX fdiv
  rw [hc]
  have := Q.half (d := 2) hq (y := 1082130432) (by decide) (lt24 (by omega)) (by decide)
  simpa using this
theorem Kept.grew {lo hi b : Nat} {a w w' : World} (h : Kept lo hi a w) (g : Grew b w w') (hb : a.heap.size ≤ b) : Kept lo hi a w' :=
  have hs := h.size
  ⟨g.os.trans h.os, g.tape.trans h.tape, g.output.trans h.output, Nat.le_trans h.size g.size, fun c hc hn => (g.block c (by omega) (by omega)).trans (h.block c hc hn), fun c n hc hr => Room.same (g.block c (by omega) (by omega)) (h.room c n hc hr)⟩
end Go.Fl
namespace Go.Proofs.Ytgghhnglnklmbaa
open Go.RowKit Go.Fl

set_option maxHeartbeats 1000000 in
set_option maxRecDepth 100000 in
theorem drawLoop (p : Nat) (a : Option Addr) (n c m : Nat) (hn : n ≤ 1048576) (hm : m ≤ 1000) (w : World) (hp : p < w.heap.size) (h : SrcAt w 75 p a n c m) :
    Calls Try.prog 42 #[.pointer (some ⟨p, 0, none⟩)] w fun e w' => ∃ b cap l, e = .returned (.slice (some ⟨b, 0, none⟩) (List.length l) cap) ∧ 3 ≤ l.length ∧ l.length ≤ 6 ∧ (∀ z, z ∈ l → ptOk z) ∧ w.heap.size ≤ b ∧ OwnC1 w' b l ∧
      SrcAt w' 75 p a n c (m + 13) ∧ Kept p (p + 1) w w' := by
  have H := Lib.hid h
  clear h
  go_enter Try.func42, Try.ntmps42
  go_wp2_with fail
  refine (pickS p a n c m 4 hn (by omega) (by decide) (by decide) _ (H.out.far ((Far.refl _ _ _).alloc _ (by omega)))).mono ?_
  rintro e w1 ⟨⟨r, rfl, hr⟩, hs, ho⟩
  have HS := Lib.hid hs
  have HO := Lib.hid ho
  have HK := Lib.hid ((Kept.of_below (Below.alloc (Below.refl w.heap.size w) (Nat.le_refl _) (.cells #[] 44)) p (p + 1)).trans (ho.kept (lo := p) (hi := p + 1) fun c hc => by omega))
  have HR := Lib.hid (ORow.far (ORow.new w 44 1) (lo := w.heap.size) (hi := w.heap.size + 1) (ho.far fun c hc => by omega) (Nat.le_refl _) (Nat.lt_succ_self _))
  clear hs ho
  have r0 : (0 : Int) ≤ (r : Int) := by omega
  have r1 : (r : Int) < 4 := by omega
  have q0 : (3 : Int) + (r : Int) = ((3 + r : Nat) : Int) := by omega
  obtain ⟨N, hN⟩ : ∃ x, x = 3 + r := ⟨_, rfl⟩
  rw [← hN] at q0
  have hN6 : N ≤ 6 := by omega
  have hN3 : 3 ≤ N := by omega
  clear hN r0 r1
  go_wp2_with fail
  go_loopw [3, 4] (fun o i wr => ∃ (k b cap s : Nat) (l : List Cx), k = l.length ∧ k + s = N ∧ i = .int .i64 s ∧ o = .slice (some ⟨b, 0, none⟩) k cap ∧ Hid (∀ z, z ∈ l → ptOk z) ∧ w.heap.size ≤ b ∧ Hid (ORow wr 44 1 b cap k (l.map cV)) ∧ Hid (SrcAt wr 75 p a n c (m + 1 + 2 * k)) ∧ Hid (Kept p (p + 1) w wr)) (fun _ i _ => (intOf i).toNat)
  case atStart => exact ⟨0, w.heap.size, 0, N, [], rfl, by omega, rfl, rfl, fun z hz => by simp at hz, Nat.le_refl _, HR, HS, HK⟩
  case round =>
    obtain ⟨k, b, cap, s, l, hk, hks, rfl, rfl, HZ, hb, HR, HS, HK⟩ := hrel
    have HKL := Lib.hid hk
    clear hk
    by_cases hs : 0 < s
    · have s0 : (0 : Int) < (s : Int) := by omega
      have hzw := HK.out.size
      go_wp2_with fail
      refine (pickS p a n c (m + 1 + 2 * k) 33 hn (by omega) (by decide) (by decide) _ HS.out).mono ?_
      rintro e w2 ⟨⟨r1, rfl, hr1⟩, hs2, ho2⟩
      have HS2 := Lib.hid hs2
      have HO2 := Lib.hid ho2
      clear hs2 ho2
      go_wp2_with (refine wpList_f rfl rfl rfl rfl (by decide) ?_; intro x1 n1 hx1; simp only [Act.put, List.setIfInBounds_toArray, List.set_cons_succ, List.set_cons_zero])
      refine (pickS p a n c (m + 1 + 2 * k + 1) 33 hn (by omega) (by decide) (by decide) _ (SrcAt.far HS2.out ((Far.refl _ _ _).drewN _))).mono ?_
      rintro e w3 ⟨⟨r2, rfl, hr2⟩, hs3, ho3⟩
      have HS3 := Lib.hid hs3
      have HO3 := Lib.hid ho3
      clear hs3 ho3
      have hpb : b < p ∨ p + 1 ≤ b := .inr (by omega)
      have HR3 := Lib.hid (show ORow w3 44 1 b cap k (l.map cV) from ORow.far (show ORow (w2.drewN n1) _ _ _ _ _ _ from HR.out.far (HO2.out.far (lo := b) (hi := b + 1) fun c hc => by omega) (Nat.le_refl _) (Nat.lt_succ_self _)) (HO3.out.far (lo := b) (hi := b + 1) fun c hc => by omega) (Nat.le_refl _) (Nat.lt_succ_self _))
      have HK3 := Lib.hid (show Kept p (p + 1) w w3 from (show Kept p (p + 1) w (w2.drewN n1) from HK.out.trans ((HO2.out.drewN n1).kept fun c hc => by omega)).trans (HO3.out.kept fun c hc => by omega))
      go_wp2_with (first | (refine wpList_f rfl rfl rfl rfl (by decide) ?_; intro x2 n2 hx2; simp only [Act.put, List.setIfInBounds_toArray, List.set_cons_succ, List.set_cons_zero]) | (at_builtin; refine wpList_app2 rfl _ _ _ rfl 44 (.complex .f32 0 0) 1 8 Try.underlying58 infoCx rfl (by decide) (w3.drewN n2) #[.complex .f32 x1 x2] 44 rfl (by simp [Value.oneCell']) w3.heap.size b cap k _ rfl rfl rfl HR3.out (by omega) (by decide) ?_; intro b6 cap6 w6 hr6 hbb6 hgr6; have HR6 := Lib.hid hr6; have HB6 := Lib.hid hbb6; have HG6 := Lib.hid hgr6; clear hr6 hbb6 hgr6))
      have hz3 := HK3.out.size
      have hb6 : b6 = b ∨ w3.heap.size < b6 := HB6.out
      have hG : Grew b w3 w6 := ⟨HG6.out.os, HG6.out.tape, HG6.out.output, HG6.out.size, HG6.out.block⟩
      have hbl := HR3.out.lt
      refine ⟨⟨k + 1, b6, cap6, s - 1, l ++ [(x1, x2)], by simp [HKL.out], by omega, by go_num, rfl, Lib.hid fun z hz => ?_, by omega, ?_, ?_, ?_⟩, by simp [intOf]; omega⟩
      · rcases List.mem_append.1 hz with hz | hz
        · exact HZ.out z hz
        · obtain rfl : z = (x1, x2) := by simpa using hz
          have e4 : can .f32 1082130432 = 1082130432 := can_l1
          rw [e4] at hx1 hx2
          have d1 := draw_ok hx1 hr1
          have d2 := draw_ok hx2 hr2
          exact ⟨by rw [okPt, d1.1, d2.1]; rfl, ⟨d1.2, d2.2⟩, r1, r2, hr1, hr2, hx1, hx2⟩
      · have := HR6.out
        rw [List.map_append]
        exact Lib.hid this
      · have h5 := HS3.out.far (hG.far (lo := 0) (hi := p + 1) (by omega) (.inl (by omega)))
        exact Lib.hid (h5.mono (by omega))
      · exact Lib.hid (HK3.out.grew hG hb)
    · have hs0 : s = 0 := by omega
      subst hs0
      have hkl := HKL.out
      go_wp2_with fail
      go_ret
      refine ⟨b, cap, l, by rw [← hkl]; rfl, by omega, by omega, HZ.out, hb, OwnC1.row (hkl ▸ HR.out) rfl, HS.out.mono (by omega), HK.out⟩
end Go.Proofs.Ytgghhnglnklmbaa
