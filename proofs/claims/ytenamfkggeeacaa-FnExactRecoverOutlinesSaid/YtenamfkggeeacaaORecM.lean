/- Lists of outlines: marked, held, by the law's own functions. -/
import Derived.Test.YtenamfkggeeacaaORecE
namespace Go.Fl
open Go.RowKit
end Go.Fl
namespace Go.Proofs.Ytenamfkggeeacaa
open Go.RowKit Go.Fl

set_option maxHeartbeats 2000000 in
set_option maxRecDepth 100000 in
theorem markOlS (T T1 : TypeId) (base top b cap : Nat) (os : List Ol) (hn : os.length ≤ 8) (hfit : ∀ o, o ∈ os → Fits o.2) (w : World) (ht : top ≤ w.heap.size) (h : OsAt w T T1 base top b cap os) :
    Calls Try.prog 13 #[.slice (some ⟨b, 0, none⟩) os.length cap, .int .i64 1] w fun e w' => e = .returned (.int .i64 ((1 + sumO os os.length : Nat) : Int)) ∧ MkO w' base top b 1 os ∧ Kept base top w w' := by
  obtain ⟨hb1, hb2, a, c, lo, hi, h3, h4⟩ := h
  have HR := Lib.hid h3
  have H4 := Lib.hid h4
  have HF := Lib.hid hfit
  have hsum := sumO_le hfit
  have HS := Lib.hid hsum
  clear h3 h4 hfit hsum
  go_enter Try.func13, Try.ntmps13
  go_wp2_with fail
  go_loopw [1, 5] (fun x i wr => ∃ k kx : Nat, k ≤ os.length ∧ i = .int .i64 k ∧ x = .int .i64 kx ∧ Hid (kx = 1 + sumO os k) ∧ Hid (Kept base top w wr) ∧ Hid (Room wr b (os.length * 2)) ∧
    Hid (∀ i, i < os.length → wr.cell? ⟨b, i * 2 + 1, none⟩ = some (.slice (a i) (olAt os i).2.length (c i))) ∧
    Hid (∀ i, i < k → wr.cell? ⟨b, i * 2, none⟩ = some (.string (mtx ((1 + sumO os i : Nat) : Int))) ∧ SlL wr (lo i) (hi i) (a i) (mLs (1 + sumO os i + 1) (olAt os i).2)) ∧
    Hid (∀ i, k ≤ i → i < os.length → LsAt wr T1 (lo i) (hi i) (a i) (c i) (olAt os i).2)) (fun _ i _ => os.length - (intOf i).toNat)
  case atStart =>
    exact ⟨0, 1, by omega, rfl, rfl, Lib.hid rfl, Lib.hid (Kept.of_below (Below.refl _ _) _ _), Lib.hid HR.out.room, Lib.hid (fun i hi' => (HR.out.cell (i * 2 + 1) (by omega)).trans (oCells_at os a c os.length i hi').2), Lib.hid (fun i hi' => absurd hi' (Nat.not_lt_zero _)), Lib.hid (fun i _ hi' => (H4.out i hi').2.2.2.2.1)⟩
  case round =>
    obtain ⟨k, kx, hk, rfl, rfl, HK, HW, HM, HC, HD, HL⟩ := hrel
    by_cases hlt : k < os.length
    · obtain ⟨y1, y2, y3, y4, _, y6⟩ := H4.out k hlt
      have HY := Lib.hid (⟨y1, y2, y3, y4, y6⟩ : base ≤ lo k ∧ lo k ≤ hi k ∧ hi k ≤ top ∧ (b < lo k ∨ hi k ≤ b) ∧ ∀ j, j < k → hi j ≤ lo k)
      have hz := HW.out.size
      have hbl := HM.out.lt
      have k0 : (0 : Int) ≤ (k : Int) := by omega
      have k1 : (k : Int) < (os.length : Int) := by omega
      have hkx : kx + (1 + sumL (olAt os k).2 (olAt os k).2.length) < 2100 := by
        have e1 := HK.out
        have e2 := HS.out (k + 1) hlt
        have e3 : sumO os (k + 1) = sumO os k + (1 + sumL (olAt os k).2 (olAt os k).2.length) := rfl
        omega
      have hk1 : 1 ≤ kx := by have := HK.out; omega
      have hfk := HF.out _ (olAt_mem hlt)
      have hl4 : (olAt os k).2.length ≤ 1048576 := by have := hfk.1; omega
      obtain ⟨k2, hk2⟩ : ∃ x, x = kx + 1 := ⟨_, rfl⟩
      have q2 : (kx : Int) + 1 = (k2 : Int) := by omega
      have q3 : (k2 : Int) < 2100 := by omega
      have hs2 : k2 + sumL (olAt os k).2 (olAt os k).2.length < 2100 := by omega
      have HK2 := Lib.hid hk2
      have HS2 := Lib.hid hs2
      have hkm : kx ≤ 1000000000 := by omega
      clear y1 y2 y3 y4 y6 hkx hfk hk2 hs2
      go_wp2_with (go_at_call 20; refine (markText kx hk1 hkm _).mono ?_; rintro e w1 ⟨rfl, hm1⟩; have R1 := Lib.hid (HM.out.far (Far.below hm1 (Nat.le_refl _)) (Nat.zero_le _) hbl); obtain ⟨v1, hv1⟩ := R1.out.cell (show k * 2 < os.length * 2 by omega); have hf1 := R1.out.free (k * 2); have c2 := keep_cell hm1 (HC.out k hlt); have HB1 := Lib.hid hm1; clear hm1)
      have hz1 := HB1.out.size
      have hL := (HL.out k (Nat.le_refl _) hlt).far (((Far.below HB1.out (show hi k ≤ wr.heap.size by have := HY.out; omega)).set ⟨b, k * 2, none⟩ (.string (mtx (kx : Nat))) HY.out.2.2.2.1))
      refine (markC2 T1 (lo k) (hi k) (a k) (c k) (olAt os k).2 k2 hl4 HS2.out _ hL).mono ?_
      rintro e w3 ⟨rfl, hs3, ho3⟩
      have HS3 := Lib.hid hs3
      have HO3 := Lib.hid ho3
      clear hs3 ho3 hL
      go_wp2_with fail
      go_roundw
      case rel =>
        have hb := HY.out.2.2.2.1
        have hset : Only (fun c => c = b) w1 (w1.setCell ⟨b, k * 2, none⟩ (.string (mtx (kx : Nat)))) := (Only.refl _ _).set b (k * 2) _ rfl
        have hfar : ∀ lo' hi', hi' ≤ wr.heap.size → (b < lo' ∨ hi' ≤ b) → (hi' ≤ lo k ∨ hi k ≤ lo') → Far lo' hi' wr w3 := fun lo' hi' h1 h2 h3 =>
          ((Far.below HB1.out h1).trans (hset.far fun c hc => by omega)).trans (HO3.out.far fun c hc => by omega)
        have hcell : ∀ o, o ≠ k * 2 → ∀ v, wr.cell? ⟨b, o, none⟩ = some v → w3.cell? ⟨b, o, none⟩ = some v := fun o ho v hv =>
          (HO3.out.cell (o := o) (by omega)).trans ((World.cell?_setCell_other _ _ _ _ (by intro h; injection h; omega)).trans (keep_cell HB1.out hv))
        refine ⟨k + 1, k2 + sumL (olAt os k).2 (olAt os k).2.length, by omega, by go_num, rfl, ?_, ?_, ?_, ?_, ?_, ?_⟩
        · have e1 := HK.out
          have e2 := HK2.out
          have e3 : sumO os (k + 1) = sumO os k + (1 + sumL (olAt os k).2 (olAt os k).2.length) := rfl
          exact Lib.hid (by omega)
        · exact Lib.hid (((HW.out.trans (Kept.of_below HB1.out _ _)).trans (hset.kept fun c hc => by omega)).trans (HO3.out.kept fun c hc => by have := HY.out; omega))
        · exact Lib.hid (HO3.out.room _ _ (hset.room _ _ R1.out))
        · exact Lib.hid fun i hi' => hcell _ (by omega) _ (HC.out i hi')
        · refine Lib.hid fun i hi' => ?_
          by_cases hik : i = k
          · subst hik
            rw [← HK.out, ← HK2.out]
            exact ⟨(HO3.out.cell (o := i * 2) (by omega)).trans (World.cell?_setCell_same _ _ _ hv1), HS3.out⟩
          · obtain ⟨d1, d2⟩ := HD.out i (by omega)
            obtain ⟨y1, y2, y3, y4, _, y6⟩ := H4.out i (by omega)
            exact ⟨hcell _ (by omega) _ d1, d2.far (hfar _ _ (by omega) y4 (.inl (HY.out.2.2.2.2 i (by omega))))⟩
        · refine Lib.hid fun i h1 h2 => ?_
          obtain ⟨y1, y2, y3, y4, _, y6⟩ := H4.out i h2
          exact (HL.out i (by omega) h2).far (hfar _ _ (by omega) y4 (.inr (y6 k (by omega))))
      case measure => simp [intOf]; omega
    · have hkk : k = os.length := by omega
      subst hkk
      have hkx := HK.out
      subst hkx
      go_wp2_with fail
      go_ret
      refine ⟨rfl, ⟨hb1, hb2, fun i hi' => ?_⟩, HW.out⟩
      obtain ⟨y1, y2, y3, y4, _, y6⟩ := H4.out i hi'
      obtain ⟨d1, d2⟩ := HD.out i hi'
      exact ⟨a i, c i, d1, HC.out i hi', d2.mono y1 y3⟩

set_option maxHeartbeats 2000000 in
set_option maxRecDepth 100000 in
theorem heldOlS (lo hi b cap : Nat) (os : List Ol) (hn : os.length ≤ 8) (hfit : ∀ o, o ∈ os → Fits o.2) (w : World) (ht : hi ≤ w.heap.size) (h : MkO w lo hi b 1 os) :
    Calls Try.prog 14 #[.slice (some ⟨b, 0, none⟩) os.length cap, .int .i64 1] w fun e w' => e = .returned (.int .i64 ((1 + sumO os os.length : Nat) : Int)) ∧ Below w.heap.size w w' := by
  have HO := Lib.hid h
  have HF := Lib.hid hfit
  have hsum := sumO_le hfit
  have HS := Lib.hid hsum
  clear h hfit hsum
  go_enter Try.func14, Try.ntmps14
  go_wp2_with fail
  go_loopw [1, 5] (fun x i wr => ∃ k kx : Nat, k ≤ os.length ∧ i = .int .i64 k ∧ x = .int .i64 kx ∧ Hid (kx = 1 + sumO os k) ∧ Hid (Below w.heap.size w wr)) (fun _ i _ => os.length - (intOf i).toNat)
  case atStart => exact ⟨0, 1, by omega, rfl, rfl, Lib.hid rfl, Lib.hid (Below.refl _ _)⟩
  case round =>
    obtain ⟨k, kx, hk, rfl, rfl, HK, HW⟩ := hrel
    by_cases hlt : k < os.length
    · have hz := HW.out.size
      obtain ⟨hb1, hb2, h3⟩ := HO.out.far (Far.below HW.out ht)
      obtain ⟨a1, d1, c1, c1', s1⟩ := h3 k hlt
      rw [← HK.out] at c1
      have S1 := Lib.hid s1
      have k0 : (0 : Int) ≤ (k : Int) := by omega
      have k1 : (k : Int) < (os.length : Int) := by omega
      have hkx : kx + (1 + sumL (olAt os k).2 (olAt os k).2.length) < 2100 := by
        have e1 := HK.out
        have e2 := HS.out (k + 1) hlt
        have e3 : sumO os (k + 1) = sumO os k + (1 + sumL (olAt os k).2 (olAt os k).2.length) := rfl
        omega
      have hk1 : 1 ≤ kx := by have := HK.out; omega
      have hfk := HF.out _ (olAt_mem hlt)
      have hl4 : (olAt os k).2.length ≤ 1048576 := by have := hfk.1; omega
      obtain ⟨k2, hk2⟩ : ∃ x, x = kx + 1 := ⟨_, rfl⟩
      have q2 : (kx : Int) + 1 = (k2 : Int) := by omega
      have q3 : (k2 : Int) < 2100 := by omega
      have hs2 : k2 + sumL (olAt os k).2 (olAt os k).2.length < 2100 := by omega
      obtain ⟨k3, hk3⟩ : ∃ x, x = k2 + sumL (olAt os k).2 (olAt os k).2.length := ⟨_, rfl⟩
      have q4 : (k3 : Int) < 2100 := by omega
      have q5 : (0 : Int) ≤ (k3 : Int) := by omega
      have HK2 := Lib.hid hk2
      have HK3 := Lib.hid hk3
      have HS2 := Lib.hid hs2
      have hkm : kx ≤ 1000000000 := by omega
      clear h3 s1 hkx hfk hk2 hs2 hk3
      go_wp2_with fail
      go_region_held3 (fun w' => w'.cell? ⟨b, k * 2, none⟩ = some (.string (mtx ((kx : Nat) : Int)))) (first | go_keep | (exact keep_cell (by assumption) (by assumption)))
        ((go_at_call 20; refine (markText kx hk1 hkm _).mono ?_; rintro e w3 ⟨rfl, hb3⟩))
      have HB3 := Lib.hid (show Below wr.heap.size wr w3 from (Below.refl _ _).drew.trans hb3)
      have c2 := keep_cell HB3.out c1'
      have hz3 := HB3.out.size
      clear hb3
      have hS3 : SlL w3 lo hi a1 (mLs k2 (olAt os k).2) := by
        have e1 : 1 + sumO os k + 1 = k2 := by rw [HK2.out, HK.out]
        rw [← e1]
        exact S1.out.far (Far.below HB3.out (by omega))
      have HS3 := Lib.hid hS3
      clear hS3
      go_wp2_with (go_at_call 19; refine (heldC2 lo hi a1 d1 (olAt os k).2 k2 hl4 HS2.out _ HS3.out).mono ?_; rintro e w4 ⟨rfl, rfl⟩; rw [← HK3.out])
      go_roundw
      case rel =>
        refine ⟨k + 1, k3, by omega, by go_num, rfl, ?_, Lib.hid (HW.out.trans (HB3.out.mono hz))⟩
        have e1 := HK.out
        have e2 := HK2.out
        have e4 := HK3.out
        have e3 : sumO os (k + 1) = sumO os k + (1 + sumL (olAt os k).2 (olAt os k).2.length) := rfl
        exact Lib.hid (by omega)
      case measure => simp [intOf]; omega
    · have hkk : k = os.length := by omega
      subst hkk
      have hkx := HK.out
      subst hkx
      go_wp2_with fail
      go_ret
      exact ⟨rfl, HW.out⟩
end Go.Proofs.Ytenamfkggeeacaa
