/- Equal lists of numbers, marks on them, and whether they are held, by the law's own functions. -/
import Derived.Test.YtiinalckidghaaaDN
namespace Go.Fl
open Go.RowKit
/-- a slice of n spots at ao holds the marks from k on -/
def SlM (w : World) (lo hi : Nat) (ao : Option Addr) (n : Nat) (k : Int) : Prop :=
  0 < n → ∃ b off, ao = some ⟨b, off, none⟩ ∧ lo ≤ b ∧ b < hi ∧ ∀ i : Nat, i < n → w.cell? ⟨b, off + i * 3, none⟩ = some (.float .f32 (floatOfInt .f32 (k + (i : Int) * 3))) ∧
    w.cell? ⟨b, off + i * 3 + 1, none⟩ = some (.float .f32 (floatOfInt .f32 (k + (i : Int) * 3 + 1))) ∧ w.cell? ⟨b, off + i * 3 + 2, none⟩ = some (.float .f32 (floatOfInt .f32 (k + (i : Int) * 3 + 1 + 1)))
theorem SlM.far {w w' : World} {lo hi : Nat} {ao : Option Addr} {n : Nat} {k : Int} (h : SlM w lo hi ao n k) (hf : Far lo hi w w') : SlM w' lo hi ao n k := fun hp => by
  obtain ⟨b, off, e, h1, h2, hc⟩ := h hp
  exact ⟨b, off, e, h1, h2, fun i hi => by
    obtain ⟨c1, c2, c3⟩ := hc i hi
    exact ⟨(hf.cell h1 h2).trans c1, (hf.cell h1 h2).trans c2, (hf.cell h1 h2).trans c3⟩⟩
theorem SlM.mono {w : World} {lo hi lo' hi' : Nat} {ao : Option Addr} {n : Nat} {k : Int} (h : SlM w lo hi ao n k) (hl : lo' ≤ lo) (hh : hi ≤ hi') : SlM w lo' hi' ao n k := fun hp => by
  obtain ⟨b, off, e, h1, h2, hc⟩ := h hp
  exact ⟨b, off, e, by omega, by omega, hc⟩
theorem nearest_self (n : Int) : FloatKind.f32.format.order (floatOfInt .f32 n) (floatOfInt .f32 n) = some .eq := order_self (show nanB .f32 (floatOfInt .f32 n) = false from write_not_nan (k := .f32) (d := .number (n < 0) n.natAbs 0) rfl)
theorem nearest_ne (n : Int) : (FloatKind.f32.format.order (floatOfInt .f32 n) (floatOfInt .f32 n) != some .eq) = false := by rw [nearest_self]; rfl
/-- a slice of n numbers at ao holds the marks from k on -/
def SlK (w : World) (lo hi : Nat) (ao : Option Addr) (n : Nat) (k : Int) : Prop :=
  0 < n → ∃ b, ao = some ⟨b, 0, none⟩ ∧ lo ≤ b ∧ b < hi ∧ ∀ i : Nat, i < n → w.cell? ⟨b, i, none⟩ = some (.float .f32 (floatOfInt .f32 (k + (i : Int))))
theorem SlK.far {w w' : World} {lo hi : Nat} {ao : Option Addr} {n : Nat} {k : Int} (h : SlK w lo hi ao n k) (hf : Far lo hi w w') : SlK w' lo hi ao n k := fun hp => by
  obtain ⟨b, e, h1, h2, hc⟩ := h hp
  exact ⟨b, e, h1, h2, fun i hi => (hf.cell h1 h2).trans (hc i hi)⟩
theorem SlF.cells {w : World} {v : Value} {xs : List Nat} (h : SlF w v xs) (h0 : 0 < xs.length) : ∃ b off cap, v = .slice (some ⟨b, off, none⟩) xs.length cap ∧ ∀ i, i < xs.length → w.cell? ⟨b, off + i, none⟩ = some (.float .f32 (xs.getD i 0)) := by
  rcases h with ⟨_, rfl⟩ | ⟨b, off, cap, h1, _, h3⟩
  · exact absurd h0 (Nat.lt_irrefl 0)
  · exact ⟨b, off, cap, h1, h3⟩
end Go.Fl
namespace Go.Proofs.Ytiinalckidghaaa
open Go.RowKit Go.Fl

set_option maxHeartbeats 1000000 in
theorem markSpotM (b n c : Nat) (k : Int) (hn : n ≤ 1048576) (h0 : 0 ≤ k) (h1 : k ≤ 1152921504606846976) (w : World) (hr : Room w b (n * 3)) :
    Calls Try.prog 39 #[.slice (some ⟨b, 0, none⟩) n c, .int .i64 k] w fun e w' => e = .returned (.int .i64 (k + n * 3)) ∧ SlM w' b (b + 1) (some ⟨b, 0, none⟩) n k ∧ Only (fun c => c = b) w w' := by
  have HR := Lib.hid hr
  clear hr
  go_enter Try.func39, Try.ntmps39
  go_wp2_with fail
  go_loopw [1, 5] (fun kk i wr => ∃ j : Nat, j ≤ n ∧ i = .int .i64 j ∧ kk = .int .i64 (k + j * 3) ∧ Hid (Only (fun c => c = b) w wr) ∧ Hid (∀ t : Nat, t < j → wr.cell? ⟨b, t * 3, none⟩ = some (.float .f32 (floatOfInt .f32 (k + (t : Int) * 3))) ∧ wr.cell? ⟨b, t * 3 + 1, none⟩ = some (.float .f32 (floatOfInt .f32 (k + (t : Int) * 3 + 1))) ∧ wr.cell? ⟨b, t * 3 + 2, none⟩ = some (.float .f32 (floatOfInt .f32 (k + (t : Int) * 3 + 1 + 1))))) (fun _ i _ => n - (intOf i).toNat)
  case atStart => exact ⟨0, by omega, rfl, by simp, Only.refl _ _, fun t ht => absurd ht (Nat.not_lt_zero _)⟩
  case round =>
    obtain ⟨j, hj, rfl, rfl, HO, HC⟩ := hrel
    by_cases hlt : j < n
    · have hroom := HO.out.room _ _ HR.out
      obtain ⟨v, c1⟩ := hroom.cell (i := j * 3) (by omega)
      obtain ⟨v2, c2⟩ := hroom.cell (i := j * 3 + 1) (by omega)
      obtain ⟨v3, c3⟩ := hroom.cell (i := j * 3 + 2) (by omega)
      have d1 := hroom.free (j * 3)
      have d2 := hroom.free (j * 3 + 1)
      have d3 := hroom.free (j * 3 + 2)
      have k0 : (0 : Int) ≤ (j : Int) := by omega
      have k1 : (j : Int) < (n : Int) := by omega
      have D1 := Lib.hid c1
      have D2 := Lib.hid c2
      have D3 := Lib.hid c3
      clear hroom
      go_wp2_with fail
      go_roundw
      case rel =>
        refine ⟨j + 1, by omega, by go_num, by congr 1 <;> omega, ((HO.out.set _ _ _ rfl).set _ _ _ rfl).set _ _ _ rfl, fun t ht => ?_⟩
        by_cases htj : t = j
        · subst htj
          refine ⟨?_, ?_, ?_⟩
          · rw [World.cell?_setCell_other _ _ _ _ (by simp), World.cell?_setCell_other _ _ _ _ (by simp)]
            exact World.cell?_setCell_same _ _ _ D1.out
          · rw [World.cell?_setCell_other _ _ _ _ (by simp)]
            exact World.cell?_setCell_same _ _ _ ((World.cell?_setCell_other _ _ _ _ (by simp)).trans D2.out)
          · exact World.cell?_setCell_same _ _ _ ((World.cell?_setCell_other _ _ _ _ (by simp)).trans ((World.cell?_setCell_other _ _ _ _ (by simp)).trans D3.out))
        · obtain ⟨e1, e2, e3⟩ := HC.out t (by omega)
          refine ⟨?_, ?_, ?_⟩
          · rw [World.cell?_setCell_other _ _ _ _ (by first | omega | (simp; done) | (simp; omega)), World.cell?_setCell_other _ _ _ _ (by first | omega | (simp; done) | (simp; omega)), World.cell?_setCell_other _ _ _ _ (by first | omega | (simp; done) | (simp; omega))]; exact e1
          · rw [World.cell?_setCell_other _ _ _ _ (by first | omega | (simp; done) | (simp; omega)), World.cell?_setCell_other _ _ _ _ (by first | omega | (simp; done) | (simp; omega)), World.cell?_setCell_other _ _ _ _ (by first | omega | (simp; done) | (simp; omega))]; exact e2
          · rw [World.cell?_setCell_other _ _ _ _ (by first | omega | (simp; done) | (simp; omega)), World.cell?_setCell_other _ _ _ _ (by first | omega | (simp; done) | (simp; omega)), World.cell?_setCell_other _ _ _ _ (by first | omega | (simp; done) | (simp; omega))]; exact e3
      case measure => simp [intOf]; omega
    · have hjn : j = n := by omega
      subst hjn
      go_wp2_with fail
      go_ret
      exact ⟨rfl, fun _ => ⟨b, 0, rfl, Nat.le_refl _, Nat.lt_succ_self _, fun i hi => by rw [Nat.zero_add]; exact HC.out i hi⟩, HO.out⟩
set_option maxHeartbeats 1000000 in
theorem heldSpotS (lo hi : Nat) (a : Option Addr) (n c : Nat) (k : Int) (hn : n ≤ 1048576) (h0 : 0 ≤ k) (h1 : k ≤ 1152921504606846976) (w : World) (hs : SlM w lo hi a n k) :
    Calls Try.prog 41 #[.slice a n c, .int .i64 k] w fun e w' => e = .returned (.int .i64 (k + n * 3)) ∧ ∃ q, w' = w.drewN q := by
  have HS := Lib.hid hs
  have hns := nearest_ne
  clear hs
  go_enter Try.func41, Try.ntmps41
  go_wp2_with fail
  go_loopw [1, 5] (fun kk i wr => ∃ (j q : Nat), j ≤ n ∧ i = .int .i64 j ∧ kk = .int .i64 (k + j * 3) ∧ wr = w.drewN q) (fun _ i _ => n - (intOf i).toNat)
  case atStart => exact ⟨0, 0, by omega, rfl, by simp, rfl⟩
  case round =>
    obtain ⟨j, q, hj, rfl, rfl, rfl⟩ := hrel
    by_cases hlt : j < n
    · obtain ⟨b1, o1, rfl, _, _, hc⟩ := HS.out (by omega)
      obtain ⟨c1, c2, c3⟩ := hc j hlt
      have k0 : (0 : Int) ≤ (j : Int) := by omega
      have k1 : (j : Int) < (n : Int) := by omega
      clear hc
      go_wp2_with fail
      go_roundw
      case rel => exact ⟨j + 1, _, by omega, by go_num, by congr 1 <;> omega, rfl⟩
      case measure => simp [intOf]; omega
    · have hjn : j = n := by omega
      subst hjn
      go_wp2_with fail
      go_ret
      exact ⟨rfl, _, rfl⟩
set_option maxHeartbeats 1000000 in
theorem eqF (b1 o1 b2 o2 ca cb : Nat) (xs : List Nat) (hn : xs.length ≤ 1048576) (hok : xs.all (fun x => fin (can .f32 x)) = true) (w : World) (ha : ∀ i, i < xs.length → w.cell? ⟨b1, o1 + i, none⟩ = some (.float .f32 (xs.getD i 0))) (hb : ∀ i, i < xs.length → w.cell? ⟨b2, o2 + i, none⟩ = some (.float .f32 (xs.getD i 0))) :
    Calls Try.prog 35 #[.slice (some ⟨b1, o1, none⟩) xs.length ca, .slice (some ⟨b2, o2, none⟩) xs.length cb] w fun e w' => e = .returned (.bool true) ∧ ∃ n, w' = w.drewN n := by
  have HA := Lib.hid ha
  have HB := Lib.hid hb
  have HOK := Lib.hid hok
  clear ha hb hok
  go_enter Try.func35, Try.ntmps35
  go_wp2_with fail
  go_loopw [5] (fun i wr => ∃ k q : Nat, k ≤ xs.length ∧ i = .int .i64 k ∧ wr = w.drewN q) (fun i _ => xs.length - (intOf i).toNat)
  case atStart => exact ⟨0, 0, by omega, rfl, rfl⟩
  case round =>
    obtain ⟨k, q, hk, rfl, rfl⟩ := hrel
    by_cases hlt : k < xs.length
    · have c1 := HA.out k hlt
      have c2 := HB.out k hlt
      obtain ⟨x, hx⟩ : ∃ x, x = xs.getD k 0 := ⟨_, rfl⟩
      have hxn : nanB .f32 x = false := by
        have := List.all_eq_true.1 HOK.out _ (List.getElem_mem hlt)
        have e : xs.getD k 0 = xs[k] := by simp [hlt]
        rw [hx, e]; exact fin_nan this
      have hm : ∀ w, mcv .f32 .f64 x w = wid x := fun w => by simp [mcv, hxn, fits_widen x, wid]
      have hd : mcd .f32 .f64 x = 0 := by simp [mcd, hxn, fits_widen x]
      have dz : ∀ w : World, w.drewN 0 = w := World.drewN_zero
      rw [← hx] at c1 c2
      clear hx hxn
      have k0 : (0 : Int) ≤ (k : Int) := by omega
      have k1 : (k : Int) < (xs.length : Int) := by omega
      go_wp2_with fail
      go_quiet (first | (go_at_call 49; refine quiet_of2 (sameFloat _ _ rfl _)))
      go_wp2_with fail
      go_roundw
      case rel => exact ⟨k + 1, _, by omega, by go_num, by first | rfl | (simp only [World.drewN_drewN]; done)⟩
      case measure => simp [intOf]; omega
    · go_wp2_with fail
      go_ret
      exact ⟨rfl, _, rfl⟩
set_option maxHeartbeats 1000000 in
theorem markF (b n c : Nat) (k : Int) (hn : n ≤ 1048576) (h0 : 0 ≤ k) (h1 : k ≤ 1152921504606846976) (w : World) (hr : Room w b n) :
    Calls Try.prog 38 #[.slice (some ⟨b, 0, none⟩) n c, .int .i64 k] w fun e w' => e = .returned (.int .i64 (k + n)) ∧ SlK w' b (b + 1) (some ⟨b, 0, none⟩) n k ∧ Only (fun c => c = b) w w' := by
  have HR := Lib.hid hr
  clear hr
  go_enter Try.func38, Try.ntmps38
  go_wp2_with fail
  go_loopw [1, 5] (fun kk i wr => ∃ j : Nat, j ≤ n ∧ i = .int .i64 j ∧ kk = .int .i64 (k + j) ∧ Hid (Only (fun c => c = b) w wr) ∧ Hid (∀ t : Nat, t < j → wr.cell? ⟨b, t, none⟩ = some (.float .f32 (floatOfInt .f32 (k + (t : Int)))))) (fun _ i _ => n - (intOf i).toNat)
  case atStart => exact ⟨0, by omega, rfl, by simp, Only.refl _ _, fun t ht => absurd ht (Nat.not_lt_zero _)⟩
  case round =>
    obtain ⟨j, hj, rfl, rfl, HO, HC⟩ := hrel
    by_cases hlt : j < n
    · have hroom := HO.out.room _ _ HR.out
      obtain ⟨v, c1⟩ := hroom.cell hlt
      have c2 := hroom.free j
      have k0 : (0 : Int) ≤ (j : Int) := by omega
      have k1 : (j : Int) < (n : Int) := by omega
      clear hroom
      have HV := Lib.hid c1
      go_wp2_with fail
      go_roundw
      case rel =>
        refine ⟨j + 1, by omega, by go_num, by congr 1 <;> omega, HO.out.set _ _ _ rfl, fun t ht => ?_⟩
        by_cases ht2 : t = j
        · subst ht2
          exact World.cell?_setCell_same _ _ _ HV.out
        · rw [World.cell?_setCell_other _ _ _ _ (by first | omega | (simp; done) | (simp; omega))]
          exact HC.out t (by omega)
      case measure => simp [intOf]; omega
    · have hjn : j = n := by omega
      subst hjn
      go_wp2_with fail
      go_ret
      exact ⟨rfl, fun _ => ⟨b, rfl, Nat.le_refl _, Nat.lt_succ_self _, fun i hi => HC.out i hi⟩, HO.out⟩
set_option maxHeartbeats 1000000 in
theorem heldF (lo hi : Nat) (a : Option Addr) (n c : Nat) (k : Int) (hn : n ≤ 1048576) (h0 : 0 ≤ k) (h1 : k ≤ 1152921504606846976) (w : World) (hs : SlK w lo hi a n k) :
    Calls Try.prog 40 #[.slice a n c, .int .i64 k] w fun e w' => e = .returned (.int .i64 (k + n)) ∧ ∃ q, w' = w.drewN q := by
  have HS := Lib.hid hs
  have hns := nearest_ne
  clear hs
  go_enter Try.func40, Try.ntmps40
  go_wp2_with fail
  go_loopw [1, 5] (fun kk i wr => ∃ (j q : Nat), j ≤ n ∧ i = .int .i64 j ∧ kk = .int .i64 (k + j) ∧ wr = w.drewN q) (fun _ i _ => n - (intOf i).toNat)
  case atStart => exact ⟨0, 0, by omega, rfl, by simp, rfl⟩
  case round =>
    obtain ⟨j, q, hj, rfl, rfl, rfl⟩ := hrel
    by_cases hlt : j < n
    · obtain ⟨b1, rfl, _, _, hc⟩ := HS.out (by omega)
      have c1 := hc j hlt
      have k0 : (0 : Int) ≤ (j : Int) := by omega
      have k1 : (j : Int) < (n : Int) := by omega
      clear hc
      go_wp2_with fail
      go_roundw
      case rel => exact ⟨j + 1, _, by omega, by go_num, by congr 1 <;> omega, rfl⟩
      case measure => simp [intOf]; omega
    · have hjn : j = n := by omega
      subst hjn
      go_wp2_with fail
      go_ret
      exact ⟨rfl, _, rfl⟩
end Go.Proofs.Ytiinalckidghaaa
