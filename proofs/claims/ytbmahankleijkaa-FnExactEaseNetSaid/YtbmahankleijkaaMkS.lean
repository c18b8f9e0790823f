/- Contracts: marks on rows of spots, and whether they are held. -/
import Derived.Test.YtbmahankleijkaaOwn
namespace Go.Fl
/-- a slice of n spots at ao holds the marks from k on -/
def SlM (w : World) (lo hi : Nat) (ao : Option Addr) (n : Nat) (k : Int) : Prop :=
  0 < n → ∃ b off, ao = some ⟨b, off, none⟩ ∧ lo ≤ b ∧ b < hi ∧ ∀ i : Nat, i < n → w.cell? ⟨b, off + i * 3, none⟩ = some (.float .f32 (floatOfInt .f32 (k + (i : Int) * 3))) ∧
    w.cell? ⟨b, off + i * 3 + 1, none⟩ = some (.float .f32 (floatOfInt .f32 (k + (i : Int) * 3 + 1))) ∧ w.cell? ⟨b, off + i * 3 + 2, none⟩ = some (.float .f32 (floatOfInt .f32 (k + (i : Int) * 3 + 1 + 1)))
theorem SlM.far {w w' : World} {lo hi : Nat} {ao : Option Addr} {n : Nat} {k : Int} (h : SlM w lo hi ao n k) (hf : Far lo hi w w') : SlM w' lo hi ao n k := fun hp => by
  obtain ⟨b, off, e, h1, h2, hc⟩ := h hp
  exact ⟨b, off, e, h1, h2, fun i hi => by
    obtain ⟨c1, c2, c3⟩ := hc i hi
    exact ⟨(hf.cell h1 h2).trans c1, (hf.cell h1 h2).trans c2, (hf.cell h1 h2).trans c3⟩⟩
theorem SlM.mono {w : World} {lo hi lo' hi' : Nat} {ao : Option Addr} {n : Nat} {k : Int} (h : SlM w lo hi ao n k) (hl : lo' ≤ lo) (hh : hi ≤ hi') : SlM w lo' hi' ao n k := fun hp => by
  obtain ⟨b, off, e, h1, h2, hc⟩ := h hp
  exact ⟨b, off, e, by omega, by omega, hc⟩
theorem nearest_self (n : Int) : FloatKind.f32.format.order (floatOfInt .f32 n) (floatOfInt .f32 n) = some .eq := order_self (show nanB .f32 (floatOfInt .f32 n) = false from write_not_nan (k := .f32) (d := .number (n < 0) n.natAbs 0) rfl)
theorem nearest_ne (n : Int) : (FloatKind.f32.format.order (floatOfInt .f32 n) (floatOfInt .f32 n) != some .eq) = false := by rw [nearest_self]; rfl
/-- a slice of spots that a call made: nil, or in a block of its own -/
structure OwnP (w : World) (lo hi : Nat) (ao : Option Addr) (ps : List Sp) : Prop where
  at' : (ao = none ∧ ps = []) ∨ ∃ b, ao = some ⟨b, 0, none⟩ ∧ lo ≤ b ∧ b < hi ∧ Room w b (ps.length * 3) ∧ SlP w b (b + 1) ao ps
theorem OwnP.reads {w : World} {lo hi : Nat} {ao : Option Addr} {ps : List Sp} (h : OwnP w lo hi ao ps) : SlP w lo hi ao ps := by
  rcases h.at' with ⟨rfl, rfl⟩ | ⟨b, rfl, h1, h2, _, h4⟩
  · exact fun h => absurd h (Nat.not_lt_zero _)
  · exact h4.mono (by omega) (by omega)
theorem OwnP.far {w w' : World} {lo hi : Nat} {ao : Option Addr} {ps : List Sp} (h : OwnP w lo hi ao ps) (hf : Far lo hi w w') : OwnP w' lo hi ao ps := by
  rcases h.at' with h0 | ⟨b, rfl, h1, h2, h3, h4⟩
  · exact ⟨.inl h0⟩
  · exact ⟨.inr ⟨b, rfl, h1, h2, h3.far hf h1 h2, h4.far (hf.mono h1 (by omega))⟩⟩
theorem OwnP.mono {w : World} {lo hi lo' hi' : Nat} {ao : Option Addr} {ps : List Sp} (h : OwnP w lo hi ao ps) (hl : lo' ≤ lo) (hh : hi ≤ hi') : OwnP w lo' hi' ao ps := by
  rcases h.at' with h0 | ⟨b, rfl, h1, h2, h3, h4⟩
  · exact ⟨.inl h0⟩
  · exact ⟨.inr ⟨b, rfl, by omega, by omega, h3, h4⟩⟩
theorem OwnP.nil (w : World) (lo hi : Nat) : OwnP w lo hi none [] := ⟨.inl ⟨rfl, rfl⟩⟩
/-- the call from w answers with the spots ps and with ok -/
def RetP (ps : List Sp) (ok : Bool) (w : World) (e : Ending) (w' : World) : Prop :=
  (∃ ao c, e = .returned (.tuple #[.slice ao ps.length c, .bool ok]) ∧ OwnP w' w.heap.size w'.heap.size ao ps) ∧ RowKit.Below w.heap.size w w'
end Go.Fl
namespace Go.Proofs.Ytbmahankleijkaa
open Go.RowKit Go.Fl

set_option maxHeartbeats 1000000 in
theorem markSpotM (b n c : Nat) (k : Int) (hn : n ≤ 1048576) (h0 : 0 ≤ k) (h1 : k ≤ 1152921504606846976) (w : World) (hr : Room w b (n * 3)) :
    Calls Try.prog 28 #[.slice (some ⟨b, 0, none⟩) n c, .int .i64 k] w fun e w' => e = .returned (.int .i64 (k + n * 3)) ∧ SlM w' b (b + 1) (some ⟨b, 0, none⟩) n k ∧ Only (fun c => c = b) w w' := by
  have HR := Lib.hid hr
  clear hr
  go_enter Try.func28, Try.ntmps28
  go_wp2_with fail
  go_loopw [1, 5] (fun kk i wr => ∃ j : Nat, j ≤ n ∧ i = .int .i64 j ∧ kk = .int .i64 (k + j * 3) ∧ Hid (Only (fun c => c = b) w wr) ∧ Hid (∀ t : Nat, t < j → wr.cell? ⟨b, t * 3, none⟩ = some (.float .f32 (floatOfInt .f32 (k + (t : Int) * 3))) ∧ wr.cell? ⟨b, t * 3 + 1, none⟩ = some (.float .f32 (floatOfInt .f32 (k + (t : Int) * 3 + 1))) ∧ wr.cell? ⟨b, t * 3 + 2, none⟩ = some (.float .f32 (floatOfInt .f32 (k + (t : Int) * 3 + 1 + 1))))) (fun _ i _ => n - (intOf i).toNat)
  case atStart => exact ⟨0, by omega, rfl, by simp, Only.refl _ _, fun t ht => absurd ht (Nat.not_lt_zero _)⟩
  case round =>
    obtain ⟨j, hj, rfl, rfl, HO, HC⟩ := hrel
    by_cases hlt : j < n
    · have hroom := HO.out.room _ _ HR.out
      obtain ⟨v, c1⟩ := hroom.cell (i := j * 3) (by omega)
      obtain ⟨v2, c2⟩ := hroom.cell (i := j * 3 + 1) (by omega)
      obtain ⟨v3, c3⟩ := hroom.cell (i := j * 3 + 2) (by omega)
      have d1 := hroom.free (j * 3)
      have d2 := hroom.free (j * 3 + 1)
      have d3 := hroom.free (j * 3 + 2)
      have k0 : (0 : Int) ≤ (j : Int) := by omega
      have k1 : (j : Int) < (n : Int) := by omega
      have D1 := Lib.hid c1
      have D2 := Lib.hid c2
      have D3 := Lib.hid c3
      clear hroom
      go_wp2_with fail
      go_roundw
      case rel =>
        refine ⟨j + 1, by omega, by go_num, by congr 1 <;> omega, ((HO.out.set _ _ _ rfl).set _ _ _ rfl).set _ _ _ rfl, fun t ht => ?_⟩
        by_cases htj : t = j
        · subst htj
          refine ⟨?_, ?_, ?_⟩
          · rw [World.cell?_setCell_other _ _ _ _ (by simp), World.cell?_setCell_other _ _ _ _ (by simp)]
            exact World.cell?_setCell_same _ _ _ D1.out
          · rw [World.cell?_setCell_other _ _ _ _ (by simp)]
            exact World.cell?_setCell_same _ _ _ ((World.cell?_setCell_other _ _ _ _ (by simp)).trans D2.out)
          · exact World.cell?_setCell_same _ _ _ ((World.cell?_setCell_other _ _ _ _ (by simp)).trans ((World.cell?_setCell_other _ _ _ _ (by simp)).trans D3.out))
        · obtain ⟨e1, e2, e3⟩ := HC.out t (by omega)
          refine ⟨?_, ?_, ?_⟩
          · rw [World.cell?_setCell_other _ _ _ _ (by first | omega | (simp; done) | (simp; omega)), World.cell?_setCell_other _ _ _ _ (by first | omega | (simp; done) | (simp; omega)), World.cell?_setCell_other _ _ _ _ (by first | omega | (simp; done) | (simp; omega))]; exact e1
          · rw [World.cell?_setCell_other _ _ _ _ (by first | omega | (simp; done) | (simp; omega)), World.cell?_setCell_other _ _ _ _ (by first | omega | (simp; done) | (simp; omega)), World.cell?_setCell_other _ _ _ _ (by first | omega | (simp; done) | (simp; omega))]; exact e2
          · rw [World.cell?_setCell_other _ _ _ _ (by first | omega | (simp; done) | (simp; omega)), World.cell?_setCell_other _ _ _ _ (by first | omega | (simp; done) | (simp; omega)), World.cell?_setCell_other _ _ _ _ (by first | omega | (simp; done) | (simp; omega))]; exact e3
      case measure => simp [intOf]; omega
    · have hjn : j = n := by omega
      subst hjn
      go_wp2_with fail
      go_ret
      exact ⟨rfl, fun _ => ⟨b, 0, rfl, Nat.le_refl _, Nat.lt_succ_self _, fun i hi => by rw [Nat.zero_add]; exact HC.out i hi⟩, HO.out⟩

set_option maxHeartbeats 1000000 in
theorem heldSpotS (lo hi : Nat) (a : Option Addr) (n c : Nat) (k : Int) (hn : n ≤ 1048576) (h0 : 0 ≤ k) (h1 : k ≤ 1152921504606846976) (w : World) (hs : SlM w lo hi a n k) :
    Calls Try.prog 29 #[.slice a n c, .int .i64 k] w fun e w' => e = .returned (.int .i64 (k + n * 3)) ∧ ∃ q, w' = w.drewN q := by
  have HS := Lib.hid hs
  have hns := nearest_ne
  clear hs
  go_enter Try.func29, Try.ntmps29
  go_wp2_with fail
  go_loopw [1, 5] (fun kk i wr => ∃ (j q : Nat), j ≤ n ∧ i = .int .i64 j ∧ kk = .int .i64 (k + j * 3) ∧ wr = w.drewN q) (fun _ i _ => n - (intOf i).toNat)
  case atStart => exact ⟨0, 0, by omega, rfl, by simp, rfl⟩
  case round =>
    obtain ⟨j, q, hj, rfl, rfl, rfl⟩ := hrel
    by_cases hlt : j < n
    · obtain ⟨b1, o1, rfl, _, _, hc⟩ := HS.out (by omega)
      obtain ⟨c1, c2, c3⟩ := hc j hlt
      have k0 : (0 : Int) ≤ (j : Int) := by omega
      have k1 : (j : Int) < (n : Int) := by omega
      clear hc
      go_wp2_with fail
      go_roundw
      case rel => exact ⟨j + 1, _, by omega, by go_num, by congr 1 <;> omega, rfl⟩
      case measure => simp [intOf]; omega
    · have hjn : j = n := by omega
      subst hjn
      go_wp2_with fail
      go_ret
      exact ⟨rfl, _, rfl⟩

theorem markNilP (c : Nat) (k : Int) (w : World) : Calls Try.prog 28 #[.slice none 0 c, .int .i64 k] w fun e w' => e = .returned (.int .i64 k) ∧ w' = w := by
  go_enter Try.func28, Try.ntmps28
  go_wp2_with fail
  refine wp_loop_rounds 1 ?_
  rw [rounds_succ]
  go_wp2_with fail
  go_ret
  exact ⟨rfl, rfl⟩
theorem markOwnP (lo hi : Nat) (ao : Option Addr) (c : Nat) (ps : List Sp) (k : Int) (hn : ps.length ≤ 1048576) (h0 : 0 ≤ k) (h1 : k ≤ 1152921504606846976) (w : World) (h : OwnP w lo hi ao ps) :
    Calls Try.prog 28 #[.slice ao ps.length c, .int .i64 k] w fun e w' => e = .returned (.int .i64 (k + (ps.length : Int) * 3)) ∧ SlM w' lo hi ao ps.length k ∧ Kept lo hi w w' := by
  rcases h.at' with ⟨rfl, rfl⟩ | ⟨b, rfl, l1, l2, hr, hs⟩
  · refine (markNilP c k w).mono ?_
    rintro e w' ⟨rfl, rfl⟩
    exact ⟨by simp, fun h => absurd h (Nat.not_lt_zero _), Kept.of_below (Below.refl _ _) _ _⟩
  · refine (markSpotM b ps.length c k hn h0 h1 w hr).mono ?_
    rintro e w' ⟨rfl, hs', ho⟩
    exact ⟨rfl, hs'.mono (by omega) (by omega), ho.kept fun c hc => by omega⟩
end Go.Proofs.Ytbmahankleijkaa
