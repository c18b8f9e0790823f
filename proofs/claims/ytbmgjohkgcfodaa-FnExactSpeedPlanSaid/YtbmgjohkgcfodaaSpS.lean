/- SpeedPlan, the reference's. -/
import Derived.Test.YtbmgjohkgcfodaaSpA
namespace Go.Fl
open Go.RowKit
/-- what both return -/
def RetS (ok : Prop) (V : List Nat) (S : Nat) (w : World) (e : Ending) (w' : World) : Prop :=
  ((ok ∧ ∃ b c s, e = .returned (.tuple #[.slice (some ⟨b, 0, none⟩) V.length c, .float .f32 s, .bool true]) ∧ F32 s S ∧ w.heap.size ≤ b ∧ b < w'.heap.size ∧ OwnF1 w' b V) ∨
    (¬ ok ∧ e = .returned (.tuple #[.slice none 0 0, .float .f32 0, .bool false]))) ∧ Below w.heap.size w w'
theorem take_all {α : Type} {p : α → Bool} {l : List α} {k : Nat} (d : α) (hk : k < l.length) (h : (l.take k).all p = true) (hp : p (l.getD k d) = true) : (l.take (k + 1)).all p = true := by
  rw [List.getD_eq_getElem?_getD, List.getElem?_eq_getElem hk] at hp
  rw [List.take_succ_eq_append_getElem hk, List.all_append, h]; simpa using hp
theorem all_fails {α : Type} {p : α → Bool} {l : List α} {k : Nat} (d : α) (hk : k < l.length) (hp : p (l.getD k d) = false) : l.all p = false := by
  rw [List.getD_eq_getElem?_getD, List.getElem?_eq_getElem hk] at hp
  exact List.all_eq_false.2 ⟨l[k], List.getElem_mem hk, by rw [show l[k] = (some l[k]).getD d from rfl, hp]; decide⟩
/-- the bits of what the reference begins with, after k pieces of n -/
def spB (mb n k : Nat) : List Nat := 0 :: (List.replicate (min k (n - 1)) mb ++ List.replicate (k - (n - 1)) 0)
theorem spB_zero (mb n : Nat) (h : 1 ≤ n) : spB mb n 0 = [0] := by simp [spB]
theorem spB_mid (mb n k : Nat) (h : k + 1 < n) : spB mb n (k + 1) = spB mb n k ++ [mb] := by
  unfold spB
  rw [show min (k + 1) (n - 1) = min k (n - 1) + 1 by omega, show k + 1 - (n - 1) = 0 by omega, show k - (n - 1) = 0 by omega, List.replicate_succ']
  simp
theorem spB_last (mb n k : Nat) (h : k + 1 = n) : spB mb n (k + 1) = spB mb n k ++ [0] := by
  unfold spB
  rw [show min (k + 1) (n - 1) = min k (n - 1) by omega, show k + 1 - (n - 1) = 1 by omega, show k - (n - 1) = 0 by omega]
  simp
theorem spB_len (mb n k : Nat) : (spB mb n k).length = k + 1 := by simp only [spB, List.length_cons, List.length_append, List.length_replicate]; omega
theorem spB_end (mb n : Nat) (h : 1 ≤ n) : spB mb n n = 0 :: (List.replicate (n - 1) mb ++ [0]) := by
  unfold spB
  rw [show min n (n - 1) = n - 1 by omega, show n - (n - 1) = 1 by omega]
  rfl
theorem can_l2N : nanB .f32 1073741824 = false := by decide +kernel
theorem zero_can : can .f32 0 = 0 := by decide +kernel
theorem RowV.ofBits {w : World} {T : TypeId} {b cap n : Nat} {bs V : List Nat} (h : ORow w T 1 b cap n (bs.map (Value.float .f32))) (hn : n = bs.length) (hV : bs.map (can .f32) = V) : RowV w b V := by
  subst hn hV
  refine ⟨by have := h.room; rw [Nat.mul_one] at this; rw [List.length_map]; exact this, fun i hi => ?_⟩
  rw [List.length_map] at hi
  refine ⟨bs[i], ?_, ?_⟩
  · rw [h.cell i (by omega), List.getElem?_map, List.getElem?_eq_getElem hi]; rfl
  · show can .f32 bs[i] = nF (bs.map (can .f32)) i
    simp [nF, hi]
theorem spV0_of (mb n : Nat) (h : 1 ≤ n) : (spB mb n n).map (can .f32) = spV0 n (can .f32 mb) := by
  rw [spB_end mb n h]
  simp [spV0, zero_can]
end Go.Fl
namespace Go.Proofs.Ytbmgjohkgcfodaa
open Go.RowKit Go.Fl
set_option maxHeartbeats 1000000 in
theorem l02Finite (b n c : Nat) (V : List Nat) (hV : V.length = n) (hn : n ≤ 1000) (w : World) (h : ∀ i, i < V.length → ∃ x, w.cell? ⟨b, i, none⟩ = some (.float .f32 x) ∧ F32 x (nF V i)) :
    Calls Try.prog 13 #[.slice (some ⟨b, 0, none⟩) n c] w fun e w' => e = .returned (.bool (V.all fin)) ∧ ∃ q, w' = w.drewN q := by
  have H := Lib.hid h
  have HV := Lib.hid hV
  clear h hV
  go_enter Try.func13, Try.ntmps13
  go_wp2_with fail
  go_loopw [3] (fun i wr => ∃ k q : Nat, k ≤ n ∧ i = .int .i64 k ∧ wr = w.drewN q ∧ Hid ((V.take k).all fin = true)) (fun i _ => n - (intOf i).toNat)
  case atStart => exact ⟨0, 0, by omega, rfl, rfl, rfl⟩
  case round =>
    obtain ⟨k, q, hk, rfl, rfl, HA⟩ := hrel
    by_cases hlt : k < n
    · obtain ⟨x, c1, hx⟩ := H.out k (by rw [HV.out]; exact hlt)
      have hxx : can .f32 x = nF V k := hx
      have HX := Lib.hid hxx
      have k0 : (0 : Int) ≤ (k : Int) := by omega
      have k1 : (k : Int) < (n : Int) := by omega
      clear hx hxx
      cases hp : fin (nF V k)
      · have HNO := Lib.hid (all_fails (p := fin) 0 (show k < V.length by rw [HV.out]; exact hlt) hp)
        go_wp2_with (go_at_call 14; refine (l01Finite _ _).mono ?_; rintro e w' ⟨rfl, n2, rfl⟩; rw [HX.out, hp])
        go_ret
        exact ⟨ret_bool HNO.out.symm, _, by first | rfl | (simp only [World.drewN_drewN]; rfl)⟩
      · have HY := Lib.hid (take_all (p := fin) 0 (show k < V.length by rw [HV.out]; exact hlt) HA.out hp)
        go_wp2_with (go_at_call 14; refine (l01Finite _ _).mono ?_; rintro e w' ⟨rfl, n2, rfl⟩; rw [HX.out, hp])
        go_roundw
        case rel => exact ⟨k + 1, _, by omega, by go_num, rfl, HY⟩
        case measure => simp [intOf]; omega
    · have hA := HA.out
      rw [List.take_of_length_le (by rw [HV.out]; omega)] at hA
      have HA2 := Lib.hid hA
      clear hA
      go_wp2_with fail
      go_ret
      exact ⟨ret_bool HA2.out.symm, _, rfl⟩
set_option maxHeartbeats 4000000 in
set_option maxRecDepth 100000 in
theorem specSpeed (lo hi : Nat) (a : Option Addr) (bs : List Nat) (ca mb rb : Nat) (hn : bs.length ≤ 1048576) (w : World) (hr : RdF w lo hi a bs) (hh : hi ≤ w.heap.size) :
    Calls Try.prog 4 #[.slice a bs.length ca, .float .f32 mb, .float .f32 rb] w
      (RetS (spOk (bs.map (can .f32)) (can .f32 mb) (can .f32 rb)) (spEnd (bs.map (can .f32)) (can .f32 mb) (can .f32 rb)) (spSum (bs.map (can .f32)) (spEnd (bs.map (can .f32)) (can .f32 mb) (can .f32 rb)) bs.length) w) := by
  obtain ⟨ls, hls⟩ : ∃ ls, ls = bs.map (can .f32) := ⟨_, rfl⟩
  obtain ⟨mo, hmo⟩ : ∃ mo, mo = can .f32 mb := ⟨_, rfl⟩
  obtain ⟨ri, hri⟩ : ∃ ri, ri = can .f32 rb := ⟨_, rfl⟩
  have hll : ls.length = bs.length := by rw [hls]; simp
  rw [← hls, ← hmo, ← hri]
  have HR := Lib.hid hr
  have HLS := Lib.hid hls
  have HMO := Lib.hid hmo
  have HRI := Lib.hid hri
  have HLL := Lib.hid hll
  obtain ⟨n, hnn⟩ : ∃ n, n = bs.length := ⟨_, rfl⟩
  rw [← hnn] at hn ⊢
  have HN := Lib.hid hnn
  clear hr hls hmo hri hll hnn
  by_cases h1 : 1 ≤ n
  · by_cases h64 : n ≤ 64
    · have hi1 : ¬ (n : Int) < 1 := by omega
      have hi2 : ¬ (64 : Int) < (n : Int) := by omega
      cases hm' : above mo
      · go_enter Try.func4, Try.ntmps4
        go_wp2_with (go_at_call 11; refine (l02Above _ _).mono ?_; rintro e w' ⟨rfl, n2, rfl⟩; rw [← HMO.out, hm'])
        go_ret3
        exact ⟨.inr ⟨(fun h => by have := h.2.2.2.1; rw [hm'] at this; cases this), rfl⟩, below_dr (Below.refl _ _) _⟩
      · cases hri' : above ri
        · go_enter Try.func4, Try.ntmps4
          go_wp2_with (go_at_call 11; refine (l02Above _ _).mono ?_; rintro e w' ⟨rfl, n2, rfl⟩; first | rw [← HMO.out, hm'] | rw [← HRI.out, hri'])
          go_ret3
          exact ⟨.inr ⟨(fun h => by have := h.2.2.2.2.1; rw [hri'] at this; cases this), rfl⟩, by (repeat (first | exact Below.refl _ _ | assumption | refine below_dr ?_ _ | refine Below.alloc ?_ (by first | omega | (simp; done) | (simp; omega)) _ | refine Below.setCell ?_ (by first | omega | (simp; done) | (simp; omega)) _ | refine Below.trans ?_ (Below.mono (by assumption) (by first | omega | (simp; done) | (simp; omega)))))⟩
        · go_enter Try.func4, Try.ntmps4
          go_wp2_with (go_at_call 11; refine (l02Above _ _).mono ?_; rintro e w' ⟨rfl, n2, rfl⟩; first | rw [← HMO.out, hm'] | rw [← HRI.out, hri'])
          have HE := Lib.hid (show ORow (w.alloc (.cells #[.float .f32 0] 23)) 23 1 w.heap.size 1 1 ([0].map (Value.float .f32)) from by simpa using ORow.full w 23 #[.float .f32 0] (by decide))
          go_loopw [10, 11, 12, 41] (fun v _ _ i wr => ∃ (k be ce : Nat), k ≤ n ∧ i = .int .i64 k ∧ v = .slice (some ⟨be, 0, none⟩) (k + 1) ce ∧ w.heap.size ≤ be ∧ Hid (ORow wr 23 1 be ce (k + 1) ((spB mb n k).map (Value.float .f32))) ∧ Hid (Below w.heap.size w wr) ∧ Hid ((ls.take k).all above = true)) (fun _ _ _ i _ => n - (intOf i).toNat)
          case atStart => exact ⟨0, w.heap.size, 1, by omega, rfl, rfl, Nat.le_refl _, Lib.hid (by rw [spB_zero mb n h1]; exact HE.out), Lib.hid (by (repeat (first | exact Below.refl _ _ | assumption | refine below_dr ?_ _ | refine Below.alloc ?_ (by first | omega | (simp; done) | (simp; omega)) _ | refine Below.setCell ?_ (by first | omega | (simp; done) | (simp; omega)) _ | refine Below.trans ?_ (Below.mono (by assumption) (by first | omega | (simp; done) | (simp; omega)))))), Lib.hid rfl⟩
          case round =>
            obtain ⟨k, be, ce, hk, rfl, rfl, hbe, HO, HB, HA⟩ := hrel
            by_cases hlt : k < n
            · obtain ⟨b1, o1, rfl, q1, q2, hc⟩ := (HR.out.far (Far.below HB.out hh)) (by rw [← HN.out]; omega)
              have c1 := hc k (by rw [← HN.out]; exact hlt)
              obtain ⟨x, hx⟩ : ∃ x, x = nF bs k := ⟨_, rfl⟩
              rw [← hx] at c1
              have hxx : can .f32 x = nF ls k := by
                rw [hx, HLS.out]
                have : k < bs.length := by rw [← HN.out]; exact hlt
                simp [nF, this]
              have HX := Lib.hid hxx
              have k0 : (0 : Int) ≤ (k : Int) := by omega
              have k1 : (k : Int) < (n : Int) := by omega
              clear hc hx hxx
              cases hp : above (nF ls k)
              · have HNO := Lib.hid (all_fails (p := above) 0 (show k < ls.length by rw [HLL.out, ← HN.out]; exact hlt) hp)
                go_wp2_with (go_at_call 11; refine (l02Above _ _).mono ?_; rintro e w' ⟨rfl, n2, rfl⟩; rw [HX.out, hp])
                go_ret3
                refine ⟨.inr ⟨fun h => ?_, rfl⟩, below_dr HB.out _⟩
                have := h.2.2.1
                rw [HNO.out] at this; cases this
              · have HY := Lib.hid (take_all (p := above) 0 (show k < ls.length by rw [HLL.out, ← HN.out]; exact hlt) HA.out hp)
                by_cases hl : k + 1 = n
                · have hbq : ((k : Int) + 1 == (n : Int)) = true := beq_iff_eq.2 (by omega)
                  have HL := Lib.hid hl
                  clear hl
                  go_wp2_with (first | (go_at_call 11; refine (l02Above _ _).mono ?_; rintro e w' ⟨rfl, n2, rfl⟩; rw [HX.out, hp]; have HOX := Lib.hid (show ORow (wr.drewN n2) 23 1 be ce (k + 1) ((spB mb n k).map (Value.float .f32)) from HO.out)) | (at_builtin; refine wpList_app2 rfl _ _ _ rfl 23 (.float .f32 0) 1 4 Try.underlying22 infoF rfl (by decide) (wr.drewN n2) #[.float .f32 0] 23 rfl (by simp [Value.oneCell']) wr.heap.size be ce (k + 1) _ rfl rfl rfl HOX.out (by omega) (by decide) ?_; intro b7 c7 w7 hr7 hb7 hg7))
                  have zz := HB.out.size
                  have hb7' : w.heap.size ≤ b7 := by rcases hb7 with h | h <;> (try simp at h) <;> omega
                  refine ⟨⟨k + 1, b7, c7, by omega, by go_num, rfl, hb7', Lib.hid ?_, Lib.hid ((below_dr HB.out _).trans (hg7.below hbe (by have := HB.out.size; simpa using this))), HY⟩, by simp [intOf]; omega⟩
                  rw [spB_last mb n k HL.out]
                  simpa using hr7
                · have hbq : ((k : Int) + 1 == (n : Int)) = false := beq_eq_false_iff_ne.2 (by omega)
                  go_wp2_with (first | (go_at_call 11; refine (l02Above _ _).mono ?_; rintro e w' ⟨rfl, n2, rfl⟩; rw [HX.out, hp]; have HOX := Lib.hid (show ORow (wr.drewN n2) 23 1 be ce (k + 1) ((spB mb n k).map (Value.float .f32)) from HO.out)) | (at_builtin; refine wpList_app2 rfl _ _ _ rfl 23 (.float .f32 0) 1 4 Try.underlying22 infoF rfl (by decide) (wr.drewN n2) #[.float .f32 mb] 23 rfl (by simp [Value.oneCell']) wr.heap.size be ce (k + 1) _ rfl rfl rfl HOX.out (by omega) (by decide) ?_; intro b7 c7 w7 hr7 hb7 hg7))
                  have zz := HB.out.size
                  have hb7' : w.heap.size ≤ b7 := by rcases hb7 with h | h <;> (try simp at h) <;> omega
                  refine ⟨⟨k + 1, b7, c7, by omega, by go_num, rfl, hb7', Lib.hid ?_, Lib.hid ((below_dr HB.out _).trans (hg7.below hbe (by have := HB.out.size; simpa using this))), HY⟩, by simp [intOf]; omega⟩
                  rw [spB_mid mb n k (by omega)]
                  simpa using hr7
            · have hkn : k = n := by omega
              subst hkn
              have hA := HA.out
              rw [List.take_of_length_le (by rw [HLL.out, HN.out]; exact Nat.le_refl _)] at hA
              have HAll := Lib.hid hA
              have hV : RowV wr be (spV0 k mo) := RowV.ofBits HO.out (by rw [spB_len]) (by rw [HMO.out]; exact spV0_of mb k h1)
              have HV0 := Lib.hid hV
              have hbl := HO.out.lt
              clear hA hV hk hlt HO HA HE
              go_wp2_with fail
              have HB1 := Lib.hid HB.out
              obtain ⟨wa, hwa⟩ : ∃ x : World, x = wr := ⟨_, rfl⟩
              have HWA := Lib.hid hwa
              have hs1 : spV0 k mo = spUp ls ri (spV0 k mo) 0 := rfl
              rw [hs1] at HV0
              clear hwa hs1 HB
              go_loopw [13, 14] (fun i _ wr2 => ∃ (j : Nat), j ≤ k ∧ i = .int .i64 j ∧ Hid (RowV wr2 be (spUp ls ri (spV0 k mo) j)) ∧ Hid (Below w.heap.size w wr2) ∧ wa.heap.size ≤ wr2.heap.size) (fun i _ _ => k - (intOf i).toNat)
              case atStart => exact ⟨0, by omega, rfl, HV0, HB1, by rw [HWA.out]; exact Nat.le_refl _⟩
              case round =>
                obtain ⟨j, hj, rfl, HV, HB, hz⟩ := hrel
                have hul : (spUp ls ri (spV0 k mo) j).length = k + 1 := by rw [spUp_len, spV0_len mo h1]
                by_cases hlt : j < k
                · obtain ⟨b1, o1, rfl, q1, q2, hc⟩ := (HR.out.far (Far.below HB.out hh)) (by rw [← HN.out]; omega)
                  have c1 := hc j (by rw [← HN.out]; exact hlt)
                  obtain ⟨lx, hx⟩ : ∃ x, x = nF bs j := ⟨_, rfl⟩
                  rw [← hx] at c1
                  have hxx : can .f32 lx = nF ls j := by
                    rw [hx, HLS.out]
                    have : j < bs.length := by rw [← HN.out]; exact hlt
                    simp [nF, this]
                  obtain ⟨vx, c2, hvx⟩ := HV.out.2 j (by omega)
                  obtain ⟨vy, c3, hvy⟩ := HV.out.2 (j + 1) (by omega)
                  have HX := Lib.hid hxx
                  have HVX := Lib.hid hvx
                  have HVY := Lib.hid hvy
                  have k0 : (0 : Int) ≤ (j : Int) := by omega
                  have k1 : (j : Int) < (k : Int) := by omega
                  have k2 : (j : Int) < (k : Int) + 1 := by omega
                  have k3 : (j : Int) + 1 < (k : Int) + 1 := by omega
                  have hbw : be < wr.heap.size := HV.out.1.lt
                  clear hc hx hxx hvx hvy
                  go_wp2_with fail
                  go_region_held (fun w' => w'.cell? ⟨be, j, none⟩ = some (.float .f32 vx) ∧ w'.cell? ⟨b1, o1 + j, none⟩ = some (.float .f32 lx)) (refine ⟨?_, ?_⟩ <;> first | exact c2 | exact c1)
                    ((first | (go_at_call 12; refine (l01Sqrt _ _).mono ?_; rintro e w3 ⟨⟨r, rfl, hr⟩, q3, rfl⟩) | (refine wpList_f rfl rfl rfl rfl (by decide) ?_; intro _ _ _; simp only [Act.put, List.setIfInBounds_toArray, List.set_cons_succ, List.set_cons_zero])))
                  all_goals
                    have hrr : F32 r (spR ri (nF ls j) (nF (spUp ls ri (spV0 k mo) j) j)) := hr.trans (congrArg fsqrt (F32.add (F32.mul HVX.out HVX.out) (F32.mul (F32.mul (F32.lit can_l2N) (show F32 rb ri from HRI.out.symm)) (show F32 lx (nF ls j) from HX.out))))
                    have HRX := Lib.hid hrr
                    have hbo : (FloatKind.f32.format.order r vy == some .lt) = flt (spR ri (nF ls j) (nF (spUp ls ri (spV0 k mo) j) j)) (nF (spUp ls ri (spV0 k mo) j) (j + 1)) := F32.lt hrr HVY.out
                    have hfz := HV.out.1.free (j + 1)
                    have hup : spUp ls ri (spV0 k mo) (j + 1) = if flt (spR ri (nF ls j) (nF (spUp ls ri (spV0 k mo) j) j)) (nF (spUp ls ri (spV0 k mo) j) (j + 1)) then (spUp ls ri (spV0 k mo) j).set (j + 1) (spR ri (nF ls j) (nF (spUp ls ri (spV0 k mo) j) j)) else spUp ls ri (spV0 k mo) j := rfl
                    have HUP := Lib.hid hup
                    clear hrr hr hup
                    cases hfl : flt (spR ri (nF ls j) (nF (spUp ls ri (spV0 k mo) j) j)) (nF (spUp ls ri (spV0 k mo) j) (j + 1))
                    · rw [hfl] at hbo HUP
                      have hres : RowV wr be (spUp ls ri (spV0 k mo) (j + 1)) := by rw [HUP.out]; exact HV.out
                      have HRES := Lib.hid hres
                      clear hres hfl
                      go_wp2_with fail
                      exact ⟨⟨j + 1, by omega, by go_num, Lib.hid HRES.out, Lib.hid (below_dr HB.out _), by simpa using hz⟩, by simp [intOf]; omega⟩
                    · rw [hfl] at hbo HUP
                      clear hfl
                      go_wp2_with fail
                      have hres : RowV (wr.setCell ⟨be, j + 1, none⟩ (.float .f32 r)) be (spUp ls ri (spV0 k mo) (j + 1)) := by rw [HUP.out]; exact RowV.set HV.out (by omega) HRX.out
                      exact ⟨⟨j + 1, by omega, by go_num, Lib.hid hres, Lib.hid (below_dr (HB.out.setCell (p := ⟨be, j + 1, none⟩) hbe (.float .f32 r)) _), by simpa using hz⟩, by simp [intOf]; omega⟩
                · have hjk : j = k := by omega
                  subst hjk
                  have hs2 : spUp ls ri (spV0 j mo) j = spDn ls ri j (spUp ls ri (spV0 j mo) j) 0 := rfl
                  rw [hs2] at HV
                  obtain ⟨U, hU⟩ : ∃ U, U = spUp ls ri (spV0 j mo) j := ⟨_, rfl⟩
                  rw [← hU] at HV hul
                  have HUU := Lib.hid hU
                  obtain ⟨wc, hwc⟩ : ∃ x : World, x = wr := ⟨_, rfl⟩
                  have HWC := Lib.hid hwc
                  clear hs2 hU hwc hlt hj
                  go_wp2_with fail
                  go_loopw [15, 16] (fun i _ wr2 => ∃ (t : Nat), t ≤ j ∧ i = .int .i64 ((j : Int) - 1 - (t : Int)) ∧ Hid (RowV wr2 be (spDn ls ri j U t)) ∧ Hid (Below w.heap.size w wr2)) (fun i _ _ => (intOf i + 1).toNat)
                  case atStart => exact ⟨0, by omega, by simp, HV, HB⟩
                  case round =>
                    obtain ⟨t, ht, rfl, HV, HB⟩ := hrel
                    have hdl : (spDn ls ri j U t).length = j + 1 := by rw [spDn_len, hul]
                    by_cases hlt : t < j
                    · obtain ⟨i, hi⟩ : ∃ i, i = j - 1 - t := ⟨_, rfl⟩
                      have hij : i < j := by omega
                      have hii : (j : Int) - 1 - (t : Int) = (i : Int) := by omega
                      rw [hii]
                      obtain ⟨b1, o1, rfl, q1, q2, hc⟩ := (HR.out.far (Far.below HB.out hh)) (by rw [← HN.out]; omega)
                      have c1 := hc i (by rw [← HN.out]; exact hij)
                      obtain ⟨lx, hx⟩ : ∃ x, x = nF bs i := ⟨_, rfl⟩
                      rw [← hx] at c1
                      have hxx : can .f32 lx = nF ls i := by
                        rw [hx, HLS.out]
                        have : i < bs.length := by rw [← HN.out]; exact hij
                        simp [nF, this]
                      obtain ⟨i1, hi1⟩ : ∃ i1, i1 = i + 1 := ⟨_, rfl⟩
                      obtain ⟨vx, c2, hvx⟩ := HV.out.2 (i + 1) (by omega)
                      rw [← hi1] at c2
                      have k8 : (0 : Int) ≤ (i1 : Int) := by omega
                      have k9 : (i1 : Int) < (j : Int) + 1 := by omega
                      have HWI := Lib.hid (show IntKind.i64.wrap ((i : Int) + 1) = (i1 : Int) by rw [IntKind.wrap_i64]; omega)
                      clear hi1
                      obtain ⟨vy, c3, hvy⟩ := HV.out.2 i (by omega)
                      have HX := Lib.hid hxx
                      have HVX := Lib.hid hvx
                      have HVY := Lib.hid hvy
                      have HI := Lib.hid hi
                      have k0 : (0 : Int) ≤ (i : Int) := by omega
                      have k1 : (i : Int) < (j : Int) := by omega
                      have k2 : (i : Int) < (j : Int) + 1 := by omega
                      have k3 : (i : Int) + 1 < (j : Int) + 1 := by omega
                      have hbw : be < wr.heap.size := HV.out.1.lt
                      clear hc hx hxx hvx hvy hi hii
                      go_wp2_with fail
                      have hwi := HWI.out
                      go_region_held (fun w' => w'.cell? ⟨be, i1, none⟩ = some (.float .f32 vx) ∧ w'.cell? ⟨b1, o1 + i, none⟩ = some (.float .f32 lx)) (refine ⟨?_, ?_⟩ <;> first | exact c2 | exact c1)
                        ((first | (go_at_call 12; refine (l01Sqrt _ _).mono ?_; rintro e w3 ⟨⟨r, rfl, hr⟩, q3, rfl⟩) | (refine wpList_f rfl rfl rfl rfl (by decide) ?_; intro _ _ _; simp only [Act.put, List.setIfInBounds_toArray, List.set_cons_succ, List.set_cons_zero])))
                      all_goals
                        clear hwi
                        have hrr : F32 r (spR ri (nF ls i) (nF (spDn ls ri j U t) (i + 1))) := hr.trans (congrArg fsqrt (F32.add (F32.mul HVX.out HVX.out) (F32.mul (F32.mul (F32.lit can_l2N) (show F32 rb ri from HRI.out.symm)) (show F32 lx (nF ls i) from HX.out))))
                        have HRX := Lib.hid hrr
                        have hbo : (FloatKind.f32.format.order r vy == some .lt) = flt (spR ri (nF ls i) (nF (spDn ls ri j U t) (i + 1))) (nF (spDn ls ri j U t) i) := F32.lt hrr HVY.out
                        have hfz := HV.out.1.free i
                        have hup : spDn ls ri j U (t + 1) = if flt (spR ri (nF ls i) (nF (spDn ls ri j U t) (i + 1))) (nF (spDn ls ri j U t) i) then (spDn ls ri j U t).set i (spR ri (nF ls i) (nF (spDn ls ri j U t) (i + 1))) else spDn ls ri j U t := by rw [HI.out]; rfl
                        have HUP := Lib.hid hup
                        clear hrr hr hup
                        cases hfl : flt (spR ri (nF ls i) (nF (spDn ls ri j U t) (i + 1))) (nF (spDn ls ri j U t) i)
                        · rw [hfl] at hbo HUP
                          have hres : RowV wr be (spDn ls ri j U (t + 1)) := by rw [HUP.out]; exact HV.out
                          have HRES := Lib.hid hres
                          clear hres hfl
                          go_wp2_with fail
                          have hI := HI.out
                          exact ⟨⟨t + 1, by omega, by congr 1; omega, Lib.hid HRES.out, Lib.hid (below_dr HB.out _)⟩, by first | (simp [intOf]; done) | (simp [intOf]; omega)⟩
                        · rw [hfl] at hbo HUP
                          clear hfl
                          go_wp2_with fail
                          have hI := HI.out
                          have hres : RowV (wr.setCell ⟨be, i, none⟩ (.float .f32 r)) be (spDn ls ri j U (t + 1)) := by rw [HUP.out]; exact RowV.set HV.out (by omega) HRX.out
                          exact ⟨⟨t + 1, by omega, by congr 1; omega, Lib.hid hres, Lib.hid (below_dr (HB.out.setCell (p := ⟨be, i, none⟩) hbe (.float .f32 r)) _)⟩, by first | (simp [intOf]; done) | (simp [intOf]; omega)⟩
                    · have htj : t = j := by omega
                      subst htj
                      have hm1 : (t : Int) - 1 - (t : Int) = -1 := by omega
                      rw [hm1]
                      have hend : spDn ls ri t U t = spEnd ls mo ri := by rw [HUU.out]; unfold spEnd; rw [HLL.out, ← HN.out]
                      rw [hend] at HV hdl
                      obtain ⟨V, hV⟩ : ∃ V, V = spEnd ls mo ri := ⟨_, rfl⟩
                      rw [← hV] at HV hdl ⊢
                      have HVV := Lib.hid hV
                      clear hend hV hm1 ht hlt
                      go_wp2_with fail
                      go_loopw [17, 18, 19] (fun sv i _ wr2 => ∃ (m sb : Nat), m ≤ t ∧ i = .int .i64 m ∧ sv = .float .f32 sb ∧ Hid (RowV wr2 be V) ∧ Hid (Below w.heap.size w wr2) ∧ Hid (F32 sb (spSum ls V m)) ∧ Hid (spGo V m)) (fun _ i _ _ => t - (intOf i).toNat)
                      case atStart => exact ⟨0, 0, by omega, rfl, rfl, HV, HB, Lib.hid F32.zero, Lib.hid (fun i hi => absurd hi (Nat.not_lt_zero _))⟩
                      case round =>
                        obtain ⟨m, sb, hm, rfl, rfl, HV4, HB4, HS, HG⟩ := hrel
                        by_cases hlt : m < t
                        · obtain ⟨b1, o1, rfl, q1, q2, hc⟩ := (HR.out.far (Far.below HB4.out hh)) (by rw [← HN.out]; omega)
                          have c1 := hc m (by rw [← HN.out]; exact hlt)
                          obtain ⟨lx, hx⟩ : ∃ x, x = nF bs m := ⟨_, rfl⟩
                          rw [← hx] at c1
                          have hxx : can .f32 lx = nF ls m := by
                            rw [hx, HLS.out]
                            have : m < bs.length := by rw [← HN.out]; exact hlt
                            simp [nF, this]
                          obtain ⟨m1, hm1⟩ : ∃ m1, m1 = m + 1 := ⟨_, rfl⟩
                          obtain ⟨vx, c2, hvx⟩ := HV4.out.2 m (by omega)
                          obtain ⟨vy, c3, hvy⟩ := HV4.out.2 (m + 1) (by omega)
                          rw [← hm1] at c3
                          have HX := Lib.hid hxx
                          have HVX := Lib.hid hvx
                          have HVY := Lib.hid hvy
                          have k0 : (0 : Int) ≤ (m : Int) := by omega
                          have k1 : (m : Int) < (t : Int) := by omega
                          have k2 : (m : Int) < (t : Int) + 1 := by omega
                          have k8 : (0 : Int) ≤ (m1 : Int) := by omega
                          have k9 : (m1 : Int) < (t : Int) + 1 := by omega
                          have HWI := Lib.hid (show IntKind.i64.wrap ((m : Int) + 1) = (m1 : Int) by rw [IntKind.wrap_i64]; omega)
                          clear hc hx hxx hvx hvy hm1
                          go_wp2_with fail
                          have hwi := HWI.out
                          go_region_held (fun w' => w'.cell? ⟨be, m, none⟩ = some (.float .f32 vx) ∧ w'.cell? ⟨be, m1, none⟩ = some (.float .f32 vy)) (refine ⟨?_, ?_⟩ <;> first | exact c2 | exact c3) ((refine wpList_f rfl rfl rfl rfl (by decide) ?_; intro _ _ _; simp only [Act.put, List.setIfInBounds_toArray, List.set_cons_succ, List.set_cons_zero]))
                          all_goals
                            clear hwi
                            obtain ⟨ss, hss⟩ : ∃ ss, ss = fadd (nF V m) (nF V (m + 1)) := ⟨_, rfl⟩
                            have hfs : ∀ wx : World, F32 (mop .add .f32 vx vy wx) ss := fun wx => by rw [hss]; exact F32.add HVX.out HVY.out
                            have HFS := Lib.hid hfs
                            have HSS := Lib.hid hss
                            clear hfs hss
                            obtain ⟨sx, hsx⟩ : ∃ sx, sx = mop .add .f32 vx vy wr.drew := ⟨_, rfl⟩
                            have HSX := Lib.hid (show F32 sx ss by rw [hsx]; exact HFS.out _)
                            rw [← hsx]
                            have hbo : (FloatKind.f32.format.order sx 0 == some .gt) = fgt ss 0 := F32.gt HSX.out F32.zero
                            clear hsx
                            cases hfg : fgt ss 0
                            · rw [hfg] at hbo
                              have HNO := Lib.hid (show ¬ spOk ls mo ri from fun h => by
                                have h6 := h.2.2.2.2.2.1 m (by rw [HLL.out, ← HN.out]; exact hlt)
                                rw [← HVV.out, ← HSS.out, hfg] at h6
                                cases h6)
                              clear hfg
                              go_wp2_with fail
                              go_ret3
                              exact ⟨.inr ⟨HNO.out, rfl⟩, below_dr HB4.out _⟩
                            · rw [hfg] at hbo
                              have HG2 := Lib.hid (show spGo V (m + 1) from fun i hi => by
                                by_cases e : i = m
                                · subst e; rw [← HSS.out]; exact hfg
                                · exact HG.out i (by omega))
                              clear hfg
                              go_wp2_with fail
                              have hsum : ∀ w1 w2 w3 : World, F32 (mop .add .f32 sb (mop .quo .f32 (mop .mul .f32 1073741824 lx w1) sx w2) w3) (spSum ls V (m + 1)) := fun w1 w2 w3 => by
                                have := F32.add (w := w3) HS.out (F32.div (w := w2) (F32.mul (w := w1) (F32.lit can_l2N) (show F32 lx (nF ls m) from HX.out)) HSX.out)
                                rw [HSS.out] at this
                                exact this
                              exact ⟨⟨m + 1, _, by omega, by go_num, rfl, Lib.hid HV4.out, Lib.hid (below_dr HB4.out _), Lib.hid (hsum _ _ _), HG2⟩, by simp [intOf]; omega⟩
                        · have hmt : m = t := by omega
                          subst hmt
                          have HLF := Lib.hid (l02Finite be (m + 1) ce V hdl (by omega) _ HV4.out.2)
                          have hok : spOk ls mo ri ↔ (V.all fin = true ∧ fin (spSum ls V m) = true) := by
                            rw [HVV.out]
                            constructor
                            · intro h
                              exact ⟨h.2.2.2.2.2.2.1, by have := h.2.2.2.2.2.2.2; rw [HLL.out, ← HN.out] at this; exact this⟩
                            · intro h
                              refine ⟨by rw [HLL.out, ← HN.out]; exact h1, by rw [HLL.out, ← HN.out]; exact h64, HAll.out, hm', hri', ?_, h.1, ?_⟩
                              · rw [HLL.out, ← HN.out, ← HVV.out]; exact HG.out
                              · rw [HLL.out, ← HN.out]; exact h.2
                          have HOK := Lib.hid hok
                          have hsb : can .f32 sb = spSum ls V m := HS.out
                          have HSB := Lib.hid hsb
                          clear hok hsb hlt
                          cases hfV : V.all fin
                          · go_wp2_with (go_at_call 13; refine HLF.out.mono ?_; rintro e w5 ⟨rfl, q5, rfl⟩; rw [hfV])
                            go_ret3
                            exact ⟨.inr ⟨(fun h => by have := (HOK.out.1 h).1; rw [hfV] at this; cases this), rfl⟩, below_dr HB4.out _⟩
                          · cases hfS : fin (spSum ls V m)
                            · go_wp2_with (first | (go_at_call 13; refine HLF.out.mono ?_; rintro e w5 ⟨rfl, q5, rfl⟩; rw [hfV]) | (go_at_call 14; refine (l01Finite _ _).mono ?_; rintro e w6 ⟨rfl, q6, rfl⟩; rw [HSB.out, hfS]))
                              go_ret3
                              exact ⟨.inr ⟨(fun h => by have := (HOK.out.1 h).2; rw [hfS] at this; cases this), rfl⟩, below_dr HB4.out _⟩
                            · go_wp2_with (first | (go_at_call 13; refine HLF.out.mono ?_; rintro e w5 ⟨rfl, q5, rfl⟩; rw [hfV]) | (go_at_call 14; refine (l01Finite _ _).mono ?_; rintro e w6 ⟨rfl, q6, rfl⟩; rw [HSB.out, hfS]))
                              go_ret3
                              have hown := HV4.out.own hfV
                              have hlt4 := HV4.out.1.lt
                              refine ⟨.inl ⟨HOK.out.2 ⟨hfV, hfS⟩, be, ce, sb, ?_, ?_, hbe, hlt4, ?_⟩, below_dr HB4.out _⟩
                              · rw [← HVV.out, hdl]; rfl
                              · rw [← HVV.out]; exact HS.out
                              · rw [← HVV.out]; exact hown
    · have hi1 : ¬ (n : Int) < 1 := by omega
      have hi2 : (64 : Int) < (n : Int) := by omega
      go_enter Try.func4, Try.ntmps4
      go_wp2_with fail
      go_ret3
      exact ⟨.inr ⟨(fun h => h64 (by have := h.2.1; rw [HLL.out, ← HN.out] at this; exact this)), rfl⟩, Below.refl _ _⟩
  · have hi1 : (n : Int) < 1 := by omega
    go_enter Try.func4, Try.ntmps4
    go_wp2_with fail
    go_ret3
    exact ⟨.inr ⟨(fun h => h1 (by have := h.1; rw [HLL.out, ← HN.out] at this; exact this)), rfl⟩, Below.refl _ _⟩
end Go.Proofs.Ytbmgjohkgcfodaa
