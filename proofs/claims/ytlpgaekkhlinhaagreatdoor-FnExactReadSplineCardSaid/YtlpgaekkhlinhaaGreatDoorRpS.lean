/- spec.l02Finite, l02CFinite, l02Spline: whether a spline is valid, the reference's. -/
import Derived.Test.YtlpgaekkhlinhaaGreatDoorRpP
import Derived.Test.YtlpgaekkhlinhaaGreatDoorOVal
import Derived.BigQuiet
namespace Go.Fl
open Go.RowKit
noncomputable def okSpl (d : Int) (ks : List Nat) (ps : List Cx) : Bool := @decide (SplY d ks ps) (Classical.propDecidable _)
theorem okSpl_true {d : Int} {ks : List Nat} {ps : List Cx} (h : SplY d ks ps) : okSpl d ks ps = true := @decide_eq_true _ (Classical.propDecidable _) h
theorem okSpl_false {d : Int} {ks : List Nat} {ps : List Cx} (h : ¬ SplY d ks ps) : okSpl d ks ps = false := @decide_eq_false _ (Classical.propDecidable _) h
theorem okSpl_iff {d : Int} {ks : List Nat} {ps : List Cx} : okSpl d ks ps = true ↔ SplY d ks ps := @decide_eq_true_iff _ (Classical.propDecidable _)
theorem all_fin_at {ws : List Nat} {k : Nat} (h : k < ws.length) : (ws.take (k + 1)).all (fun x => fin (can .f32 x)) = ((ws.take k).all (fun x => fin (can .f32 x)) && fin (can .f32 (kAt ws k))) := by
  rw [List.take_succ_eq_append_getElem h, List.all_append]
  simp [h, kAt]
theorem kAt_fin {ks : List Nat} (h : ks.all (fun x => fin (can .f32 x)) = true) {i : Nat} (hi : i < ks.length) : fin (can .f32 (kAt ks i)) = true := by
  have := List.all_eq_true.1 h _ (List.getElem_mem hi)
  simpa [kAt, hi] using this
/-- a row of numbers lies at block b -/
def RdK (w : World) (b : Nat) (ks : List Nat) : Prop := ∀ i, i < ks.length → w.cell? ⟨b, i, none⟩ = some (.float .f32 (kAt ks i))
def RdZ (w : World) (b : Nat) (ps : List Cx) : Prop := ∀ i, i < ps.length → w.cell? ⟨b, i, none⟩ = some (cV (cAt ps i))
end Go.Fl
namespace Go.Proofs.YtlpgaekkhlinhaaGreatDoor
open Go.RowKit Go.Fl

set_option maxHeartbeats 1000000 in
theorem l02Finite (b c : Nat) (ks : List Nat) (hn : ks.length ≤ 1048576) (w : World) (h : RdK w b ks) :
    Calls Tryz.prog 117 #[.slice (some ⟨b, 0, none⟩) ks.length c] w fun e w' => e = .returned (.bool (ks.all fun x => fin (can .f32 x))) ∧ ∃ n, w' = w.drewN n := by
  have HK := Lib.hid h
  clear h
  go_enter Tryz.func117, Tryz.ntmps117
  go_wp2_with fail
  go_loopw [3] (fun i wr => ∃ k q : Nat, k ≤ ks.length ∧ i = .int .i64 k ∧ wr = w.drewN q ∧ Hid ((ks.take k).all (fun x => fin (can .f32 x)) = true)) (fun i _ => ks.length - (intOf i).toNat)
  case atStart => exact ⟨0, 0, by omega, rfl, rfl, rfl⟩
  case round =>
    obtain ⟨k, q, hk, rfl, rfl, HA⟩ := hrel
    by_cases hlt : k < ks.length
    · have e1 := HK.out k hlt
      have HT := Lib.hid (all_fin_at hlt)
      have k0 : (0 : Int) ≤ (k : Int) := by omega
      have k1 : (k : Int) < (ks.length : Int) := by omega
      generalize kAt ks k = x at *
      cases h1 : fin (can .f32 x)
      · have hf : (ks.take (k + 1)).all (fun x => fin (can .f32 x)) = false := by rw [HT.out, h1, Bool.and_false]
        have HNO := Lib.hid (all_take_false hf)
        go_wp2_with (go_at_call 129; refine (l01Finite x _).mono ?_; rintro e w1 ⟨rfl, n1, rfl⟩; rw [h1])
        go_ret
        exact ⟨ret_bool HNO.out.symm, (by (try simp only [World.drewN_drewN]); exact ⟨_, rfl⟩)⟩
      · go_wp2_with (go_at_call 129; refine (l01Finite x _).mono ?_; rintro e w1 ⟨rfl, n1, rfl⟩; rw [h1])
        go_roundw
        case rel => exact ⟨k + 1, q + n1, by omega, by go_num, by simp only [World.drewN_drewN], by rw [HT.out, HA.out, h1]; rfl⟩
        case measure => simp [intOf]; omega
    · have hkk : k = ks.length := by omega
      have ha := HA.out
      rw [hkk, List.take_length] at ha
      have HOK := Lib.hid ha
      clear ha
      go_wp2_with fail
      go_ret
      exact ⟨ret_bool HOK.out.symm, _, rfl⟩
set_option maxHeartbeats 1000000 in
theorem l02CFin1 (b c : Nat) (ps : List Cx) (hn : ps.length ≤ 1048576) (w : World) (h : RdZ w b ps) :
    Calls Tryz.prog 118 #[.slice (some ⟨b, 0, none⟩) ps.length c] w fun e w' => e = .returned (.bool (ps.all okPt)) ∧ ∃ n, w' = w.drewN n := by
  have HK := Lib.hid h
  clear h
  go_enter Tryz.func118, Tryz.ntmps118
  go_wp2_with fail
  go_loopw [3] (fun i wr => ∃ k q : Nat, k ≤ ps.length ∧ i = .int .i64 k ∧ wr = w.drewN q ∧ Hid ((ps.take k).all okPt = true)) (fun i _ => ps.length - (intOf i).toNat)
  case atStart => exact ⟨0, 0, by omega, rfl, rfl, rfl⟩
  case round =>
    obtain ⟨k, q, hk, rfl, rfl, HA⟩ := hrel
    by_cases hlt : k < ps.length
    · have e1 := HK.out k hlt
      have HT := Lib.hid (all_pt_at hlt)
      have k0 : (0 : Int) ≤ (k : Int) := by omega
      have k1 : (k : Int) < (ps.length : Int) := by omega
      generalize cAt ps k = x at *
      cases h1 : okPt x
      · have hf : (ps.take (k + 1)).all okPt = false := by rw [HT.out, h1, Bool.and_false]
        have HNO := Lib.hid (all_take_false hf)
        go_wp2_with (go_at_call 96; refine (l01CFinite x _).mono ?_; rintro e w1 ⟨rfl, n1, rfl⟩; rw [h1])
        go_ret
        exact ⟨ret_bool HNO.out.symm, (by (try simp only [World.drewN_drewN]); exact ⟨_, rfl⟩)⟩
      · go_wp2_with (go_at_call 96; refine (l01CFinite x _).mono ?_; rintro e w1 ⟨rfl, n1, rfl⟩; rw [h1])
        go_roundw
        case rel => exact ⟨k + 1, q + n1, by omega, by go_num, by simp only [World.drewN_drewN], by rw [HT.out, HA.out, h1]; rfl⟩
        case measure => simp [intOf]; omega
    · have hkk : k = ps.length := by omega
      have ha := HA.out
      rw [hkk, List.take_length] at ha
      have HOK := Lib.hid ha
      clear ha
      go_wp2_with fail
      go_ret
      exact ⟨ret_bool HOK.out.symm, _, rfl⟩
theorem in5 (x : Int) (w : World) : Calls Tryz.prog 84 #[.int .i64 x, .int .i64 1, .int .i64 5] w fun e w' => e = .returned (.bool (decide (1 ≤ x ∧ x ≤ 5))) ∧ w' = w := by
  by_cases h1 : 1 ≤ x
  all_goals by_cases h2 : x ≤ 5
  all_goals
    go_enter Tryz.func84, Tryz.ntmps84
    go_wp2_with fail
    go_ret
    exact ⟨ret_bool (by simp [h1, h2]), rfl⟩
end Go.Proofs.YtlpgaekkhlinhaaGreatDoor
