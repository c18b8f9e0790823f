/- impl.isRising: whether numbers rise, the program's. -/
import Derived.Test.YtlpgaekkhlinhaaGreatDoorRpT
namespace Go.Fl
open Go.RowKit
theorem ogg : (some Ordering.gt == some Ordering.gt) = true := rfl
theorem oge : (some Ordering.gt == some Ordering.eq) = false := rfl
theorem ogl : (some Ordering.gt == some Ordering.lt) = false := rfl
theorem oeg : (some Ordering.eq == some Ordering.gt) = false := rfl
theorem oee : (some Ordering.eq == some Ordering.eq) = true := rfl
theorem oel : (some Ordering.eq == some Ordering.lt) = false := rfl
theorem olg : (some Ordering.lt == some Ordering.gt) = false := rfl
theorem ole : (some Ordering.lt == some Ordering.eq) = false := rfl
theorem oll : (some Ordering.lt == some Ordering.lt) = true := rfl
noncomputable def roseB (ks : List Nat) : Bool := @decide (Rose ks ks.length) (Classical.propDecidable _)
theorem roseB_true {ks : List Nat} (h : Rose ks ks.length) : roseB ks = true := @decide_eq_true _ (Classical.propDecidable _) h
theorem roseB_false {ks : List Nat} (h : ¬ Rose ks ks.length) : roseB ks = false := @decide_eq_false _ (Classical.propDecidable _) h
theorem roseB_iff {ks : List Nat} : roseB ks = true ↔ Rose ks ks.length := @decide_eq_true_iff _ (Classical.propDecidable _)
end Go.Fl
namespace Go.Proofs.YtlpgaekkhlinhaaGreatDoor
open Go.RowKit Go.Fl

set_option maxHeartbeats 4000000 in
set_option maxRecDepth 100000 in
theorem isRising (b c : Nat) (ks : List Nat) (h0 : 1 ≤ ks.length) (hn : ks.length ≤ 1048576) (hf : (ks.all fun x => fin (can .f32 x)) = true) (w : World) (h : RdK w b ks) :
    Calls Tryz.prog 128 #[.slice (some ⟨b, 0, none⟩) ks.length c] w fun e w' => e = .returned (.bool (roseB ks)) ∧ ∃ n, w' = w.drewN n := by
  have HK := Lib.hid h
  have HFN := Lib.hid hf
  have g1 := ogg; have g2 := oge; have g3 := ogl; have g4 := oeg; have g5 := oee; have g6 := oel; have g7 := olg; have g8 := ole; have g9 := oll
  clear h hf
  go_enter Tryz.func128, Tryz.ntmps128
  go_wp2_with fail
  go_loopw [3] (fun i wr => ∃ k q : Nat, k + 1 ≤ ks.length ∧ i = .int .i64 ((k : Int) + 1) ∧ wr = w.drewN q ∧ Hid (Rose ks (k + 1))) (fun i _ => ks.length - (intOf i).toNat)
  case atStart => exact ⟨0, 0, by omega, rfl, rfl, Lib.hid fun i g1 g2 => by omega⟩
  case round =>
    obtain ⟨k, q, hk, rfl, rfl, HR⟩ := hrel
    by_cases hlt : k + 1 < ks.length
    · have c1 := HK.out k (by omega)
      have c2 := HK.out (k + 1) hlt
      obtain ⟨o, ho⟩ := fin_ord (kAt_fin HFN.out hlt) (kAt_fin HFN.out (show k < ks.length by omega))
      have ho2 := Lib.hid ho
      replace ho : FloatKind.f32.format.order (kAt ks (k + 1)) (kAt ks k) = some o := ho
      have k0 : (0 : Int) ≤ (k : Int) := by omega
      have k1 : (k : Int) + 1 < (ks.length : Int) := by omega
      cases o
      · have HNO := Lib.hid (roseB_false (ks := ks) fun h => h (k + 1) (by omega) hlt ho2.out)
        go_wp2_with fail
        go_quiet (fail)
        go_wp2_with fail
        go_ret
        exact ⟨ret_bool HNO.out.symm, (by (try simp only [World.drewN_drewN]); exact ⟨_, rfl⟩)⟩
      all_goals
        have HS := Lib.hid (HR.out.succ (k := k + 1) (by rw [Nat.add_sub_cancel, ho]; rfl))
        go_wp2_with fail
        go_quiet (fail)
        go_wp2_with fail
        go_roundw
        case rel => exact ⟨k + 1, _, by omega, by go_num, by first | rfl | (simp only [World.drewN_drewN]; done), HS⟩
        case measure => simp [intOf]; omega
    · have hkk : k + 1 = ks.length := by omega
      have HOK := Lib.hid (roseB_true (ks := ks) (hkk ▸ HR.out))
      have k1 : ¬ (k : Int) + 1 < (ks.length : Int) := by omega
      go_wp2_with fail
      go_ret
      exact ⟨ret_bool HOK.out.symm, _, rfl⟩
end Go.Proofs.YtlpgaekkhlinhaaGreatDoor
