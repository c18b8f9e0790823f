/- spec.l01Cut: a text cut at a byte. -/
import Derived.Test.YtlpgaekkhlinhaaGreatDoorChecked
import Derived.Test.YtlpgaekkhlinhaaGreatDoorRow
import Derived.Below
import Derived.Test.YtlpgaekkhlinhaaGreatDoorCutL
namespace Go.Proofs.YtlpgaekkhlinhaaGreatDoor
open Go.RowKit Go.Fl

theorem infoStr : (Tryz.prog.info? 9).map (fun i => (i.zero, i.size, i.bytes)) = some (some (.string ⟨#[]⟩), 1, 16) := by kernel_rfl

set_option maxHeartbeats 1000000 in
theorem l01Cut (s : ByteArray) (c : UInt8) (m : Int) (hm : m = (c.toNat : Int)) (hs : s.size ≤ 1048576) (w : World) :
    Calls Tryz.prog 43 #[.string s, .int .u8 m] w fun e w' => ∃ b cap, e = .returned (.slice (some ⟨b, 0, none⟩) (pieces s c).length cap) ∧
      ORow w' 9 1 b cap (pieces s c).length ((pieces s c).map Value.string) ∧ w.heap.size ≤ b ∧ Below w.heap.size w w' := by
  go_enter Tryz.func43, Tryz.ntmps43
  go_wp2_with fail
  go_loopw [5, 6, 7] (fun out fr i wr => ∃ j b cap : Nat, j ≤ s.size + 1 ∧ i = .int .i64 j ∧ fr = .int .i64 ((stR s c j).2 : Nat) ∧ out = .slice (some ⟨b, 0, none⟩) (stR s c j).1.length cap ∧ Hid (ORow wr 9 1 b cap (stR s c j).1.length ((stR s c j).1.map Value.string)) ∧ w.heap.size ≤ b ∧ Hid (Below w.heap.size w wr)) (fun _ _ i _ => s.size + 1 - (intOf i).toNat)
  case atStart =>
    refine ⟨0, w.heap.size, 0, by omega, rfl, by rw [stR_zero]; rfl, by rw [stR_zero]; rfl, ?_, Nat.le_refl _, Below.alloc (Below.refl _ _) (Nat.le_refl _) _⟩
    rw [stR_zero]; exact ORow.new w _ _
  case round =>
    obtain ⟨j, b, cap, hj, rfl, rfl, rfl, HR, hbb, HW⟩ := hrel
    have hle := stR_le s c hj
    have hln := stR_len s c hj
    have k0 : (0 : Int) ≤ (j : Int) := by omega
    have k1 : (0 : Int) ≤ ((stR s c j).2 : Int) := by omega
    have k2 : ((stR s c j).2 : Int) ≤ (j : Int) := by omega
    by_cases hlt : j < s.size
    · have k3 : (j : Int) < (s.size : Int) := by omega
      by_cases he : s[j] = c
      · have he2 : (((s[j].toNat : Nat) : Int) == ((c.toNat : Nat) : Int)) = true := by rw [he]; simp
        have he3 : ((j : Int) == (s.size : Int)) = false := by simp; omega
        go_wp2_with (at_builtin; refine wpList_app rfl _ _ _ rfl 9 (.string ⟨#[]⟩) 1 16 Tryz.underlying67 infoStr rfl (by decide) _ #[.string (s.extract (stR s c j).2 j)] 9 rfl (by simp [Value.oneCell']) b cap _ _ rfl rfl HR.out (by omega) (by decide) ?_; intro b4 cap4 w4 hr4 hg4 hgr4)
        have hz2 := HW.out.size
        go_roundw
        case rel =>
          refine ⟨_, _, _, ?_, rfl, rfl, rfl⟩
          refine ⟨j + 1, by omega, by go_num, by rw [stR_hit hlt he]; go_num, b4, cap4, by rw [stR_hit hlt he]; simp, ?_, by omega, HW.out.trans (hgr4.below hbb hz2)⟩
          rw [stR_hit hlt he]
          have := hr4
          simp only [List.map_append, List.map_cons, List.map_nil, List.length_append, List.length_cons, List.length_nil]
          exact this
        case measure => simp [intOf]; omega
      · have he2 : (((s[j].toNat : Nat) : Int) == ((c.toNat : Nat) : Int)) = false := by
          have : ¬ s[j].toNat = c.toNat := fun e => he (UInt8.toNat_inj.1 e)
          simp; omega
        have he3 : ((j : Int) == (s.size : Int)) = false := by simp; omega
        go_wp2_with fail
        go_roundw
        case rel =>
          exact ⟨j + 1, b, cap, by omega, by go_num, by rw [stR_miss hlt he], by rw [stR_miss hlt he], by rw [stR_miss hlt he]; exact HR, hbb, HW⟩
        case measure => simp [intOf]; omega
    · by_cases hej : j = s.size
      · subst hej
        go_wp2_with (at_builtin; refine wpList_app rfl _ _ _ rfl 9 (.string ⟨#[]⟩) 1 16 Tryz.underlying67 infoStr rfl (by decide) _ #[.string (s.extract (stR s c s.size).2 s.size)] 9 rfl (by simp [Value.oneCell']) b cap _ _ rfl rfl HR.out (by omega) (by decide) ?_; intro b4 cap4 w4 hr4 hg4 hgr4)
        have hz2 := HW.out.size
        go_roundw
        case rel =>
          refine ⟨_, _, _, ?_, rfl, rfl, rfl⟩
          refine ⟨s.size + 1, by omega, by go_num, by rw [stR_end]; go_num, b4, cap4, by rw [stR_end]; simp, ?_, by omega, HW.out.trans (hgr4.below hbb hz2)⟩
          rw [stR_end]
          have := hr4
          simp only [List.map_append, List.map_cons, List.map_nil, List.length_append, List.length_cons, List.length_nil]
          exact this
        case measure => simp [intOf]
      · have hjn : j = s.size + 1 := by omega
        subst hjn
        go_wp2_with fail
        go_ret
        rw [stR_all]
        rw [stR_all] at HR
        exact ⟨b, cap, rfl, HR.out, hbb, HW.out⟩
end Go.Proofs.YtlpgaekkhlinhaaGreatDoor
