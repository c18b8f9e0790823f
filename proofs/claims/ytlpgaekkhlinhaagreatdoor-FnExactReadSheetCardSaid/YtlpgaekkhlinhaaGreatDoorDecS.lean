/- spec.l01Dec for all numbers in range, l01Value. (Written by mkdecs.py.) -/
import Derived.Test.YtlpgaekkhlinhaaGreatDoorChk
import Derived.Test.YtlpgaekkhlinhaaGreatDoorDecP
namespace Go.Proofs.YtlpgaekkhlinhaaGreatDoor
open Go.RowKit Go.Fl

set_option maxHeartbeats 1000000 in
theorem l01DecP (n : Nat) (h1 : n ≤ 1000000000000000) (w : World) :
    Calls Tryz.prog 85 #[.int .i64 n] w fun e w' => e = .returned (.string ⟨(Lib.itoa n).toArray⟩) ∧ Below w.heap.size w w' := by
  go_enter Tryz.func85, Tryz.ntmps85
  go_wp2_with fail
  go_loopw [3, 4] (fun o r wr => ∃ (out : List UInt8) (rest b cap : Nat), DecI n out rest ∧ r = .int .i64 rest ∧ o = .slice (some ⟨b, 0, none⟩) out.length cap ∧ Hid (ORow wr 5 1 b cap out.length (Lib.byteCells out)) ∧ w.heap.size ≤ b ∧ Hid (Below w.heap.size w wr)) (fun o r _ => (if slen o = 0 then 1 else 0) + (intOf r).toNat)
  case atStart =>
    refine ⟨[], n, w.heap.size, 0, .inl ⟨rfl, rfl⟩, rfl, rfl, ?_, Nat.le_refl _, Below.alloc (Below.refl _ _) (Nat.le_refl _) _⟩
    exact ORow.new w _ _
  case round =>
    obtain ⟨out, rest, b, cap, hD, rfl, rfl, HR, hbb, HW⟩ := hrel
    have hlen := hD.len
    have hnd : Lib.nDigits n ≤ 16 := nDigits_le 15 n (by omega)
    have hrn : rest ≤ n := by
      rcases hD with ⟨_, h⟩ | ⟨_, h, _⟩ <;> omega
    have r0 : (0 : Int) ≤ (rest : Int) := by omega
    have r1 : ¬ (rest : Int) % 10 < 0 := by omega
    have r2 : 0 ≤ (rest : Int) % 10 ∧ (rest : Int) % 10 ≤ 9 := by omega
    have r3 : (rest : Int) ≤ 1000000000000000 := by omega
    have e1 : Value.int .u8 (48 + (rest : Int) % 10) :: Lib.byteCells out = Lib.byteCells (UInt8.ofNat (48 + rest % 10) :: out) := by
      have : (UInt8.ofNat (48 + rest % 10)).toNat = 48 + rest % 10 := by
        rw [UInt8.toNat_ofNat']; omega
      simp only [Lib.byteCells, List.map_cons, this]
      congr 2
    have goOn : (out = [] ∨ rest ≠ 0) → DecI n (UInt8.ofNat (48 + rest % 10) :: out) (rest / 10) := fun h => hD.step h
    by_cases he : out = []
    · subst he
      have hz2 := HW.out.size
      go_wp2_with (at_builtin; refine wpList_pre rfl _ _ _ rfl 5 (.int .u8 0) 1 Tryz.underlying137 infoU8 rfl _ _ b cap _ _ rfl rfl HR.out (by simp [Lib.byteCells, Value.oneCell']) (by simp) (by decide) ?_; intro b4 cap4 w4 hr4 hg4 hgr4)
      go_roundw
      case rel =>
        refine ⟨_, rest / 10, b4, cap4, goOn (.inl rfl), by go_num, rfl, ?_, by omega, HW.out.trans (hgr4.mono (by omega))⟩
        rw [← e1]; exact hr4
      case measure => simp [intOf, slen]; omega
    · have hl0 : 0 < out.length := List.length_pos_iff.2 he
      have f1 : ((out.length : Int) == 0) = false := by simp; exact he
      have f1' : ¬ (out.length : Int) = 0 := by omega
      by_cases hr : rest = 0
      · subst hr
        have hcv : (convert 137 9 (.slice (some ⟨b, 0, none⟩) out.length cap)).run Tryz.prog wr = .ok (.string ⟨out.toArray⟩) wr :=
          run_convert_bytes_back wr _ _ 5 ⟨b, 0, none⟩ cap out Tryz.underlying137 Tryz.underlying5 Tryz.underlying9 (fun j hj => by
            have hadd : (⟨b, 0, none⟩ : Addr).add j = ⟨b, j, none⟩ := by unfold Addr.add; split <;> simp_all
            rw [hadd, HR.out.cell j (by omega)]
            simp [Lib.byteCells, hj])
        have hn0 : ¬ (n : Int) < 0 := by omega
        go_wp2_with fail
        go_ret
        rw [hD.done he]
        exact ⟨rfl, HW.out⟩
      · have f2 : ((rest : Int) != 0) = true := by simp; omega
        have f2' : ¬ (rest : Int) = 0 := by omega
        have hz2 := HW.out.size
        go_wp2_with (at_builtin; refine wpList_pre rfl _ _ _ rfl 5 (.int .u8 0) 1 Tryz.underlying137 infoU8 rfl _ _ b cap _ _ rfl rfl HR.out (by simp [Lib.byteCells, Value.oneCell']) (by omega) (by decide) ?_; intro b4 cap4 w4 hr4 hg4 hgr4)
        go_roundw
        case rel =>
          refine ⟨_, rest / 10, b4, cap4, goOn (.inr hr), by go_num, rfl, ?_, by omega, HW.out.trans (hgr4.mono (by omega))⟩
          rw [← e1]; exact hr4
        case measure => simp [intOf, slen, he]; omega
theorem minusBack {w : World} {b cap : Nat} {out : List UInt8} (h : ORow w 5 1 b cap (out.length + 1) (Value.int .u8 45 :: Lib.byteCells out)) : (convert 137 9 (.slice (some ⟨b, 0, none⟩) (out.length + 1) cap)).run Tryz.prog w = .ok (.string ⟨(45 :: out).toArray⟩) w :=
  run_convert_bytes_back w _ _ 5 ⟨b, 0, none⟩ cap (45 :: out) Tryz.underlying137 Tryz.underlying5 Tryz.underlying9 (fun j hj => by
    have hadd : (⟨b, 0, none⟩ : Addr).add j = ⟨b, j, none⟩ := by unfold Addr.add; split <;> simp_all
    have hj2 : j < out.length + 1 := hj
    have e : (Value.int .u8 45 :: Lib.byteCells out) = Lib.byteCells (45 :: out) := rfl
    rw [hadd, h.cell j (by omega), e]
    simp only [Lib.byteCells, List.getElem?_map, List.getElem?_eq_getElem hj, Option.map_some])
set_option maxHeartbeats 1000000 in
theorem l01DecM (n : Nat) (h0 : 1 ≤ n) (h1 : n ≤ 1000000000000000) (w : World) :
    Calls Tryz.prog 85 #[.int .i64 (-(n : Int))] w fun e w' => e = .returned (.string ⟨(Lib.itoa (-(n : Int))).toArray⟩) ∧ Below w.heap.size w w' := by
  go_enter Tryz.func85, Tryz.ntmps85
  go_wp2_with fail
  go_loopw [3, 4] (fun o r wr => ∃ (out : List UInt8) (rest b cap : Nat), DecI n out rest ∧ r = .int .i64 (-(rest : Int)) ∧ o = .slice (some ⟨b, 0, none⟩) out.length cap ∧ Hid (ORow wr 5 1 b cap out.length (Lib.byteCells out)) ∧ w.heap.size ≤ b ∧ Hid (Below w.heap.size w wr)) (fun o r _ => (if slen o = 0 then 1 else 0) + (-(intOf r)).toNat)
  case atStart =>
    refine ⟨[], n, w.heap.size, 0, .inl ⟨rfl, rfl⟩, rfl, rfl, ?_, Nat.le_refl _, Below.alloc (Below.refl _ _) (Nat.le_refl _) _⟩
    exact ORow.new w _ _
  case round =>
    obtain ⟨out, rest, b, cap, hD, rfl, rfl, HR, hbb, HW⟩ := hrel
    have hlen := hD.len
    have hnd : Lib.nDigits n ≤ 16 := nDigits_le 15 n (by omega)
    have hrn : rest ≤ n := by
      rcases hD with ⟨_, h⟩ | ⟨_, h, _⟩ <;> omega
    have r0 : (0 : Int) ≤ (rest : Int) := by omega
    have r2 : 0 ≤ (rest : Int) % 10 ∧ (rest : Int) % 10 ≤ 9 := by omega
    have r3 : (rest : Int) ≤ 1000000000000000 := by omega
    have e1 : Value.int .u8 (48 + (rest : Int) % 10) :: Lib.byteCells out = Lib.byteCells (UInt8.ofNat (48 + rest % 10) :: out) := by
      have : (UInt8.ofNat (48 + rest % 10)).toNat = 48 + rest % 10 := by
        rw [UInt8.toNat_ofNat']; omega
      simp only [Lib.byteCells, List.map_cons, this]
      congr 2
    have goOn : (out = [] ∨ rest ≠ 0) → DecI n (UInt8.ofNat (48 + rest % 10) :: out) (rest / 10) := fun h => hD.step h
    by_cases he : out = []
    · subst he
      have hz2 := HW.out.size
      by_cases hd0 : rest % 10 = 0
      · have rd : ¬ -((rest : Int) % 10) < 0 := by omega
        have e2 : Value.int .u8 (48 + -((rest : Int) % 10)) = .int .u8 (48 + (rest : Int) % 10) := by congr 1; omega
        go_wp2_with (at_builtin; refine wpList_pre rfl _ _ _ rfl 5 (.int .u8 0) 1 Tryz.underlying137 infoU8 rfl _ _ b cap _ _ rfl rfl HR.out (by simp [Lib.byteCells, Value.oneCell']) (by simp) (by decide) ?_; intro b4 cap4 w4 hr4 hg4 hgr4)
        go_roundw
        case rel =>
          refine ⟨_, rest / 10, b4, cap4, goOn (.inl rfl), by go_num, rfl, ?_, by omega, HW.out.trans (hgr4.mono (by omega))⟩
          rw [← e1]; exact hr4
        case measure => simp [intOf, slen]; omega
      · have rd : -((rest : Int) % 10) < 0 := by omega
        go_wp2_with (at_builtin; refine wpList_pre rfl _ _ _ rfl 5 (.int .u8 0) 1 Tryz.underlying137 infoU8 rfl _ _ b cap _ _ rfl rfl HR.out (by simp [Lib.byteCells, Value.oneCell']) (by simp) (by decide) ?_; intro b4 cap4 w4 hr4 hg4 hgr4)
        go_roundw
        case rel =>
          refine ⟨_, rest / 10, b4, cap4, goOn (.inl rfl), by go_num, rfl, ?_, by omega, HW.out.trans (hgr4.mono (by omega))⟩
          rw [← e1]; exact hr4
        case measure => simp [intOf, slen]; omega
    · have hl0 : 0 < out.length := List.length_pos_iff.2 he
      have f1 : ((out.length : Int) == 0) = false := by simp; exact he
      have f1' : ¬ (out.length : Int) = 0 := by omega
      by_cases hr : rest = 0
      · subst hr
        have HDN := Lib.hid (show Lib.itoa (-(n : Int)) = 45 :: out by rw [Lib.itoa_neg n h0, hD.done he, Lib.itoa_nonneg])
        have hn0 : -(n : Int) < 0 := by omega
        have hz2 := HW.out.size
        have hln : out.length ≤ 1099511627776 := by omega
        clear hD hlen hnd goOn e1
        go_wp2_with (at_builtin; refine wpList_pre rfl _ _ _ rfl 5 (.int .u8 0) 1 Tryz.underlying137 infoU8 rfl _ _ b cap _ _ rfl rfl HR.out (by simp [Lib.byteCells, Value.oneCell']) hln (by decide) ?_; intro b4 cap4 w4 hr4 hg4 hgr4; have hcv : (convert 137 9 (.slice (some ⟨b4, 0, none⟩) (out.length + 1) cap4)).run Tryz.prog w4 = .ok (.string ⟨(45 :: out).toArray⟩) w4 := minusBack hr4)
        go_ret
        rw [HDN.out]
        exact ⟨rfl, HW.out.trans (hgr4.mono (by omega))⟩
      · have f2 : ((rest : Int) != 0) = true := by simp; omega
        have f2' : ¬ (rest : Int) = 0 := by omega
        have hz2 := HW.out.size
        by_cases hd0 : rest % 10 = 0
        · have rd : ¬ -((rest : Int) % 10) < 0 := by omega
          have e2 : Value.int .u8 (48 + -((rest : Int) % 10)) = .int .u8 (48 + (rest : Int) % 10) := by congr 1; omega
          go_wp2_with (at_builtin; refine wpList_pre rfl _ _ _ rfl 5 (.int .u8 0) 1 Tryz.underlying137 infoU8 rfl _ _ b cap _ _ rfl rfl HR.out (by simp [Lib.byteCells, Value.oneCell']) (by omega) (by decide) ?_; intro b4 cap4 w4 hr4 hg4 hgr4)
          go_roundw
          case rel =>
            refine ⟨_, rest / 10, b4, cap4, goOn (.inr hr), by go_num, rfl, ?_, by omega, HW.out.trans (hgr4.mono (by omega))⟩
            rw [← e1]; exact hr4
          case measure => simp [intOf, slen, he]; omega
        · have rd : -((rest : Int) % 10) < 0 := by omega
          go_wp2_with (at_builtin; refine wpList_pre rfl _ _ _ rfl 5 (.int .u8 0) 1 Tryz.underlying137 infoU8 rfl _ _ b cap _ _ rfl rfl HR.out (by simp [Lib.byteCells, Value.oneCell']) (by omega) (by decide) ?_; intro b4 cap4 w4 hr4 hg4 hgr4)
          go_roundw
          case rel =>
            refine ⟨_, rest / 10, b4, cap4, goOn (.inr hr), by go_num, rfl, ?_, by omega, HW.out.trans (hgr4.mono (by omega))⟩
            rw [← e1]; exact hr4
          case measure => simp [intOf, slen, he]; omega
theorem l01DecAll (n : Int) (h0 : -1000000000000000 ≤ n) (h1 : n ≤ 1000000000000000) (w : World) :
    Calls Tryz.prog 85 #[.int .i64 n] w fun e w' => e = .returned (.string ⟨(Lib.itoa n).toArray⟩) ∧ Below w.heap.size w w' := by
  by_cases hn : 0 ≤ n
  · obtain ⟨m, rfl⟩ := Int.eq_ofNat_of_zero_le hn
    exact l01DecP m (by omega) w
  · obtain ⟨m, hm⟩ := Int.eq_ofNat_of_zero_le (show 0 ≤ -n by omega)
    obtain rfl : n = -(m : Int) := by omega
    exact l01DecM m (by omega) (by omega) w
theorem in15 (x : Int) (w : World) : Calls Tryz.prog 84 #[.int .i64 x, .int .i64 (-1000000000000000), .int .i64 1000000000000000] w fun e w' => e = .returned (.bool (decide (-1000000000000000 ≤ x ∧ x ≤ 1000000000000000))) ∧ w' = w := by
  by_cases h1 : -1000000000000000 ≤ x
  all_goals by_cases h2 : x ≤ 1000000000000000
  all_goals
    go_enter Tryz.func84, Tryz.ntmps84
    go_wp2_with fail
    go_ret
    exact ⟨ret_bool (by simp [h1, h2]), rfl⟩
end Go.Proofs.YtlpgaekkhlinhaaGreatDoor
