/- spec.l01CRead: texts of complex numbers read. -/
import Derived.Test.YtlpgaekkhlinhaaGreatDoorRdS
import Derived.Test.YtlpgaekkhlinhaaGreatDoorDB
namespace Go.Fl
open Go.RowKit
theorem split16 (L : ByteArray) (h : L.size = 16) : L.data.toList = (L.extract 0 8).data.toList ++ (L.extract 8 L.size).data.toList := by
  have hl : L.data.toList.length = 16 := by rw [size_list, h]
  rw [Lib.extract_data, Lib.extract_data, h]
  simp only [List.drop_zero]
  rw [List.take_of_length_le (l := L.data.toList.drop 8) (by rw [List.length_drop, hl]; decide), List.take_append_drop]
theorem two_parts {L L1 L2 : List UInt8} {z : Nat × Nat} (h : L = L1 ++ L2) (k : L = hex2 z) (h1 : L1.length = 8) : L1 = hex1 z.1 ∧ L2 = hex1 z.2 := by
  rw [hex2, h] at k
  exact List.append_inj k (by show L1.length = (hexK z.1 8).length; rw [hexK_length, h1])
end Go.Fl
namespace Go.Proofs.YtlpgaekkhlinhaaGreatDoor
open Go.RowKit Go.Fl

theorem infoC : (Tryz.prog.info? 74).map (fun i => (i.zero, i.size, i.bytes)) = some (some (.complex .f32 0 0), 1, 8) := by kernel_rfl

set_option maxHeartbeats 4000000 in
theorem l01CRead (s : ByteArray) (hs : s.size ≤ 1048576) (w : World) :
    Calls Tryz.prog 44 #[.string s] w fun e w' => (∀ xs, Reads hex2 Own2 s.data.toList xs → ∃ b cap, e = .returned (.tuple #[.slice (some ⟨b, 0, none⟩) xs.length cap, .bool true]) ∧ ORow w' 74 1 b cap xs.length (xs.map cV) ∧ w.heap.size ≤ b) ∧
      ((∀ xs, ¬ Reads hex2 Own2 s.data.toList xs) → e = .returned (.tuple #[.slice none 0 0, .bool false])) ∧ Below w.heap.size w w' := by
  cases hnone : (s.toList == [110, 111, 110, 101])
  rotate_left
  · have he : s.data.toList = noneL := by rw [← ByteArray.toList_eq]; exact eq_of_beq hnone
    have HE := Lib.hid he
    clear he
    go_enter Tryz.func44, Tryz.ntmps44
    go_wp2_with fail
    go_ret2
    refine ⟨fun xs h => ?_, fun h => absurd (Reads.nil HE.out) (h []), Below.alloc (Below.refl _ _) (Nat.le_refl _) _⟩
    obtain rfl : xs = [] := (h.none texts2).1 HE.out
    exact ⟨_, _, rfl, ORow.new w _ _, Nat.le_refl _⟩
  · have hne : s.data.toList ≠ noneL := by
      intro e
      rw [ByteArray.toList_eq, e] at hnone
      exact absurd hnone (by decide)
    have HNE := Lib.hid hne
    have hpl : (pieces s 44).length ≤ s.size + 1 := by
      have := stR_len s 44 (j := s.size + 1) (Nat.le_refl _)
      rw [stR_all] at this; exact this
    clear hne
    go_enter Tryz.func44, Tryz.ntmps44
    by_cases hmany : 256 < (pieces s 44).length
    · have hm : (256 : Int) < ((pieces s 44).length : Int) := by omega
      have HM := Lib.hid hmany
      clear hmany
      go_wp2_with (go_at_call 43; refine (l01Cut s 44 44 rfl hs _).mono ?_; rintro e w1 ⟨bp, cp, rfl, hr1, hb1, hbel1⟩)
      go_ret2
      exact ⟨fun xs h => absurd h (many_reads texts2 HNE.out HM.out xs), fun _ => rfl, Below.trans (Below.alloc (Below.refl _ _) (Nat.le_refl _) _) (hbel1.mono (by simp))⟩
    have hm : ¬ (256 : Int) < ((pieces s 44).length : Int) := by omega
    go_wp2_with (go_at_call 43; refine (l01Cut s 44 44 rfl hs _).mono ?_; rintro e w1 ⟨bp, cp, rfl, hr1, hb1, hbel1⟩)
    have HP1 := Lib.hid hr1
    have hbp : w.heap.size < bp := by simp at hb1; omega
    have HB1 := Lib.hid (Below.trans (Below.alloc (Below.refl _ w) (Nat.le_refl _) (.cells #[] 74)) (hbel1.mono (by simp)))
    have HO1 := Lib.hid ((ORow.new w 74 1).below hbel1 (by simp))
    clear hr1 hb1 hbel1
    go_loopw [4, 6] (fun out i wr => ∃ (k b cap : Nat) (ys : List Cx), k ≤ (pieces s 44).length ∧ i = .int .i64 k ∧ out = .slice (some ⟨b, 0, none⟩) k cap ∧ Hid (Got hex2 Own2 s k ys) ∧ Hid (ORow wr 74 1 b cap k (ys.map cV)) ∧ Hid (ORow wr 9 1 bp cp (pieces s 44).length ((pieces s 44).map Value.string)) ∧ w.heap.size ≤ b ∧ b ≠ bp ∧ Hid (Below w.heap.size w wr)) (fun _ i _ => (pieces s 44).length - (intOf i).toNat)
    case atStart => exact ⟨0, w.heap.size, 0, [], by omega, rfl, rfl, Got.zero _ _ _, HO1, HP1, Nat.le_refl _, by omega, HB1⟩
    case round =>
      obtain ⟨k, b, cap, ys, hk, rfl, rfl, HG, HR, HP, hbb, hbne, HW⟩ := hrel
      have hz := HW.out.size
      by_cases hlt : k < (pieces s 44).length
      · have c1 := HP.out.cell k (by omega)
        rw [List.getElem?_map, List.getElem?_eq_getElem hlt] at c1
        have hps : (pieces s 44)[k] = sAt (pieces s 44) k := by simp [sAt, hlt]
        rw [hps] at c1
        replace c1 : wr.cell? ⟨bp, k, none⟩ = some (.string (sAt (pieces s 44) k)) := c1
        have HNR : Hid ((∀ x, Own2 x → (sAt (pieces s 44) k).data.toList ≠ hex2 x) → ∀ xs, ¬ Reads hex2 Own2 s.data.toList xs) := Lib.hid fun h xs => no_reads texts2 HNE.out hlt h xs
        have HGS : Hid (∀ x, Own2 x → (sAt (pieces s 44) k).data.toList = hex2 x → Got hex2 Own2 s (k + 1) (ys ++ [x])) := Lib.hid fun x h1 h2 => HG.out.succ hlt h1 h2
        generalize hL : sAt (pieces s 44) k = L at *
        have k0 : (0 : Int) ≤ (k : Int) := by omega
        have k1 : (k : Int) < ((pieces s 44).length : Int) := by omega
        clear hps hL
        by_cases h8 : L.size = 16
        · have h8b : ((L.size : Int) != 16) = false := by rw [h8]; rfl
          have g0 : (8 : Int) ≤ (L.size : Int) := by omega
          have hA1 : (L.extract 0 8).size = 8 := by rw [ByteArray.size_extract]; omega
          have hA2 : (L.extract 8 L.size).size = 8 := by rw [ByteArray.size_extract]; omega
          have hsp := split16 L h8
          have HSP := Lib.hid hsp
          generalize hE1 : L.extract 0 8 = L1 at *
          generalize hE2 : L.extract 8 L.size = L2 at *
          have HE1 := Lib.hid hE1
          have HE2 := Lib.hid (show L.extract 8 16 = L2 by rw [← h8]; exact hE2)
          by_cases hx : ∃ x, Own1 x ∧ L1.data.toList = hex1 x
          · obtain ⟨x, hx1, hx2⟩ := hx
            by_cases hy : ∃ y, Own1 y ∧ L2.data.toList = hex1 y
            · obtain ⟨y, hy1, hy2⟩ := hy
              have HD1 := Lib.hid (fun w0 => (l01Digits L1 hA1 w0).mono fun e w' q => (⟨q.1 x hx1 hx2, q.2.2⟩ : e = .returned (.tuple #[.float .f32 x, .bool true]) ∧ w' = w0))
              have HD2 := Lib.hid (fun w0 => (l01Digits L2 hA2 w0).mono fun e w' q => (⟨q.1 y hy1 hy2, q.2.2⟩ : e = .returned (.tuple #[.float .f32 y, .bool true]) ∧ w' = w0))
              have HG2 := Lib.hid (HGS.out (x, y) ⟨hx1, hy1⟩ (by rw [HSP.out, hx2, hy2]; rfl))
              clear hsp hE1 hE2 hA1 hA2 hx2 hy2
              go_wp2_with fail
              rw [HE1.out]
              refine (HD1.out _).mono ?_
              rintro e w4 ⟨rfl, hw⟩
              rw [hw]
              clear hw
              go_wp2_with fail
              rw [HE2.out]
              refine (HD2.out _).mono ?_
              rintro e w5 ⟨rfl, hw⟩
              rw [hw]
              clear hw
              go_wp2_with (at_builtin; refine wpList_app rfl _ _ _ rfl 74 (.complex .f32 0 0) 1 8 Tryz.underlying22 infoC rfl (by decide) _ #[_] 74 rfl (by simp [Value.oneCell']) b cap _ _ rfl rfl HR.out (by omega) (by decide) ?_; intro b' cap' w6 hr hg hgr)
              have hpl2 := HP.out.lt
              have hrl2 := HR.out.lt
              go_roundw
              case rel =>
                refine ⟨k + 1, b', cap', ys ++ [(x, y)], by omega, by go_num, rfl, HG2, ?_, Lib.hid (HP.out.grew hgr (fun e => hbne e.symm)), by omega, by omega, Lib.hid (HW.out.trans (hgr.below hbb hz))⟩
                rw [List.map_append]; exact Lib.hid hr
              case measure => simp [intOf]; omega
            · have HNO := Lib.hid (HNR.out fun z hz h => hy ⟨z.2, hz.2, (two_parts HSP.out h (by rw [size_list]; exact hA1)).2⟩)
              have HD1 := Lib.hid (fun w0 => (l01Digits L1 hA1 w0).mono fun e w' q => (⟨q.1 x hx1 hx2, q.2.2⟩ : e = .returned (.tuple #[.float .f32 x, .bool true]) ∧ w' = w0))
              have HD2 := Lib.hid (fun w0 => (l01Digits L2 hA2 w0).mono fun e w' q => (⟨q.2.1 hy, q.2.2⟩ : e = .returned (.tuple #[.float .f32 0, .bool false]) ∧ w' = w0))
              clear hsp hE1 hE2 hA1 hA2 hx2 hy
              go_wp2_with fail
              rw [HE1.out]
              refine (HD1.out _).mono ?_
              rintro e w4 ⟨rfl, hw⟩
              rw [hw]
              clear hw
              go_wp2_with fail
              rw [HE2.out]
              refine (HD2.out _).mono ?_
              rintro e w5 ⟨rfl, hw⟩
              rw [hw]
              clear hw
              go_wp2_with fail
              go_ret2
              exact ⟨fun xs h => absurd h (HNO.out xs), fun _ => rfl, HW.out⟩
          · have HNO := Lib.hid (HNR.out fun z hz h => hx ⟨z.1, hz.1, (two_parts HSP.out h (by rw [size_list]; exact hA1)).1⟩)
            have HD1 := Lib.hid (fun w0 => (l01Digits L1 hA1 w0).mono fun e w' q => (⟨q.2.1 hx, q.2.2⟩ : e = .returned (.tuple #[.float .f32 0, .bool false]) ∧ w' = w0))
            obtain ⟨v, bb, hd2⟩ : ∃ v bb, ∀ w0, Calls Tryz.prog 68 #[.string L2] w0 fun e w' => e = .returned (.tuple #[.float .f32 v, .bool bb]) ∧ w' = w0 := by
              by_cases hy : ∃ y, Own1 y ∧ L2.data.toList = hex1 y
              · obtain ⟨y, hy1, hy2⟩ := hy
                exact ⟨y, true, fun w0 => (l01Digits L2 hA2 w0).mono fun e w' q => ⟨q.1 y hy1 hy2, q.2.2⟩⟩
              · exact ⟨0, false, fun w0 => (l01Digits L2 hA2 w0).mono fun e w' q => ⟨q.2.1 hy, q.2.2⟩⟩
            have HD2 := Lib.hid hd2
            clear hsp hE1 hE2 hA1 hA2 hx hd2
            go_wp2_with fail
            rw [HE1.out]
            refine (HD1.out _).mono ?_
            rintro e w4 ⟨rfl, hw⟩
            rw [hw]
            clear hw
            go_wp2_with fail
            rw [HE2.out]
            refine (HD2.out _).mono ?_
            rintro e w5 ⟨rfl, hw⟩
            rw [hw]
            clear hw
            go_wp2_with fail
            go_ret2
            exact ⟨fun xs h => absurd h (HNO.out xs), fun _ => rfl, HW.out⟩
        · have h8b : ((L.size : Int) != 16) = true := by simp; omega
          have hno : ∀ x, Own2 x → L.data.toList ≠ hex2 x := fun x _ h => h8 (by rw [← size_list, h]; exact texts2.len x)
          have HNO := Lib.hid (HNR.out hno)
          clear hno h8
          go_wp2_with fail
          go_ret2
          exact ⟨fun xs h => absurd h (HNO.out xs), fun _ => rfl, HW.out⟩
      · have hkk : k = (pieces s 44).length := by omega
        subst hkk
        have hr := HG.out.reads (by omega)
        have HRD := Lib.hid hr
        have hl := HG.out.len
        go_wp2_with fail
        go_ret2
        refine ⟨fun xs h => ?_, fun h => absurd HRD.out (h _), HW.out⟩
        obtain rfl := h.unique texts2 HRD.out
        exact ⟨b, cap, by rw [hl]; rfl, by rw [hl]; exact HR.out, hbb⟩
end Go.Proofs.YtlpgaekkhlinhaaGreatDoor
