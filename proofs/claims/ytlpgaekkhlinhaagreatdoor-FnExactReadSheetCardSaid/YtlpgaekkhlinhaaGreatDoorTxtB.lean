/- impl.hexOf, NumbersText: the texts of numbers, the program's. -/
import Derived.Test.YtlpgaekkhlinhaaGreatDoorFmt
import Derived.Test.YtlpgaekkhlinhaaGreatDoorJoin
import Derived.Test.YtlpgaekkhlinhaaGreatDoorDecB
namespace Go.Fl
open Go.RowKit
theorem app_two (a b : List UInt8) : Value.string ((⟨a.toArray⟩ : ByteArray) ++ ⟨b.toArray⟩) = .string ⟨(a ++ b).toArray⟩ := by
  rw [ByteArray.mk_append_mk]
theorem repeat48 (q : Nat) : Lib.repeatL [48] q = List.replicate q 48 := by
  induction q with
  | zero => rfl
  | succ q ih => rw [Lib.repeatL, ih, List.replicate_succ]; rfl
/-- the hexadecimal texts of numbers -/
def hexS (xs : List Nat) : List ByteArray := xs.map fun x => ⟨(hexK x 8).toArray⟩
theorem hexS_text (xs : List Nat) : textL (bytesL (hexS xs)) = numT xs := by
  simp [bytesL, hexS, numT, List.map_map, Function.comp_def]
theorem hexS_len (xs : List Nat) : (hexS xs).length = xs.length := by simp [hexS]
theorem hexS_size (xs : List Nat) (i : Nat) (hi : i < (hexS xs).length) : (sAt (hexS xs) i).size ≤ 64 := by
  rw [sAt_get hi]
  simp only [hexS, List.getElem_map]
  show (hexK _ 8).length ≤ 64
  rw [hexK_length]; decide
theorem hexS_take {xs : List Nat} {k : Nat} (h : k < xs.length) : hexS (xs.take (k + 1)) = hexS (xs.take k) ++ [⟨(hexK (nAt xs k) 8).toArray⟩] := by
  rw [hexS, List.take_succ_eq_append_getElem h, List.map_append]
  simp [hexS, nAt, h]
end Go.Fl
namespace Go.Proofs.YtlpgaekkhlinhaaGreatDoor
open Go.RowKit Go.Fl

set_option maxHeartbeats 1000000 in
theorem hexOf (x : Nat) (hx : x < 4294967296) (w : World) (h : Tz w) : Calls Tryz.prog 75 #[.float .f32 x] w fun e w' => e = .returned (.string ⟨(hexK (can .f32 x) 8).toArray⟩) ∧ Below w.heap.size w w' := by
  have hn := can_lt x hx
  generalize hc : can .f32 x = n at *
  have HC := Lib.hid hc
  clear hc
  obtain ⟨h8, hpad⟩ := hexM_pad 7 n hn
  have HP := Lib.hid hpad
  have h1 := hexM_pos n
  obtain ⟨q, hq⟩ : ∃ q : Nat, q = 8 - (hexM n).length := ⟨_, rfl⟩
  have hq2 : (8 : Int) - ((hexM n).length : Int) = (q : Int) := by omega
  have HR : Hid (Lib.repeatL [48] q ++ hexM n = hexK n 8) := Lib.hid (by rw [hq, ← hpad, repeat48])
  have hlr : (Lib.repeatL [48] q).length = q := by rw [repeat48, List.length_replicate]
  have s1 : ¬ (Lib.repeatL [48] q).length + (hexM n).length > 9223372036854775807 := by omega
  clear hpad hlr
  have hq7 : q ≤ 7 := by omega
  clear hq
  go_enter Tryz.func75, Tryz.ntmps75
  go_wp2_with (first | (go_at_call 103; refine (bitsOf x hx _).mono ?_; rintro e w' ⟨rfl, hw⟩; rw [hw, HC.out]; clear hw) | (go_at_call 93; refine (fmt16 n hn _ h).mono ?_; rintro e w1 ⟨rfl, hb1⟩) | (go_at_call 104; refine (Tryz.strings_Repeat ⟨#[48]⟩ q _ (by omega) (by show 1 * q ≤ _; omega)).mono ?_; rintro e w2 ⟨rfl, hb2⟩))
  go_ret
  exact ⟨(congrArg Ending.returned (app_two _ _)).trans (by rw [HR.out]), hb1.trans (hb2.mono hb1.size)⟩

theorem infoStr : (Tryz.prog.info? 9).map (fun i => (i.zero, i.size, i.bytes)) = some (some (.string ⟨#[]⟩), 1, 16) := by kernel_rfl

set_option maxHeartbeats 1000000 in
theorem numbersText (lo hi : Nat) (ao : Option Addr) (c : Nat) (xs : List Nat) (hn : xs.length ≤ 256) (w : World) (hs : SlX w lo hi ao xs) (hh : hi ≤ w.heap.size) (h : Tz w) :
    Calls Tryz.prog 51 #[.slice ao xs.length c] w fun e w' => e = .returned (.tuple #[.string ⟨(numT xs).toArray⟩, .bool true]) ∧ Below w.heap.size w w' := by
  have HS := Lib.hid hs
  have HT := Lib.hid h
  clear hs h
  have f1 : ¬ (256 : Int) < (xs.length : Int) := by omega
  go_enter Tryz.func51, Tryz.ntmps51
  go_wp2_with fail
  go_loopw [4, 13] (fun out i wr => ∃ k b cap : Nat, k ≤ xs.length ∧ i = .int .i64 k ∧ out = .slice (some ⟨b, 0, none⟩) k cap ∧ Hid (ORow wr 9 1 b cap k ((hexS (xs.take k)).map Value.string)) ∧ w.heap.size ≤ b ∧ Hid (Below w.heap.size w wr)) (fun _ i _ => xs.length - (intOf i).toNat)
  case atStart => exact ⟨0, w.heap.size, 0, by omega, rfl, rfl, ORow.new w _ _, Nat.le_refl _, Below.alloc (Below.refl _ _) (Nat.le_refl _) _⟩
  case round =>
    obtain ⟨k, b, cap, hk, rfl, rfl, HR, hbb, HW⟩ := hrel
    have hz := HW.out.size
    by_cases hlt : k < xs.length
    · obtain ⟨b1, o1, rfl, q0, q1, hc1⟩ := HS.out.far (Far.below HW.out hh) (by omega)
      obtain ⟨x, c1, z1, e1⟩ := hc1 k hlt
      have HE := Lib.hid e1
      have HX := Lib.hid (hexS_take hlt)
      clear hc1 e1
      have k0 : (0 : Int) ≤ (k : Int) := by omega
      have k1 : (k : Int) < (xs.length : Int) := by omega
      go_wp2_with (first | (go_at_call 75; refine (hexOf x z1 _ (HT.out.on HW.out)).mono ?_; rintro e w2 ⟨rfl, hb2⟩; rw [HE.out]; have HR2 := Lib.hid (HR.out.below hb2 HR.out.lt); have hz2 := hb2.size) | (at_builtin; refine wpList_app rfl _ _ _ rfl 9 (.string ⟨#[]⟩) 1 16 Tryz.underlying67 infoStr rfl (by decide) _ #[_] 9 rfl (by simp [Value.oneCell']) b cap _ _ rfl rfl HR2.out (by omega) (by decide) ?_; intro b' cap' w3 hr hg hgr))
      go_roundw
      case rel =>
        refine ⟨k + 1, b', cap', by omega, by go_num, rfl, ?_, by omega, ?_⟩
        · rw [HX.out, List.map_append]; exact hr
        · exact (HW.out.trans (hb2.mono hz)).trans (hgr.below hbb (by omega))
      case measure => simp [intOf]; omega
    · have hkk : k = xs.length := by omega
      subst hkk
      have HRX := Lib.hid (show ORow wr 9 1 b cap xs.length ((hexS xs).map Value.string) by have := HR.out; rw [List.take_length] at this; exact this)
      have hcap := HRX.out.cap
      have hlt := HRX.out.lt
      have HJ := Lib.hid (show Calls Tryz.prog 76 #[.slice (some ⟨b, 0, none⟩) xs.length cap] wr fun e w' => e = .returned (.string ⟨(numT xs).toArray⟩) ∧ Below wr.heap.size wr w' by
        have := joined b (b + 1) cap (some ⟨b, 0, none⟩) (hexS xs) (by rw [hexS_len]; omega) (by rw [hexS_len]; omega) (hexS_size xs) wr HRX.out.strs (by omega)
        rw [hexS_len, strT, hexS_text] at this
        exact this)
      go_wp2_with (go_at_call 76; refine HJ.out.mono ?_; rintro e w4 ⟨rfl, hb4⟩)
      go_ret2
      exact ⟨rfl, HW.out.trans (hb4.mono hz)⟩
end Go.Proofs.YtlpgaekkhlinhaaGreatDoor
