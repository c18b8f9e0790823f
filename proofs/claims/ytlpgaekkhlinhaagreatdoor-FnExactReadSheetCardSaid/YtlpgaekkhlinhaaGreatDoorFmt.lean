/- strconv.FormatInt in base 16 of a number of 32 bits. -/
import Derived.Test.YtlpgaekkhlinhaaGreatDoorTxtS
import Derived.Test.YtlpgaekkhlinhaaGreatDoorRow
import Derived.Lib.LaidTab
namespace Go.Fl
open Go.RowKit
theorem hexK_cons (n : Nat) : ∀ j, hexK n (j + 1) = hexD (n / 16 ^ j % 16) :: hexK n j := by
  intro j
  induction j generalizing n with
  | zero => simp [hexK]
  | succ j ih =>
    rw [hexK, ih (n / 16), hexK, Nat.div_div_eq_div_mul, ← Nat.pow_succ', List.cons_append]
theorem hexM_eq : ∀ (j n : Nat), n / 16 ^ j < 16 → (j = 0 ∨ 16 ≤ n / 16 ^ (j - 1)) → hexM n = hexD (n / 16 ^ j) :: hexK n j := by
  intro j
  induction j with
  | zero =>
    intro n h _
    rw [Nat.pow_zero, Nat.div_one] at h
    rw [hexM_small h, Nat.pow_zero, Nat.div_one]; rfl
  | succ j ih =>
    intro n h h2
    have h3 : 16 ≤ n / 16 ^ j := by
      rcases h2 with h2 | h2
      · omega
      · exact h2
    have h4 : ¬ n < 16 := fun hn => by
      have := Nat.div_le_self n (16 ^ j)
      omega
    have e : n / 16 / 16 ^ j = n / 16 ^ (j + 1) := by rw [Nat.div_div_eq_div_mul, ← Nat.pow_succ']
    rw [hexM_big h4, ih (n / 16) (by rw [e]; exact h) ?_, e, hexK, List.cons_append]
    cases j with
    | zero => exact .inl rfl
    | succ j => 
      right
      rw [show j + 1 - 1 = j by omega, Nat.div_div_eq_div_mul, ← Nat.pow_succ']
      exact h3
theorem hex_get36 : ∀ d : Nat, (h : d < 16) → (⟨#[48, 49, 50, 51, 52, 53, 54, 55, 56, 57, 97, 98, 99, 100, 101, 102, 103, 104, 105, 106, 107, 108, 109, 110, 111, 112, 113, 114, 115, 116, 117, 118, 119, 120, 121, 122]⟩ : ByteArray)[d]'(Nat.lt_trans h (by decide)) = hexD d := by
  intro d h
  have : d = 0 ∨ d = 1 ∨ d = 2 ∨ d = 3 ∨ d = 4 ∨ d = 5 ∨ d = 6 ∨ d = 7 ∨ d = 8 ∨ d = 9 ∨ d = 10 ∨ d = 11 ∨ d = 12 ∨ d = 13 ∨ d = 14 ∨ d = 15 := by omega
  rcases this with rfl | rfl | rfl | rfl | rfl | rfl | rfl | rfl | rfl | rfl | rfl | rfl | rfl | rfl | rfl | rfl <;> rfl
theorem and15u (n : Nat) (h : n < 4294967296) : bits .and .u64 (n : Int) 15 = ((n % 16 : Nat) : Int) := by
  have h1 : bits .and .u64 (n : Int) ((15 : Nat) : Int) = ((n &&& 15 : Nat) : Int) := by
    have e1 : ∀ x : Nat, x < 4294967296 → (BitVec.ofInt 64 (x : Int)).toNat = x := fun x h => by
      rw [BitVec.ofInt_natCast, BitVec.toNat_ofNat]; exact Nat.mod_eq_of_lt (by omega)
    have h2 : n &&& 15 ≤ 15 := Nat.and_le_right
    show IntKind.u64.wrap ((BitVec.ofInt 64 (n : Int) &&& BitVec.ofInt 64 ((15 : Nat) : Int)).toNat : Int) = _
    rw [BitVec.toNat_and, e1 n h, e1 15 (by omega)]
    show (((n &&& 15 : Nat) : Int)) % 18446744073709551616 = _
    omega
  rw [show (15 : Int) = ((15 : Nat) : Int) from rfl, h1, show (15 : Nat) = 2 ^ 4 - 1 from rfl, Nat.and_two_pow_sub_one_eq_mod]
end Go.Fl
namespace Go.Proofs.YtlpgaekkhlinhaaGreatDoor
open Go.RowKit Go.Fl

/-- the cell of the table of trailing zeros that 16 reads -/
def Tz (w : World) : Prop := w.cell? ⟨8, 15, none⟩ = some (.int .u8 4)
theorem Tz.on {w w' : World} (h : Tz w) (hb : Below w.heap.size w w') : Tz w' := keep_cell hb h

theorem isPow16 (w : World) : Calls Tryz.prog 162 #[.int .i64 16] w fun e w' => e = .returned (.bool true) ∧ w' = w := by
  go_enter Tryz.func162, Tryz.ntmps162
  go_wp2_with fail
  go_ret
  exact ⟨rfl, rfl⟩
theorem tz64 (w : World) (h : Tz w) : Calls Tryz.prog 167 #[.int .u64 16] w fun e w' => e = .returned (.int .i64 4) ∧ w' = w := by
  have h' : w.cell? ⟨8, 15, none⟩ = some (.int .u8 4) := h
  have hi : (IntKind.u64.wrap (bits .and .u64 16 (IntKind.u64.wrap (-16)) * 285870213051353865) / 288230376151711744).toNat = 15 := by decide +kernel
  rw [← hi] at h'
  clear hi
  go_enter Tryz.func167, Tryz.ntmps167
  go_wp2_with fail
  go_ret
  exact ⟨rfl, rfl⟩
theorem tz16 (w : World) (h : Tz w) : Calls Tryz.prog 163 #[.int .u64 16] w fun e w' => e = .returned (.int .i64 4) ∧ w' = w := by
  go_enter Tryz.func163, Tryz.ntmps163
  go_wp2_with (go_at_call 167; refine (tz64 _ h).mono ?_; rintro e w' ⟨rfl, rfl⟩)
  go_ret
  exact ⟨rfl, rfl⟩

/-- the buffer of 65 bytes, its last j filled -/
def bufL (n j : Nat) : List UInt8 := List.replicate (65 - j) 0 ++ hexK n j
theorem bufL_len (n j : Nat) (h : j ≤ 65) : (bufL n j).length = 65 := by
  rw [bufL, List.length_append, List.length_replicate, hexK_length]; omega
theorem bufL_set (n j : Nat) (h : j < 65) : (bufL n j).set (64 - j) (hexD (n / 16 ^ j % 16)) = bufL n (j + 1) := by
  rw [bufL, bufL, hexK_cons, show 65 - j = (64 - j) + 1 by omega, List.replicate_succ', List.append_assoc, List.set_append_right _ _ (by simp)]
  simp [show 65 - (j + 1) = 64 - j by omega]

set_option maxHeartbeats 2000000 in
set_option maxRecDepth 100000 in
theorem formatBits16 (n : Nat) (hn : n < 4294967296) (w : World) (h : Tz w) :
    Calls Tryz.prog 151 #[.slice none 0 0, .int .u64 n, .int .i64 16, .bool false, .bool false] w fun e w' => e = .returned (.tuple #[.slice none 0 0, .string ⟨(hexM n).toArray⟩]) ∧ Below w.heap.size w w' := by
  have HT := Lib.hid h
  clear h
  go_enter Tryz.func151, Tryz.ntmps151
  go_wp2_with (first | (go_at_call 162; refine (isPow16 _).mono ?_; rintro e w1 ⟨rfl, rfl⟩) | (go_at_call 163; refine (tz16 _ (HT.out.on (Below.alloc (Below.refl _ _) (Nat.le_refl _) _))).mono ?_; rintro e w2 ⟨rfl, rfl⟩))
  go_loopw [1, 13] (fun u i wr => ∃ j m : Nat, j ≤ 7 ∧ m < 4294967296 ∧ Hid (m = n / 16 ^ j) ∧ u = .int .u64 (m : Int) ∧ i = .int .i64 (65 - (j : Int)) ∧ Hid (j = 0 ∨ 16 ≤ n / 16 ^ (j - 1)) ∧ Hid (OwnC wr w.heap.size (Lib.byteCells (bufL n j)).toArray 185) ∧ Hid (Below w.heap.size w wr)) (fun _ i _ => (intOf i).toNat)
  case atStart =>
    refine ⟨0, n, by omega, hn, Lib.hid (by simp), rfl, rfl, Lib.hid (.inl rfl), ?_, ?_⟩
    · refine Lib.hid ((OwnC.new rfl).congr ?_)
      show _ = (Lib.byteCells (List.replicate 65 0 ++ [])).toArray
      rfl
    · exact Below.alloc (Below.refl _ _) (Nat.le_refl _) _
  case round =>
    obtain ⟨j, m, hj, hm, HM, rfl, rfl, HP, HO, HW⟩ := hrel
    obtain ⟨v0, hv0⟩ : ∃ v, wr.cell? ⟨w.heap.size, 65 - j - 1, none⟩ = some v := by
      have hl : (Lib.byteCells (bufL n j)).length = 65 := by rw [Lib.byteCells_length, bufL_len _ _ (by omega)]
      rw [HO.out.cell, List.getElem?_toArray, List.getElem?_eq_getElem (by omega)]
      exact ⟨_, rfl⟩
    have f0 := HO.out.free (65 - j - 1)
    by_cases hb : 16 ≤ m
    · have hj6 : j < 7 := by
        rcases Nat.lt_or_ge j 7 with h | h
        · exact h
        · exfalso
          have : j = 7 := by omega
          subst this
          have : n / 16 ^ 7 < 16 := by rw [Nat.div_lt_iff_lt_mul (by decide)]; exact hn
          have := HM.out
          omega
      have ha := and15u m hm
      have hd : m % 16 < 16 := Nat.mod_lt _ (by omega)
      have HS : Hid (∀ d (h : d < 16), d = m % 16 → (Lib.byteCells (bufL n j)).toArray.setIfInBounds (65 - j - 1) (Value.int IntKind.u8 ((⟨#[48, 49, 50, 51, 52, 53, 54, 55, 56, 57, 97, 98, 99, 100, 101, 102, 103, 104, 105, 106, 107, 108, 109, 110, 111, 112, 113, 114, 115, 116, 117, 118, 119, 120, 121, 122]⟩ : ByteArray)[d]'(Nat.lt_trans h (by decide))).toNat) = (Lib.byteCells (bufL n (j + 1))).toArray) := Lib.hid fun d h e => by
        rw [hex_get36 d h, ← bufL_set n j (by omega), e, HM.out, show 65 - j - 1 = 64 - j by omega]
        simp [Lib.byteCells]
      have HQ := Lib.hid (show m / 16 = n / 16 ^ (j + 1) by rw [HM.out, Nat.div_div_eq_div_mul, ← Nat.pow_succ])
      generalize hdd : m % 16 = d at *
      have HDD := Lib.hid hdd
      clear hdd
      go_wp2_with fail
      refine ⟨⟨j + 1, m / 16, by omega, by omega, HQ.out, by go_num, by go_num, Lib.hid (.inr (by rw [show j + 1 - 1 = j by omega, ← HM.out]; exact hb)), Lib.hid ((HO.out.set _ _).congr (HS.out d hd rfl)), Lib.hid (HW.out.setCell (Nat.le_refl _) _)⟩, by simp [intOf]; omega⟩
    · have hm16 : m < 16 := by omega
      have HS : Hid ((Lib.byteCells (bufL n j)).toArray.setIfInBounds (65 - j - 1) (Value.int IntKind.u8 ((⟨#[48, 49, 50, 51, 52, 53, 54, 55, 56, 57, 97, 98, 99, 100, 101, 102, 103, 104, 105, 106, 107, 108, 109, 110, 111, 112, 113, 114, 115, 116, 117, 118, 119, 120, 121, 122]⟩ : ByteArray)[m]'(Nat.lt_trans hm16 (by decide))).toNat) = (Lib.byteCells (bufL n (j + 1))).toArray) := Lib.hid (by
        have e : n / 16 ^ j % 16 = m := by rw [← HM.out]; exact Nat.mod_eq_of_lt hm16
        rw [hex_get36 m hm16, ← bufL_set n j (by omega), e, show 65 - j - 1 = 64 - j by omega]
        simp [Lib.byteCells])
      have HX := Lib.hid (show hexM n = hexK n (j + 1) by
        rw [hexM_eq j n (by rw [← HM.out]; exact hm16) HP.out, hexK_cons, ← HM.out, Nat.mod_eq_of_lt hm16])
      have hcv : ∀ w' : World, OwnC w' w.heap.size (Lib.byteCells (bufL n (j + 1))).toArray 185 → (convert 137 9 (.slice (some ⟨w.heap.size, 65 - j - 1, none⟩) (j + 1) (j + 1))).run Tryz.prog w' = .ok (.string ⟨(hexM n).toArray⟩) w' := fun w' ho => by
        have hl : (hexM n).length = j + 1 := by rw [HX.out, hexK_length]
        rw [← hl]
        refine run_convert_bytes_back w' _ _ 5 ⟨w.heap.size, 65 - j - 1, none⟩ _ (hexM n) Tryz.underlying137 Tryz.underlying5 Tryz.underlying9 (fun q hq => ?_)
        have hadd : (⟨w.heap.size, 65 - j - 1, none⟩ : Addr).add q = ⟨w.heap.size, 65 - j - 1 + q, none⟩ := by unfold Addr.add; split <;> simp_all
        rw [hadd, ho.cell, List.getElem?_toArray]
        simp only [Lib.byteCells, bufL, List.map_append, ← HX.out]
        rw [List.getElem?_append_right (by simp; omega)]
        simp only [List.length_map, List.length_replicate]
        rw [show 65 - j - 1 + q - (65 - (j + 1)) = q by omega]
        simp [hq]
      have hsl : ∀ W, (Instr.sliceAt 185 (.pointer (some ⟨w.heap.size, 0, none⟩)) (some (.int .i64 (65 - (j : Int) - 1))) none none).run Tryz.prog W = .ok (.slice (some ⟨w.heap.size, 65 - j - 1, none⟩) (j + 1) (j + 1)) W := fun W => by
        rw [run_sliceAt_array_l W 185 ⟨w.heap.size, 0, none⟩ (by kernel_rfl) .i64 (65 - (j : Int) - 1) (by omega) (by rw [show Tryz.prog.arrayLen 185 = 65 by kernel_rfl]; omega)]
        rw [show Tryz.prog.arrayLen 185 = 65 by kernel_rfl]
        go_simp
        omega
      have HCV := Lib.hid hcv
      clear hcv
      go_wp2_with fail
      rw [HCV.out _ ((HO.out.set _ _).congr HS.out)]
      simp only [Result.andThen]
      rw [Oper.upon_value]
      go_wp2_with fail
      go_ret2
      exact ⟨rfl, HW.out.setCell (Nat.le_refl _) _⟩

set_option maxHeartbeats 1000000 in
theorem fmt16i (n : Nat) (hn : n < 4294967296) (w : World) (h : Tz w) :
    Calls Tryz.prog 126 #[.int .i64 n, .int .i64 16] w fun e w' => e = .returned (.string ⟨(hexM n).toArray⟩) ∧ Below w.heap.size w w' := by
  have hneg : ¬ (n : Int) < 0 := by omega
  go_enter Tryz.func126, Tryz.ntmps126
  go_wp2_with (go_at_call 151; refine (formatBits16 n hn _ h).mono ?_; rintro e w1 ⟨rfl, hb1⟩)
  go_ret
  exact ⟨rfl, hb1⟩
theorem fmt16 (n : Nat) (hn : n < 4294967296) (w : World) (h : Tz w) :
    Calls Tryz.prog 93 #[.int .i64 n, .int .i64 16] w fun e w' => e = .returned (.string ⟨(hexM n).toArray⟩) ∧ Below w.heap.size w w' := by
  go_enter Tryz.func93, Tryz.ntmps93
  go_wp2_with (go_at_call 126; refine (fmt16i n hn _ h).mono ?_; rintro e w1 ⟨rfl, hb1⟩)
  go_ret
  exact ⟨rfl, hb1⟩
end Go.Proofs.YtlpgaekkhlinhaaGreatDoor
