/- spec.l01Bits, l01Hex, l01NText: the texts of numbers. -/
import Derived.Test.YtlpgaekkhlinhaaDoorHex
import Derived.Test.YtlpgaekkhlinhaaDoorChk
import Derived.Test.YtlpgaekkhlinhaaDoorOApp
import Derived.Laws.IdiomStrings
namespace Go.Fl
open Go.RowKit
theorem can_lt (b : Nat) (h : b < 4294967296) : can .f32 b < 4294967296 := by
  unfold can; split
  · decide
  · exact h
theorem app_comma (a b : List UInt8) : Value.string ((⟨a.toArray⟩ : ByteArray) ++ (⟨#[44]⟩ ++ ⟨b.toArray⟩)) = .string ⟨(a ++ [44] ++ b).toArray⟩ := by
  have h1 : (⟨#[44]⟩ : ByteArray) = ⟨[(44 : UInt8)].toArray⟩ := rfl
  rw [h1, ByteArray.mk_append_mk, ByteArray.mk_append_mk]
  simp
/-- the text of integers -/
def intT (xs : List Int) : List UInt8 := textL (xs.map Lib.itoa)
theorem intT_take {xs : List Int} {k : Nat} (h : k < xs.length) (h0 : 0 < k) : intT (xs.take (k + 1)) = intT (xs.take k) ++ [44] ++ Lib.itoa xs[k] := by
  have h1 : xs.take (k + 1) = xs.take k ++ [xs[k]] := List.take_succ_eq_append_getElem h
  rw [intT, intT, h1, List.map_append, List.map_cons, List.map_nil, textL_snoc]
  intro e
  have := congrArg List.length e
  rw [List.length_map, List.length_take, List.length_nil] at this
  omega
theorem intT_len (xs : List Int) (h : ∀ i, i < xs.length → 0 ≤ iAt xs i ∧ iAt xs i < 65003) : (intT xs).length ≤ 6 * xs.length + 4 := by
  have := textL_len (xs.map Lib.itoa) 5 (fun x hx => by
    obtain ⟨y, hy, rfl⟩ := List.mem_map.1 hx
    obtain ⟨i, hi, rfl⟩ := List.getElem_of_mem hy
    have e : iAt xs i = xs[i] := by simp [iAt, hi]
    have := h i hi
    rw [e] at this
    exact (itoa_len this.1 this.2).2)
  rw [List.length_map] at this
  exact this
/-- a number's bits at a place -/
def nAt (xs : List Nat) (i : Nat) : Nat := xs.getD i 0
/-- a slice at ao reads as floats whose bits, not-a-numbers made one, are xs -/
def SlX (w : World) (lo hi : Nat) (ao : Option Addr) (xs : List Nat) : Prop :=
  0 < xs.length → ∃ b off, ao = some ⟨b, off, none⟩ ∧ lo ≤ b ∧ b < hi ∧ ∀ i, i < xs.length → ∃ x, w.cell? ⟨b, off + i, none⟩ = some (.float .f32 x) ∧ x < 4294967296 ∧ can .f32 x = nAt xs i
theorem SlX.far {w w' : World} {lo hi : Nat} {ao : Option Addr} {xs : List Nat} (h : SlX w lo hi ao xs) (hf : Far lo hi w w') : SlX w' lo hi ao xs := fun hp => by
  obtain ⟨b, off, rfl, h1, h2, hc⟩ := h hp
  refine ⟨b, off, rfl, h1, h2, fun i hi => ?_⟩
  obtain ⟨x, c, z⟩ := hc i hi
  exact ⟨x, (hf.cell h1 h2).trans c, z⟩
theorem hex_get : ∀ d : Nat, (h : d < 16) → (⟨#[48, 49, 50, 51, 52, 53, 54, 55, 56, 57, 97, 98, 99, 100, 101, 102]⟩ : ByteArray)[d]'h = hexD d := by
  intro d h
  have : d = 0 ∨ d = 1 ∨ d = 2 ∨ d = 3 ∨ d = 4 ∨ d = 5 ∨ d = 6 ∨ d = 7 ∨ d = 8 ∨ d = 9 ∨ d = 10 ∨ d = 11 ∨ d = 12 ∨ d = 13 ∨ d = 14 ∨ d = 15 := by omega
  rcases this with rfl | rfl | rfl | rfl | rfl | rfl | rfl | rfl | rfl | rfl | rfl | rfl | rfl | rfl | rfl | rfl <;> rfl
theorem and15 (n : Nat) (h : n < 4294967296) : bits .and .i64 (n : Int) 15 = ((n % 16 : Nat) : Int) := by
  have h1 : bits .and .i64 (n : Int) ((15 : Nat) : Int) = ((n &&& 15 : Nat) : Int) := by
    have e1 : ∀ x : Nat, x < 4294967296 → (BitVec.ofInt 64 (x : Int)).toNat = x := fun x h => by
      rw [BitVec.ofInt_natCast, BitVec.toNat_ofNat]; exact Nat.mod_eq_of_lt (by omega)
    have h2 : n &&& 15 ≤ 15 := Nat.and_le_right
    show IntKind.i64.wrap ((BitVec.ofInt 64 (n : Int) &&& BitVec.ofInt 64 ((15 : Nat) : Int)).toNat : Int) = _
    rw [BitVec.toNat_and, e1 n h, e1 15 (by omega), IntKind.wrap_i64]
    omega
  rw [show (15 : Int) = ((15 : Nat) : Int) from rfl, h1, show (15 : Nat) = 2 ^ 4 - 1 from rfl, Nat.and_two_pow_sub_one_eq_mod]
end Go.Fl
namespace Go.Proofs.YtlpgaekkhlinhaaDoor
open Go.RowKit Go.Fl
theorem run_bits (b : Nat) (w : World) : (callFunc 50 #[.float .f32 b]).run Tryd.prog w = .ok (.value (.int .u32 b)) w := by
  rw [run_callFunc_extern (P := Tryd.prog) (e := Extern.MathFloatBits.float32bits) Tryd.func50 (by kernel_rfl) (by kernel_rfl) (by kernel_rfl) (by kernel_rfl) #[.float .f32 b] w]
  rfl
theorem l01Bits (b : Nat) (hb : b < 4294967296) (w : World) : Calls Tryd.prog 46 #[.float .f32 b] w fun e w' => e = .returned (.int .i64 (can .f32 b : Nat)) ∧ w' = w := by
  have hbits := run_bits b
  go_enter Tryd.func46, Tryd.ntmps46
  cases h : nanB .f32 b
  · have h1 : (FloatKind.f32.format.order b b != some Ordering.eq) = false := by rw [order_self h]; rfl
    have hc := can_of_not h
    rw [hc]
    go_wp2_with fail
    go_ret
    exact ⟨rfl, rfl⟩
  · have h1 : (FloatKind.f32.format.order b b != some Ordering.eq) = true := by rw [order_nan h]; rfl
    have hc := can_of_nan h
    rw [hc]
    go_wp2_with fail
    go_ret
    exact ⟨rfl, rfl⟩
theorem bitsOf (b : Nat) (hb : b < 4294967296) (w : World) : Calls Tryd.prog 41 #[.float .f32 b] w fun e w' => e = .returned (.int .i64 (can .f32 b : Nat)) ∧ w' = w := by
  have hbits := run_bits b
  go_enter Tryd.func41, Tryd.ntmps41
  cases h : nanB .f32 b
  · have h1 : (FloatKind.f32.format.order b b != some Ordering.eq) = false := by rw [order_self h]; rfl
    have hc := can_of_not h
    rw [hc]
    go_wp2_with fail
    go_ret
    exact ⟨rfl, rfl⟩
  · have h1 : (FloatKind.f32.format.order b b != some Ordering.eq) = true := by rw [order_nan h]; rfl
    have hc := can_of_nan h
    rw [hc]
    go_wp2_with fail
    go_ret
    exact ⟨rfl, rfl⟩
set_option maxHeartbeats 1000000 in
theorem l01Hex (x : Nat) (hx : x < 4294967296) (w : World) : Calls Tryd.prog 33 #[.float .f32 x] w fun e w' => e = .returned (.string ⟨(hexK (can .f32 x) 8).toArray⟩) ∧ Below w.heap.size w w' := by
  have hn := can_lt x hx
  generalize hc : can .f32 x = n at *
  have HC := Lib.hid hc
  clear hc
  go_enter Tryd.func33, Tryd.ntmps33
  go_wp2_with (go_at_call 46; refine (l01Bits x hx _).mono ?_; rintro e w' ⟨rfl, hw⟩; rw [hw, HC.out]; clear hw)
  go_loopw [4, 5] (fun out k wr => ∃ j b cap : Nat, j ≤ 8 ∧ k = .int .i64 (28 - 4 * (j : Int)) ∧ out = .slice (some ⟨b, 0, none⟩) j cap ∧ Hid (ORow wr 5 1 b cap j (Lib.byteCells (hexK (n / 16 ^ (8 - j)) j))) ∧ w.heap.size ≤ b ∧ Hid (Below w.heap.size w wr)) (fun _ k _ => (intOf k + 4).toNat)
  case atStart =>
    refine ⟨0, w.heap.size, 0, by omega, rfl, rfl, ORow.new w _ _, Nat.le_refl _, Below.alloc (Below.refl _ _) (Nat.le_refl _) _⟩
  case round =>
    obtain ⟨j, b, cap, hj, rfl, rfl, HR, hbb, HW⟩ := hrel
    have hz := HW.out.size
    by_cases hlt : j < 8
    · have hcs : j = 0 ∨ j = 1 ∨ j = 2 ∨ j = 3 ∨ j = 4 ∨ j = 5 ∨ j = 6 ∨ j = 7 := by omega
      have hm : n / 16 ^ (7 - j) < 4294967296 := Nat.lt_of_le_of_lt (Nat.div_le_self _ _) hn
      have ha := and15 _ hm
      have hd : n / 16 ^ (7 - j) % 16 < 16 := Nat.mod_lt _ (by omega)
      have hk : hexK (n / 16 ^ (8 - (j + 1))) (j + 1) = hexK (n / 16 ^ (8 - j)) j ++ [hexD (n / 16 ^ (7 - j) % 16)] := by
        rw [hexK, Nat.div_div_eq_div_mul, ← Nat.pow_succ, show (8 - (j + 1)).succ = 8 - j by omega, show 8 - (j + 1) = 7 - j by omega]
      have HK := Lib.hid hk
      generalize n / 16 ^ (7 - j) % 16 = d at *
      have HD : Hid (∀ (l : List UInt8) , Lib.byteCells l ++ #[Value.int IntKind.u8 ((⟨#[48, 49, 50, 51, 52, 53, 54, 55, 56, 57, 97, 98, 99, 100, 101, 102]⟩ : ByteArray)[d]'hd).toNat].toList = Lib.byteCells (l ++ [hexD d])) := Lib.hid fun l => by
        rw [hex_get d hd, Lib.byteCells_append]; rfl
      clear hk
      rcases hcs with rfl | rfl | rfl | rfl | rfl | rfl | rfl | rfl
      all_goals
        simp at ha
        go_wp2_with (at_builtin; refine wpList_app rfl _ _ _ rfl 5 (.int .u8 0) 1 1 Tryd.underlying73 infoU8 rfl (by decide) _ #[_] 5 rfl (by simp [Value.oneCell']) b cap _ _ rfl rfl HR.out (by omega) (by decide) ?_; intro b' cap' w1 hr hg hgr)
        refine ⟨⟨_, b', cap', ?_, ?_, rfl, ?_, by omega, HW.out.trans (hgr.below hbb hz)⟩, ?_⟩
        rotate_left
        · rfl
        · rw [HK.out, ← HD.out]; exact hr
        · simp [intOf]
        · omega
    · have hj8 : j = 8 := by omega
      subst hj8
      have hcv : (convert 73 9 (.slice (some ⟨b, 0, none⟩) 8 cap)).run Tryd.prog wr = .ok (.string ⟨(hexK n 8).toArray⟩) wr :=
        Eq.trans (by rw [hexK_length]) (run_convert_bytes_back wr _ _ 5 ⟨b, 0, none⟩ cap (hexK n 8) Tryd.underlying73 Tryd.underlying5 Tryd.underlying9 (fun j hj => by
          have hadd : (⟨b, 0, none⟩ : Addr).add j = ⟨b, j, none⟩ := by unfold Addr.add; split <;> simp_all
          have h8 : (hexK n 8).length = 8 := hexK_length n 8
          rw [hadd, HR.out.cell j (by omega)]
          simp [Lib.byteCells, hj]))
      go_wp2_with fail
      go_ret
      exact ⟨rfl, HW.out⟩

set_option maxHeartbeats 1000000 in
theorem l01NText (lo hi : Nat) (ao : Option Addr) (c : Nat) (xs : List Nat) (hn : xs.length ≤ 1048576) (w : World) (hs : SlX w lo hi ao xs) (hh : hi ≤ w.heap.size) :
    Calls Tryd.prog 21 #[.slice ao xs.length c] w fun e w' => e = .returned (.string ⟨(numT xs).toArray⟩) ∧ Below w.heap.size w w' := by
  have HS := Lib.hid hs
  clear hs
  by_cases h0 : xs.length = 0
  · have : xs = [] := List.eq_nil_of_length_eq_zero h0
    subst this
    go_enter Tryd.func21, Tryd.ntmps21
    go_wp2_with fail
    go_ret
    exact ⟨rfl, Below.refl _ _⟩
  obtain ⟨b, o, rfl, q1, q2, hc⟩ := HS.out (by omega)
  obtain ⟨x0, c0, z0, e0⟩ := hc 0 (by omega)
  rw [Nat.add_zero] at c0
  have HC := Lib.hid hc
  have HE0 := Lib.hid e0
  clear hc e0
  go_enter Tryd.func21, Tryd.ntmps21
  have f1 : ((xs.length : Int) == 0) = false := beq_eq_false_iff_ne.2 (by omega)
  have f2 : (0 : Int) < (xs.length : Int) := by omega
  go_wp2_with (go_at_call 33; refine (l01Hex x0 z0 _).mono ?_; rintro e w1 ⟨rfl, hb1⟩; rw [HE0.out])
  go_loopw [3, 4] (fun out i wr => ∃ k : Nat, 1 ≤ k ∧ k ≤ xs.length ∧ i = .int .i64 k ∧ out = .string ⟨(numT (xs.take k)).toArray⟩ ∧ Hid (Below w.heap.size w wr)) (fun _ i _ => xs.length - (intOf i).toNat)
  case atStart =>
    refine ⟨1, by omega, by omega, rfl, ?_, by assumption⟩
    obtain ⟨y, ys, rfl⟩ : ∃ y ys, xs = y :: ys := by
      cases xs with
      | nil => simp at h0
      | cons y ys => exact ⟨y, ys, rfl⟩
    simp [numT, textL_one, nAt]
  case round =>
    obtain ⟨k, hk1, hk, rfl, rfl, HW⟩ := hrel
    have hz := HW.out.size
    by_cases hlt : k < xs.length
    · obtain ⟨x, c1, z1, e1⟩ := HC.out k hlt
      replace c1 := (HW.out.cell (p := ⟨b, o + k, none⟩) (by show b < _; omega)).trans c1
      have HE := Lib.hid e1
      clear e1
      have k0 : (0 : Int) ≤ (k : Int) := by omega
      have k1 : (k : Int) < (xs.length : Int) := by omega
      have hl8 : (hexK (nAt xs k) 8).length = 8 := hexK_length _ _
      have hln := numT_len (xs.take k)
      have hlt2 : (xs.take k).length ≤ 1048576 := by rw [List.length_take]; omega
      have s1 : ¬ 1 + (hexK (nAt xs k) 8).length > 9223372036854775807 := by omega
      have s2 : ¬ (numT (xs.take k)).length + (1 + (hexK (nAt xs k) 8).length) > 9223372036854775807 := by omega
      have hnx : numT (xs.take (k + 1)) = numT (xs.take k) ++ [44] ++ hexK (nAt xs k) 8 := by
        rw [numT_take hlt hk1]; simp [nAt, hlt]
      have HNX := Lib.hid hnx
      clear hl8 hln hlt2 hnx
      go_wp2_with fail
      refine (l01Hex x z1 _).mono ?_
      rintro e w3 ⟨rfl, hb3⟩
      rw [HE.out]
      have HB3 := Lib.hid (HW.out.trans (hb3.mono hz))
      clear hb3
      go_wp2_with fail
      go_roundw
      case rel =>
        refine ⟨k + 1, by omega, by omega, by go_num, ?_, HB3.out⟩
        rw [HNX.out, app_comma]
      case measure => simp [intOf]; omega
    · have hkk : k = xs.length := by omega
      subst hkk
      go_wp2_with fail
      go_ret
      rw [List.take_length]
      exact ⟨rfl, HW.out⟩
set_option maxHeartbeats 1000000 in
theorem l01Text (lo hi : Nat) (ao : Option Addr) (c : Nat) (xs : List Int) (hx : ∀ i, i < xs.length → 0 ≤ iAt xs i ∧ iAt xs i < 65003) (hn : xs.length ≤ 1048576) (w : World) (hs : SlI w lo hi ao xs) (hh : hi ≤ w.heap.size) :
    Calls Tryd.prog 20 #[.slice ao xs.length c] w fun e w' => e = .returned (.string ⟨(intT xs).toArray⟩) ∧ Below w.heap.size w w' := by
  have HS := Lib.hid hs
  clear hs
  by_cases h0 : xs.length = 0
  · have : xs = [] := List.eq_nil_of_length_eq_zero h0
    subst this
    go_enter Tryd.func20, Tryd.ntmps20
    go_wp2_with fail
    go_ret
    exact ⟨rfl, Below.refl _ _⟩
  obtain ⟨b, o, rfl, q1, q2, hc⟩ := HS.out (by omega)
  have c0 := hc 0 (by omega)
  rw [Nat.add_zero] at c0
  have z0 := hx 0 (by omega)
  have HC := Lib.hid hc
  clear hc
  go_enter Tryd.func20, Tryd.ntmps20
  have f1 : ((xs.length : Int) == 0) = false := beq_eq_false_iff_ne.2 (by omega)
  have f2 : (0 : Int) < (xs.length : Int) := by omega
  go_wp2_with (go_at_call 32; refine (l01DecI (iAt xs 0) z0.1 (by omega) _).mono ?_; rintro e w1 ⟨rfl, hb1⟩)
  go_loopw [3, 4] (fun out i wr => ∃ k : Nat, 1 ≤ k ∧ k ≤ xs.length ∧ i = .int .i64 k ∧ out = .string ⟨(intT (xs.take k)).toArray⟩ ∧ Hid (Below w.heap.size w wr)) (fun _ i _ => xs.length - (intOf i).toNat)
  case atStart =>
    refine ⟨1, by omega, by omega, rfl, ?_, by assumption⟩
    obtain ⟨y, ys, rfl⟩ : ∃ y ys, xs = y :: ys := by
      cases xs with
      | nil => simp at h0
      | cons y ys => exact ⟨y, ys, rfl⟩
    simp [intT, textL_one, iAt]
  case round =>
    obtain ⟨k, hk1, hk, rfl, rfl, HW⟩ := hrel
    have hz := HW.out.size
    by_cases hlt : k < xs.length
    · have c1 := HC.out k hlt
      have z1 := hx k hlt
      replace c1 := (HW.out.cell (p := ⟨b, o + k, none⟩) (by show b < _; omega)).trans c1
      have k0 : (0 : Int) ≤ (k : Int) := by omega
      have k1 : (k : Int) < (xs.length : Int) := by omega
      have hl8 := itoa_len z1.1 z1.2
      have hln := intT_len (xs.take k) (fun i hi => by
        have hi2 : i < xs.length := by rw [List.length_take] at hi; omega
        have hik : i < k := by rw [List.length_take] at hi; omega
        have e : iAt (xs.take k) i = iAt xs i := by simp [iAt, List.getD_eq_getElem?_getD, List.getElem?_take_of_lt hik]
        rw [e]; exact hx i hi2)
      have hlt2 : (xs.take k).length ≤ 1048576 := by rw [List.length_take]; omega
      have s1 : ¬ 1 + (Lib.itoa (iAt xs k)).length > 9223372036854775807 := by omega
      have s2 : ¬ (intT (xs.take k)).length + (1 + (Lib.itoa (iAt xs k)).length) > 9223372036854775807 := by omega
      have hnx : intT (xs.take (k + 1)) = intT (xs.take k) ++ [44] ++ Lib.itoa (iAt xs k) := by
        rw [intT_take hlt hk1]; simp [iAt, hlt]
      have HNX := Lib.hid hnx
      clear hl8 hln hlt2 hnx
      go_wp2_with fail
      refine (l01DecI (iAt xs k) z1.1 (by omega) _).mono ?_
      rintro e w3 ⟨rfl, hb3⟩
      have HB3 := Lib.hid (HW.out.trans (hb3.mono hz))
      clear hb3
      go_wp2_with fail
      go_roundw
      case rel =>
        refine ⟨k + 1, by omega, by omega, by go_num, ?_, HB3.out⟩
        rw [HNX.out, app_comma]
      case measure => simp [intOf]; omega
    · have hkk : k = xs.length := by omega
      subst hkk
      go_wp2_with fail
      go_ret
      rw [List.take_length]
      exact ⟨rfl, HW.out⟩
end Go.Proofs.YtlpgaekkhlinhaaDoor
