/- spec.l01Bits, l01Hex, l01NText: the texts of numbers. -/
import Derived.Test.YtlpgaekkhlinhaaGreatDoorHex
import Derived.Test.YtlpgaekkhlinhaaGreatDoorChk
import Derived.Test.YtlpgaekkhlinhaaGreatDoorOApp
import Derived.Laws.IdiomStrings
namespace Go.Fl
open Go.RowKit
theorem can_lt (b : Nat) (h : b < 4294967296) : can .f32 b < 4294967296 := by
  unfold can; split
  · decide
  · exact h
theorem app_comma (a b : List UInt8) : Value.string ((⟨a.toArray⟩ : ByteArray) ++ (⟨#[44]⟩ ++ ⟨b.toArray⟩)) = .string ⟨(a ++ [44] ++ b).toArray⟩ := by
  have h1 : (⟨#[44]⟩ : ByteArray) = ⟨[(44 : UInt8)].toArray⟩ := rfl
  rw [h1, ByteArray.mk_append_mk, ByteArray.mk_append_mk]
  simp
/-- the text of integers -/
def intT (xs : List Int) : List UInt8 := textL (xs.map Lib.itoa)
theorem intT_take {xs : List Int} {k : Nat} (h : k < xs.length) (h0 : 0 < k) : intT (xs.take (k + 1)) = intT (xs.take k) ++ [44] ++ Lib.itoa xs[k] := by
  have h1 : xs.take (k + 1) = xs.take k ++ [xs[k]] := List.take_succ_eq_append_getElem h
  rw [intT, intT, h1, List.map_append, List.map_cons, List.map_nil, textL_snoc]
  intro e
  have := congrArg List.length e
  rw [List.length_map, List.length_take, List.length_nil] at this
  omega
theorem intT_len (xs : List Int) (h : ∀ i, i < xs.length → 0 ≤ iAt xs i ∧ iAt xs i < 65003) : (intT xs).length ≤ 6 * xs.length + 4 := by
  have := textL_len (xs.map Lib.itoa) 5 (fun x hx => by
    obtain ⟨y, hy, rfl⟩ := List.mem_map.1 hx
    obtain ⟨i, hi, rfl⟩ := List.getElem_of_mem hy
    have e : iAt xs i = xs[i] := by simp [iAt, hi]
    have := h i hi
    rw [e] at this
    exact (itoa_len this.1 this.2).2)
  rw [List.length_map] at this
  exact this
/-- a number's bits at a place -/
def nAt (xs : List Nat) (i : Nat) : Nat := xs.getD i 0
/-- a slice at ao reads as floats whose bits, not-a-numbers made one, are xs -/
def SlX (w : World) (lo hi : Nat) (ao : Option Addr) (xs : List Nat) : Prop :=
  0 < xs.length → ∃ b off, ao = some ⟨b, off, none⟩ ∧ lo ≤ b ∧ b < hi ∧ ∀ i, i < xs.length → ∃ x, w.cell? ⟨b, off + i, none⟩ = some (.float .f32 x) ∧ x < 4294967296 ∧ can .f32 x = nAt xs i
theorem SlX.far {w w' : World} {lo hi : Nat} {ao : Option Addr} {xs : List Nat} (h : SlX w lo hi ao xs) (hf : Far lo hi w w') : SlX w' lo hi ao xs := fun hp => by
  obtain ⟨b, off, rfl, h1, h2, hc⟩ := h hp
  refine ⟨b, off, rfl, h1, h2, fun i hi => ?_⟩
  obtain ⟨x, c, z⟩ := hc i hi
  exact ⟨x, (hf.cell h1 h2).trans c, z⟩
theorem hex_get : ∀ d : Nat, (h : d < 16) → (⟨#[48, 49, 50, 51, 52, 53, 54, 55, 56, 57, 97, 98, 99, 100, 101, 102]⟩ : ByteArray)[d]'h = hexD d := by
  intro d h
  have : d = 0 ∨ d = 1 ∨ d = 2 ∨ d = 3 ∨ d = 4 ∨ d = 5 ∨ d = 6 ∨ d = 7 ∨ d = 8 ∨ d = 9 ∨ d = 10 ∨ d = 11 ∨ d = 12 ∨ d = 13 ∨ d = 14 ∨ d = 15 := by omega
  rcases this with rfl | rfl | rfl | rfl | rfl | rfl | rfl | rfl | rfl | rfl | rfl | rfl | rfl | rfl | rfl | rfl <;> rfl
theorem and15 (n : Nat) (h : n < 4294967296) : bits .and .i64 (n : Int) 15 = ((n % 16 : Nat) : Int) := by
  have h1 : bits .and .i64 (n : Int) ((15 : Nat) : Int) = ((n &&& 15 : Nat) : Int) := by
    have e1 : ∀ x : Nat, x < 4294967296 → (BitVec.ofInt 64 (x : Int)).toNat = x := fun x h => by
      rw [BitVec.ofInt_natCast, BitVec.toNat_ofNat]; exact Nat.mod_eq_of_lt (by omega)
    have h2 : n &&& 15 ≤ 15 := Nat.and_le_right
    show IntKind.i64.wrap ((BitVec.ofInt 64 (n : Int) &&& BitVec.ofInt 64 ((15 : Nat) : Int)).toNat : Int) = _
    rw [BitVec.toNat_and, e1 n h, e1 15 (by omega), IntKind.wrap_i64]
    omega
  rw [show (15 : Int) = ((15 : Nat) : Int) from rfl, h1, show (15 : Nat) = 2 ^ 4 - 1 from rfl, Nat.and_two_pow_sub_one_eq_mod]
end Go.Fl
namespace Go.Proofs.YtlpgaekkhlinhaaGreatDoor
open Go.RowKit Go.Fl
theorem run_bits (b : Nat) (w : World) : (callFunc 95 #[.float .f32 b]).run Tryz.prog w = .ok (.value (.int .u32 b)) w := by
  rw [run_callFunc_extern (P := Tryz.prog) (e := Extern.MathFloatBits.float32bits) Tryz.func95 (by kernel_rfl) (by kernel_rfl) (by kernel_rfl) (by kernel_rfl) #[.float .f32 b] w]
  rfl
theorem run_frombits (n : Nat) (w : World) : (callFunc 74 #[.int .u32 n]).run Tryz.prog w = .ok (.value (.float .f32 n)) w := by
  rw [run_callFunc_extern (P := Tryz.prog) (e := Extern.MathFloatBits.float32frombits) Tryz.func74 (by kernel_rfl) (by kernel_rfl) (by kernel_rfl) (by kernel_rfl) #[.int .u32 n] w]
  rfl
theorem l01Bits (b : Nat) (hb : b < 4294967296) (w : World) : Calls Tryz.prog 70 #[.float .f32 b] w fun e w' => e = .returned (.int .i64 (can .f32 b : Nat)) ∧ w' = w := by
  have hbits := run_bits b
  go_enter Tryz.func70, Tryz.ntmps70
  cases h : nanB .f32 b
  · have h1 : (FloatKind.f32.format.order b b != some Ordering.eq) = false := by rw [order_self h]; rfl
    have hc := can_of_not h
    rw [hc]
    go_wp2_with fail
    go_ret
    exact ⟨rfl, rfl⟩
  · have h1 : (FloatKind.f32.format.order b b != some Ordering.eq) = true := by rw [order_nan h]; rfl
    have hc := can_of_nan h
    rw [hc]
    go_wp2_with fail
    go_ret
    exact ⟨rfl, rfl⟩
theorem bitsOf (b : Nat) (hb : b < 4294967296) (w : World) : Calls Tryz.prog 103 #[.float .f32 b] w fun e w' => e = .returned (.int .i64 (can .f32 b : Nat)) ∧ w' = w := by
  have hbits := run_bits b
  go_enter Tryz.func103, Tryz.ntmps103
  cases h : nanB .f32 b
  · have h1 : (FloatKind.f32.format.order b b != some Ordering.eq) = false := by rw [order_self h]; rfl
    have hc := can_of_not h
    rw [hc]
    go_wp2_with fail
    go_ret
    exact ⟨rfl, rfl⟩
  · have h1 : (FloatKind.f32.format.order b b != some Ordering.eq) = true := by rw [order_nan h]; rfl
    have hc := can_of_nan h
    rw [hc]
    go_wp2_with fail
    go_ret
    exact ⟨rfl, rfl⟩
end Go.Proofs.YtlpgaekkhlinhaaGreatDoor
