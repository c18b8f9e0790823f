/- An outline's bytes: the words, by both. -/
import Derived.Test.YtjapidajammkbaaOApp
import Derived.Test.YtjapidajammkbaaOVi
import Derived.Laws.IdiomStrings
namespace Go.Fl
open Go.RowKit
theorem can_lt (b : Nat) (h : b < 4294967296) : can .f32 b < 4294967296 := by
  unfold can; split
  · decide
  · exact h
theorem le4_cells (x : Nat) (h : x < 4294967296) : Lib.byteCells (le4 x) = [.int .u8 ((x : Int) % 256), .int .u8 ((x : Int) / 256 % 256), .int .u8 ((x : Int) / 65536 % 256), .int .u8 ((x : Int) / 16777216)] := by
  have e0 : (((UInt8.ofNat x).toNat : Nat) : Int) = (x : Int) % 256 := by rw [UInt8.toNat_ofNat']; omega
  have e1 : (((UInt8.ofNat (x / 256)).toNat : Nat) : Int) = (x : Int) / 256 % 256 := by rw [UInt8.toNat_ofNat']; omega
  have e2 : (((UInt8.ofNat (x / 65536)).toNat : Nat) : Int) = (x : Int) / 65536 % 256 := by rw [UInt8.toNat_ofNat']; omega
  have e3 : (((UInt8.ofNat (x / 16777216)).toNat : Nat) : Int) = (x : Int) / 16777216 := by rw [UInt8.toNat_ofNat']; omega
  simp only [le4, Lib.byteCells, List.map_cons, List.map_nil, e0, e1, e2, e3]
end Go.Fl
namespace Go.Proofs.Ytjapidajammkbaa
open Go.RowKit Go.Fl

theorem infoB : (Try.prog.info? 5).map (fun i => (i.zero, i.size, i.bytes)) = some (some (.int .u8 0), 1, 1) := by kernel_rfl
theorem run_bits (b : Nat) (w : World) : (callFunc 33 #[.float .f32 b]).run Try.prog w = .ok (.value (.int .u32 b)) w := by
  rw [run_callFunc_extern (P := Try.prog) (e := Extern.MathFloatBits.float32bits) Try.func33 (by kernel_rfl) (by kernel_rfl) (by kernel_rfl) (by kernel_rfl) #[.float .f32 b] w]
  rfl
theorem run_frombits (n : Nat) (w : World) : (callFunc 42 #[.int .u32 n]).run Try.prog w = .ok (.value (.float .f32 n)) w := by
  rw [run_callFunc_extern (P := Try.prog) (e := Extern.MathFloatBits.float32frombits) Try.func42 (by kernel_rfl) (by kernel_rfl) (by kernel_rfl) (by kernel_rfl) #[.int .u32 n] w]
  rfl
theorem bitsOf (b : Nat) (hb : b < 4294967296) (w : World) : Calls Try.prog 17 #[.float .f32 b] w fun e w' => e = .returned (.int .i64 (can .f32 b : Nat)) ∧ w' = w := by
  have hbits := run_bits b
  go_enter Try.func17, Try.ntmps17
  cases h : nanB .f32 b
  · have h1 : (FloatKind.f32.format.order b b != some Ordering.eq) = false := by rw [order_self h]; rfl
    have hc := can_of_not h
    rw [hc]
    go_wp2_with fail
    go_ret
    exact ⟨rfl, rfl⟩
  · have h1 : (FloatKind.f32.format.order b b != some Ordering.eq) = true := by rw [order_nan h]; rfl
    have hc := can_of_nan h
    rw [hc]
    go_wp2_with fail
    go_ret
    exact ⟨rfl, rfl⟩

end Go.Proofs.Ytjapidajammkbaa
