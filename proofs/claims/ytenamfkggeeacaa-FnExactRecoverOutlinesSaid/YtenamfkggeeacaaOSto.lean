/- An outline's bytes: the words, by both. -/
import Derived.Test.YtenamfkggeeacaaOApp
import Derived.Test.YtenamfkggeeacaaOVi
import Derived.Laws.IdiomStrings
namespace Go.Fl
open Go.RowKit
theorem can_lt (b : Nat) (h : b < 4294967296) : can .f32 b < 4294967296 := by
  unfold can; split
  · decide
  · exact h
theorem le4_cells (x : Nat) (h : x < 4294967296) : Lib.byteCells (le4 x) = [.int .u8 ((x : Int) % 256), .int .u8 ((x : Int) / 256 % 256), .int .u8 ((x : Int) / 65536 % 256), .int .u8 ((x : Int) / 16777216)] := by
  have e0 : (((UInt8.ofNat x).toNat : Nat) : Int) = (x : Int) % 256 := by rw [UInt8.toNat_ofNat']; omega
  have e1 : (((UInt8.ofNat (x / 256)).toNat : Nat) : Int) = (x : Int) / 256 % 256 := by rw [UInt8.toNat_ofNat']; omega
  have e2 : (((UInt8.ofNat (x / 65536)).toNat : Nat) : Int) = (x : Int) / 65536 % 256 := by rw [UInt8.toNat_ofNat']; omega
  have e3 : (((UInt8.ofNat (x / 16777216)).toNat : Nat) : Int) = (x : Int) / 16777216 := by rw [UInt8.toNat_ofNat']; omega
  simp only [le4, Lib.byteCells, List.map_cons, List.map_nil, e0, e1, e2, e3]
end Go.Fl
namespace Go.Proofs.Ytenamfkggeeacaa
open Go.RowKit Go.Fl

theorem infoB : (Try.prog.info? 5).map (fun i => (i.zero, i.size, i.bytes)) = some (some (.int .u8 0), 1, 1) := by kernel_rfl
theorem run_bits (b : Nat) (w : World) : (callFunc 55 #[.float .f32 b]).run Try.prog w = .ok (.value (.int .u32 b)) w := by
  rw [run_callFunc_extern (P := Try.prog) (e := Extern.MathFloatBits.float32bits) Try.func55 (by kernel_rfl) (by kernel_rfl) (by kernel_rfl) (by kernel_rfl) #[.float .f32 b] w]
  rfl
theorem run_frombits (n : Nat) (w : World) : (callFunc 37 #[.int .u32 n]).run Try.prog w = .ok (.value (.float .f32 n)) w := by
  rw [run_callFunc_extern (P := Try.prog) (e := Extern.MathFloatBits.float32frombits) Try.func37 (by kernel_rfl) (by kernel_rfl) (by kernel_rfl) (by kernel_rfl) #[.int .u32 n] w]
  rfl
theorem l01Bits (b : Nat) (hb : b < 4294967296) (w : World) : Calls Try.prog 44 #[.float .f32 b] w fun e w' => e = .returned (.int .i64 (can .f32 b : Nat)) ∧ w' = w := by
  have hbits := run_bits b
  go_enter Try.func44, Try.ntmps44
  cases h : nanB .f32 b
  · have h1 : (FloatKind.f32.format.order b b != some Ordering.eq) = false := by rw [order_self h]; rfl
    have hc := can_of_not h
    rw [hc]
    go_wp2_with fail
    go_ret
    exact ⟨rfl, rfl⟩
  · have h1 : (FloatKind.f32.format.order b b != some Ordering.eq) = true := by rw [order_nan h]; rfl
    have hc := can_of_nan h
    rw [hc]
    go_wp2_with fail
    go_ret
    exact ⟨rfl, rfl⟩
theorem bitsOf (b : Nat) (hb : b < 4294967296) (w : World) : Calls Try.prog 40 #[.float .f32 b] w fun e w' => e = .returned (.int .i64 (can .f32 b : Nat)) ∧ w' = w := by
  have hbits := run_bits b
  go_enter Try.func40, Try.ntmps40
  cases h : nanB .f32 b
  · have h1 : (FloatKind.f32.format.order b b != some Ordering.eq) = false := by rw [order_self h]; rfl
    have hc := can_of_not h
    rw [hc]
    go_wp2_with fail
    go_ret
    exact ⟨rfl, rfl⟩
  · have h1 : (FloatKind.f32.format.order b b != some Ordering.eq) = true := by rw [order_nan h]; rfl
    have hc := can_of_nan h
    rw [hc]
    go_wp2_with fail
    go_ret
    exact ⟨rfl, rfl⟩

set_option maxHeartbeats 1000000 in
theorem l07Word (b cap n : Nat) (l : List UInt8) (x : Nat) (hx : x < 4294967296) (hn : n + 4 ≤ 1048576) (w : World) (hrow : ORow w 5 1 b cap n (Lib.byteCells l)) (B : Nat) (hB : B ≤ b) (hBw : B ≤ w.heap.size) :
    Calls Try.prog 34 #[.slice (some ⟨b, 0, none⟩) n cap, .float .f32 x] w fun e w' => ∃ b' cap', e = .returned (.slice (some ⟨b', 0, none⟩) (n + 4) cap') ∧ ORow w' 5 1 b' cap' (n + 4) (Lib.byteCells (l ++ word x)) ∧ B ≤ b' ∧ Below B w w' := by
  have HR := Lib.hid hrow
  clear hrow
  have hy := can_lt x hx
  generalize hyy : can .f32 x = y at *
  have HYY := Lib.hid hyy
  clear hyy
  have hcells := le4_cells y hy
  go_enter Try.func34, Try.ntmps34
  have y0 : (0 : Int) ≤ (y : Int) := by omega
  have y1 : (y : Int) ≤ 4294967295 := by omega
  go_wp2_with (first | (go_at_call 44; refine (l01Bits x hx _).mono ?_; rintro e w1 ⟨rfl, hw⟩; rw [hw, HYY.out]) | (at_builtin; refine wpList_appB rfl _ _ _ rfl 5 (.int .u8 0) 1 Try.underlying56 infoB rfl (by decide) b cap n _ rfl (HR.out.below (Below.alloc (Below.refl _ _) (Nat.le_refl _) _) HR.out.lt) w.heap.size 4 4 [.int .u8 ((y : Int) % 256), .int .u8 ((y : Int) / 256 % 256), .int .u8 ((y : Int) / 65536 % 256), .int .u8 ((y : Int) / 16777216)] rfl rfl (fun j u h => news_new w _ _ j u h) (by simp [Value.oneCell']) (by omega) hn B hB (by simp; omega) ?_; intro b2 cap2 w2 hr2 hb2 hg2; have HR2 := Lib.hid hr2; have HG2 := Lib.hid hg2; clear hr2 hg2))
  go_ret
  refine ⟨b2, cap2, rfl, ?_, hb2, (Below.alloc (Below.refl _ _) hBw _).trans (HG2.out.below hB (by simp; omega))⟩
  have := HR2.out
  rw [← hcells, ← Lib.byteCells_append] at this
  rw [word, HYY.out]
  exact this
end Go.Proofs.Ytenamfkggeeacaa
