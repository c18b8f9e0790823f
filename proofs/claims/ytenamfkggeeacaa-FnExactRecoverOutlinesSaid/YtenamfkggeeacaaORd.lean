/- A number read from four bytes: the reference's functions. -/
import Derived.Test.YtenamfkggeeacaaOTk
import Derived.Deep.RegionLaw
namespace Go.Proofs.Ytenamfkggeeacaa
open Go.RowKit Go.Fl

theorem calls_int {P : Program} {f : FuncId} {x : Int} {n : Nat} {w : World} {Q : Ending → World → Prop} (h : x = (n : Int)) (hc : Calls P f #[.int .i64 (n : Int)] w Q) : Calls P f #[.int .i64 x] w Q := h ▸ hc
theorem l01From (x : Nat) (hx : x < 4294967296) (w : World) : Calls Try.prog 31 #[.int .i64 x] w fun e w' => e = .returned (.float .f32 x) ∧ w' = w := by
  have hw : IntKind.u32.wrap (x : Int) = (x : Int) := by rw [IntKind.wrap_u32]; omega
  have hbits := run_frombits x
  go_enter Try.func31, Try.ntmps31
  go_wp2_with fail
  go_ret
  exact ⟨rfl, rfl⟩

set_option maxHeartbeats 4000000 in
theorem l07Read (s : ByteArray) (hs : 4 ≤ s.size) (w : World) : Calls Try.prog 21 #[.string s] w fun e w' => e = .returned (.float .f32 (w32 s 0)) ∧ ∃ n, w' = w.drewN n := by
  have s0 : 0 < s.size := by omega
  have s1 : (1 : Int) < (s.size : Int) := by omega
  have s2 : (2 : Int) < (s.size : Int) := by omega
  have s3 : (3 : Int) < (s.size : Int) := by omega
  have HE : Hid (IntKind.i64.wrap (IntKind.i64.wrap (IntKind.i64.wrap (IntKind.i64.wrap (s[0].toNat : Int) + IntKind.i64.wrap ((256 : Int) * IntKind.i64.wrap (s[1].toNat : Int))) + IntKind.i64.wrap ((65536 : Int) * IntKind.i64.wrap (s[2].toNat : Int))) + IntKind.i64.wrap ((16777216 : Int) * IntKind.i64.wrap (s[3].toNat : Int))) = ((w32 s 0 : Nat) : Int)) := by
    have h0 := bN_lt (s := s) (i := 0) (by omega)
    have h1 := bN_lt (s := s) (i := 1) (by omega)
    have h2 := bN_lt (s := s) (i := 2) (by omega)
    have h3 := bN_lt (s := s) (i := 3) (by omega)
    have b0 := bN_le s 0
    have b1 := bN_le s 1
    have b2 := bN_le s 2
    have b3 := bN_le s 3
    have wr : ∀ y : Int, 0 ≤ y → y < 9223372036854775808 → IntKind.i64.wrap y = y := fun y h1 h2 => by rw [IntKind.wrap_i64]; omega
    refine Lib.hid ?_
    rw [← h0, ← h1, ← h2, ← h3]
    simp only [w32, Nat.zero_add]
    generalize bN s 0 = c0 at *
    generalize bN s 1 = c1 at *
    generalize bN s 2 = c2 at *
    generalize bN s 3 = c3 at *
    clear h0 h1 h2 h3
    rw [wr (c1 : Int) (by omega) (by omega), wr (c2 : Int) (by omega) (by omega), wr (c3 : Int) (by omega) (by omega), wr (c0 : Int) (by omega) (by omega), wr (256 * (c1 : Int)) (by omega) (by omega), wr (65536 * (c2 : Int)) (by omega) (by omega), wr (16777216 * (c3 : Int)) (by omega) (by omega),
      wr ((c0 : Int) + 256 * (c1 : Int)) (by omega) (by omega), wr ((c0 : Int) + 256 * (c1 : Int) + 65536 * (c2 : Int)) (by omega) (by omega), wr ((c0 : Int) + 256 * (c1 : Int) + 65536 * (c2 : Int) + 16777216 * (c3 : Int)) (by omega) (by omega)]
    omega
  go_enter Try.func21, Try.ntmps21
  go_wp2_with fail
  go_region_law (go_simp; go_at_call 31; refine calls_int HE.out ?_; refine (l01From (w32 s 0) (w32_lt s 0) _).mono ?_; rintro e w1 ⟨rfl, rfl⟩)
  all_goals
    go_wp2_with fail
    go_ret
    exact ⟨rfl, 1, rfl⟩
end Go.Proofs.Ytenamfkggeeacaa
