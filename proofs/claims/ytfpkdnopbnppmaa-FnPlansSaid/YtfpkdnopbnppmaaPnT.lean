/- laws.b10Long, laws.b10At, laws.b10Gap; what the law reads. -/
import Derived.Test.YtfpkdnopbnppmaaPnM
import Derived.Test.YtfpkdnopbnppmaaPnB
import Derived.Test.YtfpkdnopbnppmaaSpJ
import Derived.Test.YtfpkdnopbnppmaaEx
import Derived.Laws.Bits64b
import Derived.StillTailTactics
import Derived.OwnWalk
namespace Go.Fl
open Ieee Go.RowKit
/-- the bytes drawn from: a slice of a block below P -/
def CodeAt (w : World) (P : Nat) (a : Option Addr) (n : Nat) : Prop := 0 < n → ∃ b off, a = some ⟨b, off, none⟩ ∧ b < P ∧ ∀ i, i < n → ∃ x : Nat, w.cell? ⟨b, off + i, none⟩ = some (.int .u8 x) ∧ x ≤ 255
theorem CodeAt.far {w w' : World} {P : Nat} {a : Option Addr} {n : Nat} (h : CodeAt w P a n) (hf : Far 0 P w w') : CodeAt w' P a n := fun hp => by
  obtain ⟨b, off, rfl, hb, hc⟩ := h hp
  refine ⟨b, off, rfl, hb, fun i hi => ?_⟩
  obtain ⟨x, hx, h255⟩ := hc i hi
  exact ⟨x, (hf.cell (Nat.zero_le _) hb).trans hx, h255⟩
theorem run_fopN {op : BinOp} {K : FloatKind} {x y : Nat} (hn : isN K (fop op K x y) = true) : (∀ w, mop op K x y w = fop op K x y) ∧ mdr op K x y = 0 := by
  unfold fop at hn ⊢
  cases hb : floatBits op K x y with
  | some r => exact ⟨fun w => by unfold mop; rw [hb]; rfl, by unfold mdr; rw [hb]; rfl⟩
  | none =>
    rw [hb] at hn
    exfalso
    revert hn
    cases K <;> decide +kernel
theorem isN.canN {K : FloatKind} {x : Nat} (h : isN K x = true) : Go.Fl.can K x = x := can_of_not (by
  obtain ⟨s, m, i, hr, _⟩ := isN_read h
  unfold nanB; rw [hr]; rfl)
theorem two_read32 : FloatKind.f32.format.read 1073741824 = .number false (2 ^ FB .f32) (((1 : Nat) : Int) - FB .f32) := by decide
theorem four_read32 : FloatKind.f32.format.read 1082130432 = .number false (2 ^ FB .f32) (((2 : Nat) : Int) - FB .f32) := by decide
/-- halves; quarters -/
def hW (m : Nat) : Nat := fop .quo .f32 (floatOfInt .f32 (m : Int)) 1073741824
def qW (m : Nat) : Nat := fop .quo .f32 (floatOfInt .f32 (m : Int)) 1082130432
theorem hW_q {m : Nat} (hm : m ≤ 64) : Q .f32 (hW m) m 1 := Q.half (e := 0) (Q.ofInt .f32 m (lt24 (by omega))) two_read32 (lt24 (by omega)) (by decide)
theorem qW_q {m : Nat} (hm : m ≤ 64) : Q .f32 (qW m) m 2 := Q.half (e := 0) (Q.ofInt .f32 m (lt24 (by omega))) four_read32 (lt24 (by omega)) (by decide)
theorem hW_R {m : Nat} (hm : m ≤ 64) : isN .f32 (hW m) = true ∧ R .f32 (hW m) = ((m : Int) : Rat) / 2 := ⟨(hW_q hm).num, (hW_q hm).R⟩
theorem qW_R {m : Nat} (hm : m ≤ 64) : isN .f32 (qW m) = true ∧ R .f32 (qW m) = ((m : Int) : Rat) / 4 := ⟨(qW_q hm).num, (qW_q hm).R⟩
end Go.Fl
namespace Go.Proofs.Ytfpkdnopbnppmaa
open Go.RowKit Go.Fl
theorem infoF32 : (Try.prog.info? 26).map (fun i => (i.zero, i.size, i.bytes)) = some (some (.float .f32 0), 1, 4) := by kernel_rfl
theorem b10LongNo (a b : Option Addr) (n m ca cb : Nat) (hn : n ≤ 1048576) (hm : m ≤ 1048576) (w : World) :
    Calls Try.prog 4 #[.slice a n ca, .slice b m cb] w fun e w' => e = .returned (.bool false) ∧ w' = w := by
  have h1 : ¬ (1048576 : Int) < (n : Int) := by omega
  have h2 : ¬ (1048576 : Int) < (m : Int) := by omega
  go_enter Try.func4, Try.ntmps4
  go_wp2_with fail
  go_ret
  exact ⟨by simp [h1, h2], rfl⟩
theorem b10LongYes (a b : Option Addr) (n m ca cb : Nat) (hn : ¬ (n ≤ 1048576 ∧ m ≤ 1048576)) (w : World) :
    Calls Try.prog 4 #[.slice a n ca, .slice b m cb] w fun e w' => e = .returned (.bool true) ∧ w' = w := by
  by_cases h : n ≤ 1048576
  · have h1 : ¬ (1048576 : Int) < (n : Int) := by omega
    have h2 : (1048576 : Int) < (m : Int) := by omega
    go_enter Try.func4, Try.ntmps4
    go_wp2_with fail
    go_ret
    exact ⟨by simp [h1, h2], rfl⟩
  · have h1 : (1048576 : Int) < (n : Int) := by omega
    go_enter Try.func4, Try.ntmps4
    go_wp2_with fail
    go_ret
    exact ⟨by simp [h1], rfl⟩
theorem b10At (P : Nat) (a : Option Addr) (n c i k : Nat) (hn : n ≤ 1048576) (hi : i ≤ 100) (hk : 1 < k) (hk2 : k ≤ 1000) (w : World) (h : CodeAt w P a n) :
    Calls Try.prog 5 #[.slice a n c, .int .i64 (i : Nat), .int .i64 (k : Nat)] w fun e w' => (∃ r : Nat, e = .returned (.int .i64 r) ∧ r < k) ∧ w' = w := by
  have HC := Lib.hid h
  clear h
  have k0 : ¬ (k : Int) ≤ 1 := by omega
  have k1 : ¬ (k : Int) = 0 := by omega
  have k2 : (k : Int) ≤ 1000 := by omega
  have i0 : (0 : Int) ≤ (i : Int) := by omega
  have i1 : (i : Int) ≤ 100 := by omega
  by_cases hlt : i < n
  · obtain ⟨b, off, rfl, hb, hc⟩ := HC.out (by omega)
    obtain ⟨x, hx, h255⟩ := hc i hlt
    have hlt' : (i : Int) < (n : Int) := by omega
    clear hc
    go_enter Try.func5, Try.ntmps5
    go_wp2_with fail
    go_ret
    exact ⟨⟨x % k, rfl, Nat.mod_lt _ (by omega)⟩, rfl⟩
  · have hlt' : ¬ (i : Int) < (n : Int) := by omega
    go_enter Try.func5, Try.ntmps5
    go_wp2_with fail
    go_ret
    exact ⟨⟨(i * 37 + 11) % k, rfl, Nat.mod_lt _ (by omega)⟩, rfl⟩
theorem b10GapN (a b : Nat) (ha : isN .f64 a = true) (hb : isN .f64 b = true) (hg : isN .f64 (if R .f64 a < R .f64 b then fop .sub .f64 b a else fop .sub .f64 a b) = true) (w : World) :
    Calls Try.prog 7 #[.float .f64 a, .float .f64 b] w fun e w' => e = .returned (.float .f64 (gapF a b)) ∧ w' = w := by
  have ho := lt_R ha hb
  have dz : ∀ w : World, w.drewN 0 = w := World.drewN_zero
  unfold gapF
  by_cases c : R .f64 a < R .f64 b
  · rw [if_pos c] at hg ⊢
    rw [decide_eq_true c] at ho
    obtain ⟨m, d⟩ := run_fopN hg
    clear ha hb hg c
    go_enter Try.func7, Try.ntmps7
    go_wp2_with fail
    go_ret
    exact ⟨rfl, rfl⟩
  · rw [if_neg c] at hg ⊢
    rw [decide_eq_false c] at ho
    obtain ⟨m, d⟩ := run_fopN hg
    clear ha hb hg c
    go_enter Try.func7, Try.ntmps7
    go_wp2_with fail
    go_ret
    exact ⟨rfl, rfl⟩
end Go.Proofs.Ytfpkdnopbnppmaa
