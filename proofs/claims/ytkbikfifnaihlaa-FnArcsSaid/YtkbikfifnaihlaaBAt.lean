/- laws.b10Long, laws.b10At. -/
import Derived.Test.YtkbikfifnaihlaaGSrc
import Derived.Test.YtkbikfifnaihlaaEx
namespace Go.Proofs.Ytkbikfifnaihlaa
open Go.RowKit Go.Fl

theorem b10LongNo (a b : Option Addr) (n m ca cb : Nat) (hn : n ≤ 1048576) (hm : m ≤ 1048576) (w : World) :
    Calls Try.prog 4 #[.slice a n ca, .slice b m cb] w fun e w' => e = .returned (.bool false) ∧ w' = w := by
  have h1 : ¬ (1048576 : Int) < (n : Int) := by omega
  have h2 : ¬ (1048576 : Int) < (m : Int) := by omega
  go_enter Try.func4, Try.ntmps4
  go_wp2_with fail
  go_ret
  exact ⟨by simp [h1, h2], rfl⟩
theorem b10LongYes (a b : Option Addr) (n m ca cb : Nat) (hn : ¬ (n ≤ 1048576 ∧ m ≤ 1048576)) (w : World) :
    Calls Try.prog 4 #[.slice a n ca, .slice b m cb] w fun e w' => e = .returned (.bool true) ∧ w' = w := by
  by_cases h : n ≤ 1048576
  · have h1 : ¬ (1048576 : Int) < (n : Int) := by omega
    have h2 : (1048576 : Int) < (m : Int) := by omega
    go_enter Try.func4, Try.ntmps4
    go_wp2_with fail
    go_ret
    exact ⟨by simp [h1, h2], rfl⟩
  · have h1 : (1048576 : Int) < (n : Int) := by omega
    go_enter Try.func4, Try.ntmps4
    go_wp2_with fail
    go_ret
    exact ⟨by simp [h1], rfl⟩
theorem b10At (P : Nat) (a : Option Addr) (n c i k : Nat) (hn : n ≤ 1048576) (hi : i ≤ 100) (hk : 1 < k) (hk2 : k ≤ 1000) (w : World) (h : CodeAt w P a n) :
    Calls Try.prog 5 #[.slice a n c, .int .i64 (i : Nat), .int .i64 (k : Nat)] w fun e w' => (∃ r : Nat, e = .returned (.int .i64 r) ∧ r < k) ∧ w' = w := by
  have HC := Lib.hid h
  clear h
  have k0 : ¬ (k : Int) ≤ 1 := by omega
  have k1 : ¬ (k : Int) = 0 := by omega
  have k2 : (k : Int) ≤ 1000 := by omega
  have i0 : (0 : Int) ≤ (i : Int) := by omega
  have i1 : (i : Int) ≤ 100 := by omega
  by_cases hlt : i < n
  · obtain ⟨b, off, rfl, hb, hc⟩ := HC.out (by omega)
    obtain ⟨x, hx, h255⟩ := hc i hlt
    have hlt' : (i : Int) < (n : Int) := by omega
    clear hc
    go_enter Try.func5, Try.ntmps5
    go_wp2_with fail
    go_ret
    exact ⟨⟨x % k, rfl, Nat.mod_lt _ (by omega)⟩, rfl⟩
  · have hlt' : ¬ (i : Int) < (n : Int) := by omega
    go_enter Try.func5, Try.ntmps5
    go_wp2_with fail
    go_ret
    exact ⟨⟨(i * 37 + 11) % k, rfl, Nat.mod_lt _ (by omega)⟩, rfl⟩
end Go.Proofs.Ytkbikfifnaihlaa
