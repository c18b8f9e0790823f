/- laws.b10Long, laws.b10At, laws.b10Gap. (Written by mkgat.py.) -/
import Derived.Test.YtgghhnglnklmbaaGOut
namespace Go.Fl
open Ieee
theorem neg_sign (K : FloatKind) (b : Nat) : (Op.negFloat K b / K.format.signWeight % 2 == 1) = !(b / K.format.signWeight % 2 == 1) := by
  show ((b ^^^ 2 ^ (K.format.exponentBits + K.format.fractionBits)) / 2 ^ (K.format.exponentBits + K.format.fractionBits) % 2 == 1) = !(b / 2 ^ (K.format.exponentBits + K.format.fractionBits) % 2 == 1)
  have h : ∀ x i : Nat, (x / 2 ^ i % 2 == 1) = x.testBit i := fun x i => by
    rw [Nat.testBit_eq_decide_div_mod_eq]; rfl
  rw [h, h, Nat.testBit_xor, Nat.testBit_two_pow_self, Bool.xor_true]
theorem read_neg (K : FloatKind) (b : Nat) {s : Bool} {m : Nat} {e : Int} (h : K.format.read b = .number s m e) : K.format.read (Op.negFloat K b) = .number (!s) m e := by
  unfold Ieee.Format.read at h ⊢
  simp only [neg_mod, neg_sign]
  simp only at h
  split at h
  · rename_i h1
    rw [if_pos h1]
    injection h with a1 a2 a3
    rw [a1, a2, a3]
  · rename_i h1
    rw [if_neg h1]
    split at h
    · rename_i h2
      rw [if_pos h2]
      injection h with a1 a2 a3
      rw [a1, a2, a3]
    · split at h <;> cases h
theorem Q.neg {K : FloatKind} {x : Nat} {k : Int} {e : Nat} (h : Q K x k e) : Q K (Op.negFloat K x) (-k) e := by
  obtain ⟨s, m, i, h1, _, h3⟩ := isN_read h.num
  have hr := read_neg K x h1
  refine ⟨by unfold isN; rw [hr], ?_, h.le⟩
  have hv : V K (Op.negFloat K x) = -V K x := by
    rw [h3]; unfold V; rw [hr]; exact signed_not s m _
  rw [hv, h.val, Int.neg_mul]
theorem Q.canK {K : FloatKind} {x : Nat} {k : Int} {e : Nat} (h : Q K x k e) : Go.Fl.can K x = x := can_of_not (by
  obtain ⟨s, m, i, e, _⟩ := isN_read h.num
  unfold nanB; rw [e]; rfl)
end Go.Fl
namespace Go.Proofs.Ytgghhnglnklmbaa
open Go.RowKit Go.Fl

theorem b10LongNo (a b : Option Addr) (n m ca cb : Nat) (hn : n ≤ 1048576) (hm : m ≤ 1048576) (w : World) :
    Calls Try.prog 4 #[.slice a n ca, .slice b m cb] w fun e w' => e = .returned (.bool false) ∧ w' = w := by
  have h1 : ¬ (1048576 : Int) < (n : Int) := by omega
  have h2 : ¬ (1048576 : Int) < (m : Int) := by omega
  go_enter Try.func4, Try.ntmps4
  go_wp2_with fail
  go_ret
  exact ⟨by simp [h1, h2], rfl⟩
theorem b10LongYes (a b : Option Addr) (n m ca cb : Nat) (hn : ¬ (n ≤ 1048576 ∧ m ≤ 1048576)) (w : World) :
    Calls Try.prog 4 #[.slice a n ca, .slice b m cb] w fun e w' => e = .returned (.bool true) ∧ w' = w := by
  by_cases h : n ≤ 1048576
  · have h1 : ¬ (1048576 : Int) < (n : Int) := by omega
    have h2 : (1048576 : Int) < (m : Int) := by omega
    go_enter Try.func4, Try.ntmps4
    go_wp2_with fail
    go_ret
    exact ⟨by simp [h1, h2], rfl⟩
  · have h1 : (1048576 : Int) < (n : Int) := by omega
    go_enter Try.func4, Try.ntmps4
    go_wp2_with fail
    go_ret
    exact ⟨by simp [h1], rfl⟩
theorem b10At (P : Nat) (a : Option Addr) (n c i k : Nat) (hn : n ≤ 1048576) (hi : i ≤ 100) (hk : 1 < k) (hk2 : k ≤ 1000) (w : World) (h : CodeAt w P a n) :
    Calls Try.prog 6 #[.slice a n c, .int .i64 (i : Nat), .int .i64 (k : Nat)] w fun e w' => (∃ r : Nat, e = .returned (.int .i64 r) ∧ r < k) ∧ w' = w := by
  have HC := Lib.hid h
  clear h
  have k0 : ¬ (k : Int) ≤ 1 := by omega
  have k1 : ¬ (k : Int) = 0 := by omega
  have k2 : (k : Int) ≤ 1000 := by omega
  have i0 : (0 : Int) ≤ (i : Int) := by omega
  have i1 : (i : Int) ≤ 100 := by omega
  by_cases hlt : i < n
  · obtain ⟨b, off, rfl, hb, hc⟩ := HC.out (by omega)
    obtain ⟨x, hx, h255⟩ := hc i hlt
    have hlt' : (i : Int) < (n : Int) := by omega
    clear hc
    go_enter Try.func6, Try.ntmps6
    go_wp2_with fail
    go_ret
    exact ⟨⟨x % k, rfl, Nat.mod_lt _ (by omega)⟩, rfl⟩
  · have hlt' : ¬ (i : Int) < (n : Int) := by omega
    go_enter Try.func6, Try.ntmps6
    go_wp2_with fail
    go_ret
    exact ⟨⟨(i * 37 + 11) % k, rfl, Nat.mod_lt _ (by omega)⟩, rfl⟩

theorem b10Gap (a b : Nat) (k : Int) (e0 : Nat) (ha : Q .f64 (can .f64 a) k e0) (hb : Q .f64 (can .f64 b) k e0) (w : World) :
    Calls Try.prog 13 #[.float .f64 a, .float .f64 b] w fun e w' => (∃ r, e = .returned (.float .f64 r) ∧ Q .f64 (can .f64 r) 0 e0) ∧ ∃ n, w' = w.drewN n := by
  have h1 : (FloatKind.f64.format.order a b == some .lt) = false := by
    rw [← order_can, ha.order hb]
    show (some (compare k k) == some Ordering.lt) = false
    have : compare k k = .eq := by show compareOfLessAndEq k k = .eq; simp [compareOfLessAndEq]
    rw [this]; rfl
  have HQ : Hid (∀ w, Q .f64 (can .f64 (mop .sub .f64 a b w)) 0 e0) := Lib.hid fun w => by
    rw [can_mop]
    have := ha.sub hb (by rw [Int.sub_self]; decide)
    rwa [Int.sub_self] at this
  clear ha hb
  go_enter Try.func13, Try.ntmps13
  go_wp2_with fail
  go_ret
  exact ⟨⟨_, rfl, HQ.out _⟩, _, rfl⟩
end Go.Proofs.Ytgghhnglnklmbaa
